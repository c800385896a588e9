/- slices.Sort, slices.Compact and slices.Contains at slices of ints that the call itself owns, or reads. -/
import Derived.WalkKit
import Derived.Sort.Grow
import Derived.Lib.RowBridge
import Derived.Test.YtebpdlnknfjoaaaShelf
import Derived.Test.YtebpdlnknfjoaaaMem
namespace Go.Proofs.Ytebpdlnknfjoaaa
set_option linter.unusedVariables false
set_option linter.unusedSimpArgs false
open Go.RowKit Go.Sort

theorem holds_ints {w : World} {g : Nat} {cur : Array Value} {e : TypeId} {xs : List Int} (hb : w.heap[g]? = some (.cells cur e (0, 0))) (ht : cur.toList.take xs.length = ints xs) : Holds (Value.int .i64) w g 0 xs.toArray := by
  intro j hj
  have hj' : j < xs.length := by simpa using hj
  refine ⟨?_, by simp [World.frozen?, hb]⟩
  have h1 : (cur.toList.take xs.length)[j]? = (ints xs)[j]? := by rw [ht]
  rw [List.getElem?_take_of_lt hj'] at h1
  simp only [World.cell?, hb, Nat.zero_add]
  simp only [Option.isSome_none, Bool.false_eq_true, if_false]
  rw [← Array.getElem?_toList, h1]
  simp [hj', ints]

theorem heap_put {w : World} {g n : Nat} {os : Array Obj} {cur : Array Value} {e : TypeId} {fr : Nat × Nat} (d : Array Int) (hb : w.heap[g]? = some (.cells cur e fr)) :
    (grow (putRow (Value.int .i64) (Sort.ahead w n) g 0 d) os).heap[g]? = some (.cells (putCells (Value.int .i64) 0 d cur) e fr) := by
  have hg : g < w.heap.size := (Array.getElem?_eq_some_iff.1 hb).1
  rw [heap_grow_old _ _ (by simpa using hg)]
  simp [putRow, mapBlock, Sort.ahead, Array.getElem?_modify, hb, onCells]

theorem grownBy_put {w : World} {g n : Nat} {os : Array Obj} (d : Array Int) : w.grownBy (grow (putRow (Value.int .i64) (Sort.ahead w n) g 0 d) os) (some g) := by
  refine ⟨rfl, rfl, rfl, by simp, fun k hk hne => ?_⟩
  rw [heap_grow_old _ _ (by simpa using hk)]
  have : g ≠ k := fun e => hne (by rw [e])
  simp [putRow, mapBlock, Sort.ahead, Array.getElem?_modify, this]

theorem take_put (cur : Array Value) (ts zs : List Int) (h : ts.length ≤ cur.size) (hz : ts.take zs.length = zs) : (putCells (Value.int .i64) 0 ts.toArray cur).toList.take zs.length = ints zs := by
  have hle : zs.length ≤ ts.length := by have := congrArg List.length hz; simp at this; omega
  apply List.ext_getElem?
  intro j
  by_cases hj : j < zs.length
  · have e : zs[j]? = ts[j]? := by rw [← List.getElem?_take_of_lt (l := ts) hj, hz]
    rw [List.getElem?_take_of_lt hj, Array.getElem?_toList]
    simp only [ints, List.getElem?_map, e]
    simp [putCells, show j < ts.length by omega, show j < cur.size by omega]
  · rw [List.getElem?_take_eq_none (by omega), List.getElem?_eq_none (by simp [ints]; omega)]

/-- Behind a change in place (sorted, compacted) the same block is owned, cut to zs. -/
theorem own_put {w : World} {base g cap n : Nat} {e : TypeId} {os : Array Obj} {cur : Array Value} {ts zs : List Int} (hl : ts.length ≤ cur.size) (hz : ts.take zs.length = zs) (hbase : base ≤ g) (hb : w.heap[g]? = some (.cells cur e (0, 0)))
    (h1 : zs.length ≤ cap) (h2 : cap ≤ maxLen) (h3 : cur.size = cap * 1) :
    (grow (putRow (Value.int .i64) (Sort.ahead w n) g 0 ts.toArray) os).ownsRow base e 1 (.slice (some ⟨g, 0, none⟩) zs.length cap) zs.length (ints zs) :=
  ⟨by simp [ints], .inr ⟨g, cap, _, rfl, hbase, heap_put _ hb, h1, h2, by simp [putCells, h3], by rw [Nat.mul_one]; exact take_put cur ts zs hl hz⟩⟩

def sorted (xs : List Int) : List Int := xs.mergeSort fun x y => decide (x ≤ y)

theorem sort_own {w : World} {base e : Nat} {v : Value} {xs : List Int} (h : w.ownsRow base e 1 v xs.length (ints xs)) (hn : xs.length < 4611686018427387904) :
    Calls Try.prog 34 #[v] w fun r w' => r = .returned (.tuple #[]) ∧ w'.ownsRow base e 1 v (sorted xs).length (ints (sorted xs)) ∧ w.grownBy w' v.ownBlock := by
  rcases h.2 with ⟨rfl, h0⟩ | ⟨g, cap, cur, rfl, hg, hb, hc, hm, hs, ht⟩
  · have : xs = [] := List.length_eq_zero_iff.1 h0
    subst this
    refine (Try.slices_Sort_int_none none 0 w).mono ?_
    rintro r w' ⟨rfl, rfl⟩
    exact ⟨rfl, by simpa [sorted, ints] using World.ownsRow_nil _ _ _ _, World.grownBy.refl _ _⟩
  · rw [Nat.mul_one] at ht
    refine (Try.slices_Sort_int g 0 cap xs w (holds_ints hb ht) (Array.getElem?_eq_some_iff.1 hb).1 hn).mono ?_
    rintro r w' ⟨rfl, n, os, rfl⟩
    have hl : (sorted xs).length = xs.length := by simp [sorted]
    refine ⟨rfl, ?_, grownBy_put _⟩
    have := own_put (w := w) (n := n) (os := os) (ts := sorted xs) (zs := sorted xs) (by omega) (by simp) hg hb (by omega) hm hs
    simpa [hl, sorted] using this

theorem compact_own {w : World} {base e : Nat} {v : Value} {xs : List Int} (h : w.ownsRow base e 1 v xs.length (ints xs)) (hn : xs.length < 4611686018427387904) :
    Calls Try.prog 35 #[v] w fun r w' => ∃ A cap, r = .returned (.slice A (Lib.compact xs).length cap) ∧ w'.ownsRow base e 1 (.slice A (Lib.compact xs).length cap) (Lib.compact xs).length (ints (Lib.compact xs)) ∧ w.grownBy w' v.ownBlock := by
  rcases h.2 with ⟨rfl, h0⟩ | ⟨g, cap, cur, rfl, hg, hb, hc, hm, hs, ht⟩
  · have : xs = [] := List.length_eq_zero_iff.1 h0
    subst this
    refine (Try.slices_Compact_int_empty none 0 w).mono ?_
    rintro r w' ⟨rfl, rfl⟩
    have e0 : Lib.compact ([] : List Int) = [] := by simp [Lib.compact, Lib.compactUpTo]
    rw [e0]
    exact ⟨none, 0, rfl, World.ownsRow_nil _ _ _ _, World.grownBy.refl _ _⟩
  · rw [Nat.mul_one] at ht
    have hle : (Lib.compact xs).length ≤ xs.length := Lib.compact_length_le xs
    refine (Try.slices_Compact_int g 0 cap xs w (holds_ints hb ht) (by omega) hc).mono ?_
    rintro r w' ⟨rfl, q, rfl⟩
    have e1 : putRow (Value.int .i64) (Sort.ahead w q) g 0 (Lib.compact xs ++ List.replicate (xs.length - (Lib.compact xs).length) 0).toArray = grow (putRow (Value.int .i64) (Sort.ahead w q) g 0 (Lib.compact xs ++ List.replicate (xs.length - (Lib.compact xs).length) 0).toArray) #[] := by unfold grow; rw [Array.append_empty]
    rw [e1]
    exact ⟨some ⟨g, 0, none⟩, cap, rfl, own_put (by simp; omega) (by simp) hg hb (by omega) hm hs, grownBy_put _⟩

theorem cell_spot {w : World} {a : Addr} {v : Value} (h : w.cell? a = some v) : a.spot = none := by
  unfold World.cell? at h
  cases hs : a.spot with
  | none => rfl
  | some _ =>
    rw [hs] at h
    split at h <;> simp at h

theorem contains_at {B : Nat} {w : World} {A : Option Addr} {xs : List Int} {c : Nat} (h : IntsAt B w A xs) (hn : xs.length ≤ 9223372036854775807) (x : Int) :
    Calls Try.prog 39 #[.slice A xs.length c, .int .i64 x] w fun r w' => r = .returned (.bool (xs.contains x)) ∧ w = w' := by
  cases xs with
  | nil =>
    refine (Try.slices_Contains_int_empty A c x w).mono ?_
    rintro r w' ⟨rfl, rfl⟩
    exact ⟨rfl, rfl⟩
  | cons y ys =>
    obtain ⟨ad, rfl, _, hc0⟩ := h 0 (by simp)
    have hsp : ad.spot = none := cell_spot hc0
    obtain ⟨b, o, sp⟩ := ad
    simp only at hsp
    subst hsp
    refine (Try.slices_Contains_int b o (y :: ys).length c (y :: ys) x w (Nat.le_refl _) hn ?_).mono ?_
    · intro j hj
      obtain ⟨ad, e, _, hc⟩ := h j hj
      cases e
      rw [add_free] at hc
      rw [hc, List.getD_eq_getElem?_getD, List.getElem?_eq_getElem hj]
      rfl
    · rintro r w' ⟨rfl, rfl⟩
      exact ⟨by simp, rfl⟩
end Go.Proofs.Ytebpdlnknfjoaaa
