/- MapV, Mem, Own, Compact, Many, Apart, RegionGrow, StillAt, RowOwn, HasL, LitP, LitSort, LitSort2, EqualW, RegionWordsL. -/
import Derived.WalkKit
import Derived.MapKept
import Derived.Maps.OwnOps
import Derived.Maps.OwnSet
import Derived.Lib.SlicesCompact
import Derived.Orders
import Derived.StillTailTactics
import Derived.Sort.Grow
import Derived.Lib.RowBridge
import Derived.Test.YthnjjonjhenifaaShelf
import Derived.Lib.Hide
import Derived.BigQuiet
import Derived.Deep.QuietTactic
import Derived.Outline
import Derived.Shelf.SlSortCmp.Whole1
import Derived.Shelf.SlSortCmp.NoneTotal
/- Maps from int: what a block that holds such a map answers, and what a store, a delete and a look-up leave. -/
namespace Go.Proofs.Ythnjjonjhenifaa
set_option linter.unusedVariables false
set_option linter.unusedSimpArgs false
open Go.RowKit Go.MapKept

/-- Block b is a map from int that answers f. -/
def MapV (w : World) (b : Nat) (f : Int → Option Value) : Prop :=
  ∃ es clock, w.heap[b]? = some (.map es clock) ∧ Stamped es clock ∧ (∀ x ∈ es.toList, IsKey (.int .i64) x.key) ∧
    ∀ k v, f k = some v ↔ ∃ x ∈ es.toList, x.key = .int .i64 k ∧ x.val = v

def upd {α : Type} (f : Int → α) (k : Int) (v : α) : Int → α := fun j => if j = k then v else f j

theorem upd_same {α : Type} (f : Int → α) (k : Int) (v : α) : upd f k v k = v := by simp [upd]
theorem upd_other {α : Type} (f : Int → α) {k j : Int} (v : α) (h : j ≠ k) : upd f k v j = f j := by simp [upd, h]

theorem MapV.lt {w : World} {b : Nat} {f : Int → Option Value} (h : MapV w b f) : b < w.heap.size := by
  obtain ⟨es, c, hb, _⟩ := h
  exact (Array.getElem?_eq_some_iff.1 hb).1
theorem MapV.move {w w' : World} {b : Nat} {f : Int → Option Value} (h : MapV w b f) (e : w'.heap[b]? = w.heap[b]?) : MapV w' b f := by
  obtain ⟨es, c, hb, r⟩ := h
  exact ⟨es, c, e.trans hb, r⟩
theorem MapV.below {w w' : World} {B b : Nat} {f : Int → Option Value} (h : MapV w b f) (hb : Below B w w') (hB : b < B) : MapV w' b f := h.move (hb.block b hB)
theorem MapV.alloc {w : World} {b : Nat} {f : Int → Option Value} (h : MapV w b f) (o : Obj) : MapV (w.alloc o) b f := h.move (Below.heap_alloc w o b h.lt)
theorem MapV.no_cell {w : World} {b : Nat} {f : Int → Option Value} (h : MapV w b f) (o : Nat) (s : Option Nat) : w.cell? ⟨b, o, s⟩ = none := by
  obtain ⟨es, c, hb, _⟩ := h
  simp [World.cell?, hb]
theorem MapV.setCell {w : World} {b : Nat} {f : Int → Option Value} (h : MapV w b f) {a : Addr} (ha : b ≠ a.block) (u : Value) : MapV (w.setCell a u) b f := h.move (Below.heap_setCell w a u b ha)
theorem MapV.grown {w w' : World} {b : Nat} {f : Int → Option Value} {row : Option Nat} (h : MapV w b f) (hg : w.grownBy w' row) (hne : some b ≠ row) : MapV w' b f := h.move (hg.block b h.lt hne)
theorem MapV.made (w : World) : MapV (w.alloc (.map #[] 0)) w.heap.size (fun _ => none) :=
  ⟨#[], 0, (heap_alloc w _).1, stamped_empty 0, by simp, by simp⟩

section
variable {P : Program} {w : World} {b : Nat} {f : Int → Option Value} {T K E : TypeId}

theorem MapV.find (h : MapV w b f) (hk : P.underlying K = some (.int .i64)) (k : Int) : ∃ es clock, w.heap[b]? = some (.map es clock) ∧
    ((f k = none ∧ (Instr.findKey K (.int .i64 k) es.toList).run P w = .ok none w) ∨
     ∃ i e, f k = some e.val ∧ (Instr.findKey K (.int .i64 k) es.toList).run P w = .ok (some (i, e.val)) w ∧ es[i]? = some e ∧ e.key = .int .i64 k) := by
  obtain ⟨es, clock, hb, _, hks, hf⟩ := h
  refine ⟨es, clock, hb, ?_⟩
  rcases findNow_spec (d := .int .i64) (k := .int .i64 k) rfl es.toList 0 hks with ⟨h1, h2⟩ | ⟨j, e, h1, h2, h3⟩
  · refine .inl ⟨?_, run_findKey hk h1⟩
    cases hfk : f k with
    | none => rfl
    | some v =>
      obtain ⟨x, hx, e1, _⟩ := (hf k v).1 hfk
      exact absurd e1 (h2 x hx)
  · refine .inr ⟨j, e, (hf k e.val).2 ⟨e, List.mem_of_getElem? h2, h3, rfl⟩, ?_, by simpa using h2, h3⟩
    rw [Nat.zero_add] at h1
    exact run_findKey hk h1

theorem MapV.run_lookup (h : MapV w b f) (hT : P.underlying T = some (.map K E)) (hk : P.underlying K = some (.int .i64)) {z : Value} (hz : (zeroValue E).run P w = .ok z w) (k : Int) (c : Bool) :
    (Instr.lookup T (.map (some b)) (.int .i64 k) c).run P w = .ok (if c then .tuple #[(f k).getD z, .bool (f k).isSome] else (f k).getD z) w := by
  obtain ⟨es, clock, hb, h1 | ⟨i, e, h1, h2, _, _⟩⟩ := h.find hk k
  · simp [Instr.lookup, run_underlying hT, Go.MapKept.run_getObj_map hb, run_checkKey hk (show IsKey (.int .i64) (.int .i64 k) from rfl), h1.2, h1.1, hz, Result.andThen]
  · simp [Instr.lookup, run_underlying hT, Go.MapKept.run_getObj_map hb, run_checkKey hk (show IsKey (.int .i64) (.int .i64 k) from rfl), h2, h1, Result.andThen]

theorem nodup_key {es : Array MapEntry} {clock : Nat} (hs : Stamped es clock) {x y : MapEntry} (hx : x ∈ es.toList) (hy : y ∈ es.toList) (e : x.key = y.key) : x = y := by
  obtain ⟨i, hi, rfl⟩ := List.mem_iff_getElem.1 hx
  obtain ⟨j, hj, rfl⟩ := List.mem_iff_getElem.1 hy
  have h3 := hs.2.2
  have : i = j := by
    have hi' : i < (es.toList.map (·.key)).length := by simpa using hi
    have hj' : j < (es.toList.map (·.key)).length := by simpa using hj
    exact (List.getElem_inj (h₀ := hi') (h₁ := hj') h3).1 (by simpa using e)
  subst this
  rfl

theorem MapV.run_update (h : MapV w b f) (hT : P.underlying T = some (.map K E)) (hk : P.underlying K = some (.int .i64)) (k : Int) (v : Value) :
    ∃ w', (Instr.mapUpdate T (.map (some b)) (.int .i64 k) v).run P w = .ok () w' ∧ MapV w' b (upd f k (some v)) ∧ w.grownBy w' (some b) ∧ w'.heap.size = w.heap.size := by
  obtain ⟨es, clock, hb, hs, hks, hf⟩ := h
  have hkey : IsKey (.int .i64) (.int .i64 k) := rfl
  rcases findNow_spec hkey es.toList 0 hks with ⟨h1, h2⟩ | ⟨j, e, h1, h2, h3⟩
  · refine ⟨{ w with heap := w.heap.setIfInBounds b (.map (es.push { key := .int .i64 k, val := v, born := clock }) (clock + 1)) }, ?_, ⟨_, _, (heap_set hb).1, stamped_push hs h2, ?_, ?_⟩, ⟨rfl, rfl, rfl, by simp, fun i _ hi => (heap_set hb).2 i (fun q => hi (by rw [q]))⟩, by simp⟩
    · simp [Instr.mapUpdate, run_underlying hT, Go.MapKept.run_getObj_map hb, run_checkKey hk hkey, run_findKey hk h1, run_setObj_map _ hb, Result.andThen]
    · intro x hx
      simp only [Array.toList_push, List.mem_append, List.mem_singleton] at hx
      rcases hx with hx | rfl
      · exact hks x hx
      · exact hkey
    · intro k' v'
      simp only [Array.toList_push, List.mem_append, List.mem_singleton]
      by_cases hkk : k' = k
      · subst hkk
        rw [upd_same]
        constructor
        · intro q
          cases q
          exact ⟨_, .inr rfl, rfl, rfl⟩
        · rintro ⟨x, hx | rfl, q1, q2⟩
          · exact absurd q1 (h2 x hx)
          · exact congrArg some q2
      · rw [upd_other f _ hkk, hf]
        constructor
        · rintro ⟨x, hx, q⟩
          exact ⟨x, .inl hx, q⟩
        · rintro ⟨x, hx | rfl, q1, q2⟩
          · exact ⟨x, hx, q1, q2⟩
          · injection q1 with _ q1
            exact absurd q1.symm hkk
  · have hj : es[j]? = some e := by simpa using h2
    have hm : e ∈ es.toList := List.mem_of_getElem? h2
    have hkeep : ∀ e', es[j]? = some e' → ({ e' with key := .int .i64 k, val := v } : MapEntry).key = e'.key := fun e' he' => by rw [hj] at he'; cases he'; exact h3.symm
    have hjlt : j < es.size := (Array.getElem?_eq_some_iff.1 hj).1
    refine ⟨{ w with heap := w.heap.setIfInBounds b (.map (es.modify j fun e => { e with key := .int .i64 k, val := v }) clock) }, ?_, ⟨_, _, (heap_set hb).1, stamped_modify hs _ _ (fun _ _ => rfl) (fun e' _ he' => hkeep e' he'), isKey_modify hks _ _ hkeep, ?_⟩, ⟨rfl, rfl, rfl, by simp, fun i _ hi => (heap_set hb).2 i (fun q => hi (by rw [q]))⟩, by simp⟩
    · simp [Instr.mapUpdate, run_underlying hT, Go.MapKept.run_getObj_map hb, run_checkKey hk hkey, run_findKey hk h1, hj, h3, run_keyThatStays hkey, run_setObj_map _ hb, Result.andThen]
    · intro k' v'
      have hmem : ∀ x, x ∈ (es.modify j fun e => { e with key := .int .i64 k, val := v }).toList ↔ x = { e with key := .int .i64 k, val := v } ∨ (x ∈ es.toList ∧ x ≠ e) := by
        intro x
        rw [Array.mem_toList_iff, Array.mem_iff_getElem]
        constructor
        · rintro ⟨i, hi, rfl⟩
          have hi' : i < es.size := by simpa using hi
          rw [Array.getElem_modify]
          by_cases hij : j = i
          · subst hij
            rw [if_pos rfl]
            rw [Array.getElem?_eq_getElem hi'] at hj
            cases hj
            exact .inl rfl
          · rw [if_neg hij]
            refine .inr ⟨by simp, fun q => hij ?_⟩
            have h3' := hs.2.2
            have e1 : es.toList[j]'(by simpa using hjlt) = es.toList[i]'(by simpa using hi') := by
              rw [Array.getElem?_eq_getElem hjlt] at hj
              cases hj
              simpa using q.symm
            have hj2 : j < (es.toList.map (·.key)).length := by simpa using hjlt
            have hi2 : i < (es.toList.map (·.key)).length := by simpa using hi'
            exact (List.getElem_inj (h₀ := hj2) (h₁ := hi2) h3').1 (by simp only [List.getElem_map]; rw [e1])
        · rintro (rfl | ⟨hx, hne⟩)
          · refine ⟨j, by simpa using hjlt, ?_⟩
            rw [Array.getElem_modify, if_pos rfl]
            rw [Array.getElem?_eq_getElem hjlt] at hj
            cases hj
            rfl
          · obtain ⟨i, hi, rfl⟩ := List.mem_iff_getElem.1 hx
            have hi' : i < es.size := by simpa using hi
            refine ⟨i, by simpa using hi', ?_⟩
            rw [Array.getElem_modify, if_neg]
            · simp
            · rintro rfl
              rw [Array.getElem?_eq_getElem hjlt] at hj
              cases hj
              exact hne (by simp)
      by_cases hkk : k' = k
      · subst hkk
        rw [upd_same]
        constructor
        · intro q
          cases q
          exact ⟨_, (hmem _).2 (.inl rfl), rfl, rfl⟩
        · rintro ⟨x, hx, q1, q2⟩
          rcases (hmem x).1 hx with rfl | ⟨hx, hne⟩
          · exact congrArg some q2
          · exact absurd (nodup_key hs hx hm (q1.trans h3.symm)) hne
      · rw [upd_other f _ hkk, hf]
        constructor
        · rintro ⟨x, hx, q1, q2⟩
          refine ⟨x, (hmem x).2 (.inr ⟨hx, ?_⟩), q1, q2⟩
          rintro rfl
          rw [h3] at q1
          injection q1 with _ q1
          exact hkk q1.symm
        · rintro ⟨x, hx, q1, q2⟩
          rcases (hmem x).1 hx with rfl | ⟨hx, hne⟩
          · injection q1 with _ q1
            exact absurd q1.symm hkk
          · exact ⟨x, hx, q1, q2⟩

theorem MapV.run_delete (h : MapV w b f) (hT : P.underlying T = some (.map K E)) (hk : P.underlying K = some (.int .i64)) (k : Int) (kt ty : TypeId) :
    ∃ w', (Builtin.delete_ #[T, kt] ty #[.map (some b), .int .i64 k]).run P w = .ok (.tuple #[]) w' ∧ MapV w' b (upd f k none) ∧ w.grownBy w' (some b) ∧ w'.heap.size = w.heap.size := by
  obtain ⟨es, clock, hb, hs, hks, hf⟩ := h
  have hkey : IsKey (.int .i64) (.int .i64 k) := rfl
  rcases findNow_spec hkey es.toList 0 hks with ⟨h1, h2⟩ | ⟨j, e, h1, h2, h3⟩
  · refine ⟨{ w with heap := w.heap.setIfInBounds b (.map es clock) }, ?_, ⟨_, _, (heap_set hb).1, hs, hks, ?_⟩, ⟨rfl, rfl, rfl, by simp, fun i _ hi => (heap_set hb).2 i (fun q => hi (by rw [q]))⟩, by simp⟩
    · simp [Builtin.delete_, run_underlying hT, Go.MapKept.run_getObj_map hb, run_checkKey hk hkey, run_findKey hk h1, run_setObj_map _ hb, Result.andThen]
    · intro k' v'
      by_cases hkk : k' = k
      · subst hkk
        rw [upd_same]
        constructor
        · intro q; cases q
        · rintro ⟨x, hx, q1, _⟩
          exact absurd q1 (h2 x hx)
      · rw [upd_other f _ hkk, hf]
  · have hj : es[j]? = some e := by simpa using h2
    have hjlt : j < es.size := (Array.getElem?_eq_some_iff.1 hj).1
    have hm : e ∈ es.toList := List.mem_of_getElem? h2
    have htl : (es.eraseIdxIfInBounds j).toList = es.toList.eraseIdx j := by
      unfold Array.eraseIdxIfInBounds
      rw [dif_pos hjlt]
      simp
    have hsub : ∀ x ∈ (es.eraseIdxIfInBounds j).toList, x ∈ es.toList := fun x hx => (List.eraseIdx_sublist _ _).subset (htl ▸ hx)
    refine ⟨{ w with heap := w.heap.setIfInBounds b (.map (es.eraseIdxIfInBounds j) clock) }, ?_, ⟨_, _, (heap_set hb).1, stamped_erase hs _, fun x hx => hks x (hsub x hx), ?_⟩, ⟨rfl, rfl, rfl, by simp, fun i _ hi => (heap_set hb).2 i (fun q => hi (by rw [q]))⟩, by simp⟩
    · simp [Builtin.delete_, run_underlying hT, Go.MapKept.run_getObj_map hb, run_checkKey hk hkey, run_findKey hk h1, run_setObj_map _ hb, Result.andThen]
    · intro k' v'
      have hmem : ∀ x, x ∈ (es.eraseIdxIfInBounds j).toList ↔ x ∈ es.toList ∧ x ≠ e := by
        intro x
        rw [htl, List.mem_eraseIdx_iff_getElem?]
        constructor
        · rintro ⟨i, hij, hi⟩
          refine ⟨List.mem_of_getElem? hi, fun q => hij ?_⟩
          subst q
          have h3' := hs.2.2
          obtain ⟨hi1, hi2⟩ := List.getElem?_eq_some_iff.1 hi
          obtain ⟨hj1, hj2⟩ := List.getElem?_eq_some_iff.1 h2
          have hi3 : i < (es.toList.map (·.key)).length := by simpa using hi1
          have hj3 : j < (es.toList.map (·.key)).length := by simpa using hj1
          exact (List.getElem_inj (h₀ := hi3) (h₁ := hj3) h3').1 (by simp only [List.getElem_map]; rw [hi2, hj2])
        · rintro ⟨hx, hne⟩
          obtain ⟨i, hi, rfl⟩ := List.mem_iff_getElem.1 hx
          refine ⟨i, ?_, by simp [hi]⟩
          rintro rfl
          obtain ⟨_, hj2⟩ := List.getElem?_eq_some_iff.1 h2
          exact hne hj2
      by_cases hkk : k' = k
      · subst hkk
        rw [upd_same]
        constructor
        · intro q; cases q
        · rintro ⟨x, hx, q1, q2⟩
          obtain ⟨hx, hne⟩ := (hmem x).1 hx
          exact absurd (nodup_key hs hx hm (q1.trans h3.symm)) hne
      · rw [upd_other f _ hkk, hf]
        constructor
        · rintro ⟨x, hx, q1, q2⟩
          refine ⟨x, (hmem x).2 ⟨hx, ?_⟩, q1, q2⟩
          rintro rfl
          rw [h3] at q1
          injection q1 with _ q1
          exact hkk q1.symm
        · rintro ⟨x, hx, q1, q2⟩
          exact ⟨x, ((hmem x).1 hx).1, q1, q2⟩

theorem MapV.run_clear (h : MapV w b f) (hT : P.underlying T = some (.map K E)) (ty : TypeId) :
    ∃ w', (Builtin.clear_ #[T] ty #[.map (some b)]).run P w = .ok (.tuple #[]) w' ∧ MapV w' b (fun _ => none) ∧ w.grownBy w' (some b) ∧ w'.heap.size = w.heap.size := by
  obtain ⟨es, clock, hb, hs, hks, hf⟩ := h
  refine ⟨{ w with heap := w.heap.setIfInBounds b (.map #[] clock) }, ?_, ⟨_, _, (heap_set hb).1, stamped_empty _, by simp, by simp⟩, ⟨rfl, rfl, rfl, by simp, fun i _ hi => (heap_set hb).2 i (fun q => hi (by rw [q]))⟩, by simp⟩
  simp [Builtin.clear_, run_underlying hT, Go.MapKept.run_getObj_map hb, run_setObj_map _ hb, Result.andThen]
end
end Go.Proofs.Ythnjjonjhenifaa

/- Slices of ints, and slices of these, as a world holds them; what keeps them. -/
namespace Go.Proofs.Ythnjjonjhenifaa
set_option linter.unusedVariables false
set_option linter.unusedSimpArgs false
open Go.RowKit

def ints (xs : List Int) : List Value := xs.map (Value.int .i64)

/-- The ints behind an address, all in blocks below B. -/
def IntsAt (B : Nat) (w : World) (A : Option Addr) (xs : List Int) : Prop :=
  ∀ i (h : i < xs.length), ∃ ad, A = some ad ∧ ad.block < B ∧ w.cell? (ad.add i) = some (.int .i64 xs[i])

/-- The rows of ints behind an address, all in blocks below B. -/
def RowsAt (B : Nat) (w : World) (A : Option Addr) (xss : List (List Int)) : Prop :=
  ∀ i (h : i < xss.length), ∃ ad A' c', A = some ad ∧ ad.block < B ∧ w.cell? (ad.add i) = some (.slice A' xss[i].length c') ∧ xss[i].length ≤ c' ∧ IntsAt B w A' xss[i]

theorem add_block (a : Addr) (n : Nat) : (a.add n).block = a.block := by unfold Addr.add; split <;> rfl
theorem add_free (b o n : Nat) : (⟨b, o, none⟩ : Addr).add n = ⟨b, o + n, none⟩ := by unfold Addr.add; split <;> simp_all
theorem cell_lt {w : World} {a : Addr} {v : Value} (h : w.cell? a = some v) : a.block < w.heap.size := World.block_lt_of_cell? w a h

theorem cell_alloc {w : World} {a : Addr} {v : Value} (h : w.cell? a = some v) (o : Obj) : (w.alloc o).cell? a = some v := by
  rw [← h]; exact World.cell?_of_block (Below.heap_alloc w o a.block (cell_lt h))
theorem frozen_alloc {w : World} {a : Addr} {v : Value} {b : Bool} (h : w.cell? a = some v) (hf : w.frozen? a = b) (o : Obj) : (w.alloc o).frozen? a = b := by
  rw [← hf]; exact World.frozen?_of_block (Below.heap_alloc w o a.block (cell_lt h))

section
variable {B B' : Nat} {w w' : World} {A : Option Addr} {xs : List Int} {xss : List (List Int)}
theorem IntsAt.mono (h : IntsAt B w A xs) (hB : B ≤ B') : IntsAt B' w A xs := fun i hi =>
  let ⟨ad, e, hb, hc⟩ := h i hi; ⟨ad, e, Nat.lt_of_lt_of_le hb hB, hc⟩
theorem IntsAt.move (h : IntsAt B w A xs) (hm : ∀ b, b < B → b < w.heap.size → w'.heap[b]? = w.heap[b]?) : IntsAt B w' A xs := fun i hi =>
  let ⟨ad, e, hb, hc⟩ := h i hi
  ⟨ad, e, hb, by rw [← hc]; exact World.cell?_of_block (by rw [add_block]; exact hm _ hb (by have := cell_lt hc; rwa [add_block] at this))⟩
theorem IntsAt.below (h : IntsAt B w A xs) (hb : Below B w w') : IntsAt B w' A xs := h.move (fun b h1 _ => hb.block b h1)
theorem IntsAt.now (h : IntsAt B w A xs) : IntsAt w.heap.size w A xs := fun i hi =>
  let ⟨ad, e, hb, hc⟩ := h i hi; ⟨ad, e, by have := cell_lt hc; rwa [add_block] at this, hc⟩
theorem IntsAt.later (h : IntsAt B w A xs) (hb : Below w.heap.size w w') : IntsAt B w' A xs := h.move (fun b _ h2 => hb.block b h2)
theorem IntsAt.nil (B : Nat) (w : World) (A : Option Addr) : IntsAt B w A [] := fun i hi => by simp at hi
theorem RowsAt.mono (h : RowsAt B w A xss) (hB : B ≤ B') : RowsAt B' w A xss := fun i hi =>
  let ⟨ad, A', c', e, hb, hc, hl, hi'⟩ := h i hi; ⟨ad, A', c', e, Nat.lt_of_lt_of_le hb hB, hc, hl, hi'.mono hB⟩
theorem RowsAt.move (h : RowsAt B w A xss) (hm : ∀ b, b < B → b < w.heap.size → w'.heap[b]? = w.heap[b]?) : RowsAt B w' A xss := fun i hi =>
  let ⟨ad, A', c', e, hb, hc, hl, hi'⟩ := h i hi
  ⟨ad, A', c', e, hb, by rw [← hc]; exact World.cell?_of_block (by rw [add_block]; exact hm _ hb (by have := cell_lt hc; rwa [add_block] at this)), hl, hi'.move hm⟩
theorem RowsAt.below (h : RowsAt B w A xss) (hb : Below B w w') : RowsAt B w' A xss := h.move (fun b h1 _ => hb.block b h1)
theorem RowsAt.later (h : RowsAt B w A xss) (hb : Below w.heap.size w w') : RowsAt B w' A xss := h.move (fun b _ h2 => hb.block b h2)
theorem RowsAt.now (h : RowsAt B w A xss) : RowsAt w.heap.size w A xss := fun i hi =>
  let ⟨ad, A', c', e, hb, hc, hl, hi'⟩ := h i hi; ⟨ad, A', c', e, by have := cell_lt hc; rwa [add_block] at this, hc, hl, hi'.now⟩
theorem RowsAt.row (h : RowsAt B w A xss) (i : Nat) (hi : i < xss.length) : ∃ ad A' c', A = some ad ∧ w.cell? (ad.add i) = some (.slice A' xss[i].length c') ∧ xss[i].length ≤ c' ∧ IntsAt B w A' xss[i] :=
  let ⟨ad, A', c', e, _, hc, hl, hi'⟩ := h i hi; ⟨ad, A', c', e, hc, hl, hi'⟩
theorem IntsAt.cell (h : IntsAt B w A xs) (i : Nat) (hi : i < xs.length) : ∃ ad, A = some ad ∧ w.cell? (ad.add i) = some (.int .i64 xs[i]) :=
  let ⟨ad, e, _, hc⟩ := h i hi; ⟨ad, e, hc⟩
end

/-- A slice value that reads as these ints. -/
def Ints (B : Nat) (w : World) (v : Value) (xs : List Int) : Prop := ∃ A c, v = .slice A xs.length c ∧ xs.length ≤ c ∧ IntsAt B w A xs
/-- A slice value that reads as these rows. -/
def Rows2 (B : Nat) (w : World) (v : Value) (xss : List (List Int)) : Prop := ∃ A c, v = .slice A xss.length c ∧ xss.length ≤ c ∧ RowsAt B w A xss

theorem Ints.of_own {w : World} {base e : Nat} {v : Value} {xs : List Int} (h : w.ownsRow base e 1 v xs.length (xs.map (Value.int .i64))) : Ints w.heap.size w v xs := by
  obtain ⟨_, h | ⟨g, cap, cur, rfl, hg, hb, hn, _, hs, ht⟩⟩ := h
  · obtain ⟨rfl, h0⟩ := h
    have : xs = [] := List.length_eq_zero_iff.1 h0
    subst this
    exact ⟨none, 0, rfl, Nat.le_refl _, IntsAt.nil _ _ _⟩
  · refine ⟨_, cap, rfl, hn, fun i hi => ⟨_, rfl, (Array.getElem?_eq_some_iff.1 hb).1, ?_⟩⟩
    rw [add_free]
    have e1 : (cur.toList.take (xs.length * 1))[i]? = some (.int .i64 xs[i]) := by rw [ht]; simp [hi]
    rw [List.getElem?_take_of_lt (by omega)] at e1
    simp only [World.cell?, hb, Nat.zero_add]
    simpa using e1

theorem Ints.later {B : Nat} {w w' : World} {v : Value} {xs : List Int} (h : Ints B w v xs) (hb : Below w.heap.size w w') : Ints B w' v xs :=
  let ⟨A, c, e, hc, hi⟩ := h; ⟨A, c, e, hc, hi.later hb⟩
theorem Ints.below {B : Nat} {w w' : World} {v : Value} {xs : List Int} (h : Ints B w v xs) (hb : Below B w w') : Ints B w' v xs :=
  let ⟨A, c, e, hc, hi⟩ := h; ⟨A, c, e, hc, hi.below hb⟩

/-! ### Two kinds of change -/
/-- Only these blocks have turned. -/
structure Fr (S : Nat → Prop) (w w' : World) : Prop where
  os : w'.os = w.os
  tape : w'.tape = w.tape
  output : w'.output = w.output
  size : w.heap.size ≤ w'.heap.size
  block : ∀ k, k < w.heap.size → ¬ S k → w'.heap[k]? = w.heap[k]?

section
variable {S S' : Nat → Prop} {w w1 w2 : World}
theorem Fr.refl (S : Nat → Prop) (w : World) : Fr S w w := ⟨rfl, rfl, rfl, Nat.le_refl _, fun _ _ _ => rfl⟩
theorem Fr.trans (h : Fr S w w1) (k : Fr S w1 w2) : Fr S w w2 :=
  ⟨k.os.trans h.os, k.tape.trans h.tape, k.output.trans h.output, Nat.le_trans h.size k.size, fun i hi hs => (k.block i (Nat.lt_of_lt_of_le hi h.size) hs).trans (h.block i hi hs)⟩
theorem Fr.mono (h : Fr S w w1) (hs : ∀ k, k < w.heap.size → S k → S' k) : Fr S' w w1 := ⟨h.os, h.tape, h.output, h.size, fun k hk hn => h.block k hk (fun q => hn (hs k hk q))⟩
theorem Fr.of_below {B : Nat} (h : Below B w w1) : Fr (fun k => B ≤ k) w w1 := ⟨h.os, h.tape, h.output, h.size, fun k _ hn => h.block k (by simpa using hn)⟩
theorem Fr.of_later (h : Below w.heap.size w w1) : Fr S w w1 := ⟨h.os, h.tape, h.output, h.size, fun k hk _ => h.block k hk⟩
theorem Fr.of_grown {row : Option Nat} (h : w.grownBy w1 row) : Fr (fun k => some k = row) w w1 := ⟨h.os, h.tape, h.output, h.size, fun k hk hn => h.block k hk hn⟩
theorem Fr.below {B : Nat} (h : Fr S w w1) (hs : ∀ k, k < B → ¬ S k) (hB : B ≤ w.heap.size) : Below B w w1 := ⟨h.os, h.tape, h.output, h.size, fun k hk => h.block k (Nat.lt_of_lt_of_le hk hB) (hs k hk)⟩
theorem Fr.setCell (w : World) (a : Addr) (u : Value) (hs : S a.block) : Fr S w (w.setCell a u) :=
  ⟨rfl, rfl, rfl, by simp, fun k _ hn => Below.heap_setCell w a u k (fun e => hn (e ▸ hs))⟩
theorem Fr.alloc (w : World) (o : Obj) : Fr S w (w.alloc o) := Fr.of_later ((Below.refl _ _).alloc (Nat.le_refl _) o)
theorem IntsAt.fr {B : Nat} {A : Option Addr} {xs : List Int} (h : IntsAt B w A xs) (hf : Fr S w w1) (hs : ∀ k, k < B → ¬ S k) : IntsAt B w1 A xs := h.move (fun b h1 h2 => hf.block b h2 (hs b h1))
theorem RowsAt.fr {B : Nat} {A : Option Addr} {xss : List (List Int)} (h : RowsAt B w A xss) (hf : Fr S w w1) (hs : ∀ k, k < B → ¬ S k) : RowsAt B w1 A xss := h.move (fun b h1 h2 => hf.block b h2 (hs b h1))
theorem Fr.drew (w : World) : Fr S w w.drew := Fr.of_later (Below.refl _ _).drew
end
end Go.Proofs.Ythnjjonjhenifaa

/- One element appended to a slice that the call owns; a made slice; what becomes of the rest. -/
namespace Go.Proofs.Ythnjjonjhenifaa
set_option linter.unusedVariables false
set_option linter.unusedSimpArgs false
open Go.RowKit

/-- The run of 'append(v, x)', x laid in a new block of one cell. -/
theorem app_one {P : Program} {t ty e bytes base : Nat} {z v x : Value} {w : World} {xs : List Value} (ht : P.underlying t = some (.slice e)) (hinfo : (P.info? e).map (fun i => (i.zero, i.size, i.bytes)) = some (some z, 1, bytes))
    (hz : z.cells.size = 1) (h : w.ownsRow base e 1 v xs.length xs) (hx : x.oneCell' = true) (hlen : xs.length < 1000000000000) (hby : bytes ≤ 64) (hb : base ≤ w.heap.size) :
    ∃ g cap w', (Builtin.append_ #[t, t] ty #[v, .slice (some ⟨w.heap.size, 0, none⟩) 1 1]).run P (w.alloc (.cells #[x] e)) = .ok (.slice (some ⟨g, 0, none⟩) (xs.length + 1) cap) w' ∧
      w'.ownsRow base e 1 (.slice (some ⟨g, 0, none⟩) (xs.length + 1) cap) (xs ++ [x]).length (xs ++ [x]) ∧ w.grownBy w' v.ownBlock := by
  obtain ⟨i, hi, h1, h2, h3⟩ := info_parts hinfo
  obtain ⟨v', w', hr, ho, hg, hn⟩ := run_append_own (P := P) (w := w.alloc (.cells #[x] e)) base t ty e i z 1 bytes ht hi h1 h2 h3 hz (by omega) v xs.length xs (h.alloc _) ⟨w.heap.size, 0, none⟩ 1 1 [x] rfl
    (by intro j u hj
        cases j with
        | zero => simp at hj; subst hj; simp [Addr.add, go_sem]
        | succ j => simp at hj)
    (by intro u hu; rw [List.mem_singleton.1 hu]; exact hx) (by unfold maxLen; omega) (by
      have : (xs.length + 1) * bytes ≤ 1000000000000 * 64 := Nat.mul_le_mul (by omega) hby
      omega) (by simp; omega)
  have hne : v' ≠ .slice none 0 0 := by
    intro e
    have := (hn.1 e).2
    omega
  have ho2 := ho
  rcases ho.2 with ⟨q, _⟩ | ⟨g', cap', cur', rfl, _⟩
  · exact absurd q hne
  refine ⟨g', cap', w', hr, by simpa using ho2, ?_⟩
  · have hlt := h.lt
    exact ⟨hg.os, hg.tape, hg.output, by have := hg.size; simp at this; omega, fun k hk hne => (hg.block k (by simp; omega) hne).trans (Below.heap_alloc w _ k hk)⟩

theorem app_ints {P : Program} {t ty e base : Nat} {v : Value} {w : World} {xs : List Int} (ht : P.underlying t = some (.slice e)) (hinfo : (P.info? e).map (fun i => (i.zero, i.size, i.bytes)) = some (some (.int .i64 0), 1, 8))
    (h : w.ownsRow base e 1 v xs.length (ints xs)) (x : Int) (hlen : xs.length < 1000000000000) (hb : base ≤ w.heap.size) :
    ∃ g cap w', (Builtin.append_ #[t, t] ty #[v, .slice (some ⟨w.heap.size, 0, none⟩) 1 1]).run P (w.alloc (.cells #[.int .i64 x] e)) = .ok (.slice (some ⟨g, 0, none⟩) (xs.length + 1) cap) w' ∧
      w'.ownsRow base e 1 (.slice (some ⟨g, 0, none⟩) (xs.length + 1) cap) (xs ++ [x]).length (ints (xs ++ [x])) ∧ w.grownBy w' v.ownBlock := by
  have h' : w.ownsRow base e 1 v (ints xs).length (ints xs) := by simpa [ints] using h
  obtain ⟨g, cap, w', h1, h2, h3⟩ := app_one (ty := ty) (x := .int .i64 x) ht hinfo rfl h' rfl (by simp [ints]; omega) (by omega) hb
  have e : (ints xs).length = xs.length := by simp [ints]
  rw [e] at h1 h2
  exact ⟨g, cap, w', h1, by simpa [ints] using h2, h3⟩

theorem grown_trans {w w1 w2 : World} {row : Option Nat} (h : w.grownBy w1 row) (k : w1.grownBy w2 row) : w.grownBy w2 row :=
  ⟨k.os.trans h.os, k.tape.trans h.tape, k.output.trans h.output, Nat.le_trans h.size k.size, fun i hi hne => (k.block i (Nat.lt_of_lt_of_le hi h.size) hne).trans (h.block i hi hne)⟩

/-- An append at the operation, its run known. -/
theorem wpList_append_run {P : Program} {w : World} {ops : Array Oper} {rest : List Oper} {o : Oper} {a : Act} {Q : Exit → Act → World → Prop} (hg : o.guard = none) (s x : Operand) (t : TypeId)
    (hop : o.op = Op.call { callee := Callee.builtin Builtin.append, args := #[s, x], argTypes := #[t, t] }) {v y v' : Value} {w' : World} (hs : a.eval s = v) (hx : a.eval x = y)
    (hrun : (Builtin.append_ #[t, t] o.type #[v, y]).run P w = .ok v' w') (hK : wpList P ops Q rest (a.put o.dst v') w') : wpList P ops Q (o :: rest) a w := by
  refine wpList_plain hg fun K hK' => ?_
  unfold Oper.wp
  simp [execOp, hop, resolve, invoke, builtin, hs, hx, hrun, Result.andThen]
  exact hK' _ _ hK

theorem IntsAt.grown {B : Nat} {w w' : World} {A : Option Addr} {xs : List Int} {row : Option Nat} (h : IntsAt B w A xs) (hg : w.grownBy w' row) (hr : ∀ k, row = some k → B ≤ k) : IntsAt B w' A xs :=
  h.move (fun b h1 h2 => hg.block b h2 (fun e => by have := hr b e.symm; omega))
theorem RowsAt.grown {B : Nat} {w w' : World} {A : Option Addr} {xs : List (List Int)} {row : Option Nat} (h : RowsAt B w A xs) (hg : w.grownBy w' row) (hr : ∀ k, row = some k → B ≤ k) : RowsAt B w' A xs :=
  h.move (fun b h1 h2 => hg.block b h2 (fun e => by have := hr b e.symm; omega))
theorem below_grown {B : Nat} {w0 w w' : World} {row : Option Nat} (h : Below B w0 w) (hg : w.grownBy w' row) (hB : B ≤ w.heap.size) (hr : ∀ k, row = some k → B ≤ k) : Below B w0 w' := h.grown hg hB hr
theorem own_ge {w : World} {base e size n : Nat} {v : Value} {xs : List Value} (h : w.ownsRow base e size v n xs) : ∀ k, v.ownBlock = some k → base ≤ k := fun k hk => (h.lt k hk).1
theorem own_lt {w : World} {base e size n : Nat} {v : Value} {xs : List Value} (h : w.ownsRow base e size v n xs) : ∀ k, v.ownBlock = some k → k < w.heap.size := fun k hk => (h.lt k hk).2
theorem own_move {w w' : World} {base e size n : Nat} {v : Value} {xs : List Value} (h : w.ownsRow base e size v n xs) (hm : ∀ k, v.ownBlock = some k → w'.heap[k]? = w.heap[k]?) : w'.ownsRow base e size v n xs := by
  obtain ⟨h1, h2⟩ := h
  refine ⟨h1, ?_⟩
  rcases h2 with h2 | ⟨g, cap, cur, rfl, hg, hh, r⟩
  · exact .inl h2
  · exact .inr ⟨g, cap, cur, rfl, hg, (hm g rfl).trans hh, r⟩
theorem own_base {w : World} {base base' e size n : Nat} {v : Value} {xs : List Value} (h : w.ownsRow base e size v n xs) (hb : base' ≤ base) : w.ownsRow base' e size v n xs := by
  obtain ⟨h1, h2⟩ := h
  refine ⟨h1, ?_⟩
  rcases h2 with h2 | ⟨g, cap, cur, rfl, hg, r⟩
  · exact .inl h2
  · exact .inr ⟨g, cap, cur, rfl, by omega, r⟩
theorem own_later {w w' : World} {base e size n : Nat} {v : Value} {xs : List Value} (h : w.ownsRow base e size v n xs) (hb : Below w.heap.size w w') : w'.ownsRow base e size v n xs :=
  own_move h (fun k hk => hb.block k (own_lt h k hk))

/-- The run of 'make([]T, n)'. -/
theorem make_full {P : Program} {t e bytes base n : Nat} {z : Value} {w : World} (ht : P.underlying t = some (.slice e)) (hinfo : (P.info? e).map (fun i => (i.zero, i.size, i.bytes)) = some (some z, 1, bytes))
    (hz : z.cells = #[z]) (hn : n < 1000000000000) (hby : bytes ≤ 64) (hb : base ≤ w.heap.size) :
    ∃ w', (Instr.makeSlice t (.int .i64 n) (.int .i64 n)).run P w = .ok (.slice (some ⟨w.heap.size, 0, none⟩) n n) w' ∧ w'.ownsRow base e 1 (.slice (some ⟨w.heap.size, 0, none⟩) n n) n (List.replicate n z) ∧ w.grownBy w' none := by
  obtain ⟨i, hi, h1, h2, h3⟩ := info_parts hinfo
  obtain ⟨w', hr, ho, hg⟩ := run_make_full (P := P) w base t e i z 1 ht hi h1 h2 .i64 .i64 n (by
      have : i.bytes * n ≤ 64 * 1000000000000 := Nat.mul_le_mul (by omega) (by omega)
      omega) (by unfold maxLen; omega) hb
  refine ⟨w', hr, ?_, hg⟩
  rw [hz, Nat.mul_one, toList_madeCells_one] at ho
  exact ho

/-- The run of 'make([]T, 0, n)'. -/
theorem make_zero {P : Program} {t e bytes base n : Nat} {z : Value} {w : World} (ht : P.underlying t = some (.slice e)) (hinfo : (P.info? e).map (fun i => (i.zero, i.size, i.bytes)) = some (some z, 1, bytes))
    (hn : n < 1000000000000) (hby : bytes ≤ 64) (hb : base ≤ w.heap.size) :
    ∃ w', (Instr.makeSlice t (.int .i64 0) (.int .i64 n)).run P w = .ok (.slice (some ⟨w.heap.size, 0, none⟩) 0 n) w' ∧ w'.ownsRow base e 1 (.slice (some ⟨w.heap.size, 0, none⟩) 0 n) 0 [] ∧ w.grownBy w' none := by
  obtain ⟨i, hi, h1, h2, h3⟩ := info_parts hinfo
  exact run_make_own (P := P) w base t e i z 1 ht hi h1 h2 .i64 .i64 n (by
      have : i.bytes * n ≤ 64 * 1000000000000 := Nat.mul_le_mul (by omega) (by omega)
      omega) (by unfold maxLen; omega) hb
end Go.Proofs.Ythnjjonjhenifaa

/- What slices.Compact leaves of a sorted row: each number once, rising. -/
namespace Go.Proofs.Ythnjjonjhenifaa
set_option linter.unusedVariables false
set_option linter.unusedSimpArgs false
open Go.Lib

theorem toArray_get! (zs : List Int) (j : Nat) (h : j < zs.length) : zs.toArray[j]! = zs[j] := by simp [h]

theorem compactUpTo_spec (zs : List Int) (h : zs.Pairwise (· ≤ ·)) : ∀ m, m ≤ zs.length → (compactUpTo zs.toArray m).Pairwise (· < ·) ∧ ∀ n, n ∈ compactUpTo zs.toArray m ↔ ∃ j, ∃ hj : j < zs.length, j < m ∧ zs[j] = n := by
  intro m
  induction m with
  | zero => intro _; simp [compactUpTo]
  | succ m ih =>
    intro hm
    obtain ⟨h1, h2⟩ := ih (by omega)
    have hmz : m < zs.length := by omega
    rw [compactUpTo_succ]
    have hle : ∀ j (hj : j < zs.length), j ≤ m → zs[j] ≤ zs[m] := by
      intro j hj hjm
      by_cases e : j = m
      · subst e; omega
      · exact List.pairwise_iff_getElem.1 h j m hj hmz (by omega)
    by_cases hk : keeps zs.toArray m = true
    · rw [if_pos hk]
      have hlt : ∀ x ∈ compactUpTo zs.toArray m, x < zs[m] := by
        intro x hx
        obtain ⟨j, hj, hjm, rfl⟩ := (h2 x).1 hx
        have hne : zs[m] ≠ zs[m - 1] := by
          intro e
          unfold keeps at hk
          rw [toArray_get! zs m hmz, toArray_get! zs (m - 1) (by omega)] at hk
          have := of_decide_eq_true hk
          rcases this with q | q
          · omega
          · exact q e
        have a := hle (m - 1) (by omega) (by omega)
        have b : zs[j] ≤ zs[m - 1] := by
          by_cases e : j = m - 1
          · subst e; omega
          · exact List.pairwise_iff_getElem.1 h j (m - 1) hj (by omega) (by omega)
        omega
      rw [toArray_get! zs m hmz]
      refine ⟨List.pairwise_append.2 ⟨h1, by simp, fun x hx y hy => by rw [List.mem_singleton.1 hy]; exact hlt x hx⟩, fun n => ?_⟩
      rw [List.mem_append, h2, List.mem_singleton]
      constructor
      · rintro (⟨j, hj, hjm, e⟩ | e)
        · exact ⟨j, hj, by omega, e⟩
        · exact ⟨m, hmz, by omega, e.symm⟩
      · rintro ⟨j, hj, hjm, e⟩
        by_cases e2 : j = m
        · subst e2; exact .inr e.symm
        · exact .inl ⟨j, hj, by omega, e⟩
    · rw [if_neg hk, List.append_nil]
      refine ⟨h1, fun n => ?_⟩
      rw [h2]
      have hm0 : m ≠ 0 := by rintro rfl; exact hk (by simp [keeps])
      have he : zs[m] = zs[m - 1] := by
        apply Classical.byContradiction
        intro hne
        apply hk
        unfold keeps
        rw [toArray_get! zs m hmz, toArray_get! zs (m - 1) (by omega)]
        exact decide_eq_true (.inr hne)
      constructor
      · rintro ⟨j, hj, hjm, e⟩
        exact ⟨j, hj, by omega, e⟩
      · rintro ⟨j, hj, hjm, e⟩
        by_cases e2 : j = m
        · subst e2; exact ⟨j - 1, by omega, by omega, by rw [← he]; exact e⟩
        · exact ⟨j, hj, by omega, e⟩

theorem compact_spec (zs : List Int) (h : zs.Pairwise (· ≤ ·)) : (compact zs).Pairwise (· < ·) ∧ ∀ n, n ∈ compact zs ↔ n ∈ zs := by
  obtain ⟨h1, h2⟩ := compactUpTo_spec zs h zs.length (Nat.le_refl _)
  refine ⟨h1, fun n => (h2 n).trans ?_⟩
  rw [List.mem_iff_getElem]
  constructor
  · rintro ⟨j, hj, _, e⟩; exact ⟨j, hj, e⟩
  · rintro ⟨j, hj, e⟩; exact ⟨j, hj, hj, e⟩
end Go.Proofs.Ythnjjonjhenifaa

/- A row of ints appended to a row that the call owns. -/
namespace Go.Proofs.Ythnjjonjhenifaa
set_option linter.unusedVariables false
set_option linter.unusedSimpArgs false
open Go.RowKit

theorem app_none {P : Program} {t ty e bytes base n c : Nat} {z v : Value} {w : World} {xs : List Value} (ht : P.underlying t = some (.slice e)) (hinfo : (P.info? e).map (fun i => (i.zero, i.size, i.bytes)) = some (some z, 1, bytes))
    (h : w.ownsRow base e 1 v n xs) : (Builtin.append_ #[t, t] ty #[v, .slice none 0 c]).run P w = .ok v w := by
  obtain ⟨i, hi, h1, h2, h3⟩ := info_parts hinfo
  rcases h.2 with ⟨rfl, rfl⟩ | ⟨g, cap, cur, rfl, _, _, hc, _⟩
  · simp [Builtin.append_, run_underlying ht, sizeOf, typeInfo, hi, Builtin.lenOf, Builtin.firstCells, Result.andThen, go_sem]
  · simp [Builtin.append_, run_underlying ht, sizeOf, typeInfo, hi, Builtin.lenOf, Builtin.firstCells, Result.andThen, hc, storeCells, go_sem]

theorem app_many {P : Program} {t ty e base : Nat} {v : Value} {w : World} {xs : List Int} (ht : P.underlying t = some (.slice e)) (hinfo : (P.info? e).map (fun i => (i.zero, i.size, i.bytes)) = some (some (.int .i64 0), 1, 8))
    (h : w.ownsRow base e 1 v xs.length (ints xs)) {A : Option Addr} {B c : Nat} {ys : List Int} (hI : IntsAt B w A ys) (hlen : xs.length + ys.length < 1000000000000) (hb : base ≤ w.heap.size) :
    ∃ v' w', (Builtin.append_ #[t, t] ty #[v, .slice A ys.length c]).run P w = .ok v' w' ∧ w'.ownsRow base e 1 v' (xs ++ ys).length (ints (xs ++ ys)) ∧ w.grownBy w' v.ownBlock := by
  cases A with
  | none =>
    have : ys = [] := by
      cases ys with
      | nil => rfl
      | cons y ys => obtain ⟨ad, e, _⟩ := hI 0 (by simp); cases e
    subst this
    exact ⟨v, w, app_none ht hinfo h, by simpa using h, ⟨rfl, rfl, rfl, Nat.le_refl _, fun _ _ _ => rfl⟩⟩
  | some ad =>
    obtain ⟨i, hi, h1, h2, h3⟩ := info_parts hinfo
    have hcells : ∀ j u, (ints ys)[j]? = some u → w.cell? (ad.add j) = some u := by
      intro j u hj
      rw [ints, List.getElem?_map] at hj
      cases hy : ys[j]? with
      | none => rw [hy] at hj; cases hj
      | some y =>
        rw [hy] at hj
        cases hj
        obtain ⟨hl, rfl⟩ := List.getElem?_eq_some_iff.1 hy
        obtain ⟨ad', e, _, hc⟩ := hI j hl
        cases e
        exact hc
    obtain ⟨v', w', hr, ho, hg, _⟩ := run_append_own (P := P) (w := w) base t ty e i (.int .i64 0) 1 8 ht hi h1 h2 h3 rfl (by omega) v xs.length (ints xs) h ad ys.length c (ints ys) (by simp [ints]) hcells
      (by intro u hu; obtain ⟨n, _, rfl⟩ := List.mem_map.1 hu; rfl) (by unfold maxLen; omega) (by omega) hb
    exact ⟨v', w', hr, by simpa [ints] using ho, hg⟩
theorem add_zero' (a : Addr) : a.add 0 = a := by
  unfold Addr.add
  split <;> simp_all
theorem add_add' (a : Addr) (k i : Nat) : (a.add k).add i = a.add (k + i) := by
  unfold Addr.add
  by_cases hk : k = 0
  · subst hk; simp
  · by_cases hi : i = 0
    · subst hi; simp
    · have : k + i ≠ 0 := by omega
      simp [hk, hi, this, Nat.add_assoc]

/-- The first k of a row. -/
theorem cut_head {P : Program} {t B n c k : Nat} {w : World} {A : Option Addr} {xs : List Int} (ht : P.underlying t = some (.slice (P.elem t))) (hs : (sizeOf (P.elem t)).run P w = .ok 1 w) (hI : IntsAt B w A xs) (hn : xs.length = n) (hk : k ≤ n) (hc : n ≤ c) :
    (Instr.sliceAt t (.slice A n c) none (some (.int .i64 (k : Int))) none).run P w = .ok (.slice A k c) w ∧ IntsAt B w A (xs.take k) := by
  refine ⟨?_, ?_⟩
  · rw [run_sliceAt_slice w t _ _ _ _ ht, run_slice_h (w := w) (t := t) (a := A) (len := n) (cap := c) (ht := ht) (kh := .i64) (h := (k : Int)) (h0 := by omega) (h2 := by omega), hs]
    cases A <;> simp [Result.andThen, sliced, add_zero']
  · intro i hi
    have hi' : i < xs.length := by rw [List.length_take] at hi; omega
    obtain ⟨ad, e, hb, hcell⟩ := hI i hi'
    exact ⟨ad, e, hb, by rw [hcell]; simp⟩
/-- The rest of a row, from k on. -/
theorem cut_tail {P : Program} {t B n c k : Nat} {w : World} {A : Option Addr} {xs : List Int} (ht : P.underlying t = some (.slice (P.elem t))) (hs : (sizeOf (P.elem t)).run P w = .ok 1 w) (hI : IntsAt B w A xs) (hn : xs.length = n) (hk : k ≤ n) (hc : n ≤ c) :
    ∃ A', (Instr.sliceAt t (.slice A n c) (some (.int .i64 (k : Int))) none none).run P w = .ok (.slice A' (xs.drop k).length (c - k)) w ∧ IntsAt B w A' (xs.drop k) := by
  refine ⟨if c = k then A else A.map (·.add (k * 1)), ?_, ?_⟩
  · rw [run_sliceAt_slice w t _ _ _ _ ht, run_slice_l (w := w) (t := t) (a := A) (len := n) (cap := c) (ht := ht) (kl := .i64) (l := (k : Int)) (h0 := by omega) (h1 := by omega), hs]
    simp [Result.andThen, sliced, hn]
  · intro i hi
    have hi' : k + i < xs.length := by rw [List.length_drop] at hi; omega
    obtain ⟨ad, e, hb, hcell⟩ := hI (k + i) hi'
    rw [if_neg (by omega)]
    refine ⟨ad.add k, by rw [e]; simp, by rw [add_block]; exact hb, ?_⟩
    rw [add_add', hcell]
    simp
end Go.Proofs.Ythnjjonjhenifaa

/- Where the row lies after one element was appended: where it lay, or in a new block. -/
namespace Go.Proofs.Ythnjjonjhenifaa
set_option linter.unusedVariables false
set_option linter.unusedSimpArgs false
open Go.RowKit

theorem app_place {P : Program} {t ty e bytes base g n' cap' : Nat} {z v x : Value} {w w' : World} {xs : List Value} (ht : P.underlying t = some (.slice e)) (hinfo : (P.info? e).map (fun i => (i.zero, i.size, i.bytes)) = some (some z, 1, bytes))
    (hz : z.cells.size = 1) (h : w.ownsRow base e 1 v xs.length xs) (hx : x.oneCell' = true) (hlen : xs.length < 1000000000000) (hby : bytes ≤ 64)
    (hrun : (Builtin.append_ #[t, t] ty #[v, .slice (some ⟨w.heap.size, 0, none⟩) 1 1]).run P (w.alloc (.cells #[x] e)) = .ok (.slice (some ⟨g, 0, none⟩) n' cap') w') :
    some g = v.ownBlock ∨ w.heap.size ≤ g := by
  obtain ⟨i, hi, h1, h2, h3⟩ := info_parts hinfo
  have hnews : ∀ j u, [x][j]? = some u → (w.alloc (.cells #[x] e)).cell? ((⟨w.heap.size, 0, none⟩ : Addr).add j) = some u := by
    intro j u hj
    cases j with
    | zero => simp at hj; subst hj; simp [Addr.add, go_sem]
    | succ j => simp at hj
  have hone : ∀ u ∈ [x], u.oneCell' = true := by intro u hu; rw [List.mem_singleton.1 hu]; exact hx
  have hbytes : (xs.length + 1) * bytes ≤ 140737488355328 := by
    have : (xs.length + 1) * bytes ≤ 1000000000000 * 64 := Nat.mul_le_mul (by omega) hby
    omega
  rcases h.2 with ⟨rfl, h0⟩ | ⟨g0, cap0, cur, rfl, hbg, hg, hnc, hcm, hcs, htake⟩
  · right
    have hx0 : xs = [] := List.eq_nil_of_length_eq_zero h0
    subst hx0
    obtain ⟨v', w2, hr, ho, _, _⟩ := run_append_own (P := P) (w := w.alloc (.cells #[x] e)) w.heap.size t ty e i z 1 bytes ht hi h1 h2 h3 hz (by omega) (.slice none 0 0) 0 [] (World.ownsRow_nil _ _ _ _) ⟨w.heap.size, 0, none⟩ 1 1 [x] rfl hnews hone (by unfold maxLen; omega) (by simpa using hbytes) (by simp)
    rw [hrun] at hr
    cases hr
    exact own_ge ho g rfl
  · by_cases hroom : xs.length + 1 ≤ cap0
    · left
      obtain ⟨w2, hr, _⟩ := run_append_fits (P := P) (w := w.alloc (.cells #[x] e)) base t ty e i 1 ht hi h2 g0 xs.length cap0 xs (h.alloc _) ⟨w.heap.size, 0, none⟩ 1 1 [x] rfl hnews hone hroom
      rw [hrun] at hr
      cases hr
      rfl
    · right
      have holds : ∀ j u, xs[j]? = some u → (w.alloc (.cells #[x] e)).cell? ((⟨g0, 0, none⟩ : Addr).add j) = some u := (h.alloc _).cells (g := g0) rfl
      have hr := run_append_grow (P := P) (w.alloc (.cells #[x] e)) t ty e i z ht hi h1 ⟨g0, 0, none⟩ xs.length cap0 xs (by rw [h2]; omega) holds ⟨w.heap.size, 0, none⟩ 1 1 [x] (by simp [h2]) hnews (by unfold maxLen at hcm; omega) (by omega) (growslice_fits (by omega) (by rw [h3]; exact hbytes))
      rw [hrun] at hr
      cases hr
      simp
end Go.Proofs.Ythnjjonjhenifaa

/- A region that draws its order, whose operations only lay new memory: whatever the order, each operation yields what its own statement says, if that stands when memory is laid. -/
namespace Go.Proofs.Ythnjjonjhenifaa
set_option linter.unusedVariables false
set_option linter.unusedSimpArgs false
open Go.RowKit

/-- One operation by itself: it yields a value, and leaves a world, of this kind. -/
def StepTo (P : Program) (ops : Array Oper) (o : Oper) (a : Act) (w : World) (Post : Value → World → Prop) : Prop :=
  wpList P ops (fun ex a' w' => ex = .normal ∧ ∃ v, a' = a.put o.dst v ∧ Post v w') [o] a w
/-- .. and the world grows. -/
def StepAt (P : Program) (ops : Array Oper) (o : Oper) (a : Act) (w : World) (Rv : Value → World → Prop) : Prop := StepTo P ops o a w fun v w' => Rv v w' ∧ Below w.heap.size w w'

theorem upon_imp {P : Program} {o : Oper} {a : Act} {w : World} {K K' : Act → World → Prop} {F Q : Exit → Act → World → Prop} (hF : ∀ ex a w, ex ≠ .normal → ¬ F ex a w) (h : ∀ a w, K a w → K' a w) (hh : o.wp P a w K F) : o.wp P a w K' Q := by
  unfold Oper.wp at *
  generalize (execOp a.eval o).run P w = r at *
  cases r with
  | ok n w' =>
    cases n <;> simp only [Oper.upon] at hh ⊢ <;>
      first
        | exact h _ _ hh
        | exact Calls.mono hh (fun e w'' he => by
            cases e <;> first
              | exact h _ _ he
              | exact absurd he (hF _ _ _ (by intro e; cases e))
              | exact (let ⟨_, _, he⟩ := he; absurd he (hF _ _ _ (by intro e; cases e))))
        | exact Rows.mono hh (fun _ _ he => h _ _ he)
  | halt x w' =>
    cases x <;> simp only [Oper.upon] at hh ⊢ <;> first | exact absurd hh (hF _ _ _ (by intro e; cases e)) | exact hh

section
variable {P : Program} {ops : Array Oper} {o : Oper} {a : Act} {w w' : World} {Post : Value → World → Prop} {v : Value}
theorem step_run (hw : Region.wanted o (yielded ops a.tmps) = true) (h : (execOp a.eval o).run P w = .ok (.value v) w') (hp : Post v w') : StepTo P ops o a w Post := by
  unfold StepTo
  simp only [wpList]
  rw [if_pos hw]
  refine .inl ?_
  unfold Oper.wp
  rw [h]
  first | exact ⟨rfl, v, rfl, hp⟩ | exact ⟨trivial, v, rfl, hp⟩
theorem step_unit (hw : Region.wanted o (yielded ops a.tmps) = true) (h : (execOp a.eval o).run P w = .ok .skip w') (hp : Post undef w') : StepTo P ops o a w Post := by
  unfold StepTo
  simp only [wpList]
  rw [if_pos hw]
  refine .inl ?_
  unfold Oper.wp
  rw [h]
  first | exact ⟨rfl, _, rfl, hp⟩ | exact ⟨trivial, _, rfl, hp⟩
theorem step_call {f : FuncId} {args : Array Value} (hw : Region.wanted o (yielded ops a.tmps) = true) (h : (execOp a.eval o).run P w = .ok (.enter f args) w) (hc : Calls P f args w fun e w' => ∃ v, e = .returned v ∧ Post v w') : StepTo P ops o a w Post := by
  unfold StepTo
  simp only [wpList]
  rw [if_pos hw]
  refine .inl ?_
  unfold Oper.wp
  rw [h]
  refine hc.mono ?_
  rintro e w' ⟨v, rfl, hp⟩
  first | exact ⟨rfl, v, rfl, hp⟩ | exact ⟨trivial, v, rfl, hp⟩
theorem step_skip (hw : Region.wanted o (yielded ops a.tmps) = false) (hp : Post undef w) : StepTo P ops o a w Post := by
  unfold StepTo
  simp only [wpList]
  rw [if_neg (by rw [hw]; decide)]
  first | exact ⟨rfl, _, rfl, hp⟩ | exact ⟨trivial, _, rfl, hp⟩
theorem wanted_none (h : o.guard = none) : Region.wanted o (yielded ops a.tmps) = true := by simp [Region.wanted, h]
theorem getD_bool {xs : Array Value} {d : Nat} {b : Bool} (h : xs.getD d undef = .bool b) : xs[d]? = some (.bool b) := by
  rw [Array.getD_eq_getD_getElem?] at h
  cases hx : xs[d]? with
  | none => rw [hx] at h; cases h
  | some u => rw [hx] at h; exact congrArg some h
theorem wanted_some {j d : Nat} {b b' : Bool} (h : o.guard = some (j, b)) (hd : (ops[j]?).bind (·.dst) = some d) (hv : a.tmps.getD d undef = .bool b') : Region.wanted o (yielded ops a.tmps) = (b' == b) := by
  have := getD_bool hv
  simp [Region.wanted, h, yielded, hd, this]
theorem wanted_true {j d : Nat} {b : Bool} (h : o.guard = some (j, b)) (hd : (ops[j]?).bind (·.dst) = some d) (hv : a.tmps.getD d undef = .bool b) : Region.wanted o (yielded ops a.tmps) = true := by rw [wanted_some h hd hv]; simp
theorem wanted_false {j d : Nat} {b b' : Bool} (h : o.guard = some (j, b)) (hd : (ops[j]?).bind (·.dst) = some d) (hv : a.tmps.getD d undef = .bool b') (hne : b' ≠ b) : Region.wanted o (yielded ops a.tmps) = false := by rw [wanted_some h hd hv]; simpa using hne
end

/-- Each operation of a list, with its place. -/
def eachOp (G : Nat → Oper → Prop) : Nat → List Oper → Prop
  | _, [] => True
  | i, o :: os => G i o ∧ eachOp G (i + 1) os
theorem each_spec {G : Nat → Oper → Prop} : ∀ {l : List Oper} {k : Nat}, eachOp G k l → ∀ i o, l[i]? = some o → G (k + i) o := by
  intro l
  induction l with
  | nil => intro k _ i o h; simp at h
  | cons x l ih =>
    intro k h i o hi
    cases i with
    | zero => simp at hi; subst hi; exact h.1
    | succ i =>
      have := ih h.2 i o (by simpa using hi)
      rwa [show k + 1 + i = k + (i + 1) by omega] at this
theorem each_op {G : Nat → Oper → Prop} {l : List Oper} (h : eachOp G 0 l) : ∀ i o, l[i]? = some o → G i o := fun i o hi => by simpa using each_spec h i o hi

theorem wpList_imp {P : Program} {ops : Array Oper} {o : Oper} {a : Act} {w : World} {F Q : Exit → Act → World → Prop} (hN : ∀ a w, F .normal a w → Q .normal a w) (hF : ∀ ex, ex ≠ .normal → ∀ a w, F ex a w → Q ex a w) (hh : wpList P ops F [o] a w) : wpList P ops Q [o] a w := by
  have hall : ∀ ex a w, F ex a w → Q ex a w := fun ex a w h => by
    by_cases e : ex = .normal
    · subst e; exact hN a w h
    · exact hF ex e a w h
  simp only [wpList] at hh ⊢
  split
  · rename_i hw
    rw [if_pos hw] at hh
    rcases hh with hh | ⟨h1, a', w', h2⟩
    · refine .inl ?_
      unfold Oper.wp at *
      generalize (execOp a.eval o).run P w = r at *
      cases r with
      | ok n w' =>
        cases n <;> simp only [Oper.upon] at hh ⊢ <;>
          first
            | exact hN _ _ hh
            | exact Calls.mono hh (fun e w'' he => by
                cases e <;> first
                  | exact hN _ _ he
                  | exact hall _ _ _ he
                  | exact (let ⟨x, y, he⟩ := he; ⟨x, y, hall _ _ _ he⟩))
            | exact Rows.mono hh (fun _ _ he => hN _ _ he)
      | halt x w' =>
        cases x <;> simp only [Oper.upon] at hh ⊢ <;> first | exact hall _ _ _ hh | exact hh
    · exact .inr ⟨h1, a', w', hall _ _ _ h2⟩
  · rename_i hw
    rw [if_neg hw] at hh
    exact hN _ _ hh

theorem StepTo.wpOp {P : Program} {ops : Array Oper} {o : Oper} {a : Act} {w : World} {Post : Value → World → Prop} {i : Nat} {K : Act → World → Prop} {Q : Exit → Act → World → Prop} (h : StepTo P ops o a w Post) (hi : ops[i]? = some o) (hK : ∀ v w', Post v w' → K (a.put o.dst v) w') : wpOp P ops Q i K a w := by
  unfold StepTo at h
  unfold Go.wpOp
  simp only [hi]
  simp only [wpList] at h
  split
  · rename_i hw
    rw [if_pos hw] at h
    rcases h with h | ⟨_, _, _, h, _⟩
    · refine .inl (upon_imp (fun ex a w hne he => hne he.1) ?_ h)
      rintro a' w' ⟨_, v, rfl, h1⟩
      exact hK v w' h1
    · cases h
  · rename_i hw
    rw [if_neg hw] at h
    obtain ⟨_, v, e, h1⟩ := h
    rw [e]
    exact hK v w h1

def addOne (xs : List Nat) (j : Nat) : List Nat := if xs.contains j then xs else j :: xs
def waitsOf (acc : List (List Nat)) (o : Oper) : List Nat := (o.after.toList.filter (Region.binds .any)).foldl (fun xs e => (acc.getD e.on []).foldl addOne (addOne xs e.on)) []
def allWaits (ops : List Oper) : List (List Nat) := ops.foldl (fun acc o => acc ++ [waitsOf acc o]) []
/-- Does the i-th operation come behind the j-th, whatever the order? -/
def waitsB (ops : List Oper) (i j : Nat) : Bool := ((allWaits ops).getD i []).contains j
def dstOf (ops : List Oper) (j : Nat) : Option Tmp := (ops[j]?).bind (·.dst)
def dstsOf (ops : List Oper) : List Tmp := ops.filterMap (·.dst)
/-- What a region must be like: each operation waits for earlier ones alone; each slot is written once. -/
def orderOk (ops : List Oper) (W : List (List Nat)) (n : Nat) : Bool :=
  (List.range ops.length).all (fun i => ((ops[i]?).map fun o => (o.after.toList.all fun e => !Region.binds .any e || decide (e.on < i)) &&
    ((W.getD i []).all fun j => o.after.toList.any fun e => Region.binds .any e && (e.on == j || (W.getD e.on []).contains j)) && o.dst.all (fun d => decide (d < n))).getD false) &&
  decide (dstsOf ops).Nodup

/-- May the word of the j-th operation be leant on behind the i-th, if it was before? -/
def alive (W : List (List Nat)) (kill : Nat → Option Nat) (i j : Nat) : Prop := j ≠ i ∧ i ∉ W.getD j [] ∧ ∀ k, kill j = some k → k ≠ i ∧ k ∉ W.getD i []

/-- What is said of the k-th operation: of its value, or, if it has none, of the world alone. -/
def wordOf (l : List Oper) (R : Nat → Value → World → Prop) (k : Nat) (a : Act) (w : World) : Prop :=
  match dstOf l k with
  | some d => R k (a.tmps.getD d undef) w
  | none => ∃ v, R k v w
structure RegInv (P : Program) (l : List Oper) (W : List (List Nat)) (kill : Nat → Option Nat) (R : Nat → Value → World → Prop) (I : World → Prop) (kE : Nat) (E : World → Prop) (a0 : Act) (listed : Array Bool) (a : Act) (w : World) : Prop where
  size : listed.size = l.length
  inv : I w
  early : listed.getD kE false = false → E w
  tsize : a.tmps.size = a0.tmps.size
  defers : a.defers = a0.defers
  frame : ∀ t, (∀ j, dstOf l j = some t → listed.getD j false = false) → a.tmps.getD t undef = a0.tmps.getD t undef
  closed : ∀ k, listed.getD k false = true → ∀ j ∈ W.getD k [], listed.getD j false = true
  held : ∀ k, listed.getD k false = true → k < l.length → (∀ i, kill k = some i → listed.getD i false = false) → wordOf l R k a w

theorem getD_set_self {xs : Array Bool} {i : Nat} (h : i < xs.size) (b d : Bool) : (xs.setIfInBounds i b).getD i d = b := by
  simp [Array.getD_eq_getD_getElem?, Array.getElem?_setIfInBounds, h]
theorem getD_set_other {xs : Array Bool} {i j : Nat} (h : i ≠ j) (b d : Bool) : (xs.setIfInBounds i b).getD j d = xs.getD j d := by
  simp [Array.getD_eq_getD_getElem?, Array.getElem?_setIfInBounds_ne h]
theorem getD_none (m j : Nat) : (Array.replicate m false).getD j false = false := by
  rcases Nat.lt_or_ge j m with h | h
  · simp [h]
  · simp [h]
theorem getD_bools {xs : Array Bool} {i : Nat} (h : i < xs.size) : xs.getD i true = xs.getD i false := by
  simp [Array.getD_eq_getD_getElem?, h]

section
variable {P : Program} {l : List Oper} {W : List (List Nat)} {kill : Nat → Option Nat} {R : Nat → Value → World → Prop} {I : World → Prop} {kE : Nat} {E : World → Prop} {a0 : Act} {n : Nat}

theorem order_at (h : orderOk l W n = true) {i : Nat} {o : Oper} (hi : l[i]? = some o) : (∀ e ∈ o.after, Region.binds .any e = true → e.on < i) ∧ (∀ j ∈ W.getD i [], ∃ e ∈ o.after, Region.binds .any e = true ∧ (e.on = j ∨ j ∈ W.getD e.on [])) ∧ (∀ d, o.dst = some d → d < n) := by
  unfold orderOk at h
  rw [Bool.and_eq_true] at h
  have hil : i < l.length := (List.getElem?_eq_some_iff.1 hi).1
  have h1 := List.all_eq_true.1 h.1 i (List.mem_range.2 hil)
  simp only [hi, Option.map_some, Option.getD_some, Bool.and_eq_true] at h1
  obtain ⟨⟨h1, h2⟩, h3⟩ := h1
  refine ⟨fun e he hb => ?_, fun j hj => ?_, fun d hd => ?_⟩
  · have := List.all_eq_true.1 h1 e (by simpa using he)
    rw [hb] at this
    simpa using this
  · have := List.all_eq_true.1 h2 j hj
    obtain ⟨e, he, hb⟩ := List.any_eq_true.1 this
    simp only [Bool.and_eq_true, Bool.or_eq_true, beq_iff_eq, List.contains_iff_mem] at hb
    exact ⟨e, by simpa using he, hb.1, hb.2⟩
  · rw [hd] at h3
    simpa using h3
theorem order_nodup (h : orderOk l W n = true) : (dstsOf l).Nodup := by
  unfold orderOk at h
  rw [Bool.and_eq_true, decide_eq_true_eq] at h
  exact h.2
theorem dst_mem {i : Nat} {d : Tmp} (h : dstOf l i = some d) : d ∈ dstsOf l := by
  unfold dstOf at h
  cases hi : l[i]? with
  | none => rw [hi] at h; cases h
  | some o => rw [hi] at h; exact List.mem_filterMap.2 ⟨o, List.mem_of_getElem? hi, h⟩
theorem dst_inj : ∀ {l : List Oper}, (dstsOf l).Nodup → ∀ {i j : Nat} {d : Tmp}, dstOf l i = some d → dstOf l j = some d → i = j := by
  intro l
  induction l with
  | nil => intro _ i j d h; simp [dstOf] at h
  | cons o l ih =>
    intro hn i j d hi hj
    have tail : ∀ k, dstOf (o :: l) (k + 1) = dstOf l k := fun k => by simp [dstOf]
    have hn' : (dstsOf l).Nodup := by
      unfold dstsOf at hn ⊢
      rw [List.filterMap_cons] at hn
      split at hn
      · exact hn
      · exact (List.nodup_cons.1 hn).2
    have key : ∀ k, dstOf (o :: l) 0 = some d → dstOf l k = some d → False := by
      intro k h0 hk
      have ho : o.dst = some d := by simpa [dstOf] using h0
      unfold dstsOf at hn
      rw [List.filterMap_cons, ho] at hn
      exact (List.nodup_cons.1 hn).1 (dst_mem hk)
    cases i with
    | zero =>
      cases j with
      | zero => rfl
      | succ j => rw [tail] at hj; exact (key j hi hj).elim
    | succ i =>
      cases j with
      | zero => rw [tail] at hi; exact (key i hj hi).elim
      | succ j => rw [tail] at hi hj; rw [ih hn' hi hj]

theorem put_get_self {a : Act} {d : Tmp} {v : Value} (h : d < a.tmps.size) : (a.put (some d) v).tmps.getD d undef = v := by
  simp [Act.put, Array.getD_eq_getD_getElem?, Array.getElem?_setIfInBounds, h]
theorem put_get_other {a : Act} {dst : Option Tmp} {d : Tmp} {v : Value} (h : dst ≠ some d) : (a.put dst v).tmps.getD d undef = a.tmps.getD d undef := by
  cases dst with
  | none => rfl
  | some t =>
    have : t ≠ d := fun e => h (by rw [e])
    simp [Act.put, Array.getD_eq_getD_getElem?, Array.getElem?_setIfInBounds_ne this]
theorem put_size {a : Act} {dst : Option Tmp} {v : Value} : (a.put dst v).tmps.size = a.tmps.size := by
  cases dst <;> simp [Act.put]
theorem put_defers {a : Act} {dst : Option Tmp} {v : Value} : (a.put dst v).defers = a.defers := by
  cases dst <;> rfl

theorem RegInv.step {listed : Array Bool} {a : Act} {w w' : World} {i : Nat} {o : Oper} {v : Value} (hB : orderOk l W a0.tmps.size = true) (inv : RegInv P l W kill R I kE E a0 listed a w) (hi : l[i]? = some o) (hr : i ∈ Region.ready .any l.toArray listed)
    (hv : R i v w') (hb : I w') (hkeepE : i ≠ kE → kE ∉ W.getD i [] → E w → E w') (hkeep : ∀ j u, alive W kill i j → R j u w → R j u w') : RegInv P l W kill R I kE E a0 (listed.setIfInBounds i true) (a.put o.dst v) w' := by
  have hil : i < listed.size := by rw [inv.size]; exact (List.getElem?_eq_some_iff.1 hi).1
  obtain ⟨h1, h2, h3⟩ := order_at hB hi
  obtain ⟨hun, oi, hoi, hall⟩ := mem_ready.1 hr
  obtain rfl : oi = o := by
    have : l.toArray[i]? = some o := by simp [hi]
    rw [this] at hoi
    exact (Option.some.inj hoi).symm
  have hdone : ∀ m ∈ W.getD i [], listed.getD m false = true := fun m hmi => by
    obtain ⟨e, he, hbind, hje⟩ := h2 m hmi
    have hel := hall e he hbind
    rcases hje with rfl | hje
    · exact hel
    · exact inv.closed _ hel m hje
  refine ⟨by simp [inv.size], hb, fun hkE => ?_, by rw [put_size, inv.tsize], by rw [put_defers, inv.defers], fun t ht => ?_, fun k hk j hj => ?_, fun k hk hkl hkill => ?_⟩
  · have hne : i ≠ kE := fun e => by subst e; rw [getD_set_self hil] at hkE; cases hkE
    rw [getD_set_other hne] at hkE
    exact hkeepE hne (fun hm => by rw [hdone _ hm] at hkE; cases hkE) (inv.early hkE)
  · rw [put_get_other (fun e => by
      have := ht i (by simp [dstOf, hi, e])
      rw [getD_set_self hil] at this
      cases this)]
    exact inv.frame t (fun j hj => by
      have := ht j hj
      by_cases hij : i = j
      · subst hij; rw [getD_set_self hil] at this; cases this
      · rwa [getD_set_other hij] at this)
  · by_cases hki : i = k
    · subst hki
      obtain ⟨e, he, hbind, hj⟩ := h2 j hj
      have hel := hall e he hbind
      have hjl : listed.getD j false = true := by
        rcases hj with rfl | hj
        · exact hel
        · exact inv.closed _ hel j hj
      by_cases hij : i = j
      · subst hij; exact getD_set_self hil _ _
      · rw [getD_set_other hij]; exact hjl
    · rw [getD_set_other hki] at hk
      have := inv.closed k hk j hj
      by_cases hij : i = j
      · subst hij; exact getD_set_self hil _ _
      · rw [getD_set_other hij]; exact this
  · by_cases hki : i = k
    · subst hki
      unfold wordOf
      have hd : dstOf l i = oi.dst := by simp [dstOf, hi]
      rw [hd]
      cases hod : oi.dst with
      | none => exact ⟨v, hv⟩
      | some d =>
        show R i _ w'
        rw [put_get_self (by rw [inv.tsize]; exact h3 d hod)]
        exact hv
    · rw [getD_set_other hki] at hk
      have hne : ∀ m, kill k = some m → m ≠ i := fun m hm e => by
        subst e
        have := hkill _ hm
        rw [getD_set_self hil] at this
        cases this
      have hml : ∀ m, kill k = some m → listed.getD m false = false := fun m hm => by
        have := hkill m hm
        rwa [getD_set_other (fun e => hne m hm e.symm)] at this
      have hal : alive W kill i k := by
        refine ⟨fun e => hki e.symm, fun hik => ?_, fun m hm => ⟨hne m hm, fun hmi => ?_⟩⟩
        · have := inv.closed k hk i hik
          rw [getD_bools hil, this] at hun
          cases hun
        · obtain ⟨e, he, hbind, hje⟩ := h2 m hmi
          have hel := hall e he hbind
          have hm2 := hml m hm
          rcases hje with rfl | hje
          · rw [hel] at hm2; cases hm2
          · rw [inv.closed _ hel m hje] at hm2; cases hm2
      have hold := inv.held k hk hkl hml
      unfold wordOf at hold ⊢
      cases hd : dstOf l k with
      | none =>
        rw [hd] at hold
        obtain ⟨u, hu⟩ := hold
        exact ⟨u, hkeep k u hal hu⟩
      | some d =>
        rw [hd] at hold
        show R k _ w'
        rw [put_get_other (fun e => hki (dst_inj (order_nodup hB) (i := i) (j := k) (d := d) (by simp [dstOf, hi, e]) hd))]
        exact hkeep k _ hal hold

theorem all_listed {listed : Array Bool} (hs : listed.size = l.length) (hB : orderOk l W n = true) (hr : Region.ready .any l.toArray listed = []) : ∀ i, i < l.length → listed.getD i false = true := by
  intro i
  induction i using Nat.strongRecOn with
  | _ i ih =>
    intro hi
    cases hb : listed.getD i false with
    | true => rfl
    | false =>
      have ho : l[i]? = some l[i] := List.getElem?_eq_getElem hi
      obtain ⟨h1, _, _⟩ := order_at hB ho
      have : i ∈ Region.ready .any l.toArray listed := mem_ready.2 ⟨by rw [getD_bools (by omega)]; exact hb, l[i], by simp, fun e he hbind => ih e.on (h1 e he hbind) (by have := h1 e he hbind; omega)⟩
      rw [hr] at this
      cases this

/-- How many are not listed yet. -/
def openOnes (l : List Oper) (listed : Array Bool) : Nat := ((List.range l.length).filter fun i => !listed.getD i false).length
theorem open_lt {listed : Array Bool} {i : Nat} (hs : listed.size = l.length) (hi : i < l.length) (hu : listed.getD i false = false) : openOnes l (listed.setIfInBounds i true) < openOnes l listed := by
  unfold openOnes
  have h1 : (List.range l.length).filter (fun j => !(listed.setIfInBounds i true).getD j false) = ((List.range l.length).filter fun j => !listed.getD j false).filter (fun j => j != i) := by
    rw [List.filter_filter]
    refine List.filter_congr (fun j hj => ?_)
    by_cases hij : i = j
    · subst hij; rw [getD_set_self (by omega)]; simp
    · rw [getD_set_other hij]
      have : (j != i) = true := by simp; exact fun e => hij e.symm
      rw [this]; simp
  rw [h1]
  refine List.length_filter_lt_length_iff_exists.2 ⟨i, List.mem_filter.2 ⟨List.mem_range.2 hi, by simp [hu]⟩, by simp⟩

/-- What the i-th operation may lean on: an earlier one whose word stands till then. -/
def leans (W : List (List Nat)) (kill : Nat → Option Nat) (i j : Nat) : Prop := j ∈ W.getD i [] ∧ ∀ k, kill j = some k → k = i ∨ i ∈ W.getD k []

theorem wpAny_kill {Q : Exit → Act → World → Prop} (hB : orderOk l W a0.tmps.size = true)
    (hstep : ∀ i o, l[i]? = some o → ∀ (a : Act) (w : World), I w → a.tmps.size = a0.tmps.size → a.defers = a0.defers → (∀ t, (∀ j, dstOf l j = some t → i = j ∨ i ∈ W.getD j []) → a.tmps.getD t undef = a0.tmps.getD t undef) → (∀ j, leans W kill i j → wordOf l R j a w) → ((i = kE ∨ i ∈ W.getD kE []) → E w) →
      StepTo P l.toArray o a w fun v w' => R i v w' ∧ I w' ∧ (i ≠ kE → kE ∉ W.getD i [] → E w → E w') ∧ ∀ j u, alive W kill i j → R j u w → R j u w')
    (hend : ∀ (a : Act) (w : World), I w → a.tmps.size = a0.tmps.size → a.defers = a0.defers → (∀ t, t ∉ dstsOf l → a.tmps.getD t undef = a0.tmps.getD t undef) → (∀ j, j < l.length → (∀ i, kill j = some i → l.length ≤ i) → wordOf l R j a w) → Q .normal a w) :
    ∀ (fuel : Nat) (listed : Array Bool) (a : Act) (w : World), openOnes l listed ≤ fuel → RegInv P l W kill R I kE E a0 listed a w → wpAny P .any l.toArray Q fuel listed a w := by
  have fin : ∀ (listed : Array Bool) (a : Act) (w : World), RegInv P l W kill R I kE E a0 listed a w → (∀ i, i < l.length → listed.getD i false = true) → Q .normal a w := by
    intro listed a w inv hall
    refine hend a w inv.inv inv.tsize inv.defers (fun t ht => inv.frame t (fun j hj => absurd (dst_mem hj) ht)) (fun j hj hk => inv.held j (hall j hj) hj (fun i hi => ?_))
    have := hk i hi
    rw [Array.getD_eq_getD_getElem?, Array.getElem?_eq_none (by rw [inv.size]; exact this)]
    rfl
  intro fuel
  induction fuel with
  | zero =>
    intro listed a w hf inv
    have hall : ∀ i, i < l.length → listed.getD i false = true := by
      intro i hi
      cases hb : listed.getD i false with
      | true => rfl
      | false => have := open_lt inv.size hi hb; omega
    refine ⟨?_, fin listed a w inv hall⟩
    rw [List.eq_nil_iff_forall_not_mem]
    intro i hi
    obtain ⟨hu, o, ho, _⟩ := mem_ready.1 hi
    have hil : i < l.length := by
      have := (Array.getElem?_eq_some_iff.1 ho).1
      simpa using this
    rw [getD_bools (by rw [inv.size]; exact hil), hall i hil] at hu
    cases hu
  | succ fuel ih =>
    intro listed a w hf inv
    refine ⟨fun hr => fin listed a w inv (all_listed inv.size hB hr), fun i hi => ?_⟩
    obtain ⟨hu, o, ho, hall⟩ := mem_ready.1 hi
    have hio : l[i]? = some o := by simpa using ho
    have hil : i < l.length := (List.getElem?_eq_some_iff.1 hio).1
    rw [getD_bools (by rw [inv.size]; exact hil)] at hu
    refine (hstep i o hio a w inv.inv inv.tsize inv.defers (fun t ht => inv.frame t (fun j hj => ?_)) (fun j hj => ?_) (fun hE => inv.early ?_)).wpOp ho (fun v w' hv => ih _ _ _ ?_ (inv.step hB hio hi hv.1 hv.2.1 hv.2.2.1 hv.2.2.2))
    · rcases ht j hj with rfl | hij
      · exact hu
      · cases hkl : listed.getD j false with
        | false => rfl
        | true => rw [inv.closed j hkl i hij] at hu; cases hu
    · obtain ⟨e, he, hbind, hje⟩ := (order_at hB hio).2.1 j hj.1
      have hel := hall e he hbind
      have hei : e.on < i := (order_at hB hio).1 e he hbind
      have hjl : listed.getD j false = true := by
        rcases hje with rfl | hje
        · exact hel
        · exact inv.closed _ hel j hje
      refine inv.held j hjl ?_ (fun k hk => ?_)
      · apply Classical.byContradiction
        intro hge
        rw [Array.getD_eq_getD_getElem?, Array.getElem?_eq_none (by rw [inv.size]; omega)] at hjl
        cases hjl
      · rcases hj.2 k hk with rfl | hik
        · exact hu
        · cases hkl : listed.getD k false with
          | false => rfl
          | true => rw [inv.closed k hkl i hik] at hu; cases hu
    · rcases hE with rfl | hE
      · exact hu
      · cases hkl : listed.getD kE false with
        | false => rfl
        | true => rw [inv.closed kE hkl i hE] at hu; cases hu
    · have := open_lt inv.size hil hu
      omega

def leansB (W : List (List Nat)) (kill : Nat → Option Nat) (i j : Nat) : Bool := (W.getD i []).contains j && ((kill j).all fun k => k == i || (W.getD k []).contains i)
def aliveB (W : List (List Nat)) (kill : Nat → Option Nat) (i j : Nat) : Bool := j != i && !(W.getD j []).contains i && ((kill j).all fun k => k != i && !(W.getD i []).contains k)
theorem leans_of {W : List (List Nat)} {kill : Nat → Option Nat} {i j : Nat} (h : leansB W kill i j = true) : leans W kill i j := by
  unfold leansB at h
  simp only [Bool.and_eq_true, List.contains_iff_mem] at h
  refine ⟨h.1, fun k hk => ?_⟩
  have := h.2
  rw [hk] at this
  simpa using this
/-- May the i-th operation read the slot t as it was ahead of the region? -/
def freeB (l : List Oper) (W : List (List Nat)) (i t : Nat) : Bool := (List.range l.length).all fun j => !((dstOf l j).any (· == t)) || i == j || (W.getD j []).contains i
theorem free_of {i t : Nat} (h : freeB l W i t = true) : ∀ j, dstOf l j = some t → i = j ∨ i ∈ W.getD j [] := by
  intro j hj
  have hjl : j < l.length := by
    apply Classical.byContradiction
    intro hge
    unfold dstOf at hj
    rw [List.getElem?_eq_none (by omega)] at hj
    cases hj
  have := List.all_eq_true.1 h j (List.mem_range.2 hjl)
  rw [hj] at this
  simpa using this
theorem contains_no {xs : List Nat} {k : Nat} (h : k ∉ xs) : (!xs.contains k) = true := by
  rw [Bool.not_eq_true', ← Bool.not_eq_true, List.contains_iff_mem]
  exact h
theorem alive_B {W : List (List Nat)} {kill : Nat → Option Nat} {i j : Nat} (h : alive W kill i j) : aliveB W kill i j = true := by
  have h3 : ((kill j).all fun k => k != i && !(W.getD i []).contains k) = true := by
    cases hk : kill j with
    | none => rfl
    | some k =>
      obtain ⟨h1, h2⟩ := h.2.2 k hk
      rw [Option.all_some, Bool.and_eq_true]
      exact ⟨by simpa using h1, contains_no h2⟩
  unfold aliveB
  rw [Bool.and_eq_true, Bool.and_eq_true]
  exact ⟨⟨by simpa using h.1, contains_no h.2.1⟩, h3⟩
/-- Which words stand behind the i-th operation, of the first m. -/
theorem alive_in {W : List (List Nat)} {kill : Nat → Option Nat} {i j m : Nat} {js : List Nat} (h : alive W kill i j) (hall : ((List.range m).all fun j => !aliveB W kill i j || js.contains j) = true) (hj : j < m) : j ∈ js := by
  have := List.all_eq_true.1 hall j (List.mem_range.2 hj)
  rw [alive_B h] at this
  simpa using this

/-- The law. I: what holds of the world all the while; E: what holds of it till the operation kE; R: what is said of each operation; kill: which operation undoes it. -/
theorem region_full {id : Nat} {Q : Exit → Act → World → Prop} {w : World} (kill : Nat → Option Nat) (I : World → Prop) (kE : Nat) (E : World → Prop) (R : Nat → Value → World → Prop) (hm : P.follows .mixedOrders = true) (hB : orderOk l (allWaits l) a0.tmps.size = true) (hI : I w.drew) (hE : E w.drew)
    (hstep : ∀ i o, l[i]? = some o → ∀ (a : Act) (w' : World), I w' → a.tmps.size = a0.tmps.size → a.defers = a0.defers → (∀ t, (∀ j, dstOf l j = some t → i = j ∨ i ∈ (allWaits l).getD j []) → a.tmps.getD t undef = a0.tmps.getD t undef) → (∀ j, leans (allWaits l) kill i j → wordOf l R j a w') → ((i = kE ∨ i ∈ (allWaits l).getD kE []) → E w') →
      StepTo P l.toArray o a w' fun v w'' => R i v w'' ∧ I w'' ∧ (i ≠ kE → kE ∉ (allWaits l).getD i [] → E w' → E w'') ∧ ∀ j u, alive (allWaits l) kill i j → R j u w' → R j u w'')
    (hend : ∀ (a : Act) (w' : World), I w' → a.tmps.size = a0.tmps.size → a.defers = a0.defers → (∀ t, t ∉ dstsOf l → a.tmps.getD t undef = a0.tmps.getD t undef) → (∀ j, j < l.length → (∀ i, kill j = some i → l.length ≤ i) → wordOf l R j a w') → Q .normal a w') :
    (Code.region id l.toArray true).wp P Q a0 w := by
  refine wp_region_any hm (wpAny_kill hB hstep hend _ _ _ _ ?_ ⟨by simp, hI, fun _ => hE, rfl, rfl, fun _ _ => rfl, fun k hk => ?_, fun k hk => ?_⟩)
  · unfold openOnes
    refine Nat.le_trans (List.length_filter_le _ _) (by simp)
  · rw [getD_none] at hk; cases hk
  · rw [getD_none] at hk; cases hk

/-- .. where no operation reads a slot that the region writes over. -/
theorem region_early {id : Nat} {Q : Exit → Act → World → Prop} {w : World} (kill : Nat → Option Nat) (I : World → Prop) (kE : Nat) (E : World → Prop) (R : Nat → Value → World → Prop) (hm : P.follows .mixedOrders = true) (hB : orderOk l (allWaits l) a0.tmps.size = true) (hI : I w.drew) (hE : E w.drew)
    (hstep : ∀ i o, l[i]? = some o → ∀ (a : Act) (w' : World), I w' → a.tmps.size = a0.tmps.size → a.defers = a0.defers → (∀ t, t ∉ dstsOf l → a.tmps.getD t undef = a0.tmps.getD t undef) → (∀ j, leans (allWaits l) kill i j → wordOf l R j a w') → ((i = kE ∨ i ∈ (allWaits l).getD kE []) → E w') →
      StepTo P l.toArray o a w' fun v w'' => R i v w'' ∧ I w'' ∧ (i ≠ kE → kE ∉ (allWaits l).getD i [] → E w' → E w'') ∧ ∀ j u, alive (allWaits l) kill i j → R j u w' → R j u w'')
    (hend : ∀ (a : Act) (w' : World), I w' → a.tmps.size = a0.tmps.size → a.defers = a0.defers → (∀ t, t ∉ dstsOf l → a.tmps.getD t undef = a0.tmps.getD t undef) → (∀ j, j < l.length → (∀ i, kill j = some i → l.length ≤ i) → wordOf l R j a w') → Q .normal a w') :
    (Code.region id l.toArray true).wp P Q a0 w :=
  region_full kill I kE E R hm hB hI hE (fun i o hi a w' h1 h2 h3 h4 h5 h6 => hstep i o hi a w' h1 h2 h3 (fun t ht => h4 t (fun j hj => absurd (dst_mem hj) ht)) h5 h6) hend

theorem region_kill {id : Nat} {Q : Exit → Act → World → Prop} {w : World} (kill : Nat → Option Nat) (I : World → Prop) (R : Nat → Value → World → Prop) (hm : P.follows .mixedOrders = true) (hB : orderOk l (allWaits l) a0.tmps.size = true) (hI : I w.drew)
    (hstep : ∀ i o, l[i]? = some o → ∀ (a : Act) (w' : World), I w' → a.tmps.size = a0.tmps.size → a.defers = a0.defers → (∀ t, t ∉ dstsOf l → a.tmps.getD t undef = a0.tmps.getD t undef) → (∀ j, leans (allWaits l) kill i j → wordOf l R j a w') →
      StepTo P l.toArray o a w' fun v w'' => R i v w'' ∧ I w'' ∧ ∀ j u, alive (allWaits l) kill i j → R j u w' → R j u w'')
    (hend : ∀ (a : Act) (w' : World), I w' → a.tmps.size = a0.tmps.size → a.defers = a0.defers → (∀ t, t ∉ dstsOf l → a.tmps.getD t undef = a0.tmps.getD t undef) → (∀ j, j < l.length → (∀ i, kill j = some i → l.length ≤ i) → wordOf l R j a w') → Q .normal a w') :
    (Code.region id l.toArray true).wp P Q a0 w := by
  refine region_early kill I 0 (fun _ => True) R hm hB hI trivial (fun i o hi a w' hb hs hd hf hj _ => ?_) hend
  have h := hstep i o hi a w' hb hs hd hf hj
  unfold StepTo at h ⊢
  refine wpList_imp (fun a' w'' h' => ?_) (fun ex hne a' w'' h' => absurd h'.1 hne) h
  obtain ⟨e, v, e1, h1, h2, h3⟩ := h'
  exact ⟨e, v, e1, h1, h2, fun _ _ _ => trivial, h3⟩

/-- The frame behind a region: what it wrote, and all else as it was. -/
def fillIn (ds : List Nat) (xs : Array Value) : Nat → List Value → List Value
  | _, [] => []
  | k, v :: vs => (if ds.contains k then xs.getD k undef else v) :: fillIn ds xs (k + 1) vs
theorem fill_len (ds : List Nat) (xs : Array Value) : ∀ (vs : List Value) (k : Nat), (fillIn ds xs k vs).length = vs.length
  | [], _ => rfl
  | v :: vs, k => by simp [fillIn, fill_len ds xs vs (k + 1)]
theorem fill_at (ds : List Nat) (xs : Array Value) : ∀ (vs : List Value) (k i : Nat) (hi : i < vs.length), (fillIn ds xs k vs)[i]? = some (if ds.contains (k + i) then xs.getD (k + i) undef else vs[i])
  | v :: vs, k, 0, _ => by simp [fillIn]
  | v :: vs, k, i + 1, hi => by
    have := fill_at ds xs vs (k + 1) i (by simpa using hi)
    rw [show k + 1 + i = k + (i + 1) by omega] at this
    simpa [fillIn] using this
theorem act_frame {a a0 : Act} (hs : a.tmps.size = a0.tmps.size) (hd : a.defers = a0.defers) (hf : ∀ t, t ∉ dstsOf l → a.tmps.getD t undef = a0.tmps.getD t undef) : a = ⟨(fillIn (dstsOf l) a.tmps 0 a0.tmps.toList).toArray, a0.defers⟩ := by
  obtain ⟨xs, df⟩ := a
  simp only at hs hd hf
  subst hd
  congr 1
  apply Array.ext_getElem?
  intro i
  show xs[i]? = (fillIn (dstsOf l) xs 0 a0.tmps.toList).toArray[i]?
  have e0 : (fillIn (dstsOf l) xs 0 a0.tmps.toList).toArray[i]? = (fillIn (dstsOf l) xs 0 a0.tmps.toList)[i]? := by simp
  rw [e0]
  by_cases hi : i < a0.tmps.size
  · rw [fill_at _ _ _ _ i (by rw [Array.length_toList]; exact hi), Nat.zero_add, Array.getElem?_eq_getElem (by omega)]
    by_cases hc : (dstsOf l).contains i = true
    · rw [if_pos hc]
      simp [Array.getD_eq_getD_getElem?, hs, hi]
    · rw [if_neg hc]
      have := hf i (by simpa using hc)
      rw [Array.getD_eq_getD_getElem?, Array.getD_eq_getD_getElem?] at this
      rw [Array.getElem?_eq_getElem (by omega), Array.getElem?_eq_getElem hi, Option.getD_some, Option.getD_some] at this
      rw [this]
      simp
  · rw [Array.getElem?_eq_none (by omega), List.getElem?_eq_none (by rw [fill_len, Array.length_toList]; omega)]

/-- .. its slots written out. -/
theorem act_slots {a a0 : Act} (ds : List Nat) (he : dstsOf l = ds) (hs : a.tmps.size = a0.tmps.size) (hd : a.defers = a0.defers) (hf : ∀ t, t ∉ dstsOf l → a.tmps.getD t undef = a0.tmps.getD t undef) : a = ⟨(fillIn ds a.tmps 0 a0.tmps.toList).toArray, a0.defers⟩ := by
  subst he
  exact act_frame hs hd hf

theorem below_drew {B : Nat} {w W : World} (h : Below B w W) : Below B w W.drew := ⟨h.os, h.tape, h.output, h.size, h.block⟩

/-- The law, where all that is said stands when memory is laid. -/
theorem region_grow {id : Nat} {Q : Exit → Act → World → Prop} {w : World} (R : Nat → Value → World → Prop) (hm : P.follows .mixedOrders = true) (hB : orderOk l (allWaits l) a0.tmps.size = true) (hR : ∀ j v w w', R j v w → Below w.heap.size w w' → R j v w')
    (hstep : ∀ i o, l[i]? = some o → ∀ (a : Act) (w' : World), Below w.heap.size w w' → a.tmps.size = a0.tmps.size → a.defers = a0.defers → (∀ t, t ∉ dstsOf l → a.tmps.getD t undef = a0.tmps.getD t undef) → (∀ j, j ∈ (allWaits l).getD i [] → wordOf l R j a w') → StepAt P l.toArray o a w' (R i))
    (hend : ∀ (a : Act) (w' : World), Below w.heap.size w w' → a.tmps.size = a0.tmps.size → a.defers = a0.defers → (∀ t, t ∉ dstsOf l → a.tmps.getD t undef = a0.tmps.getD t undef) → (∀ j, j < l.length → wordOf l R j a w') → Q .normal a w') :
    (Code.region id l.toArray true).wp P Q a0 w := by
  refine region_kill (fun _ => none) (fun w' => Below w.heap.size w w') R hm hB (below_drew (Below.refl _ _)) (fun i o hi a w' hb hs hd hf hj => ?_) (fun a w' hb hs hd hf hj => hend a w' hb hs hd hf (fun j hjl => hj j hjl (fun i e => by cases e)))
  have h := hstep i o hi a w' hb hs hd hf (fun j hjm => hj j ⟨hjm, fun k e => by cases e⟩)
  unfold StepAt StepTo at h
  unfold StepTo
  refine wpList_imp (fun a' w'' h' => ?_) (fun ex hne a' w'' h' => absurd h'.1 hne) h
  obtain ⟨e, v, e1, h1, h2⟩ := h'
  exact ⟨e, v, e1, h1, hb.trans (h2.mono hb.size), fun j u _ hju => hR j u _ _ hju h2⟩
end
end Go.Proofs.Ythnjjonjhenifaa

/- A region that draws its order and whose operations read, ahead of a forced tail: walked in the text's order, the guards read by the kernel. -/
namespace Go.Proofs.Ythnjjonjhenifaa
set_option linter.unusedVariables false
set_option linter.unusedSimpArgs false
/-- The rest of the walk: a structure, so that nothing unfolds it. -/
structure StillAt (P : Program) (ops : Array Oper) (w : World) (Q : Act → Prop) (l : List Oper) (a : Act) : Prop where
  out : wpStill P ops w Q l a
theorem still_tail {P : Program} {id : Nat} {Q : Exit → Act → World → Prop} {a : Act} {w : World} {l : List Oper} (n : Nat) (hm : P.follows .mixedOrders = true) (hB : Region.lexTailB .any l.toArray n = true)
    (h : ∀ K : Act → Prop, (∀ a', wpList P l.toArray Q (l.drop n) a' w.drew → K a') → StillAt P l.toArray w.drew K (l.take n) a) : (Code.region id l.toArray true).wp P Q a w :=
  wp_region_still_tail n hm hB (h _ fun _ h => h).out
theorem still_take {P : Program} {ops : Array Oper} {w : World} {Q : Act → Prop} {a : Act} {o : Oper} {rest : List Oper} (hw : Region.wanted o (yielded ops a.tmps) = true)
    (h : ∀ K : Act → Prop, (∀ a, StillAt P ops w Q rest a → K a) → o.still P a w K) : StillAt P ops w Q (o :: rest) a := by
  refine ⟨?_⟩
  unfold wpStill
  rw [if_pos hw]
  exact h _ fun _ h => h.out
theorem still_skip {P : Program} {ops : Array Oper} {w : World} {Q : Act → Prop} {a : Act} {o : Oper} {rest : List Oper} (hw : Region.wanted o (yielded ops a.tmps) = false)
    (h : ∀ K : Act → Prop, (∀ a, StillAt P ops w Q rest a → K a) → K (a.put o.dst undef)) : StillAt P ops w Q (o :: rest) a := by
  refine ⟨?_⟩
  unfold wpStill
  rw [if_neg (by rw [hw]; decide)]
  exact h _ fun _ h => h.out
theorem still_nil {P : Program} {ops : Array Oper} {w : World} {Q : Act → Prop} {a : Act} (h : Q a) : StillAt P ops w Q [] a := ⟨h⟩
end Go.Proofs.Ythnjjonjhenifaa

/- slices.Compact and slices.Contains at slices of ints that the call itself owns, or reads. -/
namespace Go.Proofs.Ythnjjonjhenifaa
set_option linter.unusedVariables false
set_option linter.unusedSimpArgs false
open Go.RowKit Go.Sort

theorem holds_ints {w : World} {g : Nat} {cur : Array Value} {e : TypeId} {xs : List Int} (hb : w.heap[g]? = some (.cells cur e (0, 0))) (ht : cur.toList.take xs.length = ints xs) : Holds (Value.int .i64) w g 0 xs.toArray := by
  intro j hj
  have hj' : j < xs.length := by simpa using hj
  refine ⟨?_, by simp [World.frozen?, hb]⟩
  have h1 : (cur.toList.take xs.length)[j]? = (ints xs)[j]? := by rw [ht]
  rw [List.getElem?_take_of_lt hj'] at h1
  simp only [World.cell?, hb, Nat.zero_add]
  simp only [Option.isSome_none, Bool.false_eq_true, if_false]
  rw [← Array.getElem?_toList, h1]
  simp [hj', ints]

theorem heap_put {w : World} {g n : Nat} {os : Array Obj} {cur : Array Value} {e : TypeId} {fr : Nat × Nat} (d : Array Int) (hb : w.heap[g]? = some (.cells cur e fr)) :
    (grow (putRow (Value.int .i64) (Sort.ahead w n) g 0 d) os).heap[g]? = some (.cells (putCells (Value.int .i64) 0 d cur) e fr) := by
  have hg : g < w.heap.size := (Array.getElem?_eq_some_iff.1 hb).1
  rw [heap_grow_old _ _ (by simpa using hg)]
  simp [putRow, mapBlock, Sort.ahead, Array.getElem?_modify, hb, onCells]

theorem grownBy_put {w : World} {g n : Nat} {os : Array Obj} (d : Array Int) : w.grownBy (grow (putRow (Value.int .i64) (Sort.ahead w n) g 0 d) os) (some g) := by
  refine ⟨rfl, rfl, rfl, by simp, fun k hk hne => ?_⟩
  rw [heap_grow_old _ _ (by simpa using hk)]
  have : g ≠ k := fun e => hne (by rw [e])
  simp [putRow, mapBlock, Sort.ahead, Array.getElem?_modify, this]

theorem take_put (cur : Array Value) (ts zs : List Int) (h : ts.length ≤ cur.size) (hz : ts.take zs.length = zs) : (putCells (Value.int .i64) 0 ts.toArray cur).toList.take zs.length = ints zs := by
  have hle : zs.length ≤ ts.length := by have := congrArg List.length hz; simp at this; omega
  apply List.ext_getElem?
  intro j
  by_cases hj : j < zs.length
  · have e : zs[j]? = ts[j]? := by rw [← List.getElem?_take_of_lt (l := ts) hj, hz]
    rw [List.getElem?_take_of_lt hj, Array.getElem?_toList]
    simp only [ints, List.getElem?_map, e]
    simp [putCells, show j < ts.length by omega, show j < cur.size by omega]
  · rw [List.getElem?_take_eq_none (by omega), List.getElem?_eq_none (by simp [ints]; omega)]

/-- Behind a change in place (sorted, compacted) the same block is owned, cut to zs. -/
theorem own_put {w : World} {base g cap n : Nat} {e : TypeId} {os : Array Obj} {cur : Array Value} {ts zs : List Int} (hl : ts.length ≤ cur.size) (hz : ts.take zs.length = zs) (hbase : base ≤ g) (hb : w.heap[g]? = some (.cells cur e (0, 0)))
    (h1 : zs.length ≤ cap) (h2 : cap ≤ maxLen) (h3 : cur.size = cap * 1) :
    (grow (putRow (Value.int .i64) (Sort.ahead w n) g 0 ts.toArray) os).ownsRow base e 1 (.slice (some ⟨g, 0, none⟩) zs.length cap) zs.length (ints zs) :=
  ⟨by simp [ints], .inr ⟨g, cap, _, rfl, hbase, heap_put _ hb, h1, h2, by simp [putCells, h3], by rw [Nat.mul_one]; exact take_put cur ts zs hl hz⟩⟩

def sorted (xs : List Int) : List Int := xs.mergeSort fun x y => decide (x ≤ y)

theorem compact_own {w : World} {base e : Nat} {v : Value} {xs : List Int} (h : w.ownsRow base e 1 v xs.length (ints xs)) (hn : xs.length < 4611686018427387904) :
    Calls Try.prog 58 #[v] w fun r w' => ∃ A cap, r = .returned (.slice A (Lib.compact xs).length cap) ∧ w'.ownsRow base e 1 (.slice A (Lib.compact xs).length cap) (Lib.compact xs).length (ints (Lib.compact xs)) ∧ w.grownBy w' v.ownBlock := by
  rcases h.2 with ⟨rfl, h0⟩ | ⟨g, cap, cur, rfl, hg, hb, hc, hm, hs, ht⟩
  · have : xs = [] := List.length_eq_zero_iff.1 h0
    subst this
    refine (Try.slices_Compact_int_empty none 0 w).mono ?_
    rintro r w' ⟨rfl, rfl⟩
    have e0 : Lib.compact ([] : List Int) = [] := by simp [Lib.compact, Lib.compactUpTo]
    rw [e0]
    exact ⟨none, 0, rfl, World.ownsRow_nil _ _ _ _, World.grownBy.refl _ _⟩
  · rw [Nat.mul_one] at ht
    have hle : (Lib.compact xs).length ≤ xs.length := Lib.compact_length_le xs
    refine (Try.slices_Compact_int g 0 cap xs w (holds_ints hb ht) (by omega) hc).mono ?_
    rintro r w' ⟨rfl, q, rfl⟩
    have e1 : putRow (Value.int .i64) (Sort.ahead w q) g 0 (Lib.compact xs ++ List.replicate (xs.length - (Lib.compact xs).length) 0).toArray = grow (putRow (Value.int .i64) (Sort.ahead w q) g 0 (Lib.compact xs ++ List.replicate (xs.length - (Lib.compact xs).length) 0).toArray) #[] := by unfold grow; rw [Array.append_empty]
    rw [e1]
    exact ⟨some ⟨g, 0, none⟩, cap, rfl, own_put (by simp; omega) (by simp) hg hb (by omega) hm hs, grownBy_put _⟩

theorem cell_spot {w : World} {a : Addr} {v : Value} (h : w.cell? a = some v) : a.spot = none := by
  unfold World.cell? at h
  cases hs : a.spot with
  | none => rfl
  | some _ =>
    rw [hs] at h
    split at h <;> simp at h

theorem contains_at {B : Nat} {w : World} {A : Option Addr} {xs : List Int} {c : Nat} (h : IntsAt B w A xs) (hn : xs.length ≤ 9223372036854775807) (x : Int) :
    Calls Try.prog 44 #[.slice A xs.length c, .int .i64 x] w fun r w' => r = .returned (.bool (xs.contains x)) ∧ w = w' := by
  cases xs with
  | nil =>
    refine (Try.slices_Contains_int_empty A c x w).mono ?_
    rintro r w' ⟨rfl, rfl⟩
    exact ⟨rfl, rfl⟩
  | cons y ys =>
    obtain ⟨ad, rfl, _, hc0⟩ := h 0 (by simp)
    have hsp : ad.spot = none := cell_spot hc0
    obtain ⟨b, o, sp⟩ := ad
    simp only at hsp
    subst hsp
    refine (Try.slices_Contains_int b o (y :: ys).length c (y :: ys) x w (Nat.le_refl _) hn ?_).mono ?_
    · intro j hj
      obtain ⟨ad, e, _, hc⟩ := h j hj
      cases e
      rw [add_free] at hc
      rw [hc, List.getD_eq_getElem?_getD, List.getElem?_eq_getElem hj]
      rfl
    · rintro r w' ⟨rfl, rfl⟩
      exact ⟨by simp, rfl⟩
end Go.Proofs.Ythnjjonjhenifaa

/- ref's Has and Same (whether a number is in a row; whether two rows are one), strictly rising rows, and small laws. -/
namespace Go.Proofs.Ythnjjonjhenifaa
set_option linter.unusedVariables false
set_option linter.unusedSimpArgs false
open Go.RowKit

theorem info_int : (Try.prog.info? 3).map (fun i => (i.zero, i.size, i.bytes)) = some (some (.int .i64 0), 1, 8) := by kernel_rfl
theorem below_drewN {B : Nat} {w W : World} (h : Below B w W) (n : Nat) : Below B w (W.drewN n) := ⟨h.os, h.tape, h.output, h.size, h.block⟩

theorem ret_int {k : IntKind} {a b : Int} (h : a = b) : Ending.returned (.int k a) = .returned (.int k b) := by rw [h]

theorem ret_bool {a b : Bool} (h : a = b) : Ending.returned (.bool a) = .returned (.bool b) := by rw [h]

def hasB (l : List Int) (n : Int) : Bool := decide (n ∈ l)

theorem hasB_iff (l : List Int) (n : Int) : hasB l n = true ↔ n ∈ l := by simp [hasB]

theorem has_any {B : Nat} {A : Option Addr} (c : Nat) (xs : List Int) (n : Int) (w : World) (h : IntsAt B w A xs) (hb : xs.length ≤ 9223372036854775807) :
    Calls Try.prog 24 #[.slice A xs.length c, .int .i64 n] w fun e w' => e = .returned (.bool (hasB xs n)) ∧ w = w' := by
  have H := Lib.hid h
  clear h
  go_enter Try.func24, Try.ntmps24
  go_wp2
  go_loop [5] (fun i => ∃ k : Nat, k ≤ xs.length ∧ i = .int .i64 k ∧ Hid (n ∉ xs.take k)) (fun i => xs.length - (intOf i).toNat)
  case atStart => exact ⟨0, Nat.zero_le _, rfl, by show n ∉ xs.take 0; simp⟩
  case round =>
    obtain ⟨k, hk, rfl, HN⟩ := hrel
    by_cases hlt : k < xs.length
    · obtain ⟨ad, rfl, hc⟩ := H.out.cell k hlt
      obtain ⟨x, hx⟩ : ∃ x, x = xs[k] := ⟨_, rfl⟩
      rw [← hx] at hc
      have HX := Lib.hid hx
      clear hx
      by_cases he : x = n
      · subst he
        go_wp2
        go_ret
        exact ⟨ret_bool (by rw [eq_comm, hasB_iff, HX.out]; exact List.getElem_mem hlt), rfl⟩
      · have HN' : Hid (n ∉ xs.take (k + 1)) := by
          show n ∉ xs.take (k + 1)
          rw [List.take_succ_eq_append_getElem hlt, List.mem_append, List.mem_singleton, ← HX.out]
          rintro (q | q)
          · exact HN.out q
          · exact he q.symm
        go_wp2
        go_round
        case rel => exact ⟨k + 1, by omega, by go_num, HN'⟩
        case measure => simp [intOf]; omega
    · go_wp2
      go_ret
      refine ⟨ret_bool ?_, rfl⟩
      have h := HN.out
      rw [List.take_of_length_le (by omega)] at h
      simp [hasB, h]

theorem has_near {B : Nat} {A : Option Addr} {q : Bool} {n : Nat} (c : Nat) (xs : List Int) (x : Int) (w : World) (h : IntsAt B w A xs) (hn : xs.length = n) (hb : n ≤ 1000) (hq : decide (x ∈ xs) = q) :
    Calls Try.prog 24 #[.slice A n c, .int .i64 x] w fun e w' => e = .returned (.bool q) ∧ w = w' := by
  subst hn hq
  exact has_any c xs x w h (by omega)

theorem same_take {a b : List Int} {k : Nat} (ha : k < a.length) (hb : k < b.length) : a.take (k + 1) = b.take (k + 1) ↔ a.take k = b.take k ∧ a[k] = b[k] := by
  rw [List.take_succ_eq_append_getElem ha, List.take_succ_eq_append_getElem hb]
  constructor
  · intro h
    have := List.append_inj' h rfl
    exact ⟨this.1, by simpa using this.2⟩
  · rintro ⟨h1, h2⟩
    rw [h1, h2]

set_option maxHeartbeats 400000 in
theorem same_any {A1 A2 : Option Addr} {B : Nat} (c1 c2 : Nat) (a b : List Int) (w : World) (h1 : IntsAt B w A1 a) (h2 : IntsAt B w A2 b) (hb : a.length ≤ 9223372036854775807) :
    Calls Try.prog 18 #[.slice A1 a.length c1, .slice A2 b.length c2] w fun e w' => e = .returned (.bool (decide (a = b))) ∧ Below w.heap.size w w' := by
  have H1 := Lib.hid h1
  have H2 := Lib.hid h2
  clear h1 h2
  by_cases hl : a.length = b.length
  · have hl1 : ((a.length : Int) != (b.length : Int)) = false := by simp [hl]
    have HL := Lib.hid hl
    have hlt' : ∀ k, k < a.length → k < b.length := fun k h => by omega
    have HLT := Lib.hid hlt'
    clear hl hlt'
    go_enter Try.func18, Try.ntmps18
    go_wp2
    go_loopw [5] (fun u wr => ∃ k, k ≤ a.length ∧ u = .int .i64 (k : Nat) ∧ Hid (a.take k = b.take k) ∧ Hid (Below w.heap.size w wr)) (fun u _ => a.length - (intOf u).toNat)
    case atStart => exact ⟨0, Nat.zero_le _, rfl, by show a.take 0 = b.take 0; simp, Below.refl _ _⟩
    case round =>
      obtain ⟨k, hk, rfl, HT, HB⟩ := hrel
      by_cases hlt : k < a.length
      · have hltb := HLT.out k hlt
        obtain ⟨ad1, rfl, hx1⟩ := (H1.out.later HB.out).cell k hlt
        obtain ⟨ad2, rfl, hx2⟩ := (H2.out.later HB.out).cell k hltb
        have HS := Lib.hid (same_take hlt hltb)
        obtain ⟨x, hx⟩ : ∃ x, x = a[k] := ⟨_, rfl⟩
        obtain ⟨y, hy⟩ : ∃ y, y = b[k] := ⟨_, rfl⟩
        rw [← hx] at hx1 HS
        rw [← hy] at hx2 HS
        have HX := Lib.hid hx
        have HY := Lib.hid hy
        clear hx hy
        have hltb' : (k : Int) < (b.length : Int) := by omega
        by_cases he : x = y
        · have HT' : Hid (a.take (k + 1) = b.take (k + 1)) := HS.out.2 ⟨HT.out, he⟩
          subst he
          go_wp2
          go_quiet (fail)
          go_wp2
          have HB' := Lib.hid (below_drewN HB.out nq)
          go_roundw
          case rel => exact ⟨k + 1, by omega, by go_num, HT', HB'⟩
          case measure => simp [intOf]; omega
        · have hne : (x != y) = true := by simpa using he
          go_wp2
          go_quiet (fail)
          go_wp2
          go_ret
          refine ⟨ret_bool ?_, below_drewN HB.out _⟩
          rw [eq_comm, decide_eq_false_iff_not]
          rintro rfl
          exact he (HX.out.trans HY.out.symm)
      · go_wp2
        go_ret
        refine ⟨ret_bool ?_, HB.out⟩
        have := HT.out
        have hl := HL.out
        rw [List.take_of_length_le (by omega), List.take_of_length_le (by omega)] at this
        rw [eq_comm, decide_eq_true_iff]
        exact this
  · have hl1 : ((a.length : Int) != (b.length : Int)) = true := by simp; omega
    have HL := Lib.hid hl
    clear hl
    go_enter Try.func18, Try.ntmps18
    go_wp2
    go_ret
    refine ⟨ret_bool ?_, Below.refl _ _⟩
    rw [eq_comm, decide_eq_false_iff_not]
    rintro rfl
    exact HL.out rfl

theorem same_near {A1 A2 : Option Addr} {B n1 n2 : Nat} {a b : List Int} {q : Bool} (c1 c2 : Nat) (w : World) (h1 : IntsAt B w A1 a) (h2 : IntsAt B w A2 b) (e1 : a.length = n1) (e2 : b.length = n2) (hb : n1 ≤ 9223372036854775807) (hq : decide (a = b) = q) :
    Calls Try.prog 18 #[.slice A1 n1 c1, .slice A2 n2 c2] w fun e w' => e = .returned (.bool q) ∧ Below w.heap.size w w' := by
  subst e1 e2 hq
  exact same_any c1 c2 a b w h1 h2 hb

theorem card_le {α β : Type} [DecidableEq β] (R : α → β → Prop) : ∀ (L : List α) (S : List β), L.Nodup → (∀ i ∈ L, ∃ x ∈ S, R i x) →
    (∀ i ∈ L, ∀ j ∈ L, ∀ x, R i x → R j x → i = j) → L.length ≤ S.length := by
  intro L
  induction L with
  | nil => intro S _ _ _; simp
  | cons i L ih =>
    intro S hn ht hi
    rw [List.nodup_cons] at hn
    obtain ⟨x, hx, hR⟩ := ht i (.head _)
    have h := ih (S.erase x) hn.2 (fun j hj => by
      obtain ⟨y, hy, hRy⟩ := ht j (.tail _ hj)
      refine ⟨y, ?_, hRy⟩
      rw [List.mem_erase_of_ne]
      · exact hy
      · rintro rfl
        have := hi i (.head _) j (.tail _ hj) y hR hRy
        subst this
        exact hn.1 hj) (fun a ha b hb y h1 h2 => hi a (.tail _ ha) b (.tail _ hb) y h1 h2)
    have e := List.length_erase_of_mem hx
    have : 0 < S.length := List.length_pos_of_mem hx
    simp only [List.length_cons]
    omega

/-! ### Matchings, told by the right ones -/

theorem nodup_le {a b : List Int} (hn : a.Nodup) (hs : ∀ x ∈ a, x ∈ b) : a.length ≤ b.length :=
  card_le (fun x y => x = y) a b hn (fun x hx => ⟨x, hs x hx, rfl⟩) (fun _ _ _ _ _ h1 h2 => h1.trans h2.symm)

theorem sorted_perm (xs : List Int) : (sorted xs).Perm xs := List.mergeSort_perm xs _

theorem sorted_le (xs : List Int) : (sorted xs).Pairwise (· ≤ ·) := by
  have := List.pairwise_mergeSort (le := fun x y : Int => decide (x ≤ y)) (fun a b c h1 h2 => by simp only [decide_eq_true_eq] at *; omega) (fun a b => by simp only [Bool.or_eq_true, decide_eq_true_eq]; omega) xs
  exact this.imp (fun h => by simpa using h)

theorem sorted_lt {xs : List Int} (h : xs.Nodup) : (sorted xs).Pairwise (· < ·) := by
  have h1 := sorted_le xs
  have h2 : (sorted xs).Nodup := (sorted_perm xs).nodup_iff.2 h
  exact List.Pairwise.imp₂ (fun a b h1 h2 => by omega) h1 h2

/-- Strictly rising rows with the same numbers are one. -/
theorem rising_unique : ∀ {a b : List Int}, a.Pairwise (· < ·) → b.Pairwise (· < ·) → (∀ n, n ∈ a ↔ n ∈ b) → a = b := by
  intro a
  induction a with
  | nil =>
    intro b _ _ h
    cases b with
    | nil => rfl
    | cons y ys => exact absurd ((h y).2 (.head _)) (by simp)
  | cons x xs ih =>
    intro b ha hb h
    cases b with
    | nil => exact absurd ((h x).1 (.head _)) (by simp)
    | cons y ys =>
      rw [List.pairwise_cons] at ha hb
      have hxy : x = y := by
        rcases List.mem_cons.1 ((h x).1 (.head _)) with q | q
        · exact q
        · rcases List.mem_cons.1 ((h y).2 (.head _)) with q' | q'
          · exact q'.symm
          · have := hb.1 x q; have := ha.1 y q'; omega
      subst hxy
      rw [ih ha.2 hb.2 (fun n => ?_)]
      constructor
      · intro hn
        rcases List.mem_cons.1 ((h n).1 (.tail _ hn)) with q | q
        · have := ha.1 n hn; omega
        · exact q
      · intro hn
        rcases List.mem_cons.1 ((h n).2 (.tail _ hn)) with q | q
        · have := hb.1 n hn; omega
        · exact q

/-- A rising row of just these numbers. -/
def IsSet (ys : List Int) (P : Int → Prop) : Prop := ys.Pairwise (· < ·) ∧ ∀ n, n ∈ ys ↔ P n

theorem IntsAt.take {B : Nat} {w : World} {A : Option Addr} {xs : List Int} (h : IntsAt B w A xs) (n : Nat) : IntsAt B w A (xs.take n) := by
  intro i hi
  have hi' : i < xs.length := by rw [List.length_take] at hi; omega
  obtain ⟨ad, e, hb, hc⟩ := h i hi'
  exact ⟨ad, e, hb, by rw [hc]; simp⟩

theorem flatten_le {k : Nat} : ∀ {xss : List (List Int)}, (∀ r ∈ xss, r.length ≤ k) → xss.flatten.length ≤ xss.length * k := by
  intro xss
  induction xss with
  | nil => intro _; simp
  | cons r rs ih =>
    intro h
    have h1 := h r (.head _)
    have h2 := ih (fun r hr => h r (.tail _ hr))
    rw [List.flatten_cons, List.length_append, List.length_cons, Nat.succ_mul]
    omega

theorem rise_set {l : List Int} {n : Int} {k : Nat} (hl : l.Pairwise (· < ·)) (hn : n ∉ l) (hlow : ∀ x ∈ l.take k, x < n) (hk : ∀ (h : k < l.length), ¬ l[k] < n) : IsSet (l.take k ++ n :: l.drop k) (fun x => x = n ∨ x ∈ l) := by
  have hall : ∀ x ∈ l.drop k, n < x := by
    intro x hx
    by_cases hkl : k < l.length
    · have h1 := hk hkl
      have hmem : l[k] ∈ l := List.getElem_mem hkl
      have hne : l[k] ≠ n := fun e => hn (e ▸ hmem)
      have hp : (l.drop k).Pairwise (· < ·) := hl.sublist (List.drop_sublist _ _)
      rw [List.drop_eq_getElem_cons hkl] at hx hp
      rw [List.pairwise_cons] at hp
      rcases List.mem_cons.1 hx with q | q
      · rw [q]; omega
      · have := hp.1 x q; omega
    · rw [List.drop_eq_nil_of_le (by omega)] at hx
      cases hx
  refine ⟨?_, fun x => ?_⟩
  · rw [List.pairwise_append]
    refine ⟨hl.sublist (List.take_sublist _ _), List.pairwise_cons.2 ⟨hall, hl.sublist (List.drop_sublist _ _)⟩, ?_⟩
    intro a ha b hb
    have h1 := hlow a ha
    rcases List.mem_cons.1 hb with q | q
    · omega
    · have := hall b q; omega
  · rw [List.mem_append, List.mem_cons]
    constructor
    · rintro (h | h | h)
      · exact .inr (List.mem_of_mem_take h)
      · exact .inl h
      · exact .inr (List.mem_of_mem_drop h)
    · rintro (h | h)
      · exact .inr (.inl h)
      · rw [← List.take_append_drop k l, List.mem_append] at h
        rcases h with h | h
        · exact .inl h
        · exact .inr (.inr h)

theorem rising_nodup {xs : List Int} (h : xs.Pairwise (· < ·)) : xs.Nodup := h.imp (fun {a b} (h : a < b) (e : a = b) => by omega)

theorem set_unique {xs ys : List Int} {P : Int → Prop} (h1 : IsSet xs P) (h2 : IsSet ys P) : xs = ys := rising_unique h1.1 h2.1 (fun n => (h1.2 n).trans (h2.2 n).symm)
theorem alloc_below (w : World) (o : Obj) : Below w.heap.size w (w.alloc o) := (Below.refl _ _).alloc (Nat.le_refl _) _
end Go.Proofs.Ythnjjonjhenifaa

/- The order of literals (by size, then by sign), rows sorted by it, and what a sort by it and slices.Compact leave. -/
namespace Go.Proofs.Ythnjjonjhenifaa
set_option linter.unusedVariables false
set_option linter.unusedSimpArgs false
open Go.RowKit Go.Lib

/-- A literal's size, as the code reckons it. -/
def szI (x : Int) : Int := if x < 0 then IntKind.u64.wrap (IntKind.u64.wrap (wrap64 (-wrap64 (x + 1))) + 1) else IntKind.u64.wrap x
def lt2 (a b : Int) : Prop := szI a < szI b ∨ (szI a = szI b ∧ a < b)
instance lt2_dec (a b : Int) : Decidable (lt2 a b) := by unfold lt2; exact inferInstance
theorem lt2_irrefl (a : Int) : ¬ lt2 a a := by unfold lt2; omega
theorem lt2_trans {a b c : Int} (h1 : lt2 a b) (h2 : lt2 b c) : lt2 a c := by unfold lt2 at *; omega
theorem lt2_total {a b : Int} (h : a ≠ b) : lt2 a b ∨ lt2 b a := by unfold lt2; omega
theorem lt2_asymm {a b : Int} (h1 : lt2 a b) (h2 : lt2 b a) : False := lt2_irrefl a (lt2_trans h1 h2)

/-- Strictly sorted. -/
def Asc (xs : List Int) : Prop := xs.Pairwise lt2
theorem asc_unique : ∀ {a b : List Int}, Asc a → Asc b → (∀ n, n ∈ a ↔ n ∈ b) → a = b := by
  intro a
  induction a with
  | nil =>
    intro b _ _ h
    cases b with
    | nil => rfl
    | cons y ys => exact absurd ((h y).2 (.head _)) (by simp)
  | cons x xs ih =>
    intro b ha hb h
    cases b with
    | nil => exact absurd ((h x).1 (.head _)) (by simp)
    | cons y ys =>
      unfold Asc at ha hb
      rw [List.pairwise_cons] at ha hb
      have hxy : x = y := by
        rcases List.mem_cons.1 ((h x).1 (.head _)) with q | q
        · exact q
        · rcases List.mem_cons.1 ((h y).2 (.head _)) with q' | q'
          · exact q'.symm
          · exact (lt2_asymm (hb.1 x q) (ha.1 y q')).elim
      subst hxy
      rw [ih ha.2 hb.2 (fun n => ?_)]
      constructor
      · intro hn
        rcases List.mem_cons.1 ((h n).1 (.tail _ hn)) with q | q
        · subst q; exact (lt2_irrefl _ (ha.1 _ hn)).elim
        · exact q
      · intro hn
        rcases List.mem_cons.1 ((h n).2 (.tail _ hn)) with q | q
        · subst q; exact (lt2_irrefl _ (hb.1 _ hn)).elim
        · exact q
theorem asc_nodup {xs : List Int} (h : Asc xs) : xs.Nodup := h.imp (fun {a b} (h : lt2 a b) (e : a = b) => by subst e; exact lt2_irrefl _ h)

/-- A literal more, in its place, once; no 0. -/
def insL (ys : List Int) (x : Int) : List Int := if x = 0 ∨ x ∈ ys then ys else ys.takeWhile (fun y => decide (lt2 y x)) ++ x :: ys.dropWhile (fun y => decide (lt2 y x))
/-- A clause's literals, sorted. -/
def litSort (xs : List Int) : List Int := xs.foldl insL []
theorem drop_from {x : Int} : ∀ {ys : List Int}, Asc ys → x ∉ ys → ∀ y ∈ ys.dropWhile (fun y => decide (lt2 y x)), lt2 x y := by
  intro ys
  induction ys with
  | nil => intro _ _ y hy; simp at hy
  | cons z zs ih =>
    intro ha hx y hy
    unfold Asc at ha
    rw [List.pairwise_cons] at ha
    rw [List.dropWhile_cons] at hy
    by_cases hz : lt2 z x
    · rw [if_pos (decide_eq_true hz)] at hy
      exact ih ha.2 (fun h => hx (.tail _ h)) y hy
    · rw [if_neg (by simpa using hz)] at hy
      have hxz : lt2 x z := (lt2_total (fun e => hx (by rw [e]; exact .head _))).resolve_right hz
      rcases List.mem_cons.1 hy with q | q
      · rw [q]; exact hxz
      · exact lt2_trans hxz (ha.1 y q)
theorem take_to {x : Int} : ∀ {ys : List Int}, ∀ y ∈ ys.takeWhile (fun y => decide (lt2 y x)), lt2 y x := by
  intro ys
  induction ys with
  | nil => intro y hy; simp at hy
  | cons z zs ih =>
    intro y hy
    rw [List.takeWhile_cons] at hy
    split at hy
    · rename_i hz
      rcases List.mem_cons.1 hy with q | q
      · rw [q]; simpa using hz
      · exact ih y q
    · cases hy
theorem ins_asc {ys : List Int} {x : Int} (h : Asc ys) : Asc (insL ys x) := by
  unfold insL
  split
  · exact h
  · rename_i hx
    have hx2 : x ∉ ys := fun q => hx (.inr q)
    unfold Asc
    rw [List.pairwise_append]
    have h1 : Asc (ys.takeWhile fun y => decide (lt2 y x)) := h.sublist (List.takeWhile_sublist _)
    have h2 : Asc (ys.dropWhile fun y => decide (lt2 y x)) := h.sublist (List.dropWhile_sublist _)
    refine ⟨h1, List.pairwise_cons.2 ⟨drop_from h hx2, h2⟩, fun a ha b hb => ?_⟩
    have h3 := take_to a ha
    rcases List.mem_cons.1 hb with q | q
    · rw [q]; exact h3
    · exact lt2_trans h3 (drop_from h hx2 b q)
theorem ins_mem {ys : List Int} {x : Int} (h0 : (0 : Int) ∉ ys) (n : Int) : n ∈ insL ys x ↔ n ∈ ys ∨ (n = x ∧ n ≠ 0) := by
  unfold insL
  split
  · rename_i hx
    constructor
    · exact .inl
    · rintro (h | ⟨rfl, hn⟩)
      · exact h
      · exact hx.resolve_left hn
  · rename_i hx
    have e : n ∈ ys ↔ n ∈ ys.takeWhile (fun y => decide (lt2 y x)) ∨ n ∈ ys.dropWhile (fun y => decide (lt2 y x)) := by
      rw [← List.mem_append, List.takeWhile_append_dropWhile]
    rw [e, List.mem_append, List.mem_cons]
    constructor
    · rintro (h | h | h)
      · exact .inl (.inl h)
      · exact .inr ⟨h, fun q => hx (.inl (by omega))⟩
      · exact .inl (.inr h)
    · rintro ((h | h) | ⟨h, _⟩)
      · exact .inl h
      · exact .inr (.inr h)
      · exact .inr (.inl h)
theorem sort_step : ∀ (xs ys : List Int), Asc ys → (0 : Int) ∉ ys → Asc (xs.foldl insL ys) ∧ ∀ n, n ∈ xs.foldl insL ys ↔ n ∈ ys ∨ (n ∈ xs ∧ n ≠ 0)
  | [], ys, h, h0 => ⟨h, fun n => by simp⟩
  | x :: xs, ys, h, h0 => by
    have h1 : (0 : Int) ∉ insL ys x := by rw [ins_mem h0]; rintro (q | ⟨_, q⟩) <;> first | exact h0 q | exact q rfl
    obtain ⟨i1, i2⟩ := sort_step xs (insL ys x) (ins_asc h) h1
    refine ⟨i1, fun n => ?_⟩
    rw [List.foldl_cons, i2, ins_mem h0, List.mem_cons]
    constructor
    · rintro ((h | ⟨h, q⟩) | ⟨h, q⟩)
      · exact .inl h
      · exact .inr ⟨.inl h, q⟩
      · exact .inr ⟨.inr h, q⟩
    · rintro (h | ⟨h | h, q⟩)
      · exact .inl (.inl h)
      · exact .inl (.inr ⟨h, q⟩)
      · exact .inr ⟨h, q⟩
theorem sort_asc (xs : List Int) : Asc (litSort xs) := (sort_step xs [] List.Pairwise.nil (by simp)).1
theorem sort_mem {xs : List Int} {n : Int} : n ∈ litSort xs ↔ n ∈ xs ∧ n ≠ 0 := by
  have := (sort_step xs [] List.Pairwise.nil (by simp)).2 n
  unfold litSort
  rw [this]
  simp
theorem sort_of {xs ys : List Int} (h : Asc ys) (hm : ∀ n, n ∈ ys ↔ n ∈ xs ∧ n ≠ 0) : ys = litSort xs := asc_unique h (sort_asc xs) (fun n => (hm n).trans sort_mem.symm)
theorem sort_len (xs : List Int) : (litSort xs).length ≤ xs.length := nodup_le (asc_nodup (sort_asc xs)) (fun x hx => (sort_mem.1 hx).1)
theorem sort_sorted {xs : List Int} (h : Asc xs) (h0 : (0 : Int) ∉ xs) : litSort xs = xs := (sort_of h (fun n => ⟨fun hn => ⟨hn, fun e => h0 (e ▸ hn)⟩, fun hn => hn.1⟩)).symm

/-! ### What slices.Compact leaves -/
theorem toArr_get! (zs : List Int) (j : Nat) (h : j < zs.length) : zs.toArray[j]! = zs[j] := by simp [h]
theorem compactUp_lit (zs : List Int) (h : zs.Pairwise (fun a b => ¬ lt2 b a)) : ∀ m, m ≤ zs.length → Asc (compactUpTo zs.toArray m) ∧ ∀ n, n ∈ compactUpTo zs.toArray m ↔ ∃ j, ∃ hj : j < zs.length, j < m ∧ zs[j] = n := by
  intro m
  induction m with
  | zero => intro _; exact ⟨by simp [compactUpTo, Asc], by simp [compactUpTo]⟩
  | succ m ih =>
    intro hm
    obtain ⟨h1, h2⟩ := ih (by omega)
    have hmz : m < zs.length := by omega
    rw [compactUpTo_succ]
    have hle : ∀ j (hj : j < zs.length), j ≤ m → ¬ lt2 zs[m] zs[j] := by
      intro j hj hjm
      by_cases e : j = m
      · subst e; exact lt2_irrefl _
      · exact List.pairwise_iff_getElem.1 h j m hj hmz (by omega)
    by_cases hk : keeps zs.toArray m = true
    · rw [if_pos hk]
      have hlt : ∀ x ∈ compactUpTo zs.toArray m, lt2 x zs[m] := by
        intro x hx
        obtain ⟨j, hj, hjm, rfl⟩ := (h2 x).1 hx
        have hne : zs[m] ≠ zs[m - 1] := by
          intro e
          unfold keeps at hk
          rw [toArr_get! zs m hmz, toArr_get! zs (m - 1) (by omega)] at hk
          have := of_decide_eq_true hk
          rcases this with q | q
          · omega
          · exact q e
        have a := hle (m - 1) (by omega) (by omega)
        have a2 : lt2 zs[m - 1] zs[m] := (lt2_total (Ne.symm hne)).resolve_right a
        have b : ¬ lt2 zs[m - 1] zs[j] := by
          by_cases e : j = m - 1
          · subst e; exact lt2_irrefl _
          · exact List.pairwise_iff_getElem.1 h j (m - 1) hj (by omega) (by omega)
        by_cases e2 : zs[j] = zs[m - 1]
        · rw [e2]; exact a2
        · exact lt2_trans ((lt2_total e2).resolve_right b) a2
      rw [toArr_get! zs m hmz]
      refine ⟨List.pairwise_append.2 ⟨h1, by simp, fun x hx y hy => by rw [List.mem_singleton.1 hy]; exact hlt x hx⟩, fun n => ?_⟩
      rw [List.mem_append, h2, List.mem_singleton]
      constructor
      · rintro (⟨j, hj, hjm, e⟩ | e)
        · exact ⟨j, hj, by omega, e⟩
        · exact ⟨m, hmz, by omega, e.symm⟩
      · rintro ⟨j, hj, hjm, e⟩
        by_cases e2 : j = m
        · subst e2; exact .inr e.symm
        · exact .inl ⟨j, hj, by omega, e⟩
    · rw [if_neg hk, List.append_nil]
      refine ⟨h1, fun n => ?_⟩
      rw [h2]
      have hm0 : m ≠ 0 := by rintro rfl; exact hk (by simp [keeps])
      have he : zs[m] = zs[m - 1] := by
        apply Classical.byContradiction
        intro hne
        apply hk
        unfold keeps
        rw [toArr_get! zs m hmz, toArr_get! zs (m - 1) (by omega)]
        exact decide_eq_true (.inr hne)
      constructor
      · rintro ⟨j, hj, hjm, e⟩
        exact ⟨j, hj, by omega, e⟩
      · rintro ⟨j, hj, hjm, e⟩
        by_cases e2 : j = m
        · subst e2; exact ⟨j - 1, by omega, by omega, by rw [← he]; exact e⟩
        · exact ⟨j, hj, by omega, e⟩
theorem compact_lit (zs : List Int) (h : zs.Pairwise (fun a b => ¬ lt2 b a)) : Asc (compact zs) ∧ ∀ n, n ∈ compact zs ↔ n ∈ zs := by
  obtain ⟨h1, h2⟩ := compactUp_lit zs h zs.length (Nat.le_refl _)
  refine ⟨h1, fun n => (h2 n).trans ?_⟩
  rw [List.mem_iff_getElem]
  constructor
  · rintro ⟨j, hj, _, e⟩; exact ⟨j, hj, e⟩
  · rintro ⟨j, hj, e⟩; exact ⟨j, hj, hj, e⟩

/-! ### The comparison -/
def cfL (a b : Int) : Int := if Lib.compareInt (szI a) (szI b) = 0 then Lib.compareInt a b else Lib.compareInt (szI a) (szI b)
theorem lt_cf (a b : Int) : ltOf cfL a b = decide (lt2 a b) := by
  have key : cfL a b < 0 ↔ lt2 a b := by
    unfold cfL lt2 Lib.compareInt
    generalize szI a = p
    generalize szI b = q
    by_cases h1 : p < q
    · simp [h1]
    · by_cases h2 : q < p
      · simp [h1, h2]; omega
      · have : p = q := by omega
        subst this
        by_cases h3 : a < b
        · simp [h3]
        · by_cases h4 : b < a <;> simp [h3, h4]
  unfold ltOf
  rw [Bool.eq_iff_iff, decide_eq_true_eq, decide_eq_true_eq]
  exact key
theorem cf_swo : Sort.SWO (ltOf cfL) where
  irrefl x := by rw [lt_cf]; exact decide_eq_false (lt2_irrefl x)
  trans x y z h1 h2 := by rw [lt_cf, decide_eq_true_eq] at *; exact lt2_trans h1 h2
  ntrans x y z h1 h2 := by
    rw [lt_cf, decide_eq_false_iff_not] at *
    intro h
    by_cases e : x = y
    · subst e; exact h2 h
    · exact h2 (lt2_trans ((lt2_total e).resolve_left h1) h)
/-- What a sort leaves, told by a row. -/
theorem sorted_row {d d' : Array Int} (hp : Sort.PermIn 0 d.size d d') (hs : Sort.SortedIn (ltOf cfL) 0 d.size d') : d'.size = d.size ∧ (∀ n, n ∈ d'.toList ↔ n ∈ d.toList) ∧ d'.toList.Pairwise (fun a b => ¬ lt2 b a) := by
  obtain ⟨h1, _, h2⟩ := hp
  have e1 : d'.extract 0 d.size = d' := by rw [← h1]; exact Array.extract_size
  rw [e1, Array.extract_size] at h2
  refine ⟨h1, fun n => h2.mem_iff, ?_⟩
  rw [List.pairwise_iff_getElem]
  intro i j hi hj hij
  have hi' : i < d'.size := by simpa using hi
  have hj' : j < d'.size := by simpa using hj
  have := hs i j (Nat.zero_le _) hij (by omega)
  rw [lt_cf, decide_eq_false_iff_not] at this
  simpa [hi', hj'] using this
end Go.Proofs.Ythnjjonjhenifaa

/- lit.Sort: the walks of its comparison, and of what it calls of the library. -/
namespace Go.Proofs.Ythnjjonjhenifaa
set_option linter.unusedVariables false
set_option linter.unusedSimpArgs false
open Go.RowKit Go.Sort

theorem ret_u64 {a b : Int} (h : a = b) : Ending.returned (.int .u64 a) = .returned (.int .u64 b) := by rw [h]
theorem size_any (x : Int) (w : World) : Calls Try.prog 56 #[.int .i64 x] w fun e w' => e = .returned (.int .u64 (szI x)) ∧ w = w' := by
  by_cases h : x < 0
  · have H : Hid (szI x = IntKind.u64.wrap (IntKind.u64.wrap (wrap64 (-wrap64 (x + 1))) + 1)) := if_pos h
    go_enter Try.func56, Try.ntmps56
    go_wp2
    go_ret
    exact ⟨ret_u64 H.out.symm, rfl⟩
  · have H : Hid (szI x = IntKind.u64.wrap x) := if_neg h
    go_enter Try.func56, Try.ntmps56
    go_wp2
    go_ret
    exact ⟨ret_u64 H.out.symm, rfl⟩
theorem nanU_any (x : Int) (w : World) : Calls Try.prog 69 #[.int .u64 x] w fun e w' => e = .returned (.bool false) ∧ w = w' := by
  go_enter Try.func69, Try.ntmps69
  go_wp2
  go_ret
  exact ⟨rfl, rfl⟩
theorem cmpU_any (x y : Int) (w : World) : Calls Try.prog 55 #[.int .u64 x, .int .u64 y] w fun e w' => e = .returned (.int .i64 (Lib.compareInt x y)) ∧ w = w' := by
  by_cases h1 : x < y
  · have H : Hid (Lib.compareInt x y = -1) := by show _ = _; unfold Lib.compareInt; rw [if_pos h1]
    go_enter Try.func55, Try.ntmps55
    go_wp2_with (go_at_call 69; refine (nanU_any _ _).mono ?_; rintro e w' ⟨rfl, rfl⟩)
    go_ret
    exact ⟨ret_int H.out.symm, rfl⟩
  · by_cases h2 : y < x
    · have H : Hid (Lib.compareInt x y = 1) := by show _ = _; unfold Lib.compareInt; rw [if_neg h1, if_pos h2]
      go_enter Try.func55, Try.ntmps55
      go_wp2_with (go_at_call 69; refine (nanU_any _ _).mono ?_; rintro e w' ⟨rfl, rfl⟩)
      go_ret
      exact ⟨ret_int H.out.symm, rfl⟩
    · have H : Hid (Lib.compareInt x y = 0) := by show _ = _; unfold Lib.compareInt; rw [if_neg h1, if_neg (by omega)]
      go_enter Try.func55, Try.ntmps55
      go_wp2_with (go_at_call 69; refine (nanU_any _ _).mono ?_; rintro e w' ⟨rfl, rfl⟩)
      go_ret
      exact ⟨ret_int H.out.symm, rfl⟩
def orI (x y : Int) : Int := if x = 0 then y else x
theorem or_any (x y : Int) (b : Nat) (w : World) (h1 : w.cell? ⟨b, 0, none⟩ = some (.int .i64 x)) (h2 : w.cell? ⟨b, 1, none⟩ = some (.int .i64 y)) : Calls Try.prog 54 #[.slice (some ⟨b, 0, none⟩) 2 2] w fun e w' => e = .returned (.int .i64 (orI x y)) ∧ w = w' := by
  by_cases hx : x = 0
  · have H : Hid (orI x y = y) := if_pos hx
    subst hx
    by_cases hy : y = 0
    · subst hy
      go_enter Try.func54, Try.ntmps54
      go_wp2
      go_loop [8] (fun i => i = .int .i64 0 ∨ i = .int .i64 1 ∨ i = .int .i64 2) (fun i => 2 - (intOf i).toNat)
      case atStart => exact .inl rfl
      case round =>
        rcases hrel with rfl | rfl | rfl
        · go_wp2
          go_round
          case rel => exact .inr (.inl rfl)
          case measure => simp [intOf]
        · go_wp2
          go_round
          case rel => exact .inr (.inr rfl)
          case measure => simp [intOf]
        · go_wp2
          go_ret
          exact ⟨ret_int H.out.symm, rfl⟩
    · have hyb : (y != 0) = true := by simpa using hy
      go_enter Try.func54, Try.ntmps54
      go_wp2
      go_loop [8] (fun i => i = .int .i64 0 ∨ i = .int .i64 1) (fun i => 2 - (intOf i).toNat)
      case atStart => exact .inl rfl
      case round =>
        rcases hrel with rfl | rfl
        · go_wp2
          go_round
          case rel => exact .inr rfl
          case measure => simp [intOf]
        · go_wp2
          go_ret
          exact ⟨ret_int H.out.symm, rfl⟩
  · have H : Hid (orI x y = x) := if_neg hx
    have hxb : (x != 0) = true := by simpa using hx
    go_enter Try.func54, Try.ntmps54
    go_wp2
    go_loop [8] (fun i => i = .int .i64 0) (fun i => 2 - (intOf i).toNat)
    case atStart => rfl
    case round =>
      subst hrel
      go_wp2
      go_ret
      exact ⟨ret_int H.out.symm, rfl⟩
theorem alloc_grow (w : World) (o : Obj) : w.alloc o = grow w #[o] := by
  unfold World.alloc grow
  simp
theorem cmp_any (x y : Int) (w : World) : Calls Try.prog 53 #[.int .i64 x, .int .i64 y] w fun e w' => e = .returned (.int .i64 (cfL x y)) ∧ ∃ o, w' = w.alloc o := by
  have H : Hid (cfL x y = orI (Lib.compareInt (szI x) (szI y)) (Lib.compareInt x y)) := rfl
  obtain ⟨p, hp⟩ : ∃ p, p = Lib.compareInt (szI x) (szI y) := ⟨_, rfl⟩
  obtain ⟨q, hq⟩ : ∃ q, q = Lib.compareInt x y := ⟨_, rfl⟩
  rw [← hp, ← hq] at H
  have HU := Lib.hid (cmpU_any (szI x) (szI y) w)
  have HI := Lib.hid (Try.cmp_Compare_int x y w)
  rw [← hp] at HU
  rw [← hq] at HI
  have h1 : (w.alloc (.cells #[.int .i64 p, .int .i64 q] 3)).cell? ⟨w.heap.size, 0, none⟩ = some (.int .i64 p) := by simp [go_sem]
  have h2 : (w.alloc (.cells #[.int .i64 p, .int .i64 q] 3)).cell? ⟨w.heap.size, 1, none⟩ = some (.int .i64 q) := by simp [go_sem]
  have HO := Lib.hid (or_any p q w.heap.size _ h1 h2)
  clear h1 h2 hp hq
  go_enter Try.func53, Try.ntmps53
  go_wp2_with (first
    | (go_at_call 56; refine (size_any _ _).mono ?_; rintro e w' ⟨rfl, rfl⟩)
    | (go_at_call 55; refine HU.out.mono ?_; rintro e w' ⟨rfl, rfl⟩)
    | (go_at_call 57; refine HI.out.mono ?_; rintro e w' ⟨rfl, hw'⟩; subst hw')
    | (go_at_call 54; refine HO.out.mono ?_; rintro e w' ⟨rfl, rfl⟩))
  go_ret
  exact ⟨ret_int H.out.symm, _, rfl⟩
theorem zero_any (x : Int) (w : World) : Calls Try.prog 51 #[.int .i64 x] w fun e w' => e = .returned (.bool (decide (x = 0))) ∧ w = w' := by
  by_cases h : x = 0
  · subst h
    go_enter Try.func51, Try.ntmps51
    go_wp2
    go_ret
    exact ⟨rfl, rfl⟩
  · have hb : (x == 0) = false := by simpa using h
    have H : Hid (decide (x = 0) = false) := decide_eq_false h
    clear h
    go_enter Try.func51, Try.ntmps51
    go_wp2
    go_ret
    exact ⟨ret_bool H.out.symm, rfl⟩
end Go.Proofs.Ythnjjonjhenifaa

/- lit.Sort: a clause's literals, sorted, each once, without 0. -/
namespace Go.Proofs.Ythnjjonjhenifaa
set_option linter.unusedVariables false
set_option linter.unusedSimpArgs false
open Go.RowKit Go.Sort

theorem clone_own {A : Option Addr} {B n c : Nat} {xs : List Int} (w : World) (h : IntsAt B w A xs) (hn : xs.length = n) (hb : n ≤ 1000000) :
    Calls Try.prog 50 #[.slice A n c] w fun e w' => ∃ v, e = .returned v ∧ w'.ownsRow w.heap.size 3 1 v xs.length (ints xs) ∧ Below w.heap.size w w' := by
  subst hn
  cases A with
  | none =>
    have : xs = [] := by
      cases xs with
      | nil => rfl
      | cons y ys => obtain ⟨ad, e, _⟩ := h 0 (by simp); cases e
    subst this
    refine (Try.slices_Clone_int_nil _ _ w).mono ?_
    rintro e w' ⟨rfl, rfl⟩
    exact ⟨_, rfl, World.ownsRow_nil _ _ _ _, Below.refl _ _⟩
  | some ad =>
    cases xs with
    | nil =>
      refine (Try.slices_Clone_int_zero ad c w).mono ?_
      rintro e w' ⟨v, rfl, ho, _, hb⟩
      exact ⟨v, rfl, ho, hb⟩
    | cons y ys =>
      obtain ⟨ad', e, _, hc0⟩ := h 0 (by simp)
      cases e
      have hsp : ad.spot = none := by
        have := cell_spot hc0
        unfold Addr.add at this
        split at this <;> simp_all
      obtain ⟨b, o, sp⟩ := ad
      simp only at hsp
      subst hsp
      refine (Try.slices_Clone_int b o (y :: ys).length c (y :: ys) w (Nat.le_refl _) (by omega) (fun j hj => ?_)).mono ?_
      · obtain ⟨ad', e, _, hc⟩ := h j hj
        cases e
        rw [add_free] at hc
        rw [hc, List.getD_eq_getElem?_getD, List.getElem?_eq_getElem hj]
        rfl
      · rintro e w' ⟨v, rfl, ho, _, hb⟩
        rw [List.take_length] at ho
        exact ⟨v, rfl, ho, hb⟩

theorem idx_none (fv : Value) (c : Nat) (w : World) : Calls Try.prog 66 #[.slice none 0 c, fv] w fun e w' => e = .returned (.int .i64 (-1)) ∧ w = w' := by
  go_enter Try.func66, Try.ntmps66
  go_wp2
  go_loop [8] (fun i => i = .int .i64 0) (fun i => 2 - (intOf i).toNat)
  case atStart => rfl
  case round =>
    subst hrel
    go_wp2
    go_ret
    exact ⟨rfl, rfl⟩
theorem delF_none (fv : Value) (c : Nat) (w : World) : Calls Try.prog 49 #[.slice none 0 c, fv] w fun e w' => e = .returned (.slice none 0 c) ∧ w = w' := by
  go_enter Try.func49, Try.ntmps49
  go_wp2_with (go_at_call 66; refine (idx_none _ _ _).mono ?_; rintro e w' ⟨rfl, rfl⟩)
  go_ret
  exact ⟨rfl, rfl⟩

/-- slices.DeleteFunc at a slice that the call owns; the predicate asks the number alone. -/
theorem delF_own {g : Nat} {p : Int → Bool} {w : World} {base : Nat} {v : Value} {xs : List Int} (eg : ∀ args w, (callFunc g args).run Try.prog w = .ok (.enter g args) w) (hp : ∀ x W, Calls Try.prog g #[.int .i64 x] W fun e w' => e = .returned (.bool (p x)) ∧ W = w')
    (h : w.ownsRow base 3 1 v xs.length (ints xs)) (hn : xs.length ≤ 1000000) :
    Calls Try.prog 49 #[v, .func (.func g) #[] #[]] w fun r w' => ∃ v', r = .returned v' ∧ w'.ownsRow base 3 1 v' (xs.filter fun x => !p x).length (ints (xs.filter fun x => !p x)) ∧ w.grownBy w' v.ownBlock ∧ v'.ownBlock = v.ownBlock := by
  rcases h.2 with ⟨rfl, h0⟩ | ⟨gb, cap, cur, rfl, hg, hb, hc, hm, hs, ht⟩
  · have : xs = [] := List.length_eq_zero_iff.1 h0
    subst this
    refine (delF_none _ _ w).mono ?_
    rintro r w' ⟨rfl, rfl⟩
    exact ⟨_, rfl, World.ownsRow_nil _ _ _ _, World.grownBy.refl _ _, rfl⟩
  · rw [Nat.mul_one] at ht
    have hf : ∀ x W, FnGives Try.prog g #[] #[.int .i64 x] (.bool (p x)) W := fun x W => by
      show Calls Try.prog g #[.int .i64 x] W _
      exact (hp x W).mono fun e w' ⟨h1, h2⟩ => ⟨h1, 0, by rw [← h2]; rfl⟩
    have hle := List.length_filter_le (fun x => !p x) xs
    refine (AnyE.slices_DeleteFunc Try.delF (Value.int .i64) (fun _ => rfl) p g #[] eg 0 (fun w => by kernel_rfl) gb 0 cap xs.toArray w (fun W x _ => hf x W) (fun n os dk x _ => hf x _) (holds_ints hb ht) (by simp; omega) (by simpa using hc)).mono ?_
    rintro r w' ⟨rfl, q, rfl⟩
    have e1 : (xs.toArray.toList.filter fun x => !p x) = xs.filter fun x => !p x := by simp
    rw [e1]
    have e2 : ∀ (ts : Array Int), putRow (Value.int .i64) (Sort.ahead w q) gb 0 ts = grow (putRow (Value.int .i64) (Sort.ahead w q) gb 0 ts) #[] := fun ts => by unfold grow; rw [Array.append_empty]
    rw [e2]
    exact ⟨_, rfl, own_put (by simp; omega) (by simp) hg hb (by omega) hm hs, grownBy_put _, rfl⟩

/-- slices.SortFunc by the literals' order, at a slice that the call owns. -/
theorem sortF_own {w : World} {base : Nat} {v : Value} {xs : List Int} (h : w.ownsRow base 3 1 v xs.length (ints xs)) (hn : xs.length ≤ 1000000) :
    Calls Try.prog 52 #[v, .func (.func 53) #[] #[]] w fun r w' => r = .returned (.tuple #[]) ∧ ∃ ys : List Int, ys.length = xs.length ∧ (∀ n, n ∈ ys ↔ n ∈ xs) ∧ ys.Pairwise (fun a b => ¬ lt2 b a) ∧ w'.ownsRow base 3 1 v ys.length (ints ys) ∧ w.grownBy w' v.ownBlock := by
  rcases h.2 with ⟨rfl, h0⟩ | ⟨gb, cap, cur, rfl, hg, hb, hc, hm, hs, ht⟩
  · have : xs = [] := List.length_eq_zero_iff.1 h0
    subst this
    refine (AnyF.slices_SortFunc_none { Try.sortF with } none 0 _ w).mono ?_
    rintro r w' ⟨rfl, rfl⟩
    exact ⟨rfl, [], rfl, by simp, List.Pairwise.nil, World.ownsRow_nil _ _ _ _, World.grownBy.refl _ _⟩
  · rw [Nat.mul_one] at ht
    have eg : ∀ args w, (callFunc 53 args).run Try.prog w = .ok (.enter 53 args) w := enters_of Try.func53 (by kernel_rfl) rfl
    have hcmp : CmpLays1 Try.prog 53 #[] (Value.int .i64) cfL gb 0 xs.toArray.size w := fun m os dk _ x y => by
      refine (cmp_any x y _).mono ?_
      rintro e w' ⟨h1, o, h2⟩
      exact ⟨h1, 0, #[o], by rw [h2, alloc_grow]; rfl⟩
    refine (Any.slices_SortFunc Try.sortF (Value.int .i64) (fun _ => rfl) cfL cf_swo 53 #[] gb 0 cap xs.toArray w eg hcmp (holds_ints hb ht) (Array.getElem?_eq_some_iff.1 hb).1 (by simp; omega)).mono ?_
    rintro r w' ⟨rfl, d', n, os, hperm, hsort, rfl⟩
    obtain ⟨h1, h2, h3⟩ := sorted_row hperm hsort
    have hl : d'.toList.length = xs.length := by simpa using h1
    refine ⟨rfl, d'.toList, hl, fun n => by simpa using h2 n, h3, ?_, grownBy_put _⟩
    have := own_put (w := w) (n := n) (os := os) (ts := d'.toList) (zs := d'.toList) (by omega) List.take_length hg hb (by omega) hm hs
    unfold sortWorld
    rw [hl] at this ⊢
    simpa using this

def LitPost (B : Nat) (xs : List Int) (w : World) (e : Ending) (w' : World) : Prop :=
  ∃ A c, e = .returned (.slice A (litSort xs).length c) ∧ w'.ownsRow B 3 1 (.slice A (litSort xs).length c) (litSort xs).length (ints (litSort xs)) ∧ Below w.heap.size w w'

theorem own_slice {w : World} {base e n : Nat} {v : Value} {xs : List Value} (h : w.ownsRow base e 1 v n xs) : ∃ A c, v = .slice A n c := by
  rcases h.2 with ⟨rfl, rfl⟩ | ⟨g, cap, cur, rfl, _⟩
  · exact ⟨none, 0, rfl⟩
  · exact ⟨_, cap, rfl⟩
set_option maxHeartbeats 600000 in
theorem litSort_any {A : Option Addr} {B n : Nat} {xs : List Int} (c : Nat) (w : World) (h : IntsAt B w A xs) (hn : xs.length = n) (hb : n ≤ 1000000) : Calls Try.prog 32 #[.slice A n c] w (LitPost w.heap.size xs w) := by
  have HC := Lib.hid (clone_own (c := c) w h hn hb)
  have HL : Hid (xs.length ≤ 1000000) := by show _ ≤ _; omega
  have eg : ∀ args w, (callFunc 51 args).run Try.prog w = .ok (.enter 51 args) w := enters_of Try.func51 (by kernel_rfl) rfl
  have HEG := Lib.hid eg
  clear h hn hb eg
  go_enter Try.func32, Try.ntmps32
  go_wp2_with (first
    | (go_at_call 50; refine HC.out.mono ?_; rintro e w1 ⟨v1, rfl, ho1, hb1⟩
       have HO1 := Lib.hid ho1
       have HB1 := Lib.hid hb1
       have HD := Lib.hid (delF_own HEG.out zero_any ho1 HL.out)
       clear ho1 hb1)
    | (go_at_call 49; refine HD.out.mono ?_; rintro e w2 ⟨v2, rfl, ho2, hg2, he2⟩
       have HB2 := Lib.hid (below_grown HB1.out hg2 HB1.out.size (own_ge HO1.out))
       have hl2 := List.length_filter_le (fun x => !decide (x = 0)) xs
       have HS := Lib.hid (sortF_own ho2 (Nat.le_trans hl2 HL.out))
       have HO2 := Lib.hid ho2
       clear ho2 hg2 he2 hl2)
    | (go_at_call 52; refine HS.out.mono ?_; rintro e w3 ⟨rfl, ys, hyl, hym, hys, ho3, hg3⟩
       have HB3 := Lib.hid (below_grown HB2.out hg3 HB2.out.size (own_ge HO2.out))
       have hyl2 : ys.length ≤ 1000000 := (by have := List.length_filter_le (fun x => !decide (x = 0)) xs; have := HL.out; omega)
       have hcl := compact_lit ys hys
       have HE : Hid (Lib.compact ys = litSort xs) := sort_of hcl.1 (fun n => by rw [hcl.2, hym, List.mem_filter]; simp)
       have HK := Lib.hid (compact_own ho3 (Nat.lt_of_le_of_lt hyl2 (by decide)))
       have HO3 := Lib.hid ho3
       clear hyl hym hys ho3 hg3 hyl2 hcl)
    | (go_at_call 58; refine HK.out.mono ?_; rintro e w4 ⟨A4, c4, rfl, ho4, hg4⟩
       have HB4 := Lib.hid (below_grown HB3.out hg4 HB3.out.size (own_ge HO3.out))
       have HO4 := Lib.hid ho4
       clear ho4 hg4))
  go_ret
  refine ⟨A4, c4, congrArg (fun zs : List Int => Ending.returned (.slice A4 zs.length c4)) HE.out, ?_, HB4.out⟩
  have := HO4.out
  rw [HE.out] at this
  exact this
end Go.Proofs.Ythnjjonjhenifaa

/- slices.Equal at two slices of ints that read. -/
namespace Go.Proofs.Ythnjjonjhenifaa
set_option linter.unusedVariables false
set_option linter.unusedSimpArgs false
open Go.RowKit

theorem equal_any {B : Nat} {A1 A2 : Option Addr} {xs ys : List Int} {n m : Nat} {q : Bool} (c1 c2 : Nat) (w : World) (h1 : IntsAt B w A1 xs) (h2 : IntsAt B w A2 ys) (hn : xs.length = n) (hm : ys.length = m) (hb1 : n ≤ 1000000) (hb2 : m ≤ 1000000) (hq : decide (xs = ys) = q) :
    Calls Try.prog 59 #[.slice A1 n c1, .slice A2 m c2] w fun e w' => e = .returned (.bool q) ∧ Below w.heap.size w w' := by
  subst hn hm hq
  by_cases hl : xs.length = ys.length
  · cases hx : xs with
    | nil =>
      rw [hx] at hl
      have hy : ys = [] := List.length_eq_zero_iff.1 hl.symm
      subst hy
      refine (Try.slices_Equal_int_empty A1 A2 c1 0 c2 w (by omega)).mono ?_
      rintro e w' ⟨rfl, rfl⟩
      exact ⟨by simp, Below.refl _ _⟩
    | cons x xs' =>
      have hx0 : 0 < xs.length := by rw [hx]; simp
      obtain ⟨a1, rfl, _, hc1⟩ := h1 0 hx0
      obtain ⟨a2, rfl, _, hc2⟩ := h2 0 (by omega)
      rw [add_zero'] at hc1 hc2
      have s1 := cell_spot hc1
      have s2 := cell_spot hc2
      obtain ⟨b1, o1, p1⟩ := a1
      obtain ⟨b2, o2, p2⟩ := a2
      simp only at s1 s2
      subst s1 s2
      rw [← hx]
      refine (Try.slices_Equal_int b1 o1 xs.length c1 b2 o2 ys.length c2 xs ys w (Nat.le_refl _) (Nat.le_refl _) (by omega) (by omega) (fun j hj => ?_) (fun j hj => ?_)).mono ?_
      · obtain ⟨ad, e, _, hc⟩ := h1 j hj
        cases e
        rw [add_free] at hc
        rw [hc]
        simp [List.getD_eq_getElem?_getD, hj]
      · obtain ⟨ad, e, _, hc⟩ := h2 j hj
        cases e
        rw [add_free] at hc
        rw [hc]
        simp [List.getD_eq_getElem?_getD, hj]
      · rintro e w' ⟨rfl, q, rfl⟩
        refine ⟨ret_bool ?_, below_drewN (Below.refl _ _) q⟩
        rw [List.take_length, List.take_length, Bool.eq_iff_iff]
        simp
  · refine (Try.slices_Equal_int_lens A1 A2 xs.length c1 ys.length c2 w hl).mono ?_
    rintro e w' ⟨rfl, rfl⟩
    exact ⟨ret_bool (by rw [decide_eq_false (fun e => hl (by rw [e]))]), Below.refl _ _⟩

end Go.Proofs.Ythnjjonjhenifaa

/- Regions that draw their order, each operation's value told by a word that stands when memory is laid. -/
namespace Go.Proofs.Ythnjjonjhenifaa
set_option linter.unusedVariables false
set_option linter.unusedSimpArgs false
open Go.RowKit

inductive Word where
  | is (u : Value)
  | such (p : Value → World → Prop) (h : ∀ v w w', p v w → Below w.heap.size w w' → p v w')
def Word.holds : Word → Value → World → Prop
  | .is u, v, _ => v = u
  | .such p _, v, w => p v w
theorem Word.grow {W : Word} {v : Value} {w w' : World} (h : W.holds v w) (hb : Below w.heap.size w w') : W.holds v w' := by
  cases W with
  | is u => exact h
  | such p hp => exact hp v w w' h hb
def wordAt (ws : List Word) (j : Nat) : Value → World → Prop := (ws.getD j (.is undef)).holds
/-- The operation j's word, of its slot. -/
theorem region_words {P : Program} {l : List Oper} {id : Nat} {Q : Exit → Act → World → Prop} {a0 : Act} {w : World} (ws : List Word) (hm : P.follows .mixedOrders = true) (hB : orderOk l (allWaits l) a0.tmps.size = true)
    (hstep : eachOp (fun i o => ∀ (a : Act) (w' : World), Below w.heap.size w w' → a.tmps.size = a0.tmps.size → a.defers = a0.defers → (∀ t, t ∉ dstsOf l → a.tmps.getD t undef = a0.tmps.getD t undef) → (∀ j, ((allWaits l).getD i []).contains j = true → wordOf l (wordAt ws) j a w') → StepAt P l.toArray o a w' (wordAt ws i)) 0 l)
    (hend : ∀ (a : Act) (w' : World), Below w.heap.size w w' → a.tmps.size = a0.tmps.size → a.defers = a0.defers → (∀ t, t ∉ dstsOf l → a.tmps.getD t undef = a0.tmps.getD t undef) → (∀ j, j < l.length → wordOf l (wordAt ws) j a w') → Q .normal a w') :
    (Code.region id l.toArray true).wp P Q a0 w :=
  region_grow (wordAt ws) hm hB (fun j v w w' h hb => Word.grow (W := ws.getD j (.is undef)) h hb) (fun i o hi a w' hb hs hd hf hj => each_op hstep i o hi a w' hb hs hd hf (fun j hjm => hj j (List.contains_iff_mem.1 hjm))) hend

/-- .. where an operation may read a slot that a later one writes over. -/
theorem region_words2 {P : Program} {l : List Oper} {id : Nat} {Q : Exit → Act → World → Prop} {a0 : Act} {w : World} (ws : List Word) (hm : P.follows .mixedOrders = true) (hB : orderOk l (allWaits l) a0.tmps.size = true)
    (hstep : eachOp (fun i o => ∀ (a : Act) (w' : World), Below w.heap.size w w' → a.tmps.size = a0.tmps.size → a.defers = a0.defers → (∀ t, freeB l (allWaits l) i t = true → a.tmps.getD t undef = a0.tmps.getD t undef) → (∀ j, ((allWaits l).getD i []).contains j = true → wordOf l (wordAt ws) j a w') → StepAt P l.toArray o a w' (wordAt ws i)) 0 l)
    (hend : ∀ (a : Act) (w' : World), Below w.heap.size w w' → a.tmps.size = a0.tmps.size → a.defers = a0.defers → (∀ t, t ∉ dstsOf l → a.tmps.getD t undef = a0.tmps.getD t undef) → (∀ j, j < l.length → wordOf l (wordAt ws) j a w') → Q .normal a w') :
    (Code.region id l.toArray true).wp P Q a0 w := by
  refine region_full (fun _ => none) (fun w' => Below w.heap.size w w') 0 (fun _ => True) (wordAt ws) hm hB (below_drew (Below.refl _ _)) trivial (fun i o hi a w' hb hs hd hf hj _ => ?_) (fun a w' hb hs hd hf hj => hend a w' hb hs hd hf (fun j hjl => hj j hjl (fun i e => by cases e)))
  have h := each_op hstep i o hi a w' hb hs hd (fun t ht => hf t (free_of ht)) (fun j hjm => hj j ⟨List.contains_iff_mem.1 hjm, fun k e => by cases e⟩)
  unfold StepAt StepTo at h
  unfold StepTo
  refine wpList_imp (fun a' w'' h' => ?_) (fun ex hne a' w'' h' => absurd h'.1 hne) h
  obtain ⟨e, v, e1, h1, h2⟩ := h'
  exact ⟨e, v, e1, h1, hb.trans (h2.mono hb.size), fun _ _ _ => trivial, fun j u _ hju => Word.grow (W := ws.getD j (.is undef)) hju h2⟩

def intsW (xs : List Int) : Word := .such (fun v w => ∃ A c, v = .slice A xs.length c ∧ IntsAt w.heap.size w A xs) (fun v w w' h hb => let ⟨A, c, e, hi⟩ := h; ⟨A, c, e, (hi.later hb).mono hb.size⟩)
def intsC (xs : List Int) : Word := .such (fun v w => ∃ A c, v = .slice A xs.length c ∧ IntsAt w.heap.size w A xs ∧ xs.length ≤ c) (fun v w w' h hb => let ⟨A, c, e, hi, hc⟩ := h; ⟨A, c, e, (hi.later hb).mono hb.size, hc⟩)
def rowsW (xss : List (List Int)) : Word := .such (fun v w => ∃ A c, v = .slice A xss.length c ∧ RowsAt w.heap.size w A xss) (fun v w w' h hb => let ⟨A, c, e, hi⟩ := h; ⟨A, c, e, (hi.later hb).mono hb.size⟩)

section
variable {P : Program} {ops : Array Oper} {o : Oper} {a : Act} {w w' : World} {R : Value → World → Prop} {u : Value}
/-- A value, no world turned. -/
theorem st_still (hw : Region.wanted o (yielded ops a.tmps) = true) (h : (execOp a.eval o).run P w = .ok (.value u) w) (hR : R u w) : StepAt P ops o a w R := step_run hw h ⟨hR, Below.refl _ _⟩
theorem st_grow (hw : Region.wanted o (yielded ops a.tmps) = true) (h : (execOp a.eval o).run P w = .ok (.value u) w') (hR : R u w') (hb : Below w.heap.size w w') : StepAt P ops o a w R := step_run hw h ⟨hR, hb⟩
theorem st_call {f : FuncId} {args : Array Value} (hw : Region.wanted o (yielded ops a.tmps) = true) (h : (execOp a.eval o).run P w = .ok (.enter f args) w) (hc : Calls P f args w fun e w' => ∃ v, e = .returned v ∧ R v w' ∧ Below w.heap.size w w') : StepAt P ops o a w R := step_call hw h hc
theorem alloc_at (w : World) (o : Obj) : (w.alloc o).heap[w.heap.size]? = some o := heap_alloc_new w o
theorem new_ints (w : World) (xs : List Int) (e : Nat) : IntsAt (w.alloc (.cells (ints xs).toArray e)).heap.size (w.alloc (.cells (ints xs).toArray e)) (some ⟨w.heap.size, 0, none⟩) xs := by
  intro i hi
  refine ⟨_, rfl, by simp, ?_⟩
  rw [add_free, Nat.zero_add]
  have h := alloc_at w (.cells (ints xs).toArray e)
  generalize w.alloc (.cells (ints xs).toArray e) = w' at h ⊢
  simp [World.cell?, h, ints, hi]
end
end Go.Proofs.Ythnjjonjhenifaa
