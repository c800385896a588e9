/- Slices of ints, and slices of these, as a world holds them; what keeps them. -/
import Derived.WalkKit
import Derived.Test.YtebpdlnknfjoaaaMapV
namespace Go.Proofs.Ytebpdlnknfjoaaa
set_option linter.unusedVariables false
set_option linter.unusedSimpArgs false
open Go.RowKit

def ints (xs : List Int) : List Value := xs.map (Value.int .i64)

/-- The ints behind an address, all in blocks below B. -/
def IntsAt (B : Nat) (w : World) (A : Option Addr) (xs : List Int) : Prop :=
  ∀ i (h : i < xs.length), ∃ ad, A = some ad ∧ ad.block < B ∧ w.cell? (ad.add i) = some (.int .i64 xs[i])

/-- The rows of ints behind an address, all in blocks below B. -/
def RowsAt (B : Nat) (w : World) (A : Option Addr) (xss : List (List Int)) : Prop :=
  ∀ i (h : i < xss.length), ∃ ad A' c', A = some ad ∧ ad.block < B ∧ w.cell? (ad.add i) = some (.slice A' xss[i].length c') ∧ xss[i].length ≤ c' ∧ IntsAt B w A' xss[i]

theorem add_block (a : Addr) (n : Nat) : (a.add n).block = a.block := by unfold Addr.add; split <;> rfl
theorem add_free (b o n : Nat) : (⟨b, o, none⟩ : Addr).add n = ⟨b, o + n, none⟩ := by unfold Addr.add; split <;> simp_all
theorem cell_lt {w : World} {a : Addr} {v : Value} (h : w.cell? a = some v) : a.block < w.heap.size := World.block_lt_of_cell? w a h

theorem cell_alloc {w : World} {a : Addr} {v : Value} (h : w.cell? a = some v) (o : Obj) : (w.alloc o).cell? a = some v := by
  rw [← h]; exact World.cell?_of_block (Below.heap_alloc w o a.block (cell_lt h))
theorem frozen_alloc {w : World} {a : Addr} {v : Value} {b : Bool} (h : w.cell? a = some v) (hf : w.frozen? a = b) (o : Obj) : (w.alloc o).frozen? a = b := by
  rw [← hf]; exact World.frozen?_of_block (Below.heap_alloc w o a.block (cell_lt h))

section
variable {B B' : Nat} {w w' : World} {A : Option Addr} {xs : List Int} {xss : List (List Int)}
theorem IntsAt.mono (h : IntsAt B w A xs) (hB : B ≤ B') : IntsAt B' w A xs := fun i hi =>
  let ⟨ad, e, hb, hc⟩ := h i hi; ⟨ad, e, Nat.lt_of_lt_of_le hb hB, hc⟩
theorem IntsAt.move (h : IntsAt B w A xs) (hm : ∀ b, b < B → b < w.heap.size → w'.heap[b]? = w.heap[b]?) : IntsAt B w' A xs := fun i hi =>
  let ⟨ad, e, hb, hc⟩ := h i hi
  ⟨ad, e, hb, by rw [← hc]; exact World.cell?_of_block (by rw [add_block]; exact hm _ hb (by have := cell_lt hc; rwa [add_block] at this))⟩
theorem IntsAt.below (h : IntsAt B w A xs) (hb : Below B w w') : IntsAt B w' A xs := h.move (fun b h1 _ => hb.block b h1)
theorem IntsAt.now (h : IntsAt B w A xs) : IntsAt w.heap.size w A xs := fun i hi =>
  let ⟨ad, e, hb, hc⟩ := h i hi; ⟨ad, e, by have := cell_lt hc; rwa [add_block] at this, hc⟩
theorem IntsAt.later (h : IntsAt B w A xs) (hb : Below w.heap.size w w') : IntsAt B w' A xs := h.move (fun b _ h2 => hb.block b h2)
theorem IntsAt.nil (B : Nat) (w : World) (A : Option Addr) : IntsAt B w A [] := fun i hi => by simp at hi
theorem RowsAt.mono (h : RowsAt B w A xss) (hB : B ≤ B') : RowsAt B' w A xss := fun i hi =>
  let ⟨ad, A', c', e, hb, hc, hl, hi'⟩ := h i hi; ⟨ad, A', c', e, Nat.lt_of_lt_of_le hb hB, hc, hl, hi'.mono hB⟩
theorem RowsAt.move (h : RowsAt B w A xss) (hm : ∀ b, b < B → b < w.heap.size → w'.heap[b]? = w.heap[b]?) : RowsAt B w' A xss := fun i hi =>
  let ⟨ad, A', c', e, hb, hc, hl, hi'⟩ := h i hi
  ⟨ad, A', c', e, hb, by rw [← hc]; exact World.cell?_of_block (by rw [add_block]; exact hm _ hb (by have := cell_lt hc; rwa [add_block] at this)), hl, hi'.move hm⟩
theorem RowsAt.below (h : RowsAt B w A xss) (hb : Below B w w') : RowsAt B w' A xss := h.move (fun b h1 _ => hb.block b h1)
theorem RowsAt.later (h : RowsAt B w A xss) (hb : Below w.heap.size w w') : RowsAt B w' A xss := h.move (fun b _ h2 => hb.block b h2)
theorem RowsAt.now (h : RowsAt B w A xss) : RowsAt w.heap.size w A xss := fun i hi =>
  let ⟨ad, A', c', e, hb, hc, hl, hi'⟩ := h i hi; ⟨ad, A', c', e, by have := cell_lt hc; rwa [add_block] at this, hc, hl, hi'.now⟩
theorem RowsAt.row (h : RowsAt B w A xss) (i : Nat) (hi : i < xss.length) : ∃ ad A' c', A = some ad ∧ w.cell? (ad.add i) = some (.slice A' xss[i].length c') ∧ xss[i].length ≤ c' ∧ IntsAt B w A' xss[i] :=
  let ⟨ad, A', c', e, _, hc, hl, hi'⟩ := h i hi; ⟨ad, A', c', e, hc, hl, hi'⟩
theorem IntsAt.cell (h : IntsAt B w A xs) (i : Nat) (hi : i < xs.length) : ∃ ad, A = some ad ∧ w.cell? (ad.add i) = some (.int .i64 xs[i]) :=
  let ⟨ad, e, _, hc⟩ := h i hi; ⟨ad, e, hc⟩
end

/-- A slice value that reads as these ints. -/
def Ints (B : Nat) (w : World) (v : Value) (xs : List Int) : Prop := ∃ A c, v = .slice A xs.length c ∧ xs.length ≤ c ∧ IntsAt B w A xs
/-- A slice value that reads as these rows. -/
def Rows2 (B : Nat) (w : World) (v : Value) (xss : List (List Int)) : Prop := ∃ A c, v = .slice A xss.length c ∧ xss.length ≤ c ∧ RowsAt B w A xss

theorem Ints.of_own {w : World} {base e : Nat} {v : Value} {xs : List Int} (h : w.ownsRow base e 1 v xs.length (xs.map (Value.int .i64))) : Ints w.heap.size w v xs := by
  obtain ⟨_, h | ⟨g, cap, cur, rfl, hg, hb, hn, _, hs, ht⟩⟩ := h
  · obtain ⟨rfl, h0⟩ := h
    have : xs = [] := List.length_eq_zero_iff.1 h0
    subst this
    exact ⟨none, 0, rfl, Nat.le_refl _, IntsAt.nil _ _ _⟩
  · refine ⟨_, cap, rfl, hn, fun i hi => ⟨_, rfl, (Array.getElem?_eq_some_iff.1 hb).1, ?_⟩⟩
    rw [add_free]
    have e1 : (cur.toList.take (xs.length * 1))[i]? = some (.int .i64 xs[i]) := by rw [ht]; simp [hi]
    rw [List.getElem?_take_of_lt (by omega)] at e1
    simp only [World.cell?, hb, Nat.zero_add]
    simpa using e1

theorem Ints.later {B : Nat} {w w' : World} {v : Value} {xs : List Int} (h : Ints B w v xs) (hb : Below w.heap.size w w') : Ints B w' v xs :=
  let ⟨A, c, e, hc, hi⟩ := h; ⟨A, c, e, hc, hi.later hb⟩
theorem Ints.below {B : Nat} {w w' : World} {v : Value} {xs : List Int} (h : Ints B w v xs) (hb : Below B w w') : Ints B w' v xs :=
  let ⟨A, c, e, hc, hi⟩ := h; ⟨A, c, e, hc, hi.below hb⟩

/-! ### Two kinds of change -/
/-- Only these blocks have turned. -/
structure Fr (S : Nat → Prop) (w w' : World) : Prop where
  os : w'.os = w.os
  tape : w'.tape = w.tape
  output : w'.output = w.output
  size : w.heap.size ≤ w'.heap.size
  block : ∀ k, k < w.heap.size → ¬ S k → w'.heap[k]? = w.heap[k]?

section
variable {S S' : Nat → Prop} {w w1 w2 : World}
theorem Fr.refl (S : Nat → Prop) (w : World) : Fr S w w := ⟨rfl, rfl, rfl, Nat.le_refl _, fun _ _ _ => rfl⟩
theorem Fr.trans (h : Fr S w w1) (k : Fr S w1 w2) : Fr S w w2 :=
  ⟨k.os.trans h.os, k.tape.trans h.tape, k.output.trans h.output, Nat.le_trans h.size k.size, fun i hi hs => (k.block i (Nat.lt_of_lt_of_le hi h.size) hs).trans (h.block i hi hs)⟩
theorem Fr.mono (h : Fr S w w1) (hs : ∀ k, k < w.heap.size → S k → S' k) : Fr S' w w1 := ⟨h.os, h.tape, h.output, h.size, fun k hk hn => h.block k hk (fun q => hn (hs k hk q))⟩
theorem Fr.of_below {B : Nat} (h : Below B w w1) : Fr (fun k => B ≤ k) w w1 := ⟨h.os, h.tape, h.output, h.size, fun k _ hn => h.block k (by simpa using hn)⟩
theorem Fr.of_later (h : Below w.heap.size w w1) : Fr S w w1 := ⟨h.os, h.tape, h.output, h.size, fun k hk _ => h.block k hk⟩
theorem Fr.of_grown {row : Option Nat} (h : w.grownBy w1 row) : Fr (fun k => some k = row) w w1 := ⟨h.os, h.tape, h.output, h.size, fun k hk hn => h.block k hk hn⟩
theorem Fr.below {B : Nat} (h : Fr S w w1) (hs : ∀ k, k < B → ¬ S k) (hB : B ≤ w.heap.size) : Below B w w1 := ⟨h.os, h.tape, h.output, h.size, fun k hk => h.block k (Nat.lt_of_lt_of_le hk hB) (hs k hk)⟩
theorem Fr.setCell (w : World) (a : Addr) (u : Value) (hs : S a.block) : Fr S w (w.setCell a u) :=
  ⟨rfl, rfl, rfl, by simp, fun k _ hn => Below.heap_setCell w a u k (fun e => hn (e ▸ hs))⟩
theorem Fr.alloc (w : World) (o : Obj) : Fr S w (w.alloc o) := Fr.of_later ((Below.refl _ _).alloc (Nat.le_refl _) o)
theorem IntsAt.fr {B : Nat} {A : Option Addr} {xs : List Int} (h : IntsAt B w A xs) (hf : Fr S w w1) (hs : ∀ k, k < B → ¬ S k) : IntsAt B w1 A xs := h.move (fun b h1 h2 => hf.block b h2 (hs b h1))
theorem RowsAt.fr {B : Nat} {A : Option Addr} {xss : List (List Int)} (h : RowsAt B w A xss) (hf : Fr S w w1) (hs : ∀ k, k < B → ¬ S k) : RowsAt B w1 A xss := h.move (fun b h1 h2 => hf.block b h2 (hs b h1))
theorem Fr.drew (w : World) : Fr S w w.drew := Fr.of_later (Below.refl _ _).drew
end
end Go.Proofs.Ytebpdlnknfjoaaa
