/- Rows of ints: the print's words and mine. -/
import Derived.Test.YthnjjonjhenifaaWalks
import Derived.Test.YthnjjonjhenifaaWWords
namespace Go.Proofs.Ythnjjonjhenifaa
set_option linter.unusedVariables false
set_option linter.unusedSimpArgs false
open Go.RowKit Go.Proofs.YthnjjonjhenifaaW.PrintWords

theorem int_C {B : Nat} {w : World} {A : Option Addr} {xs : List Int} (h : IntsAt B w A xs) (hl : xs.length ≤ 1000000) : Kd.C (Kd.int .i64) w A xs.length xs := by
  refine ⟨rfl, by omega, fun h0 => ?_⟩
  obtain ⟨ad, e, _, _⟩ := h 0 h0
  refine ⟨ad, e, fun j p hp => ⟨[.int .i64 p], rfl, rfl, fun i u hu => ?_⟩⟩
  obtain ⟨hj, rfl⟩ := List.getElem?_eq_some_iff.1 hp
  obtain ⟨ad', e', _, hc⟩ := h j hj
  rw [e] at e'
  cases e'
  match i, hu with
  | 0, hu =>
    cases hu
    show w.cell? (ad.add (j * 1 + 0)) = _
    rw [Nat.mul_one, Nat.add_zero]
    exact hc
  | i + 1, hu => simp at hu
theorem int_of_C {w : World} {A : Option Addr} {xs : List Int} (h : Kd.C (Kd.int .i64) w A xs.length xs) : IntsAt w.heap.size w A xs := by
  intro i hi
  obtain ⟨ad, e, hc⟩ := Kd.at_int h (i : Int) (by omega) (by omega)
  rw [Int.toNat_natCast] at hc
  refine ⟨ad, e, by have := cell_lt hc; rwa [add_block] at this, ?_⟩
  rw [hc]
  unfold rd
  rw [Int.toNat_natCast, List.getD_eq_getElem?_getD, List.getElem?_eq_getElem hi]
  rfl
theorem int_R {w : World} {b : Nat} {ok : Nat → Prop} {v : Value} {xs : List Int} (h : Kd.R (Kd.int .i64) 3 w b ok v xs) : ∃ A c, v = .slice A xs.length c ∧ xs.length ≤ c ∧ IntsAt w.heap.size w A xs := by
  obtain ⟨A, c, e, hc, hC⟩ := Kd.R_reads h
  exact ⟨A, c, e, hc, int_of_C hC⟩
end Go.Proofs.Ythnjjonjhenifaa
