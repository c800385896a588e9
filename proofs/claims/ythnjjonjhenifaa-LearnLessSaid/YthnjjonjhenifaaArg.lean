/- What an argument that can be read holds: rows of ints, ints. -/
import Derived.Deep.Matrix
import Derived.ProofKit
import Derived.OpenShut
import Derived.ShutString
import Derived.ChangeOld
import Derived.SizedLaws
import Derived.Test.YthnjjonjhenifaaBase
namespace Go.Proofs.Ythnjjonjhenifaa
set_option linter.unusedVariables false
set_option linter.unusedSimpArgs false
open Go.RowKit Go.ChangeShapes Go.WideShapes Go.ChangeAt Go.Deep

section
variable {H : Type} {enc : TypeId × Value → H} {P : Program} {w : World} {held : Bool}
theorem rows_of_trod {t e q : TypeId} {fuel : Nat} {a : Option Addr} {len cap : Nat} {x : DataW H × List MemPlace} (ht : P.underlying t = some (.slice e)) (he : P.underlying e = some (.slice q)) (hq : P.underlying q = some (.int .i64))
    (ce : P.cellsOf e = 1) (cq : P.cellsOf q = 1) (h : DataW.trod enc P w 0 (fun _ => true) held fuel t [.slice a len cap] = some x) :
    ∃ near : List (List Int), len = near.length ∧ RowsAt w.heap.size w a near := by
  rcases open_int_rows ht he hq ce cq h with ⟨hcs, _⟩ | ⟨a', len', cap', A, L, C, Z, hcs, _, hl, hm, _, hx⟩
  · simp at hcs
    obtain ⟨rfl, rfl, rfl⟩ := hcs
    exact ⟨[], rfl, fun i hi => by simp at hi⟩
  · simp at hcs
    obtain ⟨rfl, rfl, rfl⟩ := hcs
    refine ⟨(List.range len).map fun r => (Z r).take (L r), by simp, fun i hi => ?_⟩
    have hi' : i < len := by simpa using hi
    obtain ⟨h1, h2, h3, h4, h5, h6, h7⟩ := hx i (by omega)
    have hlen : ((Z i).take (L i)).length = L i := by rw [List.length_take]; omega
    have e0 : ((List.range len).map fun r => (Z r).take (L r))[i] = (Z i).take (L i) := by simp
    refine ⟨a', A i, C i, rfl, by have := cell_lt h1; rwa [add_block] at this, by rw [e0, hlen]; exact h1, by rw [e0, hlen]; exact h2, ?_⟩
    rw [e0]
    intro j hj
    rw [hlen] at hj
    cases hA : A i with
    | none => have := h6 hA; omega
    | some ad =>
      have hc := (h7 ad hA).2 j (by omega)
      refine ⟨ad, rfl, by have := cell_lt hc; rwa [add_block] at this, ?_⟩
      rw [hc, List.getD_eq_getElem?_getD, List.getElem?_eq_getElem (by omega), Option.getD_some]
      simp
theorem ints_of_trod {t e : TypeId} {fuel : Nat} {a : Option Addr} {len cap : Nat} {x : DataW H × List MemPlace} (ht : P.underlying t = some (.slice e)) (he : P.underlying e = some (.int .i64)) (ce : P.cellsOf e = 1)
    (h : DataW.trod enc P w 0 (fun _ => true) held fuel t [.slice a len cap] = some x) : ∃ xs : List Int, len = xs.length ∧ IntsAt w.heap.size w a xs := by
  rcases open_ints ht he ce h with ⟨hcs, _⟩ | ⟨a', len', cap', zs, hcs, _, hl, hm, hz, _, hcell, _⟩
  · simp at hcs
    obtain ⟨rfl, rfl, rfl⟩ := hcs
    exact ⟨[], rfl, IntsAt.nil _ _ _⟩
  · simp at hcs
    obtain ⟨rfl, rfl, rfl⟩ := hcs
    simp only [if_true] at hz
    have hlen : (zs.take len).length = len := by rw [List.length_take]; omega
    refine ⟨zs.take len, hlen.symm, fun i hi => ?_⟩
    rw [hlen] at hi
    have hc := hcell i (by omega)
    refine ⟨a', rfl, by have := cell_lt hc; rwa [add_block] at this, ?_⟩
    rw [hc, List.getD_eq_getElem?_getD, List.getElem?_eq_getElem (by omega), Option.getD_some]
    simp
theorem ints_cap_of_trod {t e : TypeId} {fuel : Nat} {a : Option Addr} {len cap : Nat} {x : DataW H × List MemPlace} (ht : P.underlying t = some (.slice e)) (he : P.underlying e = some (.int .i64)) (ce : P.cellsOf e = 1)
    (h : DataW.trod enc P w 0 (fun _ => true) held fuel t [.slice a len cap] = some x) : ∃ xs : List Int, len = xs.length ∧ IntsAt w.heap.size w a xs ∧ xs.length ≤ cap := by
  obtain ⟨xs, h1, h2⟩ := ints_of_trod ht he ce h
  refine ⟨xs, h1, h2, ?_⟩
  rcases open_ints ht he ce h with ⟨hcs, _⟩ | ⟨a', len', cap', zs, hcs, _, hl, hm, _⟩
  · simp at hcs
    omega
  · simp at hcs
    omega
end
end Go.Proofs.Ythnjjonjhenifaa
