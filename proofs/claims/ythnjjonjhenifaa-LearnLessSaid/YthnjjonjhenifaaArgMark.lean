/- What an argument that can be read holds: marks; ints within their kind. -/
import Derived.Deep.Fields
import Derived.Lib.SmallJoins
import Derived.Test.YthnjjonjhenifaaArg
import Derived.Test.YthnjjonjhenifaaWalks
import Derived.Test.YthnjjonjhenifaaWWords
namespace Go.Proofs.Ythnjjonjhenifaa
set_option linter.unusedVariables false
set_option linter.unusedSimpArgs false
open Go.RowKit Go.ChangeShapes Go.WideShapes Go.ChangeAt Go.Deep Go.Joins

theorem list_choice {α : Type} {Q : Nat → α → Prop} : ∀ (n : Nat), (∀ i, i < n → ∃ x, Q i x) → ∃ xs : List α, xs.length = n ∧ ∀ i (h : i < xs.length), Q i xs[i]
  | 0, _ => ⟨[], rfl, fun i h => by simp at h⟩
  | n + 1, h => by
    obtain ⟨xs, hl, hx⟩ := list_choice n (fun i hi => h i (by omega))
    obtain ⟨x, hq⟩ := h n (by omega)
    refine ⟨xs ++ [x], by simp [hl], fun i hi => ?_⟩
    have hi' : i < xs.length + 1 := by simpa using hi
    by_cases e : i < xs.length
    · rw [List.getElem_append_left e]; exact hx i e
    · have : i = n := by omega
      subst this
      rw [List.getElem_append_right (by omega)]
      simpa [hl] using hq
theorem r64_of {n : Int} (h : (Lit.int .i64 n).wf = true) : R64 n := by
  simp [Lit.wf, IntKind.min, IntKind.max, IntKind.signed, IntKind.bits] at h
  unfold R64
  omega

section
variable {H : Type} {enc : TypeId × Value → H} {P : Program} {w : World} {held : Bool}
/-- The j-th field of the i-th struct of a slice. -/
theorem field_of_trod {t e : TypeId} {fs : Array Field} {fuel : Nat} {cs : List Value} {x : DataW H × List MemPlace} (ht : P.underlying t = some (.slice e)) (he : P.underlying e = some (.struct fs))
    (hone : oneCellFields P fs = true) (hC : P.cellsOf e = fs.size) (h : DataW.trod enc P w 0 (fun _ => true) held fuel t cs = some x) :
    ∃ (a : Option Addr) (len cap : Nat), cs = [.slice a len cap] ∧ len ≤ cap ∧ ∀ i, i < len → ∀ (j : Nat) (f : Field), fs[j]? = some f →
      ∃ (ad : Addr) (v : Value) (n : Nat) (y : DataW H × List MemPlace), a = some ad ∧ ad.block < w.heap.size ∧ w.cell? (ad.add (i * fs.size + j)) = some v ∧ DataW.trod enc P w 0 (fun _ => true) held n f.type [v] = some y := by
  rcases open_slice ht h with ⟨rfl, rfl⟩ | ⟨a, len, cap, m, n, D, Pl, rfl, hb, hl, hm, hmm, hx, hi⟩
  · exact ⟨none, 0, 0, rfl, Nat.le_refl _, fun i hi => by omega⟩
  · refine ⟨some a, len, cap, rfl, hl, fun i hil j f hj => ?_⟩
    simp only [if_true] at hmm
    obtain ⟨cs', hc, ht'⟩ := hi i (by omega)
    rw [hC] at hc
    obtain ⟨ys, n', _, _, hlen, hyl, hf⟩ := DataW.trod_struct he ht'
    obtain ⟨_, hcl, hat⟩ := World.cells?_some hc
    obtain ⟨ho, hk⟩ := hone_of hone j f hj
    have hjl : j < fs.size := (Array.getElem?_eq_some_iff.1 hj).1
    have hcell := hat j hjl
    have h1 := hf j f hj
    rw [ho, hk, take1_drop cs' j undef (by omega)] at h1
    have hys : ys[j]? = some (ys[j]'(by omega)) := List.getElem?_eq_getElem (by omega)
    have hw : w.cell? (a.add (i * fs.size + j)) = some (cs'.getD j undef) := by
      rw [← Go.Deep.add_add, hcell, List.getD_eq_getElem?_getD, List.getElem?_eq_getElem (by omega)]
      rfl
    refine ⟨a, _, n', _, rfl, ?_, hw, h1.trans hys⟩
    have := cell_lt hw
    rwa [add_block] at this
theorem ints_r_of_trod {t e : TypeId} {fuel : Nat} {a : Option Addr} {len cap : Nat} {x : DataW H × List MemPlace} (ht : P.underlying t = some (.slice e)) (he : P.underlying e = some (.int .i64)) (ce : P.cellsOf e = 1)
    (h : DataW.trod enc P w 0 (fun _ => true) held fuel t [.slice a len cap] = some x) : ∃ xs : List Int, len = xs.length ∧ IntsAt w.heap.size w a xs ∧ xs.length ≤ cap ∧ ∀ x ∈ xs, R64 x := by
  rcases open_ints ht he ce h with ⟨hcs, _⟩ | ⟨a', len', cap', zs, hcs, _, hl, hm, hz, _, hcell, hwf⟩
  · simp at hcs
    obtain ⟨rfl, rfl, rfl⟩ := hcs
    exact ⟨[], rfl, IntsAt.nil _ _ _, Nat.le_refl _, fun x hx => by cases hx⟩
  · simp at hcs
    obtain ⟨rfl, rfl, rfl⟩ := hcs
    simp only [if_true] at hz
    have hlen : (zs.take len).length = len := by rw [List.length_take]; omega
    refine ⟨zs.take len, hlen.symm, fun i hi => ?_, by omega, fun x hx => r64_of (hwf x (List.mem_of_mem_take hx))⟩
    rw [hlen] at hi
    have hc := hcell i (by omega)
    refine ⟨a', rfl, by have := cell_lt hc; rwa [add_block] at this, ?_⟩
    rw [hc, List.getD_eq_getElem?_getD, List.getElem?_eq_getElem (by omega), Option.getD_some]
    simp
theorem int_of_trod {t : TypeId} {fuel : Nat} {v : Value} {x : DataW H × List MemPlace} (ht : P.underlying t = some (.int .i64)) (h : DataW.trod enc P w 0 (fun _ => true) held fuel t [v] = some x) : ∃ k, v = .int .i64 k ∧ R64 k := by
  obtain ⟨k, hk, _, hw⟩ := DataW.trod_int ht h
  simp at hk
  exact ⟨k, hk, r64_of hw⟩
theorem marks_of_trod {t e q : TypeId} {f0 f1 f2 : Field} {fuel : Nat} {a : Option Addr} {len cap : Nat} {x : DataW H × List MemPlace} (ht : P.underlying t = some (.slice e)) (he : P.underlying e = some (.struct #[f0, f1, f2]))
    (hone : oneCellFields P #[f0, f1, f2] = true) (hC : P.cellsOf e = 3) (h0 : P.underlying f0.type = some (.int .i64)) (h1 : P.underlying f1.type = some (.int .i64)) (h2 : P.underlying f2.type = some (.slice q)) (hq : P.underlying q = some (.int .i64)) (cq : P.cellsOf q = 1)
    (h : DataW.trod enc P w 0 (fun _ => true) held fuel t [.slice a len cap] = some x) : ∃ ms : List Mk, len = ms.length ∧ MarksAt w.heap.size w a ms ∧ ms.length ≤ cap ∧ MsOk ms := by
  obtain ⟨a', len', cap', e', hl, hi⟩ := field_of_trod ht he hone hC h
  simp at e'
  obtain ⟨rfl, rfl, rfl⟩ := e'
  obtain ⟨ms, hml, hm⟩ := list_choice (Q := fun i (m : Mk) => (∃ ad A' c', a = some ad ∧ ad.block < w.heap.size ∧ w.cell? (ad.add (i * 3)) = some (.int .i64 m.lit) ∧
      w.cell? ⟨(ad.add (i * 3)).block, (ad.add (i * 3)).off + 1, none⟩ = some (.int .i64 m.lev) ∧
      w.cell? ⟨(ad.add (i * 3)).block, (ad.add (i * 3)).off + 2, none⟩ = some (.slice A' m.why.length c') ∧ m.why.length ≤ c' ∧ IntsAt w.heap.size w A' m.why) ∧ R64 m.lit ∧ ∀ x ∈ m.why, R64 x) len (fun i hil => by
    obtain ⟨ad, v0, n0, y0, ha, hb, hc0, ht0⟩ := hi i hil 0 f0 rfl
    obtain ⟨ad1, v1, n1, y1, ha1, hb1, hc1, ht1⟩ := hi i hil 1 f1 rfl
    obtain ⟨ad2, v2, n2, y2, ha2, hb2, hc2, ht2⟩ := hi i hil 2 f2 rfl
    rw [ha] at ha1 ha2
    cases ha1
    cases ha2
    obtain ⟨l, rfl, hlr⟩ := int_of_trod h0 ht0
    obtain ⟨lv, rfl, _⟩ := int_of_trod h1 ht1
    obtain ⟨A', n', c', hv2⟩ : ∃ A' n' c', v2 = .slice A' n' c' := by
      rcases open_slice h2 ht2 with ⟨e0, _⟩ | ⟨a1, len1, cap1, _, _, _, _, e1, _⟩
      · simp at e0
        exact ⟨_, _, _, e0⟩
      · simp at e1
        exact ⟨_, _, _, e1⟩
    subst hv2
    obtain ⟨ys, hyl, hyi, hyc, hyr⟩ := ints_r_of_trod h2 hq cq ht2
    subst hyl
    refine ⟨⟨l, lv, ys⟩, ⟨ad, A', c', ha, hb, ?_, ?_, ?_, hyc, hyi⟩, hlr, hyr⟩
    · exact hc0
    · rw [← Go.Proofs.YthnjjonjhenifaaW.PrintWords.add_field _ _ 1 (by omega)]
      exact hc1
    · rw [← Go.Proofs.YthnjjonjhenifaaW.PrintWords.add_field _ _ 2 (by omega)]
      exact hc2)
  have hat : ∀ i (h : i < ms.length), atM ms i = ms[i] := fun i h => atM_eq h
  refine ⟨ms, hml.symm, fun i hi => ?_, by omega, ⟨fun i hi => ?_, fun i hi => ?_⟩⟩
  · rw [hat i hi]
    exact (hm i hi).1
  · rw [hat i hi]
    exact (hm i hi).2.1
  · rw [hat i hi]
    exact (hm i hi).2.2
end
end Go.Proofs.Ythnjjonjhenifaa
