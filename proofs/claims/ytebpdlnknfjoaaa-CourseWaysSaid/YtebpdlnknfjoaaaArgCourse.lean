/- What an argument that can be read holds: classes, ways, a course. -/
import Derived.Deep.Fields
import Derived.Lib.SmallJoins
import Derived.Test.YtebpdlnknfjoaaaArg
import Derived.Test.YtebpdlnknfjoaaaCourse
namespace Go.Proofs.Ytebpdlnknfjoaaa
set_option linter.unusedVariables false
set_option linter.unusedSimpArgs false
open Go.RowKit Go.ChangeShapes Go.WideShapes Go.ChangeAt Go.Deep Go.Joins

theorem list_choice {α : Type} {Q : Nat → α → Prop} : ∀ (n : Nat), (∀ i, i < n → ∃ x, Q i x) → ∃ xs : List α, xs.length = n ∧ ∀ i (h : i < xs.length), Q i xs[i]
  | 0, _ => ⟨[], rfl, fun i h => by simp at h⟩
  | n + 1, h => by
    obtain ⟨xs, hl, hx⟩ := list_choice n (fun i hi => h i (by omega))
    obtain ⟨x, hq⟩ := h n (by omega)
    refine ⟨xs ++ [x], by simp [hl], fun i hi => ?_⟩
    have hi' : i < xs.length + 1 := by simpa using hi
    by_cases e : i < xs.length
    · rw [List.getElem_append_left e]; exact hx i e
    · have : i = n := by omega
      subst this
      rw [List.getElem_append_right (by omega)]
      simpa [hl] using hq

section
variable {H : Type} {enc : TypeId × Value → H} {P : Program} {w : World} {held : Bool}
/-- The j-th field of the i-th struct of a slice. -/
theorem field_of_trod {t e : TypeId} {fs : Array Field} {fuel : Nat} {cs : List Value} {x : DataW H × List MemPlace} (ht : P.underlying t = some (.slice e)) (he : P.underlying e = some (.struct fs))
    (hone : oneCellFields P fs = true) (hC : P.cellsOf e = fs.size) (h : DataW.trod enc P w 0 (fun _ => true) held fuel t cs = some x) :
    ∃ (a : Option Addr) (len cap : Nat), cs = [.slice a len cap] ∧ len ≤ cap ∧ ∀ i, i < len → ∀ (j : Nat) (f : Field), fs[j]? = some f →
      ∃ (ad : Addr) (v : Value) (n : Nat) (y : DataW H × List MemPlace), a = some ad ∧ ad.block < w.heap.size ∧ w.cell? (ad.add (i * fs.size + j)) = some v ∧ DataW.trod enc P w 0 (fun _ => true) held n f.type [v] = some y := by
  rcases open_slice ht h with ⟨rfl, rfl⟩ | ⟨a, len, cap, m, n, D, Pl, rfl, hb, hl, hm, hmm, hx, hi⟩
  · exact ⟨none, 0, 0, rfl, Nat.le_refl _, fun i hi => by omega⟩
  · refine ⟨some a, len, cap, rfl, hl, fun i hil j f hj => ?_⟩
    simp only [if_true] at hmm
    obtain ⟨cs', hc, ht'⟩ := hi i (by omega)
    rw [hC] at hc
    obtain ⟨ys, n', _, _, hlen, hyl, hf⟩ := DataW.trod_struct he ht'
    obtain ⟨_, hcl, hat⟩ := World.cells?_some hc
    obtain ⟨ho, hk⟩ := hone_of hone j f hj
    have hjl : j < fs.size := (Array.getElem?_eq_some_iff.1 hj).1
    have hcell := hat j hjl
    have h1 := hf j f hj
    rw [ho, hk, take1_drop cs' j undef (by omega)] at h1
    have hys : ys[j]? = some (ys[j]'(by omega)) := List.getElem?_eq_getElem (by omega)
    have hw : w.cell? (a.add (i * fs.size + j)) = some (cs'.getD j undef) := by
      rw [← Go.Deep.add_add, hcell, List.getD_eq_getElem?_getD, List.getElem?_eq_getElem (by omega)]
      rfl
    refine ⟨a, _, n', _, rfl, ?_, hw, h1.trans hys⟩
    have := cell_lt hw
    rwa [add_block] at this
theorem overs_of_trod {t e q : TypeId} {fs : Array Field} {f : Field} {fuel : Nat} {a : Option Addr} {len cap : Nat} {x : DataW H × List MemPlace} (ht : P.underlying t = some (.slice e)) (he : P.underlying e = some (.struct fs))
    (hone : oneCellFields P fs = true) (hC : P.cellsOf e = fs.size) (hs : fs.size = 7) (hf : fs[6]? = some f) (hq : f.type = q) (hk : P.underlying q = some (.int .i64)) (h : DataW.trod enc P w 0 (fun _ => true) held fuel t [.slice a len cap] = some x) :
    ∃ os : List Int, len = os.length ∧ OversAt w.heap.size w a os := by
  obtain ⟨a', len', cap', e', hl, hi⟩ := field_of_trod ht he hone hC h
  simp at e'
  obtain ⟨rfl, rfl, rfl⟩ := e'
  obtain ⟨os, hol, ho⟩ := list_choice (Q := fun i (k : Int) => ∃ ad, a = some ad ∧ ad.block < w.heap.size ∧ w.cell? (ad.add (i * 7 + 6)) = some (.int .i64 k)) len (fun i hil => by
    obtain ⟨ad, v, n, y, ha, hb, hc, ht'⟩ := hi i hil 6 f hf
    obtain ⟨k, hk1, _⟩ := DataW.trod_int (hq ▸ hk) ht'
    simp at hk1
    subst hk1
    rw [hs] at hc
    exact ⟨k, ad, ha, hb, hc⟩)
  exact ⟨os, hol.symm, ho⟩
theorem ways_of_trod {t e r p q : TypeId} {f : Field} {fuel : Nat} {cs : List Value} {x : DataW H × List MemPlace} (ht : P.underlying t = some (.slice e)) (he : P.underlying e = some (.struct #[f]))
    (hone : oneCellFields P #[f] = true) (hC : P.cellsOf e = 1) (hr : f.type = r) (h1 : P.underlying r = some (.slice p)) (h2 : P.underlying p = some (.slice q)) (h3 : P.underlying q = some (.int .i64)) (c1 : P.cellsOf p = 1) (c2 : P.cellsOf q = 1)
    (h : DataW.trod enc P w 0 (fun _ => true) held fuel t cs = some x) :
    ∃ (a : Option Addr) (len cap : Nat) (ws : List (List (List Int))), cs = [.slice a len cap] ∧ len = ws.length ∧ WaysAt w.heap.size w a ws := by
  obtain ⟨a, len, cap, rfl, hl, hi⟩ := field_of_trod ht he hone hC h
  obtain ⟨ws, hwl, hw⟩ := list_choice (Q := fun i (ps : List (List Int)) => ∃ ad A' c', a = some ad ∧ ad.block < w.heap.size ∧ w.cell? (ad.add i) = some (.slice A' ps.length c') ∧ ps.length ≤ c' ∧ RowsAt w.heap.size w A' ps) len (fun i hil => by
    obtain ⟨ad, v, n, y, ha, hb, hc, ht'⟩ := hi i hil 0 f rfl
    rw [hr] at ht'
    have hc' : w.cell? (ad.add i) = some v := by simpa using hc
    rcases open_slice h1 ht' with ⟨e0, _⟩ | ⟨a1, len1, cap1, m1, n1, D1, Pl1, e1, hb1, hl1, _⟩
    · simp at e0
      subst e0
      exact ⟨[], ad, none, 0, ha, hb, hc', Nat.le_refl _, fun i hi => by simp at hi⟩
    · simp at e1
      subst e1
      obtain ⟨near, hn, hR⟩ := rows_of_trod h1 h2 h3 c1 c2 ht'
      subst hn
      exact ⟨near, ad, some a1, cap1, ha, hb, hc', hl1, hR⟩)
  exact ⟨a, len, cap, ws, rfl, hwl.symm, hw⟩
end

/-- A course, by value. -/
theorem course_of_trod {H : Type} {enc : TypeId × Value → H} {P : Program} {w : World} {held : Bool} {r0 : Reach} {b0 : Nat} {t s t1 e r p q : TypeId} {f0 f1 f : Field} {v : Value} {d : DataW H} {pl : List MemPlace} (hs : P.underlying t = some (.struct #[f0, f1])) (hone : oneCellFields P #[f0, f1] = true) (hC : P.cellsOf t = 2)
    (e0 : f0.type = s) (es : P.underlying s = some .string) (e1 : f1.type = t1) (ht : P.underlying t1 = some (.slice e)) (he : P.underlying e = some (.struct #[f])) (hone1 : oneCellFields P #[f] = true) (hC1 : P.cellsOf e = 1) (hr : f.type = r) (h1 : P.underlying r = some (.slice p)) (h2 : P.underlying p = some (.slice q)) (h3 : P.underlying q = some (.int .i64)) (c1 : P.cellsOf p = 1) (c2 : P.cellsOf q = 1)
    (hv : Value.okWide P w r0 b0 t v) (h : DataW.Trod enc P w 0 (fun _ => true) held t v d pl) :
    ∃ (name : ByteArray) (a : Option Addr) (cap : Nat) (ws : List (List (List Int))), v = .agg #[.string name, .slice a ws.length cap] ∧ name.size ≤ maxLen ∧ WaysAt w.heap.size w a ws := by
  obtain ⟨v0, v1, y0, y1, n, rfl, rfl, rfl, t0, t1'⟩ := open_agg2 hs hone hC hv h
  rw [e0] at t0
  rw [e1] at t1'
  obtain ⟨name, hn, _, hsz⟩ := DataW.trod_string es t0
  simp at hn
  subst hn
  obtain ⟨a, len, cap, ws, hcs, hl, hw⟩ := ways_of_trod ht he hone1 hC1 hr h1 h2 h3 c1 c2 t1'
  simp at hcs
  subst hcs
  subst hl
  exact ⟨name, a, cap, ws, rfl, hsz, hw⟩
end Go.Proofs.Ytebpdlnknfjoaaa
