/- Maps from int: what a block that holds such a map answers, and what a store, a delete and a look-up leave. -/
import Derived.WalkKit
import Derived.MapKept
import Derived.Maps.OwnOps
import Derived.Maps.OwnSet
namespace Go.Proofs.Ytebpdlnknfjoaaa
set_option linter.unusedVariables false
set_option linter.unusedSimpArgs false
open Go.RowKit Go.MapKept

/-- Block b is a map from int that answers f. -/
def MapV (w : World) (b : Nat) (f : Int → Option Value) : Prop :=
  ∃ es clock, w.heap[b]? = some (.map es clock) ∧ Stamped es clock ∧ (∀ x ∈ es.toList, IsKey (.int .i64) x.key) ∧
    ∀ k v, f k = some v ↔ ∃ x ∈ es.toList, x.key = .int .i64 k ∧ x.val = v

def upd {α : Type} (f : Int → α) (k : Int) (v : α) : Int → α := fun j => if j = k then v else f j

theorem upd_same {α : Type} (f : Int → α) (k : Int) (v : α) : upd f k v k = v := by simp [upd]
theorem upd_other {α : Type} (f : Int → α) {k j : Int} (v : α) (h : j ≠ k) : upd f k v j = f j := by simp [upd, h]

theorem MapV.lt {w : World} {b : Nat} {f : Int → Option Value} (h : MapV w b f) : b < w.heap.size := by
  obtain ⟨es, c, hb, _⟩ := h
  exact (Array.getElem?_eq_some_iff.1 hb).1
theorem MapV.move {w w' : World} {b : Nat} {f : Int → Option Value} (h : MapV w b f) (e : w'.heap[b]? = w.heap[b]?) : MapV w' b f := by
  obtain ⟨es, c, hb, r⟩ := h
  exact ⟨es, c, e.trans hb, r⟩
theorem MapV.below {w w' : World} {B b : Nat} {f : Int → Option Value} (h : MapV w b f) (hb : Below B w w') (hB : b < B) : MapV w' b f := h.move (hb.block b hB)
theorem MapV.alloc {w : World} {b : Nat} {f : Int → Option Value} (h : MapV w b f) (o : Obj) : MapV (w.alloc o) b f := h.move (Below.heap_alloc w o b h.lt)
theorem MapV.no_cell {w : World} {b : Nat} {f : Int → Option Value} (h : MapV w b f) (o : Nat) (s : Option Nat) : w.cell? ⟨b, o, s⟩ = none := by
  obtain ⟨es, c, hb, _⟩ := h
  simp [World.cell?, hb]
theorem MapV.setCell {w : World} {b : Nat} {f : Int → Option Value} (h : MapV w b f) {a : Addr} (ha : b ≠ a.block) (u : Value) : MapV (w.setCell a u) b f := h.move (Below.heap_setCell w a u b ha)
theorem MapV.grown {w w' : World} {b : Nat} {f : Int → Option Value} {row : Option Nat} (h : MapV w b f) (hg : w.grownBy w' row) (hne : some b ≠ row) : MapV w' b f := h.move (hg.block b h.lt hne)
theorem MapV.made (w : World) : MapV (w.alloc (.map #[] 0)) w.heap.size (fun _ => none) :=
  ⟨#[], 0, (heap_alloc w _).1, stamped_empty 0, by simp, by simp⟩

section
variable {P : Program} {w : World} {b : Nat} {f : Int → Option Value} {T K E : TypeId}

theorem MapV.find (h : MapV w b f) (hk : P.underlying K = some (.int .i64)) (k : Int) : ∃ es clock, w.heap[b]? = some (.map es clock) ∧
    ((f k = none ∧ (Instr.findKey K (.int .i64 k) es.toList).run P w = .ok none w) ∨
     ∃ i e, f k = some e.val ∧ (Instr.findKey K (.int .i64 k) es.toList).run P w = .ok (some (i, e.val)) w ∧ es[i]? = some e ∧ e.key = .int .i64 k) := by
  obtain ⟨es, clock, hb, _, hks, hf⟩ := h
  refine ⟨es, clock, hb, ?_⟩
  rcases findNow_spec (d := .int .i64) (k := .int .i64 k) rfl es.toList 0 hks with ⟨h1, h2⟩ | ⟨j, e, h1, h2, h3⟩
  · refine .inl ⟨?_, run_findKey hk h1⟩
    cases hfk : f k with
    | none => rfl
    | some v =>
      obtain ⟨x, hx, e1, _⟩ := (hf k v).1 hfk
      exact absurd e1 (h2 x hx)
  · refine .inr ⟨j, e, (hf k e.val).2 ⟨e, List.mem_of_getElem? h2, h3, rfl⟩, ?_, by simpa using h2, h3⟩
    rw [Nat.zero_add] at h1
    exact run_findKey hk h1

theorem MapV.run_lookup (h : MapV w b f) (hT : P.underlying T = some (.map K E)) (hk : P.underlying K = some (.int .i64)) {z : Value} (hz : (zeroValue E).run P w = .ok z w) (k : Int) (c : Bool) :
    (Instr.lookup T (.map (some b)) (.int .i64 k) c).run P w = .ok (if c then .tuple #[(f k).getD z, .bool (f k).isSome] else (f k).getD z) w := by
  obtain ⟨es, clock, hb, h1 | ⟨i, e, h1, h2, _, _⟩⟩ := h.find hk k
  · simp [Instr.lookup, run_underlying hT, Go.MapKept.run_getObj_map hb, run_checkKey hk (show IsKey (.int .i64) (.int .i64 k) from rfl), h1.2, h1.1, hz, Result.andThen]
  · simp [Instr.lookup, run_underlying hT, Go.MapKept.run_getObj_map hb, run_checkKey hk (show IsKey (.int .i64) (.int .i64 k) from rfl), h2, h1, Result.andThen]

theorem nodup_key {es : Array MapEntry} {clock : Nat} (hs : Stamped es clock) {x y : MapEntry} (hx : x ∈ es.toList) (hy : y ∈ es.toList) (e : x.key = y.key) : x = y := by
  obtain ⟨i, hi, rfl⟩ := List.mem_iff_getElem.1 hx
  obtain ⟨j, hj, rfl⟩ := List.mem_iff_getElem.1 hy
  have h3 := hs.2.2
  have : i = j := by
    have hi' : i < (es.toList.map (·.key)).length := by simpa using hi
    have hj' : j < (es.toList.map (·.key)).length := by simpa using hj
    exact (List.getElem_inj (h₀ := hi') (h₁ := hj') h3).1 (by simpa using e)
  subst this
  rfl

theorem MapV.run_update (h : MapV w b f) (hT : P.underlying T = some (.map K E)) (hk : P.underlying K = some (.int .i64)) (k : Int) (v : Value) :
    ∃ w', (Instr.mapUpdate T (.map (some b)) (.int .i64 k) v).run P w = .ok () w' ∧ MapV w' b (upd f k (some v)) ∧ w.grownBy w' (some b) ∧ w'.heap.size = w.heap.size := by
  obtain ⟨es, clock, hb, hs, hks, hf⟩ := h
  have hkey : IsKey (.int .i64) (.int .i64 k) := rfl
  rcases findNow_spec hkey es.toList 0 hks with ⟨h1, h2⟩ | ⟨j, e, h1, h2, h3⟩
  · refine ⟨{ w with heap := w.heap.setIfInBounds b (.map (es.push { key := .int .i64 k, val := v, born := clock }) (clock + 1)) }, ?_, ⟨_, _, (heap_set hb).1, stamped_push hs h2, ?_, ?_⟩, ⟨rfl, rfl, rfl, by simp, fun i _ hi => (heap_set hb).2 i (fun q => hi (by rw [q]))⟩, by simp⟩
    · simp [Instr.mapUpdate, run_underlying hT, Go.MapKept.run_getObj_map hb, run_checkKey hk hkey, run_findKey hk h1, run_setObj_map _ hb, Result.andThen]
    · intro x hx
      simp only [Array.toList_push, List.mem_append, List.mem_singleton] at hx
      rcases hx with hx | rfl
      · exact hks x hx
      · exact hkey
    · intro k' v'
      simp only [Array.toList_push, List.mem_append, List.mem_singleton]
      by_cases hkk : k' = k
      · subst hkk
        rw [upd_same]
        constructor
        · intro q
          cases q
          exact ⟨_, .inr rfl, rfl, rfl⟩
        · rintro ⟨x, hx | rfl, q1, q2⟩
          · exact absurd q1 (h2 x hx)
          · exact congrArg some q2
      · rw [upd_other f _ hkk, hf]
        constructor
        · rintro ⟨x, hx, q⟩
          exact ⟨x, .inl hx, q⟩
        · rintro ⟨x, hx | rfl, q1, q2⟩
          · exact ⟨x, hx, q1, q2⟩
          · injection q1 with _ q1
            exact absurd q1.symm hkk
  · have hj : es[j]? = some e := by simpa using h2
    have hm : e ∈ es.toList := List.mem_of_getElem? h2
    have hkeep : ∀ e', es[j]? = some e' → ({ e' with key := .int .i64 k, val := v } : MapEntry).key = e'.key := fun e' he' => by rw [hj] at he'; cases he'; exact h3.symm
    have hjlt : j < es.size := (Array.getElem?_eq_some_iff.1 hj).1
    refine ⟨{ w with heap := w.heap.setIfInBounds b (.map (es.modify j fun e => { e with key := .int .i64 k, val := v }) clock) }, ?_, ⟨_, _, (heap_set hb).1, stamped_modify hs _ _ (fun _ _ => rfl) (fun e' _ he' => hkeep e' he'), isKey_modify hks _ _ hkeep, ?_⟩, ⟨rfl, rfl, rfl, by simp, fun i _ hi => (heap_set hb).2 i (fun q => hi (by rw [q]))⟩, by simp⟩
    · simp [Instr.mapUpdate, run_underlying hT, Go.MapKept.run_getObj_map hb, run_checkKey hk hkey, run_findKey hk h1, hj, h3, run_keyThatStays hkey, run_setObj_map _ hb, Result.andThen]
    · intro k' v'
      have hmem : ∀ x, x ∈ (es.modify j fun e => { e with key := .int .i64 k, val := v }).toList ↔ x = { e with key := .int .i64 k, val := v } ∨ (x ∈ es.toList ∧ x ≠ e) := by
        intro x
        rw [Array.mem_toList_iff, Array.mem_iff_getElem]
        constructor
        · rintro ⟨i, hi, rfl⟩
          have hi' : i < es.size := by simpa using hi
          rw [Array.getElem_modify]
          by_cases hij : j = i
          · subst hij
            rw [if_pos rfl]
            rw [Array.getElem?_eq_getElem hi'] at hj
            cases hj
            exact .inl rfl
          · rw [if_neg hij]
            refine .inr ⟨by simp, fun q => hij ?_⟩
            have h3' := hs.2.2
            have e1 : es.toList[j]'(by simpa using hjlt) = es.toList[i]'(by simpa using hi') := by
              rw [Array.getElem?_eq_getElem hjlt] at hj
              cases hj
              simpa using q.symm
            have hj2 : j < (es.toList.map (·.key)).length := by simpa using hjlt
            have hi2 : i < (es.toList.map (·.key)).length := by simpa using hi'
            exact (List.getElem_inj (h₀ := hj2) (h₁ := hi2) h3').1 (by simp only [List.getElem_map]; rw [e1])
        · rintro (rfl | ⟨hx, hne⟩)
          · refine ⟨j, by simpa using hjlt, ?_⟩
            rw [Array.getElem_modify, if_pos rfl]
            rw [Array.getElem?_eq_getElem hjlt] at hj
            cases hj
            rfl
          · obtain ⟨i, hi, rfl⟩ := List.mem_iff_getElem.1 hx
            have hi' : i < es.size := by simpa using hi
            refine ⟨i, by simpa using hi', ?_⟩
            rw [Array.getElem_modify, if_neg]
            · simp
            · rintro rfl
              rw [Array.getElem?_eq_getElem hjlt] at hj
              cases hj
              exact hne (by simp)
      by_cases hkk : k' = k
      · subst hkk
        rw [upd_same]
        constructor
        · intro q
          cases q
          exact ⟨_, (hmem _).2 (.inl rfl), rfl, rfl⟩
        · rintro ⟨x, hx, q1, q2⟩
          rcases (hmem x).1 hx with rfl | ⟨hx, hne⟩
          · exact congrArg some q2
          · exact absurd (nodup_key hs hx hm (q1.trans h3.symm)) hne
      · rw [upd_other f _ hkk, hf]
        constructor
        · rintro ⟨x, hx, q1, q2⟩
          refine ⟨x, (hmem x).2 (.inr ⟨hx, ?_⟩), q1, q2⟩
          rintro rfl
          rw [h3] at q1
          injection q1 with _ q1
          exact hkk q1.symm
        · rintro ⟨x, hx, q1, q2⟩
          rcases (hmem x).1 hx with rfl | ⟨hx, hne⟩
          · injection q1 with _ q1
            exact absurd q1.symm hkk
          · exact ⟨x, hx, q1, q2⟩

theorem MapV.run_delete (h : MapV w b f) (hT : P.underlying T = some (.map K E)) (hk : P.underlying K = some (.int .i64)) (k : Int) (kt ty : TypeId) :
    ∃ w', (Builtin.delete_ #[T, kt] ty #[.map (some b), .int .i64 k]).run P w = .ok (.tuple #[]) w' ∧ MapV w' b (upd f k none) ∧ w.grownBy w' (some b) ∧ w'.heap.size = w.heap.size := by
  obtain ⟨es, clock, hb, hs, hks, hf⟩ := h
  have hkey : IsKey (.int .i64) (.int .i64 k) := rfl
  rcases findNow_spec hkey es.toList 0 hks with ⟨h1, h2⟩ | ⟨j, e, h1, h2, h3⟩
  · refine ⟨{ w with heap := w.heap.setIfInBounds b (.map es clock) }, ?_, ⟨_, _, (heap_set hb).1, hs, hks, ?_⟩, ⟨rfl, rfl, rfl, by simp, fun i _ hi => (heap_set hb).2 i (fun q => hi (by rw [q]))⟩, by simp⟩
    · simp [Builtin.delete_, run_underlying hT, Go.MapKept.run_getObj_map hb, run_checkKey hk hkey, run_findKey hk h1, run_setObj_map _ hb, Result.andThen]
    · intro k' v'
      by_cases hkk : k' = k
      · subst hkk
        rw [upd_same]
        constructor
        · intro q; cases q
        · rintro ⟨x, hx, q1, _⟩
          exact absurd q1 (h2 x hx)
      · rw [upd_other f _ hkk, hf]
  · have hj : es[j]? = some e := by simpa using h2
    have hjlt : j < es.size := (Array.getElem?_eq_some_iff.1 hj).1
    have hm : e ∈ es.toList := List.mem_of_getElem? h2
    have htl : (es.eraseIdxIfInBounds j).toList = es.toList.eraseIdx j := by
      unfold Array.eraseIdxIfInBounds
      rw [dif_pos hjlt]
      simp
    have hsub : ∀ x ∈ (es.eraseIdxIfInBounds j).toList, x ∈ es.toList := fun x hx => (List.eraseIdx_sublist _ _).subset (htl ▸ hx)
    refine ⟨{ w with heap := w.heap.setIfInBounds b (.map (es.eraseIdxIfInBounds j) clock) }, ?_, ⟨_, _, (heap_set hb).1, stamped_erase hs _, fun x hx => hks x (hsub x hx), ?_⟩, ⟨rfl, rfl, rfl, by simp, fun i _ hi => (heap_set hb).2 i (fun q => hi (by rw [q]))⟩, by simp⟩
    · simp [Builtin.delete_, run_underlying hT, Go.MapKept.run_getObj_map hb, run_checkKey hk hkey, run_findKey hk h1, run_setObj_map _ hb, Result.andThen]
    · intro k' v'
      have hmem : ∀ x, x ∈ (es.eraseIdxIfInBounds j).toList ↔ x ∈ es.toList ∧ x ≠ e := by
        intro x
        rw [htl, List.mem_eraseIdx_iff_getElem?]
        constructor
        · rintro ⟨i, hij, hi⟩
          refine ⟨List.mem_of_getElem? hi, fun q => hij ?_⟩
          subst q
          have h3' := hs.2.2
          obtain ⟨hi1, hi2⟩ := List.getElem?_eq_some_iff.1 hi
          obtain ⟨hj1, hj2⟩ := List.getElem?_eq_some_iff.1 h2
          have hi3 : i < (es.toList.map (·.key)).length := by simpa using hi1
          have hj3 : j < (es.toList.map (·.key)).length := by simpa using hj1
          exact (List.getElem_inj (h₀ := hi3) (h₁ := hj3) h3').1 (by simp only [List.getElem_map]; rw [hi2, hj2])
        · rintro ⟨hx, hne⟩
          obtain ⟨i, hi, rfl⟩ := List.mem_iff_getElem.1 hx
          refine ⟨i, ?_, by simp [hi]⟩
          rintro rfl
          obtain ⟨_, hj2⟩ := List.getElem?_eq_some_iff.1 h2
          exact hne hj2
      by_cases hkk : k' = k
      · subst hkk
        rw [upd_same]
        constructor
        · intro q; cases q
        · rintro ⟨x, hx, q1, q2⟩
          obtain ⟨hx, hne⟩ := (hmem x).1 hx
          exact absurd (nodup_key hs hx hm (q1.trans h3.symm)) hne
      · rw [upd_other f _ hkk, hf]
        constructor
        · rintro ⟨x, hx, q1, q2⟩
          refine ⟨x, (hmem x).2 ⟨hx, ?_⟩, q1, q2⟩
          rintro rfl
          rw [h3] at q1
          injection q1 with _ q1
          exact hkk q1.symm
        · rintro ⟨x, hx, q1, q2⟩
          exact ⟨x, ((hmem x).1 hx).1, q1, q2⟩

theorem MapV.run_clear (h : MapV w b f) (hT : P.underlying T = some (.map K E)) (ty : TypeId) :
    ∃ w', (Builtin.clear_ #[T] ty #[.map (some b)]).run P w = .ok (.tuple #[]) w' ∧ MapV w' b (fun _ => none) ∧ w.grownBy w' (some b) ∧ w'.heap.size = w.heap.size := by
  obtain ⟨es, clock, hb, hs, hks, hf⟩ := h
  refine ⟨{ w with heap := w.heap.setIfInBounds b (.map #[] clock) }, ?_, ⟨_, _, (heap_set hb).1, stamped_empty _, by simp, by simp⟩, ⟨rfl, rfl, rfl, by simp, fun i _ hi => (heap_set hb).2 i (fun q => hi (by rw [q]))⟩, by simp⟩
  simp [Builtin.clear_, run_underlying hT, Go.MapKept.run_getObj_map hb, run_setObj_map _ hb, Result.andThen]
end
end Go.Proofs.Ytebpdlnknfjoaaa
