/- A range over a map from int that is not turned meanwhile: each step hands over an entry that has not come yet. -/
import Derived.Maps.RangeRun
import Derived.Test.YtebpdlnknfjoaaaMapV
namespace Go.Proofs.Ytebpdlnknfjoaaa
set_option linter.unusedVariables false
set_option linter.unusedSimpArgs false
open Go.RowKit Go.MapKept

/-- Block r is an iterator over the map in block b, of which `done` have come; n are still to come. -/
def MapIt (w : World) (b r : Nat) (f : Int → Option Value) (done : List Int) (n : Nat) : Prop :=
  ∃ es clock seen, w.heap[b]? = some (.map es clock) ∧ Stamped es clock ∧ (∀ x ∈ es.toList, IsKey (.int .i64) x.key) ∧
    (∀ k v, f k = some v ↔ ∃ x ∈ es.toList, x.key = .int .i64 k ∧ x.val = v) ∧ w.heap[r]? = some (.mapIter (some b) clock seen clock) ∧
    (∀ x ∈ es.toList, (x.born ∈ seen ↔ ∃ k ∈ done, x.key = .int .i64 k)) ∧ n = (leftOf es seen).size ∧ done.Nodup

theorem MapIt.mapV {w : World} {b r : Nat} {f : Int → Option Value} {done : List Int} {n : Nat} (h : MapIt w b r f done n) : MapV w b f := by
  obtain ⟨es, c, seen, h1, h2, h3, h4, _⟩ := h
  exact ⟨es, c, h1, h2, h3, h4⟩
theorem MapIt.nodup {w : World} {b r : Nat} {f : Int → Option Value} {done : List Int} {n : Nat} (h : MapIt w b r f done n) : done.Nodup := by
  obtain ⟨es, c, seen, _, _, _, _, _, _, _, h⟩ := h
  exact h
theorem MapIt.ne {w : World} {b r : Nat} {f : Int → Option Value} {done : List Int} {n : Nat} (h : MapIt w b r f done n) : b ≠ r := by
  obtain ⟨es, c, seen, h1, _, _, _, h2, _⟩ := h
  rintro rfl
  rw [h1] at h2
  cases h2
theorem MapIt.lt {w : World} {b r : Nat} {f : Int → Option Value} {done : List Int} {n : Nat} (h : MapIt w b r f done n) : r < w.heap.size := by
  obtain ⟨es, c, seen, h1, _, _, _, h2, _⟩ := h
  exact (Array.getElem?_eq_some_iff.1 h2).1
theorem MapIt.move {w w' : World} {b r : Nat} {f : Int → Option Value} {done : List Int} {n : Nat} (h : MapIt w b r f done n) (e1 : w'.heap[b]? = w.heap[b]?) (e2 : w'.heap[r]? = w.heap[r]?) : MapIt w' b r f done n := by
  obtain ⟨es, c, seen, h1, h2, h3, h4, h5, h6⟩ := h
  exact ⟨es, c, seen, e1.trans h1, h2, h3, h4, e2.trans h5, h6⟩
theorem MapIt.no_cell {w : World} {b r : Nat} {f : Int → Option Value} {done : List Int} {n : Nat} (h : MapIt w b r f done n) (o : Nat) (s : Option Nat) : w.cell? ⟨r, o, s⟩ = none := by
  obtain ⟨es, c, seen, _, _, _, _, hb, _⟩ := h
  simp [World.cell?, hb]

theorem MapV.run_range {P : Program} {w : World} {b : Nat} {f : Int → Option Value} {T K E : TypeId} (h : MapV w b f) (hT : P.underlying T = some (.map K E)) :
    ∃ n w', (Instr.range T (.map (some b))).run P w = .ok (.pointer (some ⟨w.heap.size, 0, none⟩)) w' ∧ MapIt w' b w.heap.size f [] n ∧ Below w.heap.size w w' := by
  obtain ⟨es, clock, hb, hs, hk, hf⟩ := h
  refine ⟨_, w.alloc (.mapIter (some b) clock #[] clock), ?_, ⟨es, clock, #[], ?_, hs, hk, hf, (heap_alloc w _).1, by simp, rfl, List.nodup_nil⟩, (Below.refl _ _).alloc (Nat.le_refl _) _⟩
  · simp only [Instr.range, Sem.run_bind, run_underlying hT, Go.MapKept.run_getObj_map hb, Result.andThen]
    rfl
  · rw [(heap_alloc w _).2 b (Array.getElem?_eq_some_iff.1 hb).1]; exact hb

theorem MapIt.next {P : Program} {w : World} {b r : Nat} {f : Int → Option Value} {done : List Int} {n : Nat} (h : MapIt w b r f done n) (T : TypeId) :
    (n = 0 ∧ (∀ k, f k ≠ none → k ∈ done) ∧ (Instr.next (.pointer (some ⟨r, 0, none⟩)) false T).run P w = .ok (.tuple #[.bool false]) w) ∨
    ∃ k v w' n', (Instr.next (.pointer (some ⟨r, 0, none⟩)) false T).run P w = .ok (.tuple #[.bool true, .int .i64 k, v]) w' ∧ f k = some v ∧ k ∉ done ∧ MapIt w' b r f (done ++ [k]) n' ∧ n' < n ∧ w.grownBy w' (some r) ∧ w'.heap.size = w.heap.size ∧
      (Instr.entry (.pointer (some ⟨r, 0, none⟩))).run P w' = .ok (.tuple #[.int .i64 k, v]) w' := by
  obtain ⟨es, clock, seen, hb, hs, hk, hf, hr, hd, hn, hnd⟩ := h
  have hbr : b ≠ r := by rintro rfl; rw [hb] at hr; cases hr
  rcases run_next_at (P := P) w T r b clock clock seen es clock hr hb hs.1 (Nat.le_refl _) with ⟨h0, hrun⟩ | ⟨e, hel, w1, hw1, hrun⟩
  · left
    have hle : leftOf es seen = #[] := Array.eq_empty_of_size_eq_zero h0
    refine ⟨by omega, ?_, hrun⟩
    intro k hk'
    cases hfk : f k with
    | none => exact absurd hfk hk'
    | some v =>
      obtain ⟨x, hx, e1, _⟩ := (hf k v).1 hfk
      have hxs : x.born ∈ seen := by
        apply Classical.byContradiction
        intro hns
        have : x ∈ leftOf es seen := by unfold leftOf; exact Array.mem_filter.2 ⟨by simpa using hx, by simpa using hns⟩
        rw [hle] at this
        simp at this
      obtain ⟨k', hk1, hk2⟩ := (hd x hx).1 hxs
      rw [e1] at hk2
      injection hk2 with _ hk2
      rw [hk2]; exact hk1
  · right
    have hef : e ∈ es ∧ (!seen.contains e.born) = true := by
      have : e ∈ leftOf es seen := by simpa using hel
      unfold leftOf at this
      exact Array.mem_filter.1 this
    have hes : e ∈ es.toList := by simpa using hef.1
    have hens : e.born ∉ seen := by simpa using hef.2
    obtain ⟨k, hek⟩ : ∃ k, e.key = .int .i64 k := by
      have := hk e hes
      cases hkk : e.key <;> rw [hkk] at this <;> simp [IsKey] at this
      subst this
      exact ⟨_, rfl⟩
    have hw1h : w1.heap = w.heap ∧ w1.os = w.os ∧ w1.tape = w.tape ∧ w1.output = w.output := by rcases hw1 with rfl | rfl <;> exact ⟨rfl, rfl, rfl, rfl⟩
    obtain ⟨hwh, ho1, ho2, ho3⟩ := hw1h
    have hr1 : w1.heap[r]? = some (.mapIter (some b) clock seen clock) := by rw [hwh]; exact hr
    have hrlt : r < w.heap.size := (Array.getElem?_eq_some_iff.1 hr).1
    have hb' : (w1.heap.setIfInBounds r (.mapIter (some b) clock (seen.push e.born) clock))[b]? = some (.map es clock) := by rw [(heap_set hr1).2 b hbr, hwh]; exact hb
    have hrun' : (Instr.next (.pointer (some ⟨r, 0, none⟩)) false T).run P w = .ok (.tuple #[.bool true, .int .i64 k, e.val]) { w1 with heap := w1.heap.setIfInBounds r (.mapIter (some b) clock (seen.push e.born) clock) } := by
      rw [hrun, hek]; rfl
    refine ⟨k, e.val, _, _, hrun', (hf k e.val).2 ⟨e, hes, hek, rfl⟩, ?_, ⟨es, clock, seen.push e.born, hb', hs, hk, hf, (heap_set hr1).1, ?_, rfl, ?_⟩, ?_, ⟨ho1, ho2, ho3, by simp [hwh], fun i hi hne => ?_⟩, by simp [hwh], ?_⟩
    · intro hkd
      have := (hd e hes).2 ⟨k, hkd, hek⟩
      exact hens this
    · intro x hx
      rw [Array.mem_push]
      constructor
      · rintro (q | q)
        · obtain ⟨k', a, b⟩ := (hd x hx).1 q
          exact ⟨k', List.mem_append_left _ a, b⟩
        · refine ⟨k, by simp, ?_⟩
          have : x = e := by
            have h2 := hs.2.1
            obtain ⟨i1, hi1, rfl⟩ := List.mem_iff_getElem.1 hx
            obtain ⟨i2, hi2, e2⟩ := List.mem_iff_getElem.1 hes
            have a1 : i1 < (es.toList.map (·.born)).length := by simpa using hi1
            have a2 : i2 < (es.toList.map (·.born)).length := by simpa using hi2
            have : i1 = i2 := (List.getElem_inj (h₀ := a1) (h₁ := a2) h2).1 (by simp only [List.getElem_map]; rw [e2]; exact q)
            subst this
            exact e2
          rw [this]; exact hek
      · rintro ⟨k', a, b⟩
        rcases List.mem_append.1 a with a | a
        · exact .inl ((hd x hx).2 ⟨k', a, b⟩)
        · rw [List.mem_singleton.1 a] at b
          exact .inr (congrArg _ (nodup_key hs hx hes (b.trans hek.symm)))
    · have : k ∉ done := fun hkd => hens ((hd e hes).2 ⟨k, hkd, hek⟩)
      rw [List.nodup_append]
      exact ⟨hnd, by simp, fun a ha b hb => by rw [List.mem_singleton.1 hb]; rintro rfl; exact this ha⟩
    · rw [hn]
      have hlt : ∀ (l : List MapEntry), e ∈ l → (l.filter fun x => !(seen.push e.born).contains x.born).length < (l.filter fun x => !seen.contains x.born).length := by
        intro l
        have hle : ∀ (l : List MapEntry), (l.filter fun x => !(seen.push e.born).contains x.born).length ≤ (l.filter fun x => !seen.contains x.born).length := by
          intro l
          induction l with
          | nil => simp
          | cons y ys ih =>
            by_cases h1 : y.born ∈ seen
            · simp [List.filter_cons, h1, ih]
              simpa using ih
            · by_cases h2 : y.born = e.born
              · simp [List.filter_cons, h1, h2]
                have : e.born ∉ seen := hens
                simp at ih
                simp [this]
                omega
              · simp [List.filter_cons, h1, h2]
                simpa using ih
        induction l with
        | nil => intro h; cases h
        | cons y ys ih =>
          intro hmem
          by_cases hy : y.born = e.born
          · have := hle ys
            simp [List.filter_cons, hy, hens]
            simp at this
            omega
          · have hmem' : e ∈ ys := by
              rcases List.mem_cons.1 hmem with q | q
              · exact absurd (by rw [q]) hy
              · exact q
            have := ih hmem'
            by_cases h1 : y.born ∈ seen
            · simp [List.filter_cons, h1]
              simpa using this
            · simp [List.filter_cons, h1, hy]
              simpa using this
      have := hlt es.toList hes
      unfold leftOf
      have sz : ∀ p : MapEntry → Bool, (es.filter p).size = (es.toList.filter p).length := fun p => by rw [← Array.toList_filter, Array.length_toList]
      rw [sz, sz]
      exact this
    · show (w1.heap.setIfInBounds r _)[i]? = w.heap[i]?
      rw [(heap_set hr1).2 i (fun q => hne (by rw [q])), hwh]
    · have := run_entry_at (P := P) { w1 with heap := w1.heap.setIfInBounds r (.mapIter (some b) clock (seen.push e.born) clock) } r b clock seen es clock e (heap_set hr1).1 hb' hes hs.2.1
      rw [this, hek]
end Go.Proofs.Ytebpdlnknfjoaaa
