/- What few ways, parts and classes mean; a course laid by itself. -/
import Derived.Test.YtebpdlnknfjoaaaClasses
import Derived.Test.YtebpdlnknfjoaaaRegionWords
namespace Go.Proofs.Ytebpdlnknfjoaaa
set_option linter.unusedVariables false
set_option linter.unusedSimpArgs false
open Go.RowKit Go.Lib

theorem few_bounds {ws : List (List (List Int))} (h : fewB ws = true) : ws.length ≤ 6 ∧ (∀ ps ∈ ws, ps.length ≤ 6) ∧ ∀ ps ∈ ws, ∀ p ∈ ps, p.length ≤ 10 := by
  unfold fewB at h
  rw [Bool.and_eq_true, decide_eq_true_eq, List.all_eq_true] at h
  refine ⟨h.1, fun ps hps => ?_, fun ps hps p hp => ?_⟩
  · have := h.2 ps hps
    rw [Bool.and_eq_true, decide_eq_true_eq] at this
    exact this.1
  · have := h.2 ps hps
    rw [Bool.and_eq_true, List.all_eq_true] at this
    simpa using this.2 p hp
theorem few_flat {ws : List (List (List Int))} (h : fewB ws = true) : (flatOf ws).length ≤ 1000 := by
  obtain ⟨h1, h2, h3⟩ := few_bounds h
  unfold flatOf
  have e1 := flatten_le (k := 10) (xss := ws.flatten) (fun r hr => by obtain ⟨ps, hps, hr⟩ := List.mem_flatten.1 hr; exact h3 ps hps r hr)
  have e2 : ws.flatten.length ≤ ws.length * 6 := by
    clear h1 h3 e1 h
    induction ws with
    | nil => simp
    | cons x xs ih =>
      have := ih (fun ps hps => h2 ps (List.mem_cons_of_mem _ hps))
      have h0 := h2 x List.mem_cons_self
      simp only [List.flatten_cons, List.length_append, List.length_cons]
      omega
  omega
theorem exists_set (l : List Int) : ∃ ys, IsSet ys (fun x => x ∈ l) :=
  ⟨compact (sorted l), (compact_spec (sorted l) (sorted_le l)).1, fun x => by rw [(compact_spec (sorted l) (sorted_le l)).2, (sorted_perm l).mem_iff]⟩
theorem course_cells (w : World) (s : ByteArray) (A : Option Addr) (n c : Nat) : ∀ w1, Below (w.alloc (.cells #[.string s, .slice A n c] 24)).heap.size (w.alloc (.cells #[.string s, .slice A n c] 24)) w1 →
    w1.cell? ⟨w.heap.size, 0, none⟩ = some (.string s) ∧ w1.cell? ⟨w.heap.size, 1, none⟩ = some (.slice A n c) := by
  intro w1 hb
  have h := alloc_at w (.cells #[.string s, .slice A n c] 24)
  have := (hb.block _ (Array.getElem?_eq_some_iff.1 h).1).trans h
  constructor <;> (unfold World.cell?; rw [this]; rfl)
end Go.Proofs.Ytebpdlnknfjoaaa
