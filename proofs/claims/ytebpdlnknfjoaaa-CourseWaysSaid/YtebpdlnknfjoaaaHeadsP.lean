/- The chapter's example: what it is, and what comes of it. -/
import Derived.Test.YtebpdlnknfjoaaaRegionWords
import Derived.Test.YtebpdlnknfjoaaaTakes
import Derived.Test.YtebpdlnknfjoaaaCount
import Derived.Test.YtebpdlnknfjoaaaRowsSame
namespace Go.Proofs.Ytebpdlnknfjoaaa
set_option linter.unusedVariables false
set_option linter.unusedSimpArgs false
open Go.RowKit

def ws0 : List (List (List Int)) := [[[0, 1], [2, 3]]]
def os0 : List Int := [-1, -1, 0, 1]
def s0 : ByteArray := { data := #[99] }

theorem right0 : rightB 4 s0 ws0 = true := by decide
theorem loads0 : loadsOf os0 s0 ws0 = [[0, 2], [1, 3]] := by decide
theorem count0 : countOf ws0 = 4 := by decide
theorem above0 : aboveOf os0 3 = [1] := by decide
theorem small0 : Small ws0 := ⟨by decide, by decide⟩
theorem flat0 : flatOf ws0 = [0, 1, 2, 3] := by decide
theorem classes0 {ys : List Int} (h : IsSet ys (fun x => x ∈ flatOf ws0)) : ys = [0, 1, 2, 3] :=
  set_unique h ⟨by decide, fun n => by rw [flat0]⟩

def oversW (os : List Int) : Word := .such (fun v w => ∃ A c, v = .slice A os.length c ∧ OversAt w.heap.size w A os) (fun v w w' h hb => let ⟨A, c, e, hi⟩ := h; ⟨A, c, e, (hi.later hb).mono hb.size⟩)

theorem classes_fn (w : World) : Calls Try.prog 28 #[] w fun e w' => ∃ v, e = .returned v ∧ (oversW os0).holds v w' ∧ Below w.heap.size w w' := by
  go_enter Try.func28, Try.ntmps28
  go_wp2
  go_ret
  refine ⟨_, rfl, ⟨some ⟨w.heap.size, 0, none⟩, 4, rfl, fun i hi => ⟨_, rfl, by simp, ?_⟩⟩, alloc_below _ _⟩
  rw [add_free, Nat.zero_add]
  unfold World.cell?
  rw [alloc_at]
  have h4 : i < 4 := hi
  match i, h4 with
  | 0, _ => rfl
  | 1, _ => rfl
  | 2, _ => rfl
  | 3, _ => rfl
end Go.Proofs.Ytebpdlnknfjoaaa
