/- The law LearnLess returns true for every input, and leaves its arguments as they were; no condition. -/
import Derived.Test.YthnjjonjhenifaaRows
import Derived.Test.YthnjjonjhenifaaLessL
import Derived.Test.YthnjjonjhenifaaArg
import Derived.Test.YthnjjonjhenifaaArgMark
namespace Go.Proofs.Ythnjjonjhenifaa.learnLess
open Go.ChangeShapes Go.WideShapes Go.ChangeAt Go.RowKit
open Go.ChangeMaps (open_string shut_string)
set_option linter.unusedVariables false
set_option linter.unusedSimpArgs false
theorem own : ownKnob Try.prog.godebug = none := by kernel_rfl
theorem laidOut : laidOutB Try.prog = true := by kernel_rfl
set_option maxRecDepth 100000 in
theorem lifted (os : Os) (started : os.Started) (H : Type) (enc : TypeId × Value → H) :
    ReturnsInHanded {} Try.checked os 9 .any (Rows.learnLessSpec.pre6 enc Try.prog Try.f9 Rows.learnLessRow.domain false) (Rows.learnLessSpec.post enc Try.prog Try.f9 false true false false) := by
  refine returnsInHanded_of_change_sized (C := Try.checked) own started (by kernel_rfl) Try.func9
    (ChangeSpec.witness6 (enc := enc) (C := Try.checked) false ⟨#[], #[.slice none 0 0, .slice none 0 0], []⟩ 8 (by kernel_rfl) (by kernel_rfl) (by kernel_rfl) (by kernel_rfl)) ?_
  intro W base args ds gs before hval0 hW hcnd hsz0 _
  have hval : ∀ (j : Nat) t v, Try.f9.params[j]? = some t → args[j]? = some v → Value.okWide Try.prog W .any base t v := hval0
  have hW' := hW
  obtain ⟨p, q, hA0, hV, rfl, hfz, hnd⟩ := hW
  have hA : DataW.TrodAll enc Try.prog W 0 (fun _ => true) true Try.f9.params.toList args.toList ds p := hA0
  rw [Try.params9] at hA hval
  obtain ⟨v0, vs0, d0, ds0, p0, q0, hargs, rfl, rfl, h0, r0⟩ := trodAll_cons hA
  obtain ⟨v1, vs1, d1, ds1, p1, q1, rfl, rfl, rfl, h1, r1⟩ := trodAll_cons r0
  obtain ⟨rfl, rfl, rfl⟩ := trodAll_nil r1
  obtain rfl : args = #[v0, v1] := by cases args; simp_all
  obtain ⟨rfl, rfl⟩ := trodVars_none hV
  obtain ⟨a0, len0, c0, rfl⟩ := okWide_slice Try.underlying22 (hval 0 22 v0 rfl rfl)
  have k0 := h0
  have lt0 : ∀ x ∈ p0, x.block < W.heap.size := by obtain ⟨m, hm⟩ := k0; exact DataW.trod_lt m _ _ _ hm
  obtain ⟨l0, hl0, hR0, hC0, hG0⟩ : ∃ ms : List Mk, len0 = ms.length ∧ MarksAt W.heap.size W a0 ms ∧ ms.length ≤ c0 ∧ MsOk ms := by
    obtain ⟨fuel, hf⟩ := h0
    exact marks_of_trod Try.underlying22 Try.underlying37 (by kernel_rfl) (by kernel_rfl) Try.underlying3 Try.underlying3 Try.underlying23 Try.underlying3 (by kernel_rfl) hf
  subst hl0
  obtain ⟨a1, len1, c1, rfl⟩ := okWide_slice Try.underlying23 (hval 1 23 v1 rfl rfl)
  have k1 := h1
  have lt1 : ∀ x ∈ p1, x.block < W.heap.size := by obtain ⟨m, hm⟩ := k1; exact DataW.trod_lt m _ _ _ hm
  obtain ⟨l1, hl1, hR1, hC1, hG1⟩ : ∃ xs : List Int, len1 = xs.length ∧ IntsAt W.heap.size W a1 xs ∧ xs.length ≤ c1 ∧ ∀ x ∈ xs, R64 x := by
    obtain ⟨fuel, hf⟩ := h1
    exact ints_r_of_trod Try.underlying23 Try.underlying3 (by kernel_rfl) hf
  subst hl1
  clear hA0 hval0 hsz0
  refine (less_any l0 l1 a0 c0 a1 c1 W hR0 hC0 hG0 hR1 hC1 hG1).mono fun e W' ⟨he, bel⟩ => ?_
  subst he
  exact ⟨_, rfl, _, _, _, [], _, [], hW', trodAll_mk1 (shut_bool Try.underlying4 _), (trodAll_cons_mk (Below.trod laidOut (by kernel_rfl) (of_decide_eq_true (by kernel_rfl)) k0 bel lt0) (trodAll_cons_mk (Below.trod laidOut (by kernel_rfl) (of_decide_eq_true (by kernel_rfl)) k1 bel lt1) trodAll_mk0)), rfl, bel.frame _, fun h => by cases h⟩
theorem over : Rows.learnLessRow.holds Try.pinned (OpenSpec.ofChange Rows.learnLessSpec) :=
  OpenClaim.holds_of_wide 9 Try.f9 rfl rfl rfl rfl rfl rfl rfl ⟨rfl, rfl, rfl, rfl, rfl⟩ rfl rfl rfl rfl rfl (by kernel_rfl) Try.func9 (by kernel_rfl)
    (of_decide_eq_true (by kernel_rfl)) (by unfold Func.isWrapper; first | (rw [if_pos (by decide +kernel)]; kernel_rfl) | (rw [if_neg (by decide +kernel)]; exact ⟨rfl, rfl⟩))
    (fun os started H enc _ => lifted os started H enc)
theorem proved : Rows.LearnLessSaid := over
end Go.Proofs.Ythnjjonjhenifaa.learnLess
namespace Go.Proofs.Ythnjjonjhenifaa
/-- The given statement. -/
theorem learnLess_holds : Rows.LearnLessSaid := learnLess.proved
#print axioms learnLess_holds
end Go.Proofs.Ythnjjonjhenifaa
