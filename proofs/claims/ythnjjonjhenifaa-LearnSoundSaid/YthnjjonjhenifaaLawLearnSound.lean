/- The law LearnSound returns true for every input, and leaves its arguments as they were; no condition. -/
import Derived.Test.YthnjjonjhenifaaRows
import Derived.Test.YthnjjonjhenifaaSoundL
import Derived.Test.YthnjjonjhenifaaArg
import Derived.Test.YthnjjonjhenifaaArgMark
namespace Go.Proofs.Ythnjjonjhenifaa.learnSound
open Go.ChangeShapes Go.WideShapes Go.ChangeAt Go.RowKit
open Go.ChangeMaps (open_string shut_string)
set_option linter.unusedVariables false
set_option linter.unusedSimpArgs false
theorem own : ownKnob Try.prog.godebug = none := by kernel_rfl
theorem laidOut : laidOutB Try.prog = true := by kernel_rfl
set_option maxRecDepth 100000 in
theorem lifted (os : Os) (started : os.Started) (H : Type) (enc : TypeId × Value → H) :
    ReturnsInHanded {} Try.checked os 5 .any (Rows.learnSoundSpec.pre6 enc Try.prog Try.f5 Rows.learnSoundRow.domain false) (Rows.learnSoundSpec.post enc Try.prog Try.f5 false true false false) := by
  refine returnsInHanded_of_change_sized (C := Try.checked) own started (by kernel_rfl) Try.func5
    (ChangeSpec.witness6 (enc := enc) (C := Try.checked) false ⟨#[], #[.slice none 0 0, .slice none 0 0, .int .i64 0, .slice none 0 0], []⟩ 8 (by kernel_rfl) (by kernel_rfl) (by kernel_rfl) (by kernel_rfl)) ?_
  intro W base args ds gs before hval0 hW hcnd hsz0 _
  have hval : ∀ (j : Nat) t v, Try.f5.params[j]? = some t → args[j]? = some v → Value.okWide Try.prog W .any base t v := hval0
  have hW' := hW
  obtain ⟨p, q, hA0, hV, rfl, hfz, hnd⟩ := hW
  have hA : DataW.TrodAll enc Try.prog W 0 (fun _ => true) true Try.f5.params.toList args.toList ds p := hA0
  rw [Try.params5] at hA hval
  obtain ⟨v0, vs0, d0, ds0, p0, q0, hargs, rfl, rfl, h0, r0⟩ := trodAll_cons hA
  obtain ⟨v1, vs1, d1, ds1, p1, q1, rfl, rfl, rfl, h1, r1⟩ := trodAll_cons r0
  obtain ⟨v2, vs2, d2, ds2, p2, q2, rfl, rfl, rfl, h2, r2⟩ := trodAll_cons r1
  obtain ⟨v3, vs3, d3, ds3, p3, q3, rfl, rfl, rfl, h3, r3⟩ := trodAll_cons r2
  obtain ⟨rfl, rfl, rfl⟩ := trodAll_nil r3
  obtain rfl : args = #[v0, v1, v2, v3] := by cases args; simp_all
  obtain ⟨rfl, rfl⟩ := trodVars_none hV
  obtain ⟨a0, len0, c0, rfl⟩ := okWide_slice Try.underlying23 (hval 0 23 v0 rfl rfl)
  have k0 := h0
  have lt0 : ∀ x ∈ p0, x.block < W.heap.size := by obtain ⟨m, hm⟩ := k0; exact DataW.trod_lt m _ _ _ hm
  obtain ⟨l0, hl0, hR0, hC0, hG0⟩ : ∃ xs : List Int, len0 = xs.length ∧ IntsAt W.heap.size W a0 xs ∧ xs.length ≤ c0 ∧ ∀ x ∈ xs, R64 x := by
    obtain ⟨fuel, hf⟩ := h0
    exact ints_r_of_trod Try.underlying23 Try.underlying3 (by kernel_rfl) hf
  subst hl0
  obtain ⟨a1, len1, c1, rfl⟩ := okWide_slice Try.underlying23 (hval 1 23 v1 rfl rfl)
  have k1 := h1
  have lt1 : ∀ x ∈ p1, x.block < W.heap.size := by obtain ⟨m, hm⟩ := k1; exact DataW.trod_lt m _ _ _ hm
  obtain ⟨l1, hl1, hR1, hC1, hG1⟩ : ∃ xs : List Int, len1 = xs.length ∧ IntsAt W.heap.size W a1 xs ∧ xs.length ≤ c1 ∧ ∀ x ∈ xs, R64 x := by
    obtain ⟨fuel, hf⟩ := h1
    exact ints_r_of_trod Try.underlying23 Try.underlying3 (by kernel_rfl) hf
  subst hl1
  obtain ⟨a2, rfl, rfl, rfl, w2⟩ := open_int Try.underlying3 (hval 2 3 v2 rfl rfl) h2
  obtain ⟨a3, len3, c3, rfl⟩ := okWide_slice Try.underlying23 (hval 3 23 v3 rfl rfl)
  have k3 := h3
  have lt3 : ∀ x ∈ p3, x.block < W.heap.size := by obtain ⟨m, hm⟩ := k3; exact DataW.trod_lt m _ _ _ hm
  obtain ⟨l3, hl3, hR3, hC3, hG3⟩ : ∃ xs : List Int, len3 = xs.length ∧ IntsAt W.heap.size W a3 xs ∧ xs.length ≤ c3 ∧ ∀ x ∈ xs, R64 x := by
    obtain ⟨fuel, hf⟩ := h3
    exact ints_r_of_trod Try.underlying23 Try.underlying3 (by kernel_rfl) hf
  subst hl3
  clear hA0 hval0 hsz0
  refine (sound_any l0 l1 a2 l3 a0 c0 a1 c1 a3 c3 W hR0 hC0 hG0 hR1 hC1 hG1  hR3 hC3 hG3).mono fun e W' ⟨he, bel⟩ => ?_
  subst he
  exact ⟨_, rfl, _, _, _, [], _, [], hW', trodAll_mk1 (shut_bool Try.underlying4 _), (trodAll_cons_mk (Below.trod laidOut (by kernel_rfl) (of_decide_eq_true (by kernel_rfl)) k0 bel lt0) (trodAll_cons_mk (Below.trod laidOut (by kernel_rfl) (of_decide_eq_true (by kernel_rfl)) k1 bel lt1) (trodAll_cons_mk (shut_int Try.underlying3 w2) (trodAll_cons_mk (Below.trod laidOut (by kernel_rfl) (of_decide_eq_true (by kernel_rfl)) k3 bel lt3) trodAll_mk0)))), rfl, bel.frame _, fun h => by cases h⟩
theorem over : Rows.learnSoundRow.holds Try.pinned (OpenSpec.ofChange Rows.learnSoundSpec) :=
  OpenClaim.holds_of_wide 5 Try.f5 rfl rfl rfl rfl rfl rfl rfl ⟨rfl, rfl, rfl, rfl, rfl⟩ rfl rfl rfl rfl rfl (by kernel_rfl) Try.func5 (by kernel_rfl)
    (of_decide_eq_true (by kernel_rfl)) (by unfold Func.isWrapper; first | (rw [if_pos (by decide +kernel)]; kernel_rfl) | (rw [if_neg (by decide +kernel)]; exact ⟨rfl, rfl⟩))
    (fun os started H enc _ => lifted os started H enc)
theorem proved : Rows.LearnSoundSaid := over
end Go.Proofs.Ythnjjonjhenifaa.learnSound
namespace Go.Proofs.Ythnjjonjhenifaa
/-- The given statement. -/
theorem learnSound_holds : Rows.LearnSoundSaid := learnSound.proved
#print axioms learnSound_holds
end Go.Proofs.Ythnjjonjhenifaa
