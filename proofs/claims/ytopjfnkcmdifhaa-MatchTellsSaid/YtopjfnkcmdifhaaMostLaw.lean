/- The walk of the law MatchMost. -/
import Derived.Test.YtopjfnkcmdifhaaRefMostW
import Derived.Test.YtopjfnkcmdifhaaOrderW
namespace Go.Proofs.Ytopjfnkcmdifhaa
set_option linter.unusedVariables false
set_option linter.unusedSimpArgs false
open Go.RowKit Kuhn

theorem flatten_le {k : Nat} : ∀ {xss : List (List Int)}, (∀ r ∈ xss, r.length ≤ k) → xss.flatten.length ≤ xss.length * k := by
  intro xss
  induction xss with
  | nil => intro _; simp
  | cons r rs ih =>
    intro h
    have h1 := h r (.head _)
    have h2 := ih (fun r hr => h r (.tail _ hr))
    rw [List.flatten_cons, List.length_append, List.length_cons, Nat.succ_mul]
    omega
theorem few_all {near : List (List Int)} (h : fewB near = true) : near.length ≤ 1000 ∧ (∀ r ∈ near, r.length ≤ 1000) ∧ near.flatten.length ≤ 1000 := by
  obtain ⟨h1, h2⟩ := few_bounds h
  refine ⟨by omega, fun r hr => by have := h2 r hr; omega, ?_⟩
  have := flatten_le h2
  have : near.length * 16 ≤ 12 * 16 := Nat.mul_le_mul_right _ h1
  omega

set_option maxHeartbeats 600000 in
theorem most_law (near : List (List Int)) (right : Int) (A : Option Addr) (c : Nat) (w : World) (hR : RowsAt w.heap.size w A near) :
    Calls Try.prog 4 #[.slice A near.length c, .int .i64 right] w fun e w' => e = .returned (.bool true) ∧ Below w.heap.size w w' := by
  have HF := Lib.hid (few_any c near w hR)
  have HR := Lib.hid hR
  clear hR
  cases hb : fewB near with
  | false =>
    rw [hb] at HF
    have HH := Lib.hid (heads_any w)
    clear hb
    go_enter Try.func4, Try.ntmps4
    go_wp2_with (first | (go_at_call 10; refine HF.out.mono ?_; rintro e w' ⟨rfl, rfl⟩) | (go_at_call 11; refine HH.out.mono ?_; rintro e w9 ⟨rfl, hb9⟩; have HB9 := Lib.hid hb9; clear hb9))
    go_ret
    exact ⟨rfl, HB9.out⟩
  | true =>
    rw [hb] at HF
    obtain ⟨hn, hl, hU⟩ := few_all hb
    obtain ⟨l, hll⟩ : ∃ l, l = near.map (rowOf right) := ⟨_, rfl⟩
    have HC1 := Lib.hid (most_near hll A c w HR.out hn hl)
    obtain ⟨m, hm⟩ : ∃ m, m = mostOf l := ⟨_, rfl⟩
    have hml : m.length = near.length := by rw [hm, mostOf_length, hll]; simp
    rw [← hm] at HC1
    have HLL := Lib.hid hll
    have HM := Lib.hid hm
    have HML := Lib.hid hml
    have HL := Lib.hid hl
    clear hb hll hm hml hl
    go_enter Try.func4, Try.ntmps4
    go_wp2_with (first
      | (go_at_call 10; refine HF.out.mono ?_; rintro e w' ⟨rfl, rfl⟩)
      | (go_at_call 12; refine HC1.out.mono ?_; rintro e w1 ⟨A1, c1, rfl, hi1, hb1⟩; have HB1 := Lib.hid hb1; have HI1 := Lib.hid hi1; have HC2 := Lib.hid (refMost_any HLL.out c w1 (HR.out.later hb1).now hn HL.out hU); rw [← HM.out] at HC2; clear hb1 hi1)
      | (go_at_call 17; refine HC2.out.mono ?_; rintro e w2 ⟨A2, c2, rfl, _, hi2, hb2⟩; have HB2 := Lib.hid (HB1.out.trans (hb2.mono HB1.out.size)); have HC3 := Lib.hid (same_near (q := true) c1 c2 w2 ((HI1.out.later hb2).mono hb2.size) hi2 HML.out HML.out (by omega) (decide_eq_true rfl)); clear hb2 hi2)
      | (go_at_call 16; refine HC3.out.mono ?_; rintro e w3 ⟨rfl, hb3⟩; have HB3 := Lib.hid (HB2.out.trans (hb3.mono HB2.out.size)); have HH := Lib.hid (heads_any w3); clear hb3)
      | (go_at_call 11; refine HH.out.mono ?_; rintro e w9 ⟨rfl, hb9⟩; have HB9 := Lib.hid (HB3.out.trans (hb9.mono HB3.out.size)); clear hb9))
    go_ret
    exact ⟨rfl, HB9.out⟩
end Go.Proofs.Ytopjfnkcmdifhaa
