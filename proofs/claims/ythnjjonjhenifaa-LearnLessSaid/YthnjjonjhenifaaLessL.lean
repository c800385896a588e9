/- The walk of LearnLess. -/
import Derived.Test.YthnjjonjhenifaaWalks
import Derived.Test.YthnjjonjhenifaaPLearnFollowsWhys
namespace Go.Proofs.Ythnjjonjhenifaa
set_option linter.unusedVariables false
set_option linter.unusedSimpArgs false
open Go.RowKit

theorem few_sized {ms : List Mk} {n : Nat} (h : fewB ms n = true) : Sized ms ∧ n ≤ 24 := by
  obtain ⟨h1, h2, h3⟩ := few_bounds h
  exact ⟨⟨by omega, fun i hi => by have := h3 i hi; omega⟩, h2⟩
theorem short_to_sub {ms : List Mk} : ∀ (n : Nat) (c : List Int), (shortTo ms n c).Sublist c
  | 0, c => List.Sublist.refl _
  | n + 1, c => (short_to_sub n (shortStep ms c n)).trans step_sub
theorem short_sub {ms : List Mk} {cl : List Int} : (shortP ms cl).Sublist (litSort cl) := by
  unfold shortP
  split
  · exact short_to_sub _ _
  · exact List.Sublist.refl _
theorem short_mem {ms : List Mk} {cl : List Int} {x : Int} (h : x ∈ shortP ms cl) : x ∈ cl := (sort_mem.1 (short_sub.subset h)).1
/-- The reference says so. -/
def PrintWordsEv (cls : List (List Int)) (r : List Int) : Prop := Go.Proofs.YthnjjonjhenifaaW.PrintWords.Ev (fun k => PLearnFollows.horariumref30_Follows.f k cls r) true
set_option maxRecDepth 100000 in
set_option maxHeartbeats 1000000 in
theorem less_any (ms : List Mk) (cl : List Int) (A1 : Option Addr) (c1 : Nat) (A2 : Option Addr) (c2 : Nat) (w : World) (hM : MarksAt w.heap.size w A1 ms) (k1 : ms.length ≤ c1) (hms : MsOk ms) (hI : IntsAt w.heap.size w A2 cl) (k2 : cl.length ≤ c2) (hr : ∀ x ∈ cl, R64 x) :
    Calls Try.prog 9 #[.slice A1 ms.length c1, .slice A2 cl.length c2] w fun e w' => e = .returned (.bool true) ∧ Below w.heap.size w w' := by
  obtain ⟨n, hn⟩ : ∃ n, cl.length = n := ⟨_, rfl⟩
  rw [hn] at k2 ⊢
  have HF (q : Bool) (hq : fewB ms n = q) := few_any (A2 := A2) c1 c2 w hM hq
  cases hf : fewB ms n with
  | false =>
    have H1 := Lib.hid (HF false hf)
    have HH := Lib.hid (heads_any w)
    clear HF hM hI k1 k2 hn hr hms hf
    go_enter Try.func9, Try.ntmps9
    go_wp2_with (first
      | (go_at_call 10; refine H1.out.mono ?_; rintro e w' ⟨rfl, rfl⟩)
      | (go_at_call 11; refine HH.out.mono ?_; rintro e w' ⟨rfl, hb⟩; have HB := Lib.hid hb; clear hb))
    go_ret
    exact ⟨rfl, HB.out⟩
  | true =>
    have H1 := Lib.hid (HF true hf)
    have hml24 := (few_bounds hf).1
    obtain ⟨hz, hn24⟩ := few_sized hf
    have hn1 : n ≤ 1000 := by omega
    cases hfb : falseB ms cl with
    | false =>
      have HC := Lib.hid (false_any (r := false) c1 c2 w hM hI hz hn hn1 hfb)
      clear hn24 hn1 HF hM hI k1 k2 hn hr hms hf hz hfb hml24
      go_enter Try.func9, Try.ntmps9
      go_wp2_with (first
        | (go_at_call 10; refine H1.out.mono ?_; rintro e w' ⟨rfl, rfl⟩)
        | (go_at_call 14; refine HC.out.mono ?_; rintro e w1 ⟨rfl, hb1⟩; have HB1 := Lib.hid hb1; have HH := Lib.hid (heads_any w1); clear hb1)
        | (go_at_call 11; refine HH.out.mono ?_; rintro e w2 ⟨rfl, hb2⟩; have HB2 := Lib.hid (HB1.out.trans (hb2.mono HB1.out.size)); clear hb2))
      go_ret
      exact ⟨rfl, HB2.out⟩
    | true =>
      have HC := Lib.hid (false_any (r := true) c1 c2 w hM hI hz hn hn1 hfb)
      have HM : Hid (∀ w1, Below w.heap.size w w1 → MarksAt w1.heap.size w1 A1 ms) := fun w1 hb => (hM.later hb).mono hb.size
      have HIC : Hid (∀ w1, Below w.heap.size w w1 → IntsAt w1.heap.size w1 A2 cl) := fun w1 hb => (hI.later hb).mono hb.size
      have HZ := Lib.hid hz
      have HN := Lib.hid hn
      have hfal := fal_of hr hfb
      have HFR : Hid (Fal ms (shortP ms cl)) := hfal.sub short_sub
      have HS1 : Hid (∀ w1, Below w.heap.size w w1 → Calls Try.prog 30 #[.slice A1 ms.length c1, .slice A2 n c2] w1 (ShortPost ms cl w1)) := fun w1 hb => shorten_any c1 c2 w1 (HM.out w1 hb) (HIC.out w1 hb) hz hn hn1 hr
      have HW := Lib.hid (fun (w1 : World) (hb : Below w.heap.size w w1) => PLearnFollows.whys_ref c1 c2 w1 (HM.out w1 hb) (HIC.out w1 hb) hz k1 hn hn1 k2)
      have HEV : Hid (PrintWordsEv (PLearnFollows.whysP ms cl) (shortP ms cl)) := PLearnFollows.short_follows hz (by omega) hms (by rw [hn]; exact hn1) hr hfb HFR.out
      have HSM : Hid (∀ x ∈ shortP ms cl, x ∈ cl) := fun x hx => short_mem hx
      obtain ⟨cls, hcls⟩ : ∃ cls, cls = PLearnFollows.whysP ms cl := ⟨_, rfl⟩
      rw [← hcls] at HW HEV
      unfold ShortPost at HS1
      obtain ⟨r, hre⟩ : ∃ r, r = shortP ms cl := ⟨_, rfl⟩
      rw [← hre] at HS1 HEV HFR HSM
      have hrl : r.length ≤ 1000 := Nat.le_trans HFR.out.len hz.1
      have HS2 : Hid (∀ w1 Ar cr, Below w.heap.size w w1 → IntsAt w1.heap.size w1 Ar r → Calls Try.prog 30 #[.slice A1 ms.length c1, .slice Ar r.length cr] w1 (ShortPost ms r w1)) := fun w1 Ar cr hb hi => shorten_any c1 cr w1 (HM.out w1 hb) hi hz rfl hrl HFR.out.r64
      unfold ShortPost at HS2
      have HDM : Hid (∀ x ∈ shortP ms r, x ∈ r) := fun x hx => short_mem hx
      have hdl' : (shortP ms r).length ≤ r.length := Nat.le_trans short_sub.length_le (sort_len r)
      obtain ⟨d, hde⟩ : ∃ d, d = shortP ms r := ⟨_, rfl⟩
      rw [← hde] at HS2 HDM hdl'
      have hdl : d.length ≤ 1000 := Nat.le_trans hdl' hrl
      have HFF : Hid (∀ w1 Ar cr, Below w.heap.size w w1 → IntsAt w1.heap.size w1 Ar r → Calls Try.prog 14 #[.slice A1 ms.length c1, .slice Ar r.length cr] w1 fun e w' => e = .returned (.bool true) ∧ Below w1.heap.size w1 w') := fun w1 Ar cr hb hi => false_any c1 cr w1 (HM.out w1 hb) hi hz rfl hrl HFR.out.false
      clear hn24 HF hM hI k1 k2 hn hr hms hf hz hfb hml24 hfal hre hde hcls hdl'
      go_enter Try.func9, Try.ntmps9
      go_wp2_with (first
        | (go_at_call 10; refine H1.out.mono ?_; rintro e w' ⟨rfl, rfl⟩)
        | (go_at_call 14; refine HC.out.mono ?_; rintro e w1 ⟨rfl, hb1⟩; have HB1 := Lib.hid hb1; clear hb1)
        | (go_at_call 30; with_reducible refine (HS1.out w1 HB1.out).mono ?_; rintro e w2 ⟨Ar, cr, rfl, hca, hb2⟩; have HB2 := Lib.hid (HB1.out.trans (hb2.mono HB1.out.size)); have HCA := Lib.hid hca; clear hca hb2 HS1)
        | (go_at_call 30; refine (HS2.out w2 Ar cr HB2.out HCA.out.at_).mono ?_; rintro e w3 ⟨Ad, cd, rfl, hcd, hb3⟩; have HB3 := Lib.hid (HB2.out.trans (hb3.mono HB2.out.size)); have HI3 := Lib.hid (HCA.out.next hb3); have HD3 := Lib.hid hcd; have HL3 := Lib.hid (HIC.out w3 HB3.out); clear hcd hb3))
      go_loop [7] (fun i => ∃ k : Nat, k ≤ r.length ∧ i = .int .i64 (k : Nat)) (fun i => r.length - (intOf i).toNat)
      case atStart => exact ⟨0, Nat.zero_le _, rfl⟩
      case round =>
        obtain ⟨k, hk, rfl⟩ := hrel
        by_cases hlt : k < r.length
        · obtain ⟨ad, rfl, hx⟩ := HI3.out.at_.cell k hlt
          have hin := HSM.out _ (List.getElem_mem hlt)
          obtain ⟨x, hxe⟩ : ∃ x, x = r[k] := ⟨_, rfl⟩
          rw [← hxe] at hx hin
          have H2 := Lib.hid (has_near c2 cl x w3 HL3.out HN.out hn1 (decide_eq_true hin))
          clear hxe hin
          go_wp2_with (go_at_call 24; refine H2.out.mono ?_; rintro e w' ⟨rfl, rfl⟩)
          go_round
          case rel => exact ⟨k + 1, by omega, by go_num⟩
          case measure => simp [intOf]; omega
        · go_wp2
          go_loop [8] (fun i => ∃ k : Nat, k ≤ d.length ∧ i = .int .i64 (k : Nat)) (fun i => d.length - (intOf i).toNat)
          case atStart => exact ⟨0, Nat.zero_le _, rfl⟩
          case round =>
            obtain ⟨k2, hk2, rfl⟩ := hrel
            by_cases hlt2 : k2 < d.length
            · obtain ⟨ad, rfl, hx⟩ := HD3.out.at_.cell k2 hlt2
              have hin := HDM.out _ (List.getElem_mem hlt2)
              obtain ⟨x, hxe⟩ : ∃ x, x = d[k2] := ⟨_, rfl⟩
              rw [← hxe] at hx hin
              have H2 := Lib.hid (has_near cr r x w3 HI3.out.at_ rfl hrl (decide_eq_true hin))
              clear hxe hin
              go_wp2_with (go_at_call 24; refine H2.out.mono ?_; rintro e w' ⟨rfl, rfl⟩)
              go_round
              case rel => exact ⟨k2 + 1, by omega, by go_num⟩
              case measure => simp [intOf]; omega
            · go_wp2_with (first
                | (go_at_call 14; refine (HFF.out w3 Ar cr HB3.out HI3.out.at_).mono ?_; rintro e w4 ⟨rfl, hb4⟩; have HB4 := Lib.hid (HB3.out.trans (hb4.mono HB3.out.size)); have HI4 := Lib.hid (HI3.out.next hb4); clear hb4)
                | (go_at_call 17; refine (HW.out w4 HB4.out).mono ?_; rintro e w5 ⟨Aw, cw, rfl, hcw, hC, hb5⟩; have HB5 := Lib.hid (HB4.out.trans (hb5.mono HB4.out.size)); have HI5 := Lib.hid (HI4.out.next hb5); have HFO := Lib.hid (PLearnFollows.follows_ref cw cr w5 hC hcw HI5.out.at_ rfl hrl HI5.out.cap HEV.out); clear hcw hC hb5)
                | (go_at_call 16; refine HFO.out.mono ?_; rintro e w6 ⟨rfl, hb6⟩; have HB6 := Lib.hid (HB5.out.trans (hb6.mono HB5.out.size)); have HH := Lib.hid (heads_any w6); clear hb6)
                | (go_at_call 11; refine HH.out.mono ?_; rintro e w7 ⟨rfl, hb7⟩; have HB7 := Lib.hid (HB6.out.trans (hb7.mono HB6.out.size)); clear hb7))
              go_ret
              exact ⟨rfl, HB7.out⟩
end Go.Proofs.Ythnjjonjhenifaa
