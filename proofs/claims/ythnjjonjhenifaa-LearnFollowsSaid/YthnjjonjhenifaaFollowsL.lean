/- The walk of LearnFollows. -/
import Derived.Test.YthnjjonjhenifaaWalks
import Derived.Test.YthnjjonjhenifaaPLearnFollowsWhys
namespace Go.Proofs.Ythnjjonjhenifaa
set_option linter.unusedVariables false
set_option linter.unusedSimpArgs false
open Go.RowKit

theorem few_sized {ms : List Mk} {n : Nat} (h : fewB ms n = true) : Sized ms ∧ n ≤ 24 := by
  obtain ⟨h1, h2, h3⟩ := few_bounds h
  exact ⟨⟨by omega, fun i hi => by have := h3 i hi; omega⟩, h2⟩
theorem back_zero {ms : List Mk} {c : List Int} (h : Fal ms c) (h1 : latestP ms c < 0 ∨ levAt ms (latestP ms c) = 0) : backP ms c = 0 := by
  rcases back_mem (ms := ms) (c := c) with q | ⟨y, hy, h7, h8⟩
  · exact q
  · have hge := latest_ge (ms := ms) hy
    have hlt := latest_lt h
    obtain ⟨j, hj, h9, _⟩ := h.pos hy
    rcases h1 with h1 | h1
    · omega
    · obtain ⟨k, hk⟩ : ∃ k : Nat, latestP ms c = k := ⟨(latestP ms c).toNat, by omega⟩
      have hle := lev_mono h.right (show j ≤ k by omega) (show k < ms.length by omega)
      have h0 := lev_nonneg h.right hj
      rw [← h9] at hle h0
      rw [hk] at h1
      omega

/-- The reference says so. -/
def PrintWordsEv (cls : List (List Int)) (r : List Int) : Prop := Go.Proofs.YthnjjonjhenifaaW.PrintWords.Ev (fun k => PLearnFollows.horariumref30_Follows.f k cls r) true
def onN (ms : List Mk) (c : List Int) (L : Int) : Nat := (PLearnFollows.onP ms c L).length
set_option maxRecDepth 100000 in
set_option maxHeartbeats 1000000 in
theorem follow_any (ms : List Mk) (cl : List Int) (A1 : Option Addr) (c1 : Nat) (A2 : Option Addr) (c2 : Nat) (w : World) (hM : MarksAt w.heap.size w A1 ms) (k1 : ms.length ≤ c1) (hms : MsOk ms) (hI : IntsAt w.heap.size w A2 cl) (k2 : cl.length ≤ c2) (hr : ∀ x ∈ cl, R64 x) :
    Calls Try.prog 3 #[.slice A1 ms.length c1, .slice A2 cl.length c2] w fun e w' => e = .returned (.bool true) ∧ Below w.heap.size w w' := by
  obtain ⟨n, hn⟩ : ∃ n, cl.length = n := ⟨_, rfl⟩
  rw [hn] at k2 ⊢
  have HF (q : Bool) (hq : fewB ms n = q) := few_any (A2 := A2) c1 c2 w hM hq
  cases hf : fewB ms n with
  | false =>
    have H1 := Lib.hid (HF false hf)
    have HH := Lib.hid (heads_any w)
    clear HF hM hI k1 k2 hn hr hms hf
    go_enter Try.func3, Try.ntmps3
    go_wp2_with (first
      | (go_at_call 10; refine H1.out.mono ?_; rintro e w' ⟨rfl, rfl⟩)
      | (go_at_call 11; refine HH.out.mono ?_; rintro e w' ⟨rfl, hb⟩; have HB := Lib.hid hb; clear hb))
    go_ret
    exact ⟨rfl, HB.out⟩
  | true =>
    have H1 := Lib.hid (HF true hf)
    have hml24 := (few_bounds hf).1
    obtain ⟨hz, hn24⟩ := few_sized hf
    have hn1 : n ≤ 1000 := by omega
    have HM : Hid (∀ w1, Below w.heap.size w w1 → MarksAt w1.heap.size w1 A1 ms) := fun w1 hb => (hM.later hb).mono hb.size
    have HIC : Hid (∀ w1, Below w.heap.size w w1 → IntsAt w1.heap.size w1 A2 cl) := fun w1 hb => (hI.later hb).mono hb.size
    cases hfb : falseB ms cl with
    | false =>
      have HC := Lib.hid (learn_no c1 c2 w hM hI hz hn hn1 hfb)
      have hwl : ∀ i, i < ms.length → (atM ms i).why.length ≤ 1000000 := fun i hi => Nat.le_trans (hz.2 i hi) (by decide)
      have hml := hz.1
      cases hrb : rightB ms with
      | false =>
        have HR := Lib.hid (fun w1 hb => right_any (r := false) c1 w1 (HM.out w1 hb) (Nat.le_trans hml (by decide)) hwl hrb)
        clear hn24 hn1 HF hM hI k1 k2 hn hr hms hf hz hfb HM HIC hwl hml hrb hml24
        go_enter Try.func3, Try.ntmps3
        go_wp2_with (first
          | (go_at_call 10; refine H1.out.mono ?_; rintro e w' ⟨rfl, rfl⟩)
          | (go_at_call 12; refine HC.out.mono ?_; rintro e w1 ⟨rfl, hb1⟩; have HB1 := Lib.hid hb1; clear hb1)
          | (go_at_call 13; refine (HR.out w1 HB1.out).mono ?_; rintro e w2 ⟨rfl, hb2⟩; have HB2 := Lib.hid (HB1.out.trans (hb2.mono HB1.out.size)); have HH := Lib.hid (heads_any w2); clear hb2)
          | (go_at_call 11; refine HH.out.mono ?_; rintro e w3 ⟨rfl, hb3⟩; have HB3 := Lib.hid (HB2.out.trans (hb3.mono HB2.out.size)); clear hb3))
        go_ret
        exact ⟨rfl, HB3.out⟩
      | true =>
        have HR := Lib.hid (fun w1 hb => right_any (r := true) c1 w1 (HM.out w1 hb) (Nat.le_trans hml (by decide)) hwl hrb)
        have HFF := Lib.hid (fun w1 hb => false_any (r := false) c1 c2 w1 (HM.out w1 hb) (HIC.out w1 hb) hz hn hn1 hfb)
        clear hn24 hn1 HF hM hI k1 k2 hn hr hms hf hz hfb HM HIC hwl hml hrb hml24
        go_enter Try.func3, Try.ntmps3
        go_wp2_with (first
          | (go_at_call 10; refine H1.out.mono ?_; rintro e w' ⟨rfl, rfl⟩)
          | (go_at_call 12; refine HC.out.mono ?_; rintro e w1 ⟨rfl, hb1⟩; have HB1 := Lib.hid hb1; clear hb1)
          | (go_at_call 13; refine (HR.out w1 HB1.out).mono ?_; rintro e w2 ⟨rfl, hb2⟩; have HB2 := Lib.hid (HB1.out.trans (hb2.mono HB1.out.size)); clear hb2)
          | (go_at_call 14; refine (HFF.out w2 HB2.out).mono ?_; rintro e w3 ⟨rfl, hb3⟩; have HB3 := Lib.hid (HB2.out.trans (hb3.mono HB2.out.size)); have HH := Lib.hid (heads_any w3); clear hb3)
          | (go_at_call 11; refine HH.out.mono ?_; rintro e w4 ⟨rfl, hb4⟩; have HB4 := Lib.hid (HB3.out.trans (hb4.mono HB3.out.size)); clear hb4))
        go_ret
        exact ⟨rfl, HB4.out⟩
    | true =>
      have HC := Lib.hid (learn_yes c1 c2 w hM hI hz hn hn1 hms hr hfb)
      have HZ := Lib.hid hz
      have hml := hz.1
      have HW := Lib.hid (fun (w1 : World) (hb : Below w.heap.size w w1) => PLearnFollows.whys_ref c1 c2 w1 (HM.out w1 hb) (HIC.out w1 hb) hz k1 hn hn1 k2)
      have HEV : Hid (∀ r, learnP ms (ms.length + 2) (litSort cl) = some r → PrintWordsEv (PLearnFollows.whysP ms cl) r) := fun r h => PLearnFollows.learn_follows hz (by omega) hms (by rw [hn]; exact hn1) hr hfb h
      obtain ⟨cls, hcls⟩ : ∃ cls, cls = PLearnFollows.whysP ms cl := ⟨_, rfl⟩
      rw [← hcls] at HW HEV
      clear hn24 hn1 HF hM hI k2 hn hr hms hf hz hfb hcls hml24 HIC
      go_enter Try.func3, Try.ntmps3
      go_wp2_with (first
        | (go_at_call 10; refine H1.out.mono ?_; rintro e w' ⟨rfl, rfl⟩)
        | (go_at_call 12; refine HC.out.mono ?_; rintro e w1 ⟨r, Ar, cr, hl, hfal, hst, rfl, hca, hb1⟩; have HB1 := Lib.hid hb1; have HFA := Lib.hid hfal; have HST := Lib.hid hst; have HCA := Lib.hid hca; have HEVR := Lib.hid (HEV.out r hl); obtain ⟨b, hb⟩ : (∃ b, b = backP ms r) := ⟨_, rfl⟩; rw [← hb]; have HBE := Lib.hid hb; obtain ⟨L, hL⟩ : (∃ L, latestP ms r = L) := ⟨_, rfl⟩; have hrl : r.length ≤ 1000 := Nat.le_trans hfal.len hml; have HLE := Lib.hid hL; have HRF := Lib.hid (PLearnFollows.false_ref c1 cr w1 (HM.out w1 hb1) hca.at_ HZ.out k1 rfl hrl hca.cap hfal.false); clear hl hfal hst hca hb1 hb hL)
        | (go_at_call 15; refine HRF.out.mono ?_; rintro e w2 ⟨rfl, hb2⟩; have HB2 := Lib.hid (HB1.out.trans (hb2.mono HB1.out.size)); have HI2 := Lib.hid (HCA.out.next hb2); clear hb2)
        | (go_at_call 17; refine (HW.out w2 HB2.out).mono ?_; rintro e w3 ⟨Aw, cw, rfl, hcw, hC, hb3⟩; have HB3 := Lib.hid (HB2.out.trans (hb3.mono HB2.out.size)); have HI3 := Lib.hid (HI2.out.next hb3); have HFO := Lib.hid (PLearnFollows.follows_ref cw cr w3 hC hcw HI3.out.at_ rfl hrl HI3.out.cap HEVR.out); clear hcw hC hb3)
        | (go_at_call 16; refine HFO.out.mono ?_; rintro e w4 ⟨rfl, hb4⟩; have HB4 := Lib.hid (HB3.out.trans (hb4.mono HB3.out.size)); have HI4 := Lib.hid (HI3.out.next hb4); have HSO := PLearnFollows.sort_ref cr w4 HI4.out.at_ rfl hrl HI4.out.cap; rw [HFA.out.sorted] at HSO; have HSQ := Lib.hid HSO; clear hb4 HSO)
        | (go_at_call 19; refine HSQ.out.mono ?_; rintro e w5 ⟨As, cs, rfl, hs, hb5⟩; have HB5 := Lib.hid (HB4.out.trans (hb5.mono HB4.out.size)); have HI5 := Lib.hid (HI4.out.next hb5); have HS := Lib.hid (same_near (q := true) cs cr w5 hs HI5.out.at_ rfl rfl (Nat.le_trans hrl (by decide)) (by simp)); clear hs hb5)
        | (go_at_call 18; refine HS.out.mono ?_; rintro e w6 ⟨rfl, hb6⟩; have HB6 := Lib.hid (HB5.out.trans (hb6.mono HB5.out.size)); have HI6 := Lib.hid (HI5.out.next hb6); have HLA := Lib.hid (PLearnFollows.latest_ref c1 cr w6 (HM.out w6 HB6.out) HI6.out.at_ HZ.out k1 rfl hrl HI6.out.cap HFA.out HLE.out); clear hb6))
      go_at_call 20
      refine HLA.out.mono ?_
      rintro e w7 ⟨rfl, hb7⟩
      have HB7 := Lib.hid (HB6.out.trans (hb7.mono HB6.out.size))
      have HI7 := Lib.hid (HI6.out.next hb7)
      clear hb7
      have HH := Lib.hid (heads_any w7)
      by_cases hL0 : L < 0
      · have hb0 : b = 0 := by rw [HBE.out]; exact back_zero HFA.out (.inl (by rw [HLE.out]; exact hL0))
        subst hb0
        go_wp2_with (go_at_call 11; refine HH.out.mono ?_; rintro e w8 ⟨rfl, hb8⟩; have HB8 := Lib.hid (HB7.out.trans (hb8.mono HB7.out.size)); clear hb8)
        go_ret
        exact ⟨rfl, HB8.out⟩
      · obtain ⟨p, rfl⟩ : ∃ p : Nat, L = p := ⟨L.toNat, by omega⟩
        have hpm : p < ms.length := by have := latest_lt HFA.out; rw [HLE.out] at this; omega
        obtain ⟨ad, A', c', rfl, _, hm1, hm2, _, _, _⟩ := HM.out w7 HB7.out p hpm
        have hlev : levAt ms (latestP ms r) = (atM ms p).lev := by rw [HLE.out]; unfold levAt; rw [Int.toNat_natCast]
        obtain ⟨y, hye⟩ : ∃ y, y = (atM ms p).lev := ⟨_, rfl⟩
        rw [← hye] at hm2 hlev
        by_cases hy0 : y = 0
        · have hb0 : b = 0 := by rw [HBE.out]; exact back_zero HFA.out (.inr (by rw [hlev]; exact hy0))
          subst hb0 hy0
          clear hlev hye
          go_wp2_with (go_at_call 11; refine HH.out.mono ?_; rintro e w8 ⟨rfl, hb8⟩; have HB8 := Lib.hid (HB7.out.trans (hb8.mono HB7.out.size)); clear hb8)
          go_ret
          exact ⟨rfl, HB8.out⟩
        · have hby : b < y := by
            have := HST.out
            unfold stopB at this
            rw [hlev, HLE.out, decide_eq_false (by omega), decide_eq_false hy0, ← HBE.out] at this
            simpa using this
          have hb0 : 0 ≤ b := by rw [HBE.out]; exact back_nonneg
          have hon : ((onN ms r y : Nat) : Int) = 1 := by
            obtain ⟨q1, q2⟩ := PLearnFollows.on_more HFA.out (by rw [HLE.out]; omega)
            rw [hlev] at q1 q2
            have := mt (q2 (by omega)).1 (by rw [← HBE.out]; omega)
            unfold onN
            omega
          have HON := Lib.hid (PLearnFollows.on_ref c1 cr w7 (HM.out w7 HB7.out) HI7.out.at_ HZ.out k1 rfl hrl HI7.out.cap HFA.out y 1 hon)
          have hy1 : (y == 0) = false := by simpa using hy0
          have hd1 : decide (0 ≤ b) = true := decide_eq_true hb0
          have hd2 : decide (b < y) = true := decide_eq_true hby
          have HYE := Lib.hid hye
          clear hlev hye hon HH HLE HBE
          go_wp2_with (first
            | (go_at_call 21; refine HON.out.mono ?_; rintro e w8 ⟨rfl, hb8⟩; have HB8 := Lib.hid (HB7.out.trans (hb8.mono HB7.out.size)); have hmk := HM.out w8 HB8.out p hpm; obtain ⟨ad', _, _, e', _, _, hm3, _, _, _⟩ := hmk; cases e'; rw [← HYE.out] at hm3; have HH := Lib.hid (heads_any w8); clear hb8)
            | (go_at_call 11; refine HH.out.mono ?_; rintro e w9 ⟨rfl, hb9⟩; have HB9 := Lib.hid (HB8.out.trans (hb9.mono HB8.out.size)); clear hb9))
          go_ret
          exact ⟨rfl, HB9.out⟩
end Go.Proofs.Ythnjjonjhenifaa
