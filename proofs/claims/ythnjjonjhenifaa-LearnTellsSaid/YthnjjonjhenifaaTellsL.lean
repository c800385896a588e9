/- The walk of LearnTells. -/
import Derived.Test.YthnjjonjhenifaaWalks
import Derived.Test.YthnjjonjhenifaaPLearnTellsLearn
namespace Go.Proofs.Ythnjjonjhenifaa
set_option linter.unusedVariables false
set_option linter.unusedSimpArgs false
open Go.RowKit

theorem few_sized {ms : List Mk} {n : Nat} (h : fewB ms n = true) : Sized ms ∧ n ≤ 24 := by
  obtain ⟨h1, h2, h3⟩ := few_bounds h
  exact ⟨⟨by omega, fun i hi => by have := h3 i hi; omega⟩, h2⟩
theorem learn_any {A A2 : Option Addr} {ms : List Mk} {cl r : List Int} {n : Nat} (c c2 : Nat) (w : World) (hM : MarksAt w.heap.size w A ms) (hI : IntsAt w.heap.size w A2 cl) (hz : Sized ms) (hn : cl.length = n) (hn1 : n ≤ 1000) (hms : MsOk ms) (hr : ∀ x ∈ cl, R64 x) (hl : falseB ms cl = true → learnP ms (ms.length + 2) (litSort cl) = some r) :
    Calls Try.prog 12 #[.slice A ms.length c, .slice A2 n c2] w fun e w' => ∃ Ar cr, e = .returned (.tuple #[.slice Ar (PLearnTells.learnT ms cl r).1.length cr, .int .i64 (PLearnTells.learnT ms cl r).2.1, .int .i64 (PLearnTells.learnT ms cl r).2.2]) ∧ IntsAt w'.heap.size w' Ar (PLearnTells.learnT ms cl r).1 ∧ Below w.heap.size w w' := by
  cases hf : falseB ms cl with
  | false =>
    have e1 : PLearnTells.learnT ms cl r = ([], 0, 2) := by unfold PLearnTells.learnT; rw [if_neg (by rw [hf]; decide)]
    refine (learn_no c c2 w hM hI hz hn hn1 hf).mono ?_
    rintro e w' ⟨rfl, hb⟩
    rw [e1]
    exact ⟨none, 0, rfl, IntsAt.nil _ _ _, hb⟩
  | true =>
    have e1 : PLearnTells.learnT ms cl r = (r, backP ms r, 0) := by unfold PLearnTells.learnT; rw [if_pos hf]
    refine (learn_yes c c2 w hM hI hz hn hn1 hms hr hf).mono ?_
    rintro e w' ⟨r', A, c, h1, _, _, rfl, hi, hb⟩
    have : r' = r := by have := h1.symm.trans (hl hf); cases this; rfl
    subst this
    rw [e1]
    exact ⟨A, c, rfl, hi, hb⟩
theorem learnT_len {ms : List Mk} {cl r : List Int} (hm : MsOk ms) (hr : ∀ x ∈ cl, R64 x) (hl : falseB ms cl = true → learnP ms (ms.length + 2) (litSort cl) = some r) : (PLearnTells.learnT ms cl r).1.length ≤ ms.length := by
  unfold PLearnTells.learnT
  split
  · rename_i h
    exact (learn_fal hm _ _ _ (fal_of hr h) (hl h)).1.len
  · exact Nat.zero_le _
theorem learnT_some {ms : List Mk} {cl : List Int} (hm : MsOk ms) (hr : ∀ x ∈ cl, R64 x) : ∃ r, falseB ms cl = true → learnP ms (ms.length + 2) (litSort cl) = some r := by
  by_cases h : falseB ms cl = true
  · have hf := fal_of hr h
    obtain ⟨r, hr⟩ := learn_ends hm (ms.length + 2) _ hf (by have := latest_lt hf; omega)
    exact ⟨r, fun _ => hr⟩
  · exact ⟨[], fun q => absurd q h⟩

set_option maxHeartbeats 400000 in
theorem tells_any (ms : List Mk) (cl : List Int) (A1 : Option Addr) (c1 : Nat) (A2 : Option Addr) (c2 : Nat) (w : World) (hM : MarksAt w.heap.size w A1 ms) (k1 : ms.length ≤ c1) (hms : MsOk ms) (hI : IntsAt w.heap.size w A2 cl) (k2 : cl.length ≤ c2) (hr : ∀ x ∈ cl, R64 x) :
    Calls Try.prog 6 #[.slice A1 ms.length c1, .slice A2 cl.length c2] w fun e w' => e = .returned (.bool true) ∧ Below w.heap.size w w' := by
  obtain ⟨n, hn⟩ : ∃ n, cl.length = n := ⟨_, rfl⟩
  rw [hn] at k2 ⊢
  have HF (q : Bool) (hq : fewB ms n = q) := few_any (A2 := A2) c1 c2 w hM hq
  cases hf : fewB ms n with
  | false =>
    have H1 := Lib.hid (HF false hf)
    have HH := Lib.hid (heads_any w)
    clear HF hM hI k1 k2 hn hr hms hf
    go_enter Try.func6, Try.ntmps6
    go_wp2_with (first
      | (go_at_call 10; refine H1.out.mono ?_; rintro e w' ⟨rfl, rfl⟩)
      | (go_at_call 11; refine HH.out.mono ?_; rintro e w' ⟨rfl, hb⟩; have HB := Lib.hid hb; clear hb))
    go_ret
    exact ⟨rfl, HB.out⟩
  | true =>
    have H1 := Lib.hid (HF true hf)
    obtain ⟨hz, hn24⟩ := few_sized hf
    have hn1 : n ≤ 1000 := by omega
    obtain ⟨r, hl⟩ := learnT_some (cl := cl) hms hr
    have mm (w1 : World) (hb : Below w.heap.size w w1) : MarksAt w1.heap.size w1 A1 ms := (hM.later hb).mono hb.size
    have ii (w1 : World) (hb : Below w.heap.size w w1) : IntsAt w1.heap.size w1 A2 cl := (hI.later hb).mono hb.size
    have HC1 := Lib.hid (learn_any c1 c2 w hM hI hz hn hn1 hms hr hl)
    have HC2 := Lib.hid (fun w1 hb => PLearnTells.learn_ref c1 c2 w1 (mm w1 hb) (ii w1 hb) hz hms k1 hn hn1 k2 hr hl)
    have HR1 := Lib.hid (fun w1 hb => right_any (r := rightB ms) c1 w1 (mm w1 hb) (Nat.le_trans hz.1 (by decide)) (fun i hi => Nat.le_trans (hz.2 i hi) (by decide)) rfl)
    have HR2 := Lib.hid (fun w1 hb => PLearnTells.right_ref c1 w1 (mm w1 hb) hz k1)
    have HF1 := Lib.hid (fun w1 hb => false_any (r := falseB ms cl) c1 c2 w1 (mm w1 hb) (ii w1 hb) hz hn hn1 rfl)
    have HF2 := Lib.hid (fun w1 hb => PLearnTells.false_ref c1 c2 w1 (mm w1 hb) (ii w1 hb) hz k1 hn hn1 k2)
    have HK1 := Lib.hid (fun w1 hb => backFn_any c1 c2 w1 (mm w1 hb) (ii w1 hb) hz hn hn1 hr)
    have HK2 := Lib.hid (fun w1 hb => PLearnTells.back_ref c1 c2 w1 (mm w1 hb) (ii w1 hb) hz k1 hn hn1 k2 hr)
    have HL : Hid ((PLearnTells.learnT ms cl r).1.length ≤ 1000) := Nat.le_trans (learnT_len hms hr hl) hz.1
    obtain ⟨R, hR⟩ : ∃ R, R = (PLearnTells.learnT ms cl r).1 := ⟨_, rfl⟩
    obtain ⟨bk, hbk⟩ : ∃ bk, bk = (PLearnTells.learnT ms cl r).2.1 := ⟨_, rfl⟩
    obtain ⟨er, her⟩ : ∃ er, er = (PLearnTells.learnT ms cl r).2.2 := ⟨_, rfl⟩
    obtain ⟨rb, hrb⟩ : ∃ rb, rb = rightB ms := ⟨_, rfl⟩
    obtain ⟨fb, hfb⟩ : ∃ fb, fb = falseB ms cl := ⟨_, rfl⟩
    obtain ⟨bo, hbo⟩ : ∃ bo, bo = backOf ms cl := ⟨_, rfl⟩
    rw [← hR] at HL HC1 HC2
    rw [← hbk, ← her] at HC1 HC2
    rw [← hrb] at HR1 HR2
    rw [← hfb] at HF1 HF2
    rw [← hbo] at HK1 HK2
    clear mm ii hR hbk her hrb hfb hbo hl hn24 hn1 HF hM hI k1 k2 hn hr hms hf hz
    go_enter Try.func6, Try.ntmps6
    go_wp2_with (first
      | (go_at_call 10; refine H1.out.mono ?_; rintro e w' ⟨rfl, rfl⟩)
      | (go_at_call 12; refine HC1.out.mono ?_; rintro e w1 ⟨Ar, cr, rfl, hr, hb1⟩; have HX := Lib.hid hr; have HB1 := Lib.hid hb1; clear hr hb1)
      | (go_at_call 26; refine (HC2.out w1 HB1.out).mono ?_; rintro e w2 ⟨As, cs, rfl, hs, hb2⟩; have HX2 := Lib.hid ((HX.out.later hb2).mono hb2.size); have HY := Lib.hid hs; have HB2 := Lib.hid (HB1.out.trans (hb2.mono HB1.out.size)); clear hs hb2)
      | (go_at_call 13; refine (HR1.out w2 HB2.out).mono ?_; rintro e w3 ⟨rfl, hb3⟩; have HB3 := Lib.hid (HB2.out.trans (hb3.mono HB2.out.size)); have HX3 := Lib.hid ((HX2.out.later hb3).mono hb3.size); have HY3 := Lib.hid ((HY.out.later hb3).mono hb3.size); clear hb3)
      | (go_at_call 27; refine (HR2.out w3 HB3.out).mono ?_; rintro e w4 ⟨rfl, hb4⟩; have HB4 := Lib.hid (HB3.out.trans (hb4.mono HB3.out.size)); have HX4 := Lib.hid ((HX3.out.later hb4).mono hb4.size); have HY4 := Lib.hid ((HY3.out.later hb4).mono hb4.size); clear hb4)
      | (go_at_call 14; refine (HF1.out w4 HB4.out).mono ?_; rintro e w5 ⟨rfl, hb5⟩; have HB5 := Lib.hid (HB4.out.trans (hb5.mono HB4.out.size)); have HX5 := Lib.hid ((HX4.out.later hb5).mono hb5.size); have HY5 := Lib.hid ((HY4.out.later hb5).mono hb5.size); clear hb5)
      | (go_at_call 15; refine (HF2.out w5 HB5.out).mono ?_; rintro e w6 ⟨rfl, hb6⟩; have HB6 := Lib.hid (HB5.out.trans (hb6.mono HB5.out.size)); have HX6 := Lib.hid ((HX5.out.later hb6).mono hb6.size); have HY6 := Lib.hid ((HY5.out.later hb6).mono hb6.size); have HS := Lib.hid (same_near (q := true) cr cs w6 HX6.out HY6.out rfl rfl (Nat.le_trans HL.out (by decide)) (by simp)); clear hb6)
      | (go_at_call 18; refine HS.out.mono ?_; rintro e w7 ⟨rfl, hb7⟩; have HB7 := Lib.hid (HB6.out.trans (hb7.mono HB6.out.size)); clear hb7)
      | (go_at_call 28; refine (HK1.out w7 HB7.out).mono ?_; rintro e w8 ⟨rfl, hb8⟩; have HB8 := Lib.hid (HB7.out.trans (hb8.mono HB7.out.size)); clear hb8)
      | (go_at_call 29; refine (HK2.out w8 HB8.out).mono ?_; rintro e w9 ⟨rfl, hb9⟩; have HB9 := Lib.hid (HB8.out.trans (hb9.mono HB8.out.size)); have HH := Lib.hid (heads_any w9); clear hb9)
      | (go_at_call 11; refine HH.out.mono ?_; rintro e w10 ⟨rfl, hb10⟩; have HB10 := Lib.hid (HB9.out.trans (hb10.mono HB9.out.size)); clear hb10))
    go_ret
    exact ⟨rfl, HB10.out⟩
end Go.Proofs.Ythnjjonjhenifaa
