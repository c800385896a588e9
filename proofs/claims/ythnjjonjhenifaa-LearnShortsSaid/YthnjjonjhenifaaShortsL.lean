/- The walk of LearnShorts. -/
import Derived.Test.YthnjjonjhenifaaWalks
import Derived.Test.YthnjjonjhenifaaPShortenShort
namespace Go.Proofs.Ythnjjonjhenifaa
set_option linter.unusedVariables false
set_option linter.unusedSimpArgs false
open Go.RowKit

theorem few_sized {ms : List Mk} {n : Nat} (h : fewB ms n = true) : Sized ms ∧ n ≤ 24 := by
  obtain ⟨h1, h2, h3⟩ := few_bounds h
  exact ⟨⟨by omega, fun i hi => by have := h3 i hi; omega⟩, h2⟩
theorem short_to_len {ms : List Mk} : ∀ (n : Nat) (c : List Int), (shortTo ms n c).length ≤ c.length
  | 0, c => Nat.le_refl _
  | n + 1, c => Nat.le_trans (short_to_len n (shortStep ms c n)) step_sub.length_le
theorem short_len {ms : List Mk} {cl : List Int} : (shortP ms cl).length ≤ cl.length := by
  unfold shortP
  have := sort_len cl
  split
  · exact Nat.le_trans (short_to_len _ _) this
  · exact this
set_option maxHeartbeats 400000 in
theorem shorts_any (ms : List Mk) (cl : List Int) (A1 : Option Addr) (c1 : Nat) (A2 : Option Addr) (c2 : Nat) (w : World) (hM : MarksAt w.heap.size w A1 ms) (k1 : ms.length ≤ c1) (hms : MsOk ms) (hI : IntsAt w.heap.size w A2 cl) (k2 : cl.length ≤ c2) (hr : ∀ x ∈ cl, R64 x) :
    Calls Try.prog 8 #[.slice A1 ms.length c1, .slice A2 cl.length c2] w fun e w' => e = .returned (.bool true) ∧ Below w.heap.size w w' := by
  obtain ⟨n, hn⟩ : ∃ n, cl.length = n := ⟨_, rfl⟩
  rw [hn] at k2 ⊢
  have HF (q : Bool) (hq : fewB ms n = q) := few_any (A2 := A2) c1 c2 w hM hq
  cases hf : fewB ms n with
  | false =>
    have H1 := Lib.hid (HF false hf)
    have HH := Lib.hid (heads_any w)
    clear HF hM hI k1 k2 hn hr hms hf
    go_enter Try.func8, Try.ntmps8
    go_wp2_with (first
      | (go_at_call 10; refine H1.out.mono ?_; rintro e w' ⟨rfl, rfl⟩)
      | (go_at_call 11; refine HH.out.mono ?_; rintro e w' ⟨rfl, hb⟩; have HB := Lib.hid hb; clear hb))
    go_ret
    exact ⟨rfl, HB.out⟩
  | true =>
    have H1 := Lib.hid (HF true hf)
    obtain ⟨hz, hn24⟩ := few_sized hf
    have hn1 : n ≤ 1000 := by omega
    have HC1 := Lib.hid (shorten_any c1 c2 w hM hI hz hn hn1 hr)
    have HC2 := Lib.hid (fun (w1 : World) (hb : Below w.heap.size w w1) => PShorten.short_ref (B := w1.heap.size) c1 c2 w1 ((hM.later hb).mono hb.size) ((hI.later hb).mono hb.size) hz k1 hn hn1 k2 hr)
    have HL : Hid ((shortP ms cl).length ≤ 1000) := Nat.le_trans short_len (by rw [hn]; exact hn1)
    unfold ShortPost at HC1 HC2
    obtain ⟨R, hR⟩ : ∃ R, R = shortP ms cl := ⟨_, rfl⟩
    rw [← hR] at HL HC1 HC2
    clear hR hn24 hn1 HF hM hI k1 k2 hn hr hms hf hz
    go_enter Try.func8, Try.ntmps8
    go_wp2_with (first
      | (go_at_call 10; refine H1.out.mono ?_; rintro e w' ⟨rfl, rfl⟩)
      | (go_at_call 30; refine HC1.out.mono ?_; rintro e w1 ⟨Ar, cr, rfl, hr, hb1⟩; have HX := Lib.hid hr; have HB1 := Lib.hid hb1; clear hr hb1)
      | (go_at_call 31; refine (HC2.out w1 HB1.out).mono ?_; rintro e w2 ⟨As, cs, rfl, hs, hb2⟩; have HX2 := Lib.hid ((HX.out.later hb2).mono hb2.size); have HB2 := Lib.hid (HB1.out.trans (hb2.mono HB1.out.size)); have HS := Lib.hid (same_near (q := true) cr cs w2 HX2.out hs rfl rfl (Nat.le_trans HL.out (by decide)) (by simp)); clear hs hb2)
      | (go_at_call 18; refine HS.out.mono ?_; rintro e w3 ⟨rfl, hb3⟩; have HB3 := Lib.hid (HB2.out.trans (hb3.mono HB2.out.size)); have HH := Lib.hid (heads_any w3); clear hb3)
      | (go_at_call 11; refine HH.out.mono ?_; rintro e w4 ⟨rfl, hb4⟩; have HB4 := Lib.hid (HB3.out.trans (hb4.mono HB3.out.size)); clear hb4))
    go_ret
    exact ⟨rfl, HB4.out⟩
end Go.Proofs.Ythnjjonjhenifaa
