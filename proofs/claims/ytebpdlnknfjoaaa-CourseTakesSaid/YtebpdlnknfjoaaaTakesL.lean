/- The walk of the law CourseTakes. -/
import Derived.Test.YtebpdlnknfjoaaaHeads
import Derived.Test.YtebpdlnknfjoaaaRefLoadsW
import Derived.Test.YtebpdlnknfjoaaaLoadsAll
namespace Go.Proofs.Ytebpdlnknfjoaaa
set_option linter.unusedVariables false
set_option linter.unusedSimpArgs false
open Go.RowKit

theorem take_has {x : List Int} {xs : List (List Int)} {k : Nat} (hk : k < xs.length) : decide (x ∈ xs.take (k + 1)) = (decide (x ∈ xs.take k) || decide (xs[k] = x)) := by
  rw [List.take_succ_eq_append_getElem hk, Bool.eq_iff_iff, Bool.or_eq_true, decide_eq_true_eq, decide_eq_true_eq, decide_eq_true_eq, List.mem_append, List.mem_singleton]
  exact or_congr Iff.rfl eq_comm

set_option maxRecDepth 100000 in
set_option maxHeartbeats 1000000 in
theorem takes_law (os : List Int) (s : ByteArray) (ws : List (List (List Int))) (load : List Int) (A : Option Addr) (c : Nat) (A2 : Option Addr) (c2 : Nat) (A3 : Option Addr) (c3 : Nat) (w : World) (hO : OversAt w.heap.size w A os) (hs : s.size ≤ maxLen) (hW : WaysAt w.heap.size w A2 ws) (hI : IntsAt w.heap.size w A3 load) :
    Calls Try.prog 5 #[.slice A os.length c, .agg #[.string s, .slice A2 ws.length c2], .slice A3 load.length c3] w fun e w' => e = .returned (.bool true) ∧ Below w.heap.size w w' := by
  have hs9 : s.size ≤ 9223372036854775807 := hs
  obtain ⟨W, hWW⟩ : ∃ W, W = w.alloc (.cells #[.string s, .slice A2 ws.length c2] 24) := ⟨_, rfl⟩
  have HB0 : Hid (Below w.heap.size w W) := by rw [hWW]; exact alloc_below w _
  have HF : Hid (∀ q, lightB ws = q → Calls Try.prog 18 #[.agg #[.string s, .slice A2 ws.length c2]] W fun e w' => e = .returned (.bool q) ∧ Below W.heap.size W w') := fun q hq => light_any s c2 W (hW.later HB0.out).now hq
  have HH : Hid (∀ w : World, Calls Try.prog 10 #[] w fun e w' => e = .returned (.bool true) ∧ Below w.heap.size w w') := heads_any
  cases hf : lightB ws with
  | false =>
    have HFC := Lib.hid (HF.out false hf)
    clear hf hW hO HF hI
    subst hWW
    go_enter Try.func5, Try.ntmps5
    go_wp2_with (first
      | (go_at_call 18; refine HFC.out.mono ?_; rintro e w2 ⟨rfl, hb⟩; have HB := Lib.hid (HB0.out.trans (hb.mono HB0.out.size)); clear hb)
      | (go_at_call 10; refine (HH.out _).mono ?_; rintro e w4 ⟨rfl, hb4⟩; have HB4 := Lib.hid (HB.out.trans (hb4.mono HB.out.size)); clear hb4))
    go_ret
    exact ⟨rfl, HB4.out⟩
  | true =>
    have HFC := Lib.hid (HF.out true hf)
    by_cases h40 : os.length ≤ 40
    case neg =>
      have h40' : (40 : Int) < (os.length : Int) := by omega
      clear hf hW hO HF h40 hI
      subst hWW
      go_enter Try.func5, Try.ntmps5
      go_wp2_with (first
        | (go_at_call 18; refine HFC.out.mono ?_; rintro e w2 ⟨rfl, hb⟩; have HB := Lib.hid (HB0.out.trans (hb.mono HB0.out.size)); clear hb)
        | (go_at_call 10; refine (HH.out _).mono ?_; rintro e w4 ⟨rfl, hb4⟩; have HB4 := Lib.hid (HB.out.trans (hb4.mono HB.out.size)); clear hb4))
      go_ret
      exact ⟨rfl, HB4.out⟩
    have h40' : ¬ (40 : Int) < (os.length : Int) := by omega
    by_cases h20 : load.length ≤ 20
    case neg =>
      have h20' : (20 : Int) < (load.length : Int) := by omega
      clear hf hW hO HF h40 hI h20
      subst hWW
      go_enter Try.func5, Try.ntmps5
      go_wp2_with (first
        | (go_at_call 18; refine HFC.out.mono ?_; rintro e w2 ⟨rfl, hb⟩; have HB := Lib.hid (HB0.out.trans (hb.mono HB0.out.size)); clear hb)
        | (go_at_call 10; refine (HH.out _).mono ?_; rintro e w4 ⟨rfl, hb4⟩; have HB4 := Lib.hid (HB.out.trans (hb4.mono HB.out.size)); clear hb4))
      go_ret
      exact ⟨rfl, HB4.out⟩
    have h20' : ¬ (20 : Int) < (load.length : Int) := by omega
    have hfe : fewB ws = true := by
      unfold lightB at hf
      rw [Bool.and_eq_true] at hf
      exact hf.1
    obtain ⟨h1, h2, h3⟩ := few_bounds hfe
    have HC := Lib.hid (course_cells w s A2 ws.length c2)
    rw [← hWW] at HC
    have h1000 : ∀ ps ∈ ws, ∀ p ∈ ps, p.length ≤ 1000 := fun ps hps p hp => by have := h3 ps hps p hp; omega
    obtain ⟨L, hL⟩ : ∃ L, L = loadsOf os s ws := ⟨_, rfl⟩
    have HLL : Hid (L.length ≤ 1000000 ∧ ∀ r ∈ L, r.length ≤ 1000) := by
      refine ⟨by rw [hL]; exact Nat.le_trans loads_few (by decide), fun r hr => ?_⟩
      rw [hL] at hr
      have := loads_len r hr
      omega
    have HI : Hid (∀ w1, Below W.heap.size W w1 → IntsAt w1.heap.size w1 A3 load) := fun w1 hb => ((hI.later HB0.out).later hb).now
    have HL2 : Hid (∀ w1, Below W.heap.size W w1 → Calls Try.prog 21 #[.slice A os.length c, .agg #[.string s, .slice A2 ws.length c2]] w1 fun e w' => ∃ A' c', e = .returned (.slice A' L.length c') ∧ RowsAt w'.heap.size w' A' L ∧ Below w1.heap.size w1 w') := fun w1 hb => by
      rw [hL]
      exact refLoads_any s c c2 w1 (((hO.later HB0.out).later hb).now) (((hW.later HB0.out).later hb).now) hs9 h1000 (by omega)
    have HT : Hid (∀ w1 q, Below W.heap.size W w1 → decide (load ∈ L) = q → Calls Try.prog 22 #[.slice A os.length c, .agg #[.string s, .slice A2 ws.length c2], .slice A3 load.length c3] w1 fun e w' => e = .returned (.bool q) ∧ Below w1.heap.size w1 w') := fun w1 q hb hq => by
      rw [hL] at hq
      exact takes_all s c c2 c3 w1 (((hO.later HB0.out).later hb).now) (((hW.later HB0.out).later hb).now) (((hI.later HB0.out).later hb).now) hs9 h1000 (by omega) rfl (by omega) hq
    clear hf hW hL hO h1000 h1 h2 h3 hs9 hfe HF h40 h20 hI
    subst hWW
    go_enter Try.func5, Try.ntmps5
    go_wp2_with (first
      | (go_at_call 18; refine HFC.out.mono ?_; rintro e w2 ⟨rfl, hb⟩; have HBW := Lib.hid hb; have hcc := HC.out _ hb; obtain ⟨c0, c1⟩ := hcc; clear hb)
      | (go_at_call 21; refine (HL2.out _ HBW.out).mono ?_; rintro e w3 ⟨AL, cL, rfl, hr, hb3⟩; have HRL := Lib.hid hr; have HB3 := Lib.hid (HBW.out.trans (hb3.mono HBW.out.size)); have hc3 := HC.out _ HB3.out; clear hr hb3 c0 c1))
    clear hc3
    have HM0 : Hid (decide (load ∈ L.take 0) = false) := by show _ = _; simp
    go_loopw [8, 9] (fun b i wr => ∃ (k : Nat) (q : Bool) (wk : World), wk = wr ∧ k ≤ L.length ∧ i = .int .i64 (k : Nat) ∧ b = .bool q ∧ Hid (decide (load ∈ L.take k) = q) ∧ Hid (Below (w.alloc (.cells #[.string s, .slice A2 ws.length c2] 24)).heap.size (w.alloc (.cells #[.string s, .slice A2 ws.length c2] 24)) wk) ∧ Hid (RowsAt wk.heap.size wk AL L)) (fun _ i _ => L.length - (intOf i).toNat)
    case atStart => exact ⟨0, false, _, rfl, Nat.zero_le _, rfl, rfl, HM0, HB3, HRL⟩
    case round =>
      clear HM0 HB3 HRL
      obtain ⟨k, q, wk, rfl, hk, rfl, rfl, HM, HB, HRL⟩ := hrel
      have hLl := HLL.out.1
      by_cases hlt : k < L.length
      · have HTK := Lib.hid (take_has (x := load) hlt)
        cases q with
        | true =>
          have HM' : Hid (decide (load ∈ L.take (k + 1)) = true) := by show _ = _; rw [HTK.out, HM.out]; rfl
          go_wp2
          go_roundw
          case rel => exact ⟨k + 1, true, _, rfl, by omega, by go_num, rfl, HM', HB, HRL⟩
          case measure => simp [intOf]; omega
        | false =>
          obtain ⟨ad, B1, d1, rfl, hc1, _, hi1⟩ := HRL.out.row k hlt
          have hxl := HLL.out.2 _ (List.getElem_mem hlt)
          obtain ⟨x, hx⟩ : ∃ x, x = L[k] := ⟨_, rfl⟩
          rw [← hx] at hc1 hi1 hxl HTK
          obtain ⟨q, hq⟩ : ∃ q, q = decide (x = load) := ⟨_, rfl⟩
          have HS := Lib.hid (same_near (q := q) d1 c3 wk hi1 (HI.out _ HB.out) rfl rfl (by omega) hq.symm)
          have HM' : Hid (decide (load ∈ L.take (k + 1)) = q) := by show _ = _; rw [HTK.out, HM.out, hq]; rfl
          clear hx hq hi1
          go_wp2_with (go_at_call 13; refine HS.out.mono ?_; rintro e w4 ⟨rfl, hb4⟩; have HB4 := Lib.hid (HB.out.trans (hb4.mono HB.out.size)); have HR4 := Lib.hid ((HRL.out.later hb4).now); clear hb4)
          go_roundw
          case rel => exact ⟨k + 1, q, _, rfl, by omega, by go_num, rfl, HM', HB4, HR4⟩
          case measure => simp [intOf]; omega
      · have hM' := HM.out
        rw [List.take_of_length_le (by omega)] at hM'
        have HTC := Lib.hid (HT.out _ _ HB.out hM')
        obtain ⟨c0, c1⟩ := HC.out _ HB.out
        clear hM'
        cases q with
        | true =>
          go_wp2_with (first
            | (go_at_call 22; refine HTC.out.mono ?_; rintro e w5 ⟨rfl, hb5⟩; have HB5 := Lib.hid (HB.out.trans (hb5.mono HB.out.size)); clear hb5)
            | (go_at_call 10; refine (HH.out _).mono ?_; rintro e w6 ⟨rfl, hb6⟩; have HB6 := Lib.hid (HB5.out.trans (hb6.mono HB5.out.size)); clear hb6))
          go_ret
          exact ⟨rfl, HB0.out.trans (HB6.out.mono HB0.out.size)⟩
        | false =>
          go_wp2_with (first
            | (go_at_call 22; refine HTC.out.mono ?_; rintro e w5 ⟨rfl, hb5⟩; have HB5 := Lib.hid (HB.out.trans (hb5.mono HB.out.size)); clear hb5)
            | (go_at_call 10; refine (HH.out _).mono ?_; rintro e w6 ⟨rfl, hb6⟩; have HB6 := Lib.hid (HB5.out.trans (hb6.mono HB5.out.size)); clear hb6))
          go_ret
          exact ⟨rfl, HB0.out.trans (HB6.out.mono HB0.out.size)⟩
end Go.Proofs.Ytebpdlnknfjoaaa
