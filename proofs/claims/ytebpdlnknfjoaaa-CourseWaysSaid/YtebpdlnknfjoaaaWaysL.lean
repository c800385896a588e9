/- The walk of the law CourseWays. -/
import Derived.Test.YtebpdlnknfjoaaaHeads
import Derived.Test.YtebpdlnknfjoaaaWaysP
import Derived.Test.YtebpdlnknfjoaaaStillAt
namespace Go.Proofs.Ytebpdlnknfjoaaa
set_option linter.unusedVariables false
set_option linter.unusedSimpArgs false
open Go.RowKit

theorem any_snoc {α : Type} {f : α → Bool} {xs : List α} {k : Nat} (hk : k < xs.length) : (xs.take (k + 1)).any f = ((xs.take k).any f || f xs[k]) := by
  rw [List.take_succ_eq_append_getElem hk, List.any_append]
  simp

set_option maxRecDepth 100000 in
set_option maxHeartbeats 2000000 in
theorem ways_law (os : List Int) (s : ByteArray) (ws : List (List (List Int))) (A : Option Addr) (c : Nat) (A2 : Option Addr) (c2 : Nat) (w : World) (hO : OversAt w.heap.size w A os) (hs : s.size ≤ maxLen) (hW : WaysAt w.heap.size w A2 ws) :
    Calls Try.prog 7 #[.slice A os.length c, .agg #[.string s, .slice A2 ws.length c2]] w fun e w' => e = .returned (.bool true) ∧ Below w.heap.size w w' := by
  have hs9 : s.size ≤ 9223372036854775807 := hs
  obtain ⟨W, hWW⟩ : ∃ W, W = w.alloc (.cells #[.string s, .slice A2 ws.length c2] 24) := ⟨_, rfl⟩
  have HB0 : Hid (Below w.heap.size w W) := by rw [hWW]; exact alloc_below w _
  have HF : Hid (∀ q, lightB ws = q → Calls Try.prog 18 #[.agg #[.string s, .slice A2 ws.length c2]] W fun e w' => e = .returned (.bool q) ∧ Below W.heap.size W w') := fun q hq => light_any s c2 W (hW.later HB0.out).now hq
  have HH : Hid (∀ w : World, Calls Try.prog 10 #[] w fun e w' => e = .returned (.bool true) ∧ Below w.heap.size w w') := heads_any
  cases hf : lightB ws with
  | false =>
    have HFC := Lib.hid (HF.out false hf)
    clear hf hW hO HF
    subst hWW
    go_enter Try.func7, Try.ntmps7
    go_wp2_with (first
      | (go_at_call 18; refine HFC.out.mono ?_; rintro e w2 ⟨rfl, hb⟩; have HB := Lib.hid (HB0.out.trans (hb.mono HB0.out.size)); clear hb)
      | (go_at_call 10; refine (HH.out _).mono ?_; rintro e w4 ⟨rfl, hb4⟩; have HB4 := Lib.hid (HB.out.trans (hb4.mono HB.out.size)); clear hb4))
    go_ret
    exact ⟨rfl, HB4.out⟩
  | true =>
    have HFC := Lib.hid (HF.out true hf)
    by_cases h40 : os.length ≤ 40
    case neg =>
      have h40' : (40 : Int) < (os.length : Int) := by omega
      clear hf hW hO HF h40
      subst hWW
      go_enter Try.func7, Try.ntmps7
      go_wp2_with (first
        | (go_at_call 18; refine HFC.out.mono ?_; rintro e w2 ⟨rfl, hb⟩; have HB := Lib.hid (HB0.out.trans (hb.mono HB0.out.size)); clear hb)
        | (go_at_call 10; refine (HH.out _).mono ?_; rintro e w4 ⟨rfl, hb4⟩; have HB4 := Lib.hid (HB.out.trans (hb4.mono HB.out.size)); clear hb4))
      go_ret
      exact ⟨rfl, HB4.out⟩
    have h40' : ¬ (40 : Int) < (os.length : Int) := by omega
    have hfe : fewB ws = true := by
      unfold lightB at hf
      rw [Bool.and_eq_true] at hf
      exact hf.1
    obtain ⟨h1, h2, h3⟩ := few_bounds hfe
    have HC := Lib.hid (course_cells w s A2 ws.length c2)
    rw [← hWW] at HC
    have h1000 : ∀ ps ∈ ws, ∀ p ∈ ps, p.length ≤ 1000 := fun ps hps p hp => by have := h3 ps hps p hp; omega
    have h6 : ∀ ps ∈ ws, ps.length ≤ 1000 := fun ps hps => by have := h2 ps hps; omega
    have HWS : Hid (∀ w1, Below W.heap.size W w1 → OversAt w1.heap.size w1 A os ∧ WaysAt w1.heap.size w1 A2 ws) := fun w1 hb => ⟨((hO.later HB0.out).later hb).now, ((hW.later HB0.out).later hb).now⟩
    have HR : Hid (∀ w1 q, Below W.heap.size W w1 → rightB os.length s ws = q → Calls Try.prog 11 #[.int .i64 os.length, .agg #[.string s, .slice A2 ws.length c2]] w1 fun e w' => e = .returned (.bool q) ∧ Below w1.heap.size w1 w') := fun w1 q hb hq => right_near os.length s c2 w1 (HWS.out w1 hb).2 hs9 h1000 hq
    cases hr : rightB os.length s ws with
    | false =>
      have HRF : Hid (∀ w1, Below W.heap.size W w1 → Calls Try.prog 11 #[.int .i64 os.length, .agg #[.string s, .slice A2 ws.length c2]] w1 fun e w' => e = .returned (.bool false) ∧ Below w1.heap.size w1 w') := fun w1 hb => HR.out w1 false hb hr
      clear hf hW hO h1000 h1 h2 h3 hs9 hfe HF h40 h6 hr HR HWS
      subst hWW
      go_enter Try.func7, Try.ntmps7
      go_wp2_with (first
        | (go_at_call 18; refine HFC.out.mono ?_; rintro e w2 ⟨rfl, hb⟩; have HBW := Lib.hid hb; have hcc := HC.out _ hb; obtain ⟨c0, c1⟩ := hcc; clear hb)
        | (go_at_call 11; refine (HRF.out _ HBW.out).mono ?_; rintro e w3 ⟨rfl, hb3⟩; have HB3 := Lib.hid (HBW.out.trans (hb3.mono HBW.out.size)); clear hb3 c0 c1)
        | (go_at_call 10; refine (HH.out _).mono ?_; rintro e w4 ⟨rfl, hb4⟩; have HB4 := Lib.hid (HB3.out.trans (hb4.mono HB3.out.size)); clear hb4))
      go_ret
      exact ⟨rfl, HB0.out.trans (HB4.out.mono HB0.out.size)⟩
    | true =>
    have HRT : Hid (∀ w1, Below W.heap.size W w1 → Calls Try.prog 11 #[.int .i64 os.length, .agg #[.string s, .slice A2 ws.length c2]] w1 fun e w' => e = .returned (.bool true) ∧ Below w1.heap.size w1 w') := fun w1 hb => HR.out w1 true hb hr
    obtain ⟨L, hL⟩ : ∃ L, L = loadsOf os s ws := ⟨_, rfl⟩
    have HLL : Hid (L.length ≤ 1000000 ∧ ∀ r ∈ L, r.length ≤ 1000) := by
      refine ⟨by rw [hL]; exact Nat.le_trans loads_few (by decide), fun r hr => ?_⟩
      rw [hL] at hr
      have := loads_len r hr
      omega
    have HFIT : Hid (∀ r ∈ L, ws.any (fun ps => ofB os ps r) = true) := fun r hr' => load_of hr (by rw [← hL]; exact hr')
    have HL1 : Hid (∀ w1, Below W.heap.size W w1 → Calls Try.prog 20 #[.slice A os.length c, .agg #[.string s, .slice A2 ws.length c2]] w1 fun e w' => ∃ A' c', e = .returned (.slice A' L.length c') ∧ RowsAt w'.heap.size w' A' L ∧ Below w1.heap.size w1 w') := fun w1 hb => by
      rw [hL]
      exact loads_all s c c2 w1 (HWS.out w1 hb).1 (HWS.out w1 hb).2 hs9 h1000 (by omega)
    have HT : Hid (∀ w1 A3 c3 r, Below W.heap.size W w1 → IntsAt w1.heap.size w1 A3 r → r ∈ L → Calls Try.prog 22 #[.slice A os.length c, .agg #[.string s, .slice A2 ws.length c2], .slice A3 r.length c3] w1 fun e w' => e = .returned (.bool true) ∧ Below w1.heap.size w1 w') := fun w1 A3 c3 r hb hi hrl =>
      takes_all s c c2 c3 w1 (HWS.out w1 hb).1 (HWS.out w1 hb).2 hi hs9 h1000 (by omega) rfl (by have := HLL.out.2 r hrl; omega) (decide_eq_true (by rw [← hL]; exact hrl))
    have HO : Hid (∀ w1 A1 c1 A3 c3 ps r q, Below W.heap.size W w1 → RowsAt w1.heap.size w1 A1 ps → IntsAt w1.heap.size w1 A3 r → ps ∈ ws → r ∈ L → ofB os ps r = q → Calls Try.prog 25 #[.slice A os.length c, .agg #[.slice A1 ps.length c1], .slice A3 r.length c3] w1 fun e w' => e = .returned (.bool q) ∧ Below w1.heap.size w1 w') := fun w1 A1 c1 A3 c3 ps r q hb hR hi hps hrl hq =>
      of_any c c1 c3 w1 (HWS.out w1 hb).1 hR hi (HLL.out.2 r hrl) (h6 ps hps) (h1000 ps hps) (by omega) hq
    have HK : Hid (∀ w1, Below W.heap.size W w1 → Calls Try.prog 16 #[.agg #[.string s, .slice A2 ws.length c2]] w1 fun e w' => e = .returned (.int .i64 (countOf ws : Nat)) ∧ Below w1.heap.size w1 w') := fun w1 hb => count_any s c2 w1 (HWS.out w1 hb).2 (by omega) h6
    have hcnt : L.length ≤ countOf ws := by rw [hL]; exact loads_count hr
    have hwl : ws.length ≤ 6 := h1
    obtain ⟨K, hK⟩ : ∃ K, K = countOf ws := ⟨_, rfl⟩
    rw [← hK] at HK hcnt
    have hcnt' : (L.length : Int) ≤ (K : Int) := by omega
    clear hf hW hL hO h1000 h1 h2 h3 hs9 hfe HF h40 h6 hr HR hK hcnt
    subst hWW
    go_enter Try.func7, Try.ntmps7
    go_wp2_with (first
      | (go_at_call 18; refine HFC.out.mono ?_; rintro e w2 ⟨rfl, hb⟩; have HBW := Lib.hid hb; have hcc := HC.out _ hb; obtain ⟨c0, c1⟩ := hcc; clear hb)
      | (go_at_call 11; refine (HRT.out _ HBW.out).mono ?_; rintro e w3 ⟨rfl, hb3⟩; have HB3 := Lib.hid (HBW.out.trans (hb3.mono HBW.out.size)); have hc3 := HC.out _ HB3.out; clear hb3 c0 c1; obtain ⟨c0, c1⟩ := hc3)
      | (go_at_call 20; refine (HL1.out _ HB3.out).mono ?_; rintro e w4 ⟨AL, cL, rfl, hr, hb4⟩; have HRL := Lib.hid hr; have HB4 := Lib.hid (HB3.out.trans (hb4.mono HB3.out.size)); clear hr hb4 c0 c1))
    obtain ⟨W, hWW⟩ : ∃ W, W = w.alloc (.cells #[.string s, .slice A2 ws.length c2] 24) := ⟨_, rfl⟩
    rw [← hWW] at HB0 HC HWS HB4 HT HO HK
    clear hWW HRT HL1 HFC HBW HB3
    go_loopw [6] (fun i wr => ∃ (k : Nat) (wk : World), wk = wr ∧ k ≤ L.length ∧ i = .int .i64 (k : Nat) ∧ Hid (Below W.heap.size W wk) ∧ Hid (RowsAt wk.heap.size wk AL L)) (fun i _ => L.length - (intOf i).toNat)
    case atStart => exact ⟨0, _, rfl, Nat.zero_le _, rfl, HB4, HRL⟩
    case round =>
      clear HB4 HRL
      obtain ⟨k, wk, rfl, hk, rfl, HB, HRL⟩ := hrel
      have hLl := HLL.out.1
      by_cases hlt : k < L.length
      · have hmem := List.getElem_mem hlt
        obtain ⟨ad, B1, d1, rfl, hc1, _, hi1⟩ := HRL.out.row k hlt
        obtain ⟨r, hx⟩ : ∃ r, r = L[k] := ⟨_, rfl⟩
        rw [← hx] at hc1 hi1 hmem
        have HMEM := Lib.hid hmem
        have HI1 := Lib.hid hi1
        have HC1 := Lib.hid hc1
        have HM0 : Hid ((ws.take 0).any (fun ps => ofB os ps r) = false) := by show _ = _; simp
        clear hx hi1 hmem hc1
        have HBK : Hid (Below wk.heap.size wk wk) := Below.refl _ _
        go_wp2
        go_loopw [7, 8] (fun b i wr => ∃ (j : Nat) (q : Bool) (wj : World), wj = wr ∧ j ≤ ws.length ∧ i = .int .i64 (j : Nat) ∧ b = .bool q ∧ Hid ((ws.take j).any (fun ps => ofB os ps r) = q) ∧ Hid (Below wk.heap.size wk wj)) (fun _ i _ => ws.length - (intOf i).toNat)
        case atStart => exact ⟨0, false, _, rfl, Nat.zero_le _, rfl, rfl, HM0, HBK⟩
        case round =>
          clear HM0 HBK
          obtain ⟨j, q, wj, rfl, hj, rfl, rfl, HM, HBJ⟩ := hrel
          have HBW : Hid (Below W.heap.size W wj) := HB.out.trans (HBJ.out.mono HB.out.size)
          obtain ⟨c0, c1⟩ := HC.out wj HBW.out
          by_cases hjl : j < ws.length
          · have HAS := Lib.hid (any_snoc (f := fun ps => ofB os ps r) hjl)
            cases q with
            | true =>
              have HM' : Hid ((ws.take (j + 1)).any (fun ps => ofB os ps r) = true) := by show _ = _; rw [HAS.out, HM.out]; rfl
              go_wp2
              go_quiet (fail)
              go_wp2
              have HBJ' := Lib.hid (below_drewN HBJ.out nq)
              go_roundw
              case rel => exact ⟨j + 1, true, _, rfl, by omega, by go_num, rfl, HM', HBJ'⟩
              case measure => simp [intOf]; omega
            | false =>
              have hbd : Below wj.heap.size wj wj.drew := below_drewN (Below.refl _ _) 1
              have hbw : Below W.heap.size W wj.drew := HBW.out.trans (hbd.mono HBW.out.size)
              have hps := List.getElem_mem hjl
              obtain ⟨ad2, A1, d2, rfl, _, hc2, _, hR⟩ := (HWS.out wj HBW.out).2 j hjl
              obtain ⟨ps, hpe⟩ : ∃ ps, ps = ws[j] := ⟨_, rfl⟩
              rw [← hpe] at hps hc2 hR HAS
              obtain ⟨q, hq⟩ : ∃ q, q = ofB os ps r := ⟨_, rfl⟩
              have HCO := Lib.hid (HO.out wj.drew A1 d2 B1 d1 ps r q hbw ((hR.later hbd).mono hbd.size) (((HI1.out.later HBJ.out).later hbd).mono (Nat.le_trans HBJ.out.size hbd.size)) hps HMEM.out hq.symm)
              have HM' : Hid ((ws.take (j + 1)).any (fun ps => ofB os ps r) = q) := by show _ = _; rw [HAS.out, HM.out, hq]; rfl
              have hcr := cell_later HC1.out HBJ.out
              clear hpe hq hR hps hbw
              go_wp2
              refine still_tail 12 (by kernel_rfl) (by kernel_rfl) (fun KK hKK => ?_)
              have HKK := Lib.hid hKK
              clear hKK
              simp only [List.take_succ_cons, List.take_zero, List.drop_succ_cons, List.drop_zero] at HKK ⊢
              have hy1 : World.cell? wj.drew ⟨w.heap.size, 1, none⟩ = some (.slice (some ad2) ws.length c2) := c1
              have hy2 : World.cell? wj.drew (ad2.add j) = some (.slice A1 ps.length d2) := hc2
              have hy3 : World.cell? wj.drew (ad.add k) = some (.slice B1 r.length d1) := hcr
              have HBD := Lib.hid hbd
              clear hbd c0 c1 hc2 hcr
              generalize wj.drew = w9 at HCO HBD HKK hy1 hy2 hy3 ⊢
              iterate 12 (refine still_take (by kernel_rfl) (fun K hK => ?_); go_simp; refine hK _ ?_; clear hK K)
              refine still_nil ?_
              refine HKK.out _ ?_
              clear HKK KK
              go_wp2_with (go_at_call 25; refine HCO.out.mono ?_; rintro e w5 ⟨rfl, hb5⟩; have HB5 := Lib.hid (HBJ.out.trans ((HBD.out.trans (hb5.mono HBD.out.size)).mono HBJ.out.size)); clear hb5)
              go_roundw
              case rel => exact ⟨j + 1, q, _, rfl, by omega, by go_num, rfl, HM', HB5⟩
              case measure => simp [intOf]; omega
          · have hm := HM.out
            rw [List.take_of_length_le (by omega), HFIT.out r HMEM.out] at hm
            subst hm
            have hbd : Below wj.heap.size wj wj.drew := below_drewN (Below.refl _ _) 1
            have hbw : Below W.heap.size W wj.drew := HBW.out.trans (hbd.mono HBW.out.size)
            have HCT := Lib.hid (HT.out wj.drew B1 d1 r hbw (((HI1.out.later HBJ.out).later hbd).mono (Nat.le_trans HBJ.out.size hbd.size)) HMEM.out)
            have hcr := cell_later HC1.out HBJ.out
            clear hbw
            go_wp2
            refine still_tail 9 (by kernel_rfl) (by kernel_rfl) (fun KK hKK => ?_)
            have HKK := Lib.hid hKK
            clear hKK
            simp only [List.take_succ_cons, List.take_zero, List.drop_succ_cons, List.drop_zero] at HKK ⊢
            have hy0 : World.cell? wj.drew ⟨w.heap.size, 0, none⟩ = some (.string s) := c0
            have hy1 : World.cell? wj.drew ⟨w.heap.size, 1, none⟩ = some (.slice A2 ws.length c2) := c1
            have hy3 : World.cell? wj.drew (ad.add k) = some (.slice B1 r.length d1) := hcr
            have HBD := Lib.hid hbd
            clear hbd c0 c1 hcr
            generalize wj.drew = w9 at HCT HBD HKK hy0 hy1 hy3 ⊢
            iterate 9 (refine still_take (by kernel_rfl) (fun K hK => ?_); go_simp; refine hK _ ?_; clear hK K)
            refine still_nil ?_
            refine HKK.out _ ?_
            clear HKK KK
            go_wp2_with (go_at_call 22; refine HCT.out.mono ?_; rintro e w5 ⟨rfl, hb5⟩; have HB5 := Lib.hid (HBJ.out.trans ((HBD.out.trans (hb5.mono HBD.out.size)).mono HBJ.out.size)); clear hb5)
            have HB6 : Hid (Below W.heap.size W w5) := HB.out.trans (HB5.out.mono HB.out.size)
            have HR6 := Lib.hid ((HRL.out.later HB5.out).mono HB5.out.size)
            go_roundw
            case rel => exact ⟨k + 1, _, rfl, by omega, by go_num, HB6, HR6⟩
            case measure => simp [intOf]; omega
      · obtain ⟨c0, c1⟩ := HC.out wk HB.out
        have hkL : k = L.length := by omega
        have HKC := Lib.hid (HK.out wk HB.out)
        go_wp2_with (first
          | (go_at_call 16; refine HKC.out.mono ?_; rintro e w5 ⟨rfl, hb5⟩; have HB5 := Lib.hid (HB.out.trans (hb5.mono HB.out.size)); clear hb5)
          | (go_at_call 10; refine (HH.out _).mono ?_; rintro e w6 ⟨rfl, hb6⟩; have HB6 := Lib.hid (HB5.out.trans (hb6.mono HB5.out.size)); clear hb6))
        go_ret
        exact ⟨rfl, HB0.out.trans (HB6.out.mono HB0.out.size)⟩
end Go.Proofs.Ytebpdlnknfjoaaa
