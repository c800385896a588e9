/- The walk of the document's Most. -/
import Derived.Test.YtopjfnkcmdifhaaRefMostP
namespace Go.Proofs.Ytopjfnkcmdifhaa
set_option linter.unusedVariables false
set_option linter.unusedSimpArgs false
open Go.RowKit Kuhn

theorem size_near {near : List (List Int)} {right : Int} {taken : List Int} {A At : Option Addr} {l : List (List Int)} {n q : Nat} (hll : l = near.map (rowOf right)) (c ct : Nat) (fr : Nat) (w : World) (hR : RowsAt w.heap.size w A near) (hT : IntsAt w.heap.size w At taken) (hn : near.length ≤ 1000) (hl : ∀ r ∈ near, r.length ≤ 1000) (htl : taken.length ≤ 1000)
    (hUl : near.flatten.length ≤ 1000) (hfr : fr ≤ near.length) (ht : taken.length = n) (hq : mm (rowF l) (free taken) fr near.length = q) :
    Calls Try.prog 29 #[.slice A near.length c, .int .i64 right, .int .i64 fr, .slice At n ct] w fun e w' => e = .returned (.int .i64 q) ∧ Below w.heap.size w w' := by
  subst ht hq
  exact size_any hll c ct fr w hR hT hn hl htl hUl hfr

set_option maxRecDepth 100000 in
set_option maxHeartbeats 600000 in
theorem refMost_any {near : List (List Int)} {right : Int} {A : Option Addr} {l : List (List Int)} (hll : l = near.map (rowOf right)) (c : Nat) (w : World) (hR : RowsAt w.heap.size w A near) (hn : near.length ≤ 1000) (hl : ∀ r ∈ near, r.length ≤ 1000) (hUl : near.flatten.length ≤ 1000) :
    Calls Try.prog 17 #[.slice A near.length c, .int .i64 right] w fun e w' => ∃ A1 c1, e = .returned (.slice A1 near.length c1) ∧ near.length ≤ c1 ∧ IntsAt w'.heap.size w' A1 (mostOf l) ∧ Below w.heap.size w w' := by
  have hlen : l.length = near.length := by rw [hll]; simp
  obtain ⟨all, hall⟩ : ∃ all, all = mm (rowF l) (free []) 0 near.length := ⟨_, rfl⟩
  have hal : all ≤ 1000 := by rw [hall]; have := mm_le (rowF l) (free []) 0 near.length; omega
  have HW : Hid (mostOf l = [] ++ greedy l (near.length - 0) 0 [] all) := by
    show _ = _
    rw [hall, List.nil_append, Nat.sub_zero, mostOf, hlen]
  have HC0 := Lib.hid (size_near (q := all) (n := 0) hll c 0 0 (w.alloc (.cells #[] 3)) (At := some ⟨w.heap.size, 0, none⟩) (taken := []) ((hR.later ((Below.refl _ _).alloc (Nat.le_refl _) _)).mono (by simp)) (IntsAt.nil _ _ _) hn hl (by simp) hUl (Nat.zero_le _) rfl hall.symm)
  have HLL := Lib.hid hll
  have HK := Lib.hid hl
  have HR := Lib.hid hR
  have HLEN := Lib.hid hlen
  clear hR hl hall hll hlen
  go_enter Try.func17, Try.ntmps17
  go_wp2_with (go_at_call 29; refine HC0.out.mono ?_; rintro e w1 ⟨rfl, hb1⟩; have HB1 := Lib.hid hb1; clear hb1)
  clear HC0
  have HST0 : Hid (TwoSt near w.heap.size A ((w1.alloc (.cells #[] 3)).alloc (.cells #[] 3)) [] [] w1.heap.size 0 (w1.heap.size + 1) 0) := by
    have hsz : w.heap.size ≤ w1.heap.size := by have := HB1.out.size; simp at this; omega
    have hb : Below w.heap.size w ((w1.alloc (.cells #[] 3)).alloc (.cells #[] 3)) :=
      ((((Below.refl _ _).alloc (Nat.le_refl _) _).trans (HB1.out.mono (by simp))).alloc hsz _).alloc (by simp; omega) _
    refine ⟨HR.out.below hb, ?_, ?_, by omega, by simp; omega⟩
    · exact (World.ownsRow_made (e := 3) (base := w.heap.size) (size := 1) w1 #[] 0 hsz (by unfold maxLen; omega) rfl).alloc _
    · have := World.ownsRow_made (e := 3) (base := w.heap.size) (size := 1) (w1.alloc (.cells #[] 3)) #[] 0 (by simp; omega) (by unfold maxLen; omega) rfl
      simpa [ints] using this
  have HB0 : Hid (Below w.heap.size w ((w1.alloc (.cells #[] 3)).alloc (.cells #[] 3))) := by
    have hsz : w.heap.size ≤ w1.heap.size := by have := HB1.out.size; simp at this; omega
    exact ((((Below.refl _ _).alloc (Nat.le_refl _) _).trans (HB1.out.mono (by simp))).alloc hsz _).alloc (by simp; omega) _
  clear HB1 HR
  go_loopw [6, 7, 8] (fun vt vo i wr => ∃ (T O : List Int) (s gt ct go co : Nat), List.length O ≤ near.length ∧ List.length T ≤ List.length O ∧ s + List.length T = all ∧ vt = .slice (some ⟨gt, 0, none⟩) (List.length T) ct ∧ vo = .slice (some ⟨go, 0, none⟩) (List.length O) co ∧ i = .int .i64 (List.length O : Nat) ∧
    Hid (mostOf l = O ++ greedy l (near.length - List.length O) (List.length O) T s) ∧ Hid (TwoSt near w.heap.size A wr T O gt ct go co) ∧ Hid (Below w.heap.size w wr)) (fun _ _ i _ => near.length - (intOf i).toNat)
  case atStart => exact ⟨[], [], all, _, _, _, _, Nat.zero_le _, Nat.le_refl _, rfl, rfl, rfl, rfl, HW, HST0, HB0⟩
  case round =>
    clear HST0 HB0 HW
    obtain ⟨T, O, s, gt, ct, go, co, hO, hT, hs, rfl, rfl, rfl, HW, HST, HB⟩ := hrel
    by_cases hlt : O.length < near.length
    · obtain ⟨ad, A', c', rfl, hadB, hrow0, hlc, hia⟩ := HST.out.rows _ hlt
      have hgd : near.getD O.length [] = near[O.length] := by rw [List.getD_eq_getElem?_getD, List.getElem?_eq_getElem hlt, Option.getD_some]
      have hr1000 := HK.out _ (List.getElem_mem hlt)
      obtain ⟨row, hrw⟩ : ∃ row, row = near[O.length] := ⟨_, rfl⟩
      rw [← hrw] at hrow0 hlc hia hr1000 hgd
      have HROW := Lib.hid hrow0
      have HIA := Lib.hid hia
      have HGD := Lib.hid hgd
      obtain ⟨k, hkO⟩ : ∃ k, k = O.length := ⟨_, rfl⟩
      have HKO := Lib.hid hkO
      clear hgd hrw hia hadB hkO
      go_wp2
      clear hrow0
      obtain ⟨wo, rfl⟩ : ∃ wo : World, wo = wr := ⟨_, rfl⟩
      go_loopw [9, 10] (fun bv i wq => ∃ (j : Nat) (b : Int), j ≤ row.length ∧ bv = .int .i64 b ∧ i = .int .i64 (j : Nat) ∧ Hid (BestOf (row.take j) (pick l right k T s) b) ∧ Hid (Below wo.heap.size wo wq)) (fun _ i _ => row.length - (intOf i).toNat)
      case atStart => exact ⟨0, -1, Nat.zero_le _, rfl, rfl, BestOf.start _, Below.refl _ _⟩
      case round =>
        obtain ⟨j, b, hj, rfl, rfl, HBO, HBB⟩ := hrel
        have HS2 := Lib.hid (HST.out.later HBB.out)
        have hrow : wr.cell? (ad.add O.length) = some (.slice A' row.length c') := (World.cell?_of_block (HBB.out.block _ (cell_lt HROW.out))).trans HROW.out
        by_cases hjl : j < row.length
        · obtain ⟨ad2, rfl, hx⟩ := (HIA.out.later HBB.out).cell j hjl
          have htk : row.take (j + 1) = row.take j ++ [row[j]] := List.take_succ_eq_append_getElem hjl
          have hxr : row[j] ∈ near.getD O.length [] := by rw [HGD.out]; exact List.getElem_mem hjl
          obtain ⟨x, hxe⟩ : ∃ x, x = row[j] := ⟨_, rfl⟩
          rw [← hxe] at hx htk hxr
          have HTK := Lib.hid htk
          clear hxe htk
          by_cases hin : 0 ≤ x ∧ x < right
          · have HC := Lib.hid (may_near (q := true) c near right x O.length wr HS2.out.rows hlt HK.out (may_in hxr hin))
            have htr : IntsAt wr.heap.size wr (some ⟨gt, 0, none⟩) T := by
              obtain ⟨A1, c1, e, _, h⟩ := Ints.of_own HS2.out.t
              cases e
              exact h
            by_cases hxT : x ∈ T
            · have HD := Lib.hid (has_near (q := true) ct T x wr htr rfl (by omega) (decide_eq_true hxT))
              have HBO' : Hid (BestOf (row.take (j + 1)) (pick l right k T s) b) := by
                rw [HTK.out]
                exact HBO.out.skip (.inl (by simp [pick, fits, hxT]))
              clear htr hxT hin hxr
              go_wp2_with (first | (go_at_call 30; refine HC.out.mono ?_; rintro e w' ⟨rfl, rfl⟩) | (go_at_call 15; refine HD.out.mono ?_; rintro e w' ⟨rfl, rfl⟩))
              go_roundw
              case rel => exact ⟨j + 1, b, by omega, rfl, by go_num, HBO', HBB⟩
              case measure => simp [intOf]; omega
            · have HD := Lib.hid (has_near (q := false) ct T x wr htr rfl (by omega) (decide_eq_false hxT))
              by_cases hbx : 0 ≤ b ∧ b ≤ x
              · have HBO' : Hid (BestOf (row.take (j + 1)) (pick l right k T s) b) := by
                  rw [HTK.out]
                  exact HBO.out.skip (.inr hbx)
                obtain ⟨hb0, hb1⟩ := hbx
                clear htr hxT hin hxr
                go_wp2_with (first | (go_at_call 30; refine HC.out.mono ?_; rintro e w' ⟨rfl, rfl⟩) | (go_at_call 15; refine HD.out.mono ?_; rintro e w' ⟨rfl, rfl⟩))
                go_roundw
                case rel => exact ⟨j + 1, b, by omega, rfl, by go_num, HBO', HBB⟩
                case measure => simp [intOf]; omega
              · obtain ⟨g1, cap1, w1', hap1, hown1, hb1⟩ := HS2.out.copy (by omega)
                obtain ⟨g2, cap2, w2, hap2, hown2, hgr2⟩ := app_ints (ty := 25) Try.underlying25 info3 hown1 x (by omega) hb1.size
                have hb2 : Below wr.heap.size wr w2 := below_grown hb1 hgr2 hb1.size (own_ge hown1)
                have hnx : IntsAt w2.heap.size w2 (some ⟨g2, 0, none⟩) (T ++ [x]) := by
                  obtain ⟨A1, c1, e, _, h⟩ := Ints.of_own hown2
                  obtain ⟨e1, _⟩ := Value.slice.inj e
                  rw [e1]
                  exact h
                have HAP1 := Lib.hid hap1
                have HAPX := Lib.hid hap2
                have HBB2 := Lib.hid (HBB.out.trans (hb2.mono HBB.out.size))
                obtain ⟨q, hq⟩ : ∃ q, mm (rowF l) (free (T ++ [x])) (O.length + 1) near.length = q := ⟨_, rfl⟩
                have HCS := Lib.hid (size_near (n := T.length + 1) (q := q) HLL.out c cap2 (O.length + 1) w2 ((HS2.out.later hb2).rows.mono (by have := HS2.out.low; have := hb2.size; omega)) hnx hn HK.out (by simp; omega) hUl hlt (by simp) hq)
                have hfit : pick l right k T s x = decide (q + 1 = s) := by
                  unfold pick fits
                  rw [decide_eq_true hin, decide_eq_false hxT, HKO.out, HLEN.out, hq]
                  rfl
                have HFIT := Lib.hid hfit
                have hx0 := hin.1
                have hql : q ≤ near.length := by rw [← hq]; exact mm_le _ _ _ _
                clear htr hxT hin hxr hap1 hown1 hb1 hap2 hown2 hgr2 hb2 hnx hq hfit
                have hbranch : (¬ 0 ≤ b) ∨ (0 ≤ b ∧ ¬ b ≤ x) := by omega
                by_cases hqs : q + 1 = s
                · have HBO' : Hid (BestOf (row.take (j + 1)) (pick l right k T s) x) := by
                    rw [HTK.out]
                    exact HBO.out.take (by rw [HFIT.out]; exact decide_eq_true hqs) hx0 hbx
                  have htest : (((T.length : Int) + 1 + (q : Int)) == (all : Int)) = true := by simp; omega
                  clear hbx
                  rcases hbranch with hb0 | ⟨hb0, hb1⟩
                  all_goals
                    go_wp2_with (first | (at_builtin; refine wpList_append_run rfl _ _ 25 rfl rfl rfl HAP2.out ?_) | (at_builtin; refine wpList_append_run rfl _ _ 25 rfl rfl rfl HAP1.out ?_; clear HAP1; have HAP2 := HAPX) | (go_at_call 30; refine HC.out.mono ?_; rintro e w' ⟨rfl, rfl⟩) | (go_at_call 15; refine HD.out.mono ?_; rintro e w' ⟨rfl, rfl⟩) | (go_at_call 29; refine HCS.out.mono ?_; rintro e w3 ⟨rfl, hb3⟩; have HBB3 := Lib.hid (HBB2.out.trans (hb3.mono HBB2.out.size)); clear hb3))
                    go_roundw
                    case rel => exact ⟨j + 1, x, by omega, rfl, by go_num, HBO', HBB3⟩
                    case measure => simp [intOf]; omega
                · have HBO' : Hid (BestOf (row.take (j + 1)) (pick l right k T s) b) := by
                    rw [HTK.out]
                    exact HBO.out.skip (.inl (by rw [HFIT.out]; exact decide_eq_false hqs))
                  have htest : (((T.length : Int) + 1 + (q : Int)) == (all : Int)) = false := by simp; omega
                  clear hbx
                  rcases hbranch with hb0 | ⟨hb0, hb1⟩
                  all_goals
                    go_wp2_with (first | (at_builtin; refine wpList_append_run rfl _ _ 25 rfl rfl rfl HAP2.out ?_) | (at_builtin; refine wpList_append_run rfl _ _ 25 rfl rfl rfl HAP1.out ?_; clear HAP1; have HAP2 := HAPX) | (go_at_call 30; refine HC.out.mono ?_; rintro e w' ⟨rfl, rfl⟩) | (go_at_call 15; refine HD.out.mono ?_; rintro e w' ⟨rfl, rfl⟩) | (go_at_call 29; refine HCS.out.mono ?_; rintro e w3 ⟨rfl, hb3⟩; have HBB3 := Lib.hid (HBB2.out.trans (hb3.mono HBB2.out.size)); clear hb3))
                    go_roundw
                    case rel => exact ⟨j + 1, b, by omega, rfl, by go_num, HBO', HBB3⟩
                    case measure => simp [intOf]; omega
          · have HC := Lib.hid (may_near (q := false) c near right x O.length wr HS2.out.rows hlt HK.out (may_out hin))
            have HBO' : Hid (BestOf (row.take (j + 1)) (pick l right k T s) b) := by
              rw [HTK.out]
              refine HBO.out.skip (.inl ?_)
              unfold pick
              rw [decide_eq_false hin]
              rfl
            clear hin hxr
            go_wp2_with (go_at_call 30; refine HC.out.mono ?_; rintro e w' ⟨rfl, rfl⟩)
            go_roundw
            case rel => exact ⟨j + 1, b, by omega, rfl, by go_num, HBO', HBB⟩
            case measure => simp [intOf]; omega
        · obtain rfl : j = row.length := by omega
          have hbo : BestOf (near.getD O.length []) (pick l right O.length T s) b := by
            have := HBO.out
            rw [List.take_length, HKO.out] at this
            rw [HGD.out]
            exact this
          have hgr := greedy_best (r := near.length - (O.length + 1)) HLL.out hbo
          have hw := HW.out
          rw [show near.length - O.length = near.length - (O.length + 1) + 1 by omega, hgr] at hw
          obtain ⟨g2, cap2, w2, hap2, hst2, hb2⟩ := HS2.out.addO b (by omega)
          have HAP := Lib.hid hap2
          have HST2 := Lib.hid hst2
          have HB2 := Lib.hid ((HB.out.trans (HBB.out.mono HB.out.size)).trans hb2)
          by_cases hb : b = -1
          · rw [if_pos hb] at hw
            have HW' : Hid (mostOf l = (O ++ [b]) ++ greedy l (near.length - (O ++ [b]).length) (O ++ [b]).length T s) := by
              show _ = _
              rw [hw, hb]
              simp
            have hb0 : ¬ 0 ≤ b := by omega
            clear hbo hgr hw hap2 hst2 hb2 hb
            go_wp2_with (at_builtin; refine wpList_append_run rfl _ _ 25 rfl rfl rfl HAP.out ?_)
            go_roundw
            case rel => exact ⟨T, O ++ [b], s, gt, ct, g2, cap2, by simp; omega, by simp; omega, hs, rfl, by simp, by simp <;> go_num, HW', HST2, HB2⟩
            case measure => simp [intOf]; omega
          · rw [if_neg hb] at hw
            obtain ⟨hs1, hb0⟩ := best_fits hbo hb
            obtain ⟨g3, cap3, w3, hap3, hst3, hb3⟩ := hst2.addT b (by omega)
            have HAPX := Lib.hid hap3
            have HST3 := Lib.hid hst3
            have HB3 := Lib.hid (HB2.out.trans hb3)
            have HW' : Hid (mostOf l = (O ++ [b]) ++ greedy l (near.length - (O ++ [b]).length) (O ++ [b]).length (T ++ [b]) (s - 1)) := by
              show _ = _
              rw [hw]
              simp
            clear hbo hgr hw hap2 hst2 hb2 hb hap3 hst3 hb3
            go_wp2_with (first | (at_builtin; refine wpList_append_run rfl _ _ 25 rfl rfl rfl HAP2.out ?_) | (at_builtin; refine wpList_append_run rfl _ _ 25 rfl rfl rfl HAP.out ?_; clear HAP; have HAP2 := HAPX))
            go_roundw
            case rel => exact ⟨T ++ [b], O ++ [b], s - 1, g3, cap3, g2, cap2, by simp; omega, by simp; omega, by simp; omega, by simp, by simp, by simp <;> go_num, HW', HST3, HB3⟩
            case measure => simp [intOf]; omega
    · have hw := HW.out
      rw [show near.length - O.length = 0 by omega, greedy, List.append_nil] at hw
      obtain ⟨A1, c1, e, hc1, h⟩ := Ints.of_own HST.out.o
      cases e
      have HH := Lib.hid h
      have HWW := Lib.hid hw
      have hOl : O.length = near.length := by omega
      clear hw h
      go_wp2
      go_ret
      exact ⟨some ⟨go, 0, none⟩, co, congrArg (fun n => Ending.returned (.slice (some ⟨go, 0, none⟩) n co)) hOl, by omega, by rw [HWW.out]; exact HH.out, HB.out⟩
end Go.Proofs.Ytopjfnkcmdifhaa
