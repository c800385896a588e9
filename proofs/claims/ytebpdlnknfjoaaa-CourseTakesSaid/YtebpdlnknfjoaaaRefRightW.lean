/- The walk of the document's Right. -/
import Derived.Test.YtebpdlnknfjoaaaRightW
namespace Go.Proofs.Ytebpdlnknfjoaaa
set_option linter.unusedVariables false
set_option linter.unusedSimpArgs false
open Go.RowKit

theorem rising_near {B : Nat} {A : Option Addr} {p : List Int} {q : Bool} (n : Int) (c : Nat) (w : World) (hI : IntsAt B w A p) (hp : p.length ≤ 1000) (hq : riseB n (-1) p = q) :
    Calls Try.prog 32 #[.slice A p.length c, .int .i64 n] w fun e w' => e = .returned (.bool q) ∧ Below w.heap.size w w' := by
  subst hq
  exact rising_any n c w hI hp

set_option maxRecDepth 100000 in
set_option maxHeartbeats 1000000 in
theorem refRight_any {B : Nat} {A : Option Addr} {ws : List (List (List Int))} (n : Int) (s : ByteArray) (c : Nat) (w : World) (hW : WaysAt B w A ws) (hs : s.size ≤ 9223372036854775807) (h2 : ∀ ps ∈ ws, ∀ p ∈ ps, p.length ≤ 1000) :
    Calls Try.prog 12 #[.int .i64 n, .agg #[.string s, .slice A ws.length c]] w fun e w' => e = .returned (.bool (rightB n s ws)) ∧ Below w.heap.size w w' := by
  have HB0 := Lib.hid (alloc_below w (.cells #[.string s, .slice A ws.length c] 24))
  have HW := Lib.hid hW
  have H2 := Lib.hid h2
  have HBX : Hid ((w.alloc (.cells #[.string s, .slice A ws.length c] 24)).cell? ⟨w.heap.size, 1, none⟩ = some (.slice A ws.length c)) := by show _ = _; simp [go_sem]
  clear hW h2
  cases hnm : nameB s with
  | false =>
    have HN := Lib.hid (refName_near (w.alloc (.cells #[.string s, .slice A ws.length c] 24)) hs hnm)
    have HF : Hid (rightB n s ws = false) := by show _ = _; rw [rightB_eq, hnm]; rfl
    clear hnm
    go_enter Try.func12, Try.ntmps12
    go_wp2_with (go_at_call 31; refine HN.out.mono ?_; rintro e w' ⟨rfl, rfl⟩)
    go_ret
    exact ⟨ret_bool HF.out.symm, HB0.out⟩
  | true =>
    have HN := Lib.hid (refName_near (w.alloc (.cells #[.string s, .slice A ws.length c] 24)) hs hnm)
    by_cases hw0 : ws.length < 1
    · have HF : Hid (rightB n s ws = false) := by show _ = _; rw [rightB_eq, decide_eq_false (by omega)]; simp
      have hw0' : (ws.length : Int) < 1 := by omega
      clear hnm hw0
      go_enter Try.func12, Try.ntmps12
      go_wp2_with (go_at_call 31; refine HN.out.mono ?_; rintro e w' ⟨rfl, rfl⟩)
      go_ret
      exact ⟨ret_bool HF.out.symm, HB0.out⟩
    · by_cases hw4 : ws.length ≤ 4
      · have HR : Hid (rightB n s ws = ws.all (okWay n)) := by show _ = _; rw [rightB_eq, hnm, decide_eq_true (by omega)]; rfl
        have hw0' : ¬ (ws.length : Int) < 1 := by omega
        clear hnm hw0
        go_enter Try.func12, Try.ntmps12
        go_wp2_with (go_at_call 31; refine HN.out.mono ?_; rintro e w' ⟨rfl, rfl⟩)
        clear HN
        have HA0 : Hid ((ws.take 0).all (okWay n) = true) := by show _ = _; rfl
        go_loopw [5] (fun i wr => ∃ k, k ≤ ws.length ∧ i = .int .i64 (k : Nat) ∧ Hid ((ws.take k).all (okWay n) = true) ∧ Hid (Below w.heap.size w wr) ∧ Hid (wr.cell? ⟨w.heap.size, 1, none⟩ = some (.slice A ws.length c))) (fun i _ => ws.length - (intOf i).toNat)
        case atStart => exact ⟨0, Nat.zero_le _, rfl, HA0, HB0, HBX⟩
        case round =>
          clear HA0 HB0 HBX
          obtain ⟨k, hk, rfl, HA, HB, HBX⟩ := hrel
          have hbx := HBX.out
          by_cases hlt : k < ws.length
          · obtain ⟨ad, A1, c1, rfl, _, hc1, hl1, hRW⟩ := (HW.out.later HB.out) k hlt
            have HPB := Lib.hid (H2.out _ (List.getElem_mem hlt))
            have HNO := Lib.hid (fun h => right_no (n := n) (s := s) hlt h)
            have HYES := Lib.hid (fun h => all_take (p := okWay n) hlt HA.out h)
            obtain ⟨ps, hps⟩ : ∃ ps, ps = ws[k] := ⟨_, rfl⟩
            rw [← hps] at hc1 hRW HPB HNO HYES
            have HBA := Lib.hid (HB.out.alloc HB.out.size (.cells #[.slice A1 ps.length c1] 42))
            have HRA := Lib.hid ((hRW.later (alloc_below wr (.cells #[.slice A1 ps.length c1] 42))).now)
            clear hps hl1 hRW
            by_cases hp0 : ps.length < 1
            · have HF : Hid (rightB n s ws = false) := by show _ = _; exact HNO.out (by unfold okWay; rw [decide_eq_false (by omega)]; rfl)
              have hp0' : (ps.length : Int) < 1 := by omega
              clear hp0
              go_wp2
              go_ret
              exact ⟨ret_bool HF.out.symm, HBA.out⟩
            · by_cases hp4 : ps.length ≤ 4
              · have HOK : Hid (okWay n ps = wayB n [] ps) := by show _ = _; unfold okWay; rw [decide_eq_true (by omega)]; rfl
                have hp0' : ¬ (ps.length : Int) < 1 := by omega
                clear hp0
                go_wp2
                obtain ⟨wo, rfl⟩ : ∃ wo : World, wo = wr := ⟨_, rfl⟩
                have HQ0 : Hid (wayB n [] ps = wayB n [] (ps.drop 0)) := by show _ = _; rfl
                have HBW : Hid ((wo.alloc (.cells #[.slice A1 ps.length c1] 42)).cell? ⟨wo.heap.size, 0, none⟩ = some (.slice A1 ps.length c1)) := by show _ = _; simp [go_sem]
                have HBY : Hid ((wo.alloc (.cells #[.slice A1 ps.length c1] 42)).cell? ⟨w.heap.size, 1, none⟩ = some (.slice (some ad) ws.length c)) := cell_alloc HBX.out _
                have hlo : w.heap.size ≤ wo.heap.size := HB.out.size
                clear hbx HBX
                go_loopw [7, 8] (fun v i wq => ∃ (j : Nat) (T : List Int), j ≤ ps.length ∧ T.length ≤ 8 * j ∧ i = .int .i64 (j : Nat) ∧ Hid (wq.ownsRow (wo.heap.size + 1) 3 1 v T.length (ints T)) ∧ Hid (RowsAt (wo.heap.size + 1) wq A1 ps) ∧ Hid (wayB n [] ps = wayB n T (ps.drop j)) ∧ Hid (Below w.heap.size w wq) ∧
                  Hid (wq.cell? ⟨wo.heap.size, 0, none⟩ = some (.slice A1 ps.length c1)) ∧ Hid (wq.cell? ⟨w.heap.size, 1, none⟩ = some (.slice (some ad) ws.length c)) ∧ Hid (wo.heap.size + 1 ≤ wq.heap.size)) (fun _ i _ => ps.length - (intOf i).toNat)
                case atStart => exact ⟨0, [], Nat.zero_le _, Nat.zero_le _, rfl, World.ownsRow_nil _ _ _ _, (by have := HRA.out; show RowsAt _ _ _ _; simpa using this), HQ0, HBA, HBW, HBY, (by show _ ≤ _; simp)⟩
                case round =>
                  clear HQ0 HBA HBW HBY HRA
                  obtain ⟨j, T, hj, hTl, rfl, HO, HRJ, HQ, HB1, HBW, HBY, HSZ⟩ := hrel
                  have hbw := HBW.out
                  have hby := HBY.out
                  by_cases hjl : j < ps.length
                  · obtain ⟨ad2, A2, c2, rfl, hc2, hl2, hia⟩ := HRJ.out.row j hjl
                    have hd : ps.drop j = ps[j] :: ps.drop (j + 1) := List.drop_eq_getElem_cons hjl
                    have hq := HQ.out
                    have hpl := HPB.out _ (List.getElem_mem hjl)
                    rw [hd, wayB] at hq
                    obtain ⟨p, hp⟩ : ∃ p, p = ps[j] := ⟨_, rfl⟩
                    rw [← hp] at hq hc2 hia hpl
                    have HNOP : Hid (partB n T p = false → rightB n s ws = false) := fun h => HNO.out (by rw [HOK.out, hq, h]; rfl)
                    have HYESP : Hid (partB n T p = true → wayB n [] ps = wayB n (T ++ p) (ps.drop (j + 1))) := fun h => by rw [hq, h]; rfl
                    have HIA := Lib.hid hia
                    obtain ⟨Am, cm, rfl, _, hit⟩ := Ints.of_own HO.out
                    have HIT := Lib.hid hit
                    clear hd hp hq HQ hia hit hl2
                    by_cases hp1 : p.length < 1
                    · have HF : Hid (rightB n s ws = false) := HNOP.out (by unfold partB; rw [decide_eq_false (by omega), Bool.and_false])
                      have hp1' : (p.length : Int) < 1 := by omega
                      clear hp1
                      go_wp2
                      go_ret
                      exact ⟨ret_bool HF.out.symm, HB1.out⟩
                    · have hp1' : ¬ (p.length : Int) < 1 := by omega
                      by_cases hp8 : p.length ≤ 8
                      · have HPN : Hid (partB n T p = (riseB n (-1) p && newB T p)) := by show _ = _; unfold partB; rw [decide_eq_true (by omega), Bool.and_true]
                        clear hp1
                        cases hrs : riseB n (-1) p with
                        | false =>
                          have HC := Lib.hid (rising_near n c2 wr HIA.out hpl hrs)
                          have HF : Hid (rightB n s ws = false) := HNOP.out (by rw [HPN.out, hrs]; rfl)
                          clear hrs
                          go_wp2_with (go_at_call 32; refine HC.out.mono ?_; rintro e w3 ⟨rfl, hb3⟩; have HB3 := Lib.hid (HB1.out.trans (hb3.mono HB1.out.size)); clear hb3)
                          go_ret
                          exact ⟨ret_bool HF.out.symm, HB3.out⟩
                        | true =>
                          have HC := Lib.hid (rising_near n c2 wr HIA.out hpl hrs)
                          have HPT : Hid (partB n T p = newB T p) := by show _ = _; rw [HPN.out, hrs, Bool.true_and]
                          clear hrs
                          go_wp2_with (go_at_call 32; refine HC.out.mono ?_; rintro e w3 ⟨rfl, hb3⟩; have HB3 := Lib.hid (HB1.out.trans (hb3.mono HB1.out.size)); have HO3 := Lib.hid (own_later HO.out hb3); have HR3 := Lib.hid (HRJ.out.later hb3); have HIA3 := Lib.hid (HIA.out.later hb3); have HIT3 := Lib.hid (HIT.out.later hb3); have HBW3 : Hid (w3.cell? ⟨wo.heap.size, 0, none⟩ = some (.slice (some ad2) ps.length c1)) := (World.cell?_of_block (hb3.block _ (cell_lt hbw))).trans hbw; have HBY3 : Hid (w3.cell? ⟨w.heap.size, 1, none⟩ = some (.slice (some ad) ws.length c)) := (World.cell?_of_block (hb3.block _ (cell_lt hby))).trans hby; have HSZ3 : Hid (wo.heap.size + 1 ≤ w3.heap.size) := Nat.le_trans HSZ.out hb3.size; clear hb3)
                          clear hbw hby HBW HBY HO HRJ HIA HIT HB1 HC HSZ
                          have HT0 : Hid (∀ x ∈ p.take 0, x ∉ T) := by intro x hx; simp at hx
                          go_loop [10] (fun i => ∃ t : Nat, t ≤ p.length ∧ i = .int .i64 (t : Nat) ∧ Hid (∀ x ∈ p.take t, x ∉ T)) (fun i => p.length - (intOf i).toNat)
                          case atStart => exact ⟨0, Nat.zero_le _, rfl, HT0⟩
                          case round =>
                            clear HT0
                            obtain ⟨t, ht, rfl, HT⟩ := hrel
                            by_cases htl : t < p.length
                            · obtain ⟨ad3, rfl, hx⟩ := HIA3.out.cell t htl
                              have htk : p.take (t + 1) = p.take t ++ [p[t]] := List.take_succ_eq_append_getElem htl
                              have hxp : p[t] ∈ p := List.getElem_mem htl
                              obtain ⟨x, hxe⟩ : ∃ x, x = p[t] := ⟨_, rfl⟩
                              rw [← hxe] at hx htk hxp
                              clear hxe
                              by_cases hxT : x ∈ T
                              · have HD := Lib.hid (has_near (q := true) cm T x w3 HIT3.out rfl (by omega) (decide_eq_true hxT))
                                have HF : Hid (rightB n s ws = false) := HNOP.out (by
                                  rw [HPT.out, Bool.eq_false_iff]
                                  intro h
                                  have := List.all_eq_true.1 h x hxp
                                  simp [hxT] at this)
                                clear hxT htk hxp
                                go_wp2_with (go_at_call 33; refine HD.out.mono ?_; rintro e w' ⟨rfl, rfl⟩)
                                go_ret
                                exact ⟨ret_bool HF.out.symm, HB3.out⟩
                              · have HD := Lib.hid (has_near (q := false) cm T x w3 HIT3.out rfl (by omega) (decide_eq_false hxT))
                                have HT' : Hid (∀ y ∈ p.take (t + 1), y ∉ T) := by
                                  intro y hy
                                  rw [htk, List.mem_append, List.mem_singleton] at hy
                                  rcases hy with hy | rfl
                                  · exact HT.out y hy
                                  · exact hxT
                                clear hxT htk hxp
                                go_wp2_with (go_at_call 33; refine HD.out.mono ?_; rintro e w' ⟨rfl, rfl⟩)
                                go_round
                                case rel => exact ⟨t + 1, by omega, by go_num, HT'⟩
                                case measure => simp [intOf]; omega
                            · have hnew : newB T p = true := by
                                refine List.all_eq_true.2 (fun x hx => ?_)
                                have := HT.out x (by rw [List.take_of_length_le (by omega)]; exact hx)
                                simp [this]
                              have HQ' : Hid (wayB n [] ps = wayB n (T ++ p) (ps.drop (j + 1))) := HYESP.out (by rw [HPT.out, hnew])
                              obtain ⟨v', w4, hap, hown, hgr⟩ := app_many (ty := 29) Try.underlying29 info_int HO3.out (c := c2) HIA3.out (by omega) HSZ3.out
                              have HAP := Lib.hid hap
                              have HO4 := Lib.hid hown
                              have hge := own_ge HO3.out
                              have HB4 := Lib.hid (below_grown HB3.out hgr HB3.out.size (fun q e => by have := hge q e; omega))
                              have HR4 := Lib.hid (HR3.out.grown hgr hge)
                              have hn1 : some wo.heap.size ≠ (Value.slice Am T.length cm).ownBlock := fun e => by have := hge _ e.symm; omega
                              have hn2 : some w.heap.size ≠ (Value.slice Am T.length cm).ownBlock := fun e => by have := hge _ e.symm; omega
                              have HBW4 := Lib.hid (hgr.cell HBW3.out hn1)
                              have HBY4 := Lib.hid (hgr.cell HBY3.out hn2)
                              have HSZ4 : Hid (wo.heap.size + 1 ≤ w4.heap.size) := Nat.le_trans HSZ3.out hgr.size
                              have hTl' : (T ++ p).length ≤ 8 * (j + 1) := by rw [List.length_append]; omega
                              clear hap hown hgr hge hn1 hn2 hnew
                              go_wp2_with (at_builtin; refine wpList_append_run rfl _ _ 29 rfl rfl rfl HAP.out ?_)
                              go_roundw
                              case rel => exact ⟨j + 1, T ++ p, by omega, hTl', by go_num, HO4, HR4, HQ', HB4, HBW4, HBY4, HSZ4⟩
                              case measure => simp [intOf]; omega
                      · have HF : Hid (rightB n s ws = false) := HNOP.out (by unfold partB; rw [decide_eq_false (by omega), Bool.and_false])
                        clear hp1
                        go_wp2
                        go_ret
                        exact ⟨ret_bool HF.out.symm, HB1.out⟩
                  · have HA' : Hid ((ws.take (k + 1)).all (okWay n) = true) := by
                      show _ = _
                      refine HYES.out ?_
                      rw [HOK.out, HQ.out, List.drop_eq_nil_of_le (by omega)]
                      rfl
                    go_wp2
                    go_roundw
                    case rel => exact ⟨k + 1, by omega, by go_num, HA', HB1, HBY⟩
                    case measure => simp [intOf]; omega
              · have HF : Hid (rightB n s ws = false) := by show _ = _; exact HNO.out (by unfold okWay; rw [decide_eq_false (by omega)]; rfl)
                have hp0' : ¬ (ps.length : Int) < 1 := by omega
                clear hp0
                go_wp2
                go_ret
                exact ⟨ret_bool HF.out.symm, HBA.out⟩
          · have HT : Hid (rightB n s ws = true) := by
              have := HA.out
              rw [List.take_of_length_le (by omega)] at this
              show _ = _
              rw [HR.out, this]
            go_wp2
            go_ret
            exact ⟨ret_bool HT.out.symm, HB.out⟩
      · have HF : Hid (rightB n s ws = false) := by show _ = _; rw [rightB_eq, decide_eq_false (by omega)]; simp
        have hw0' : ¬ (ws.length : Int) < 1 := by omega
        clear hnm hw0
        go_enter Try.func12, Try.ntmps12
        go_wp2_with (go_at_call 31; refine HN.out.mono ?_; rintro e w' ⟨rfl, rfl⟩)
        go_ret
        exact ⟨ret_bool HF.out.symm, HB0.out⟩
end Go.Proofs.Ytebpdlnknfjoaaa
