/- The walks of course.Right and the document's Right. -/
import Derived.Test.YtebpdlnknfjoaaaRight
namespace Go.Proofs.Ytebpdlnknfjoaaa
set_option linter.unusedVariables false
set_option linter.unusedSimpArgs false
open Go.RowKit

def okWay (n : Int) (ps : List (List Int)) : Bool := decide (1 ≤ ps.length ∧ ps.length ≤ 4) && wayB n [] ps
theorem rightB_eq (n : Int) (s : ByteArray) (ws : List (List (List Int))) : rightB n s ws = (nameB s && decide (1 ≤ ws.length ∧ ws.length ≤ 4) && ws.all (okWay n)) := rfl
theorem right_no {n : Int} {s : ByteArray} {ws : List (List (List Int))} {k : Nat} (hk : k < ws.length) (h : okWay n ws[k] = false) : rightB n s ws = false := by
  rw [rightB_eq, all_fails hk h, Bool.and_false]
theorem name_near {s : ByteArray} {q : Bool} (w : World) (hs : s.size ≤ 9223372036854775807) (hq : nameB s = q) : Calls Try.prog 29 #[.string s] w fun e w' => e = .returned (.bool q) ∧ w = w' := by
  subst hq; exact name_any s w hs
theorem refName_near {s : ByteArray} {q : Bool} (w : World) (hs : s.size ≤ 9223372036854775807) (hq : nameB s = q) : Calls Try.prog 31 #[.string s] w fun e w' => e = .returned (.bool q) ∧ w = w' := by
  subst hq; exact refName_any s w hs

theorem RowsAt.apart {B : Nat} {w w' : World} {A : Option Addr} {xss : List (List Int)} {b : Nat} (h : RowsAt B w A xss) (hb : B ≤ b) (hg : w.grownBy w' (some b)) : RowsAt B w' A xss := h.grown hg (fun k e => by cases e; exact hb)

theorem row_near {A : Option Addr} {p T : List Int} {b : Nat} {q : Bool} (n : Int) (c : Nat) (w : World) (hI : IntsAt b w A p) (hM : MapV w b (setF fun x => decide (x ∈ T))) (hp : p.length ≤ 1000) (hq : partB n T p = q) :
    Calls Try.prog 30 #[.slice A p.length c, .int .i64 n, .map (some b)] w fun e w' => e = .returned (.bool q) ∧ (q = true → MapV w' b (setF fun x => decide (x ∈ T ++ p))) ∧ w.grownBy w' (some b) := by
  subst hq
  exact row_any n c w hI hM hp

set_option maxRecDepth 100000 in
set_option maxHeartbeats 800000 in
theorem right_any {B : Nat} {A : Option Addr} {ws : List (List (List Int))} (n : Int) (s : ByteArray) (c : Nat) (w : World) (hW : WaysAt B w A ws) (hs : s.size ≤ 9223372036854775807) (h2 : ∀ ps ∈ ws, ∀ p ∈ ps, p.length ≤ 1000) :
    Calls Try.prog 11 #[.int .i64 n, .agg #[.string s, .slice A ws.length c]] w fun e w' => e = .returned (.bool (rightB n s ws)) ∧ Below w.heap.size w w' := by
  have HB0 := Lib.hid (alloc_below w (.cells #[.string s, .slice A ws.length c] 24))
  have HW := Lib.hid hW
  have H2 := Lib.hid h2
  have hmm := @run_makeMap Try.prog
  clear hW h2
  cases hnm : nameB s with
  | false =>
    have HN := Lib.hid (name_near (w.alloc (.cells #[.string s, .slice A ws.length c] 24)) hs hnm)
    have HF : Hid (rightB n s ws = false) := by show _ = _; rw [rightB_eq, hnm]; rfl
    clear hnm
    go_enter Try.func11, Try.ntmps11
    go_wp2_with (go_at_call 29; refine HN.out.mono ?_; rintro e w' ⟨rfl, rfl⟩)
    go_ret
    exact ⟨ret_bool HF.out.symm, HB0.out⟩
  | true =>
    have HN := Lib.hid (name_near (w.alloc (.cells #[.string s, .slice A ws.length c] 24)) hs hnm)
    by_cases hw0 : ws.length = 0
    · have HF : Hid (rightB n s ws = false) := by show _ = _; rw [rightB_eq, decide_eq_false (by omega)]; simp
      have hd0 : ((ws.length : Int) == 0) = true := by rw [beq_iff_eq]; omega
      clear hnm hw0
      go_enter Try.func11, Try.ntmps11
      go_wp2_with (go_at_call 29; refine HN.out.mono ?_; rintro e w' ⟨rfl, rfl⟩)
      go_ret
      exact ⟨ret_bool HF.out.symm, HB0.out⟩
    · have hd0 : ((ws.length : Int) == 0) = false := by rw [beq_eq_false_iff_ne]; omega
      by_cases hw4 : ws.length ≤ 4
      · have HR : Hid (rightB n s ws = ws.all (okWay n)) := by show _ = _; rw [rightB_eq, hnm, decide_eq_true (by omega)]; rfl
        clear hnm hw0
        go_enter Try.func11, Try.ntmps11
        go_wp2_with (go_at_call 29; refine HN.out.mono ?_; rintro e w' ⟨rfl, rfl⟩)
        clear HN
        have HA0 : Hid ((ws.take 0).all (okWay n) = true) := by show _ = _; rfl
        go_loopw [29] (fun i wr => ∃ k, k ≤ ws.length ∧ i = .int .i64 (k : Nat) ∧ Hid ((ws.take k).all (okWay n) = true) ∧ Hid (Below w.heap.size w wr)) (fun i _ => ws.length - (intOf i).toNat)
        case atStart => exact ⟨0, Nat.zero_le _, rfl, HA0, HB0⟩
        case round =>
          clear HA0 HB0
          obtain ⟨k, hk, rfl, HA, HB⟩ := hrel
          by_cases hlt : k < ws.length
          · obtain ⟨ad, A1, c1, rfl, _, hc1, hl1, hRW⟩ := (HW.out.later HB.out) k hlt
            have HPB := Lib.hid (H2.out _ (List.getElem_mem hlt))
            have HNO := Lib.hid (fun h => right_no (n := n) (s := s) hlt h)
            have HYES := Lib.hid (fun h => all_take (p := okWay n) hlt HA.out h)
            obtain ⟨ps, hps⟩ : ∃ ps, ps = ws[k] := ⟨_, rfl⟩
            rw [← hps] at hc1 hRW HPB HNO HYES
            have HBA := Lib.hid (HB.out.alloc HB.out.size (.cells #[.slice A1 ps.length c1] 42))
            have HRA := Lib.hid ((hRW.later (alloc_below wr (.cells #[.slice A1 ps.length c1] 42))).now)
            clear hps hl1 hRW
            by_cases hp0 : ps.length = 0
            · have hd1 : ((ps.length : Int) == 0) = true := by rw [beq_iff_eq]; omega
              have HF : Hid (rightB n s ws = false) := by show _ = _; exact HNO.out (by unfold okWay; rw [decide_eq_false (by omega)]; rfl)
              clear hp0
              go_wp2
              go_ret
              exact ⟨ret_bool HF.out.symm, HBA.out⟩
            · have hd1 : ((ps.length : Int) == 0) = false := by rw [beq_eq_false_iff_ne]; omega
              by_cases hp4 : ps.length ≤ 4
              · have HOK : Hid (okWay n ps = wayB n [] ps) := by show _ = _; unfold okWay; rw [decide_eq_true (by omega)]; rfl
                clear hp0
                go_wp2
                obtain ⟨wo, rfl⟩ : ∃ wo : World, wo = wr := ⟨_, rfl⟩
                have HM0 : Hid (MapV ((wo.alloc (.cells #[.slice A1 ps.length c1] 42)).alloc (.map #[] 0)) (wo.heap.size + 1) (setF fun x => decide (x ∈ ([] : List Int)))) := by
                  show MapV _ _ _
                  have := made_set (wo.alloc (.cells #[.slice A1 ps.length c1] 42))
                  simpa using this
                have HR0 : Hid (RowsAt (wo.heap.size + 1) ((wo.alloc (.cells #[.slice A1 ps.length c1] 42)).alloc (.map #[] 0)) A1 ps) := by
                  have := HRA.out.later (alloc_below _ (.map #[] 0))
                  show RowsAt _ _ _ _
                  simpa using this
                have HB1 : Hid (Below w.heap.size w ((wo.alloc (.cells #[.slice A1 ps.length c1] 42)).alloc (.map #[] 0))) := HBA.out.alloc HBA.out.size _
                have HQ0 : Hid (wayB n [] ps = wayB n [] (ps.drop 0)) := by show _ = _; rfl
                have hlo : w.heap.size ≤ wo.heap.size + 1 := by have := HB.out.size; omega
                clear HRA HBA
                go_loopw [47] (fun i wq => ∃ (j : Nat) (T : List Int), j ≤ ps.length ∧ i = .int .i64 (j : Nat) ∧ Hid (MapV wq (wo.heap.size + 1) (setF fun x => decide (x ∈ T))) ∧ Hid (RowsAt (wo.heap.size + 1) wq A1 ps) ∧ Hid (wayB n [] ps = wayB n T (ps.drop j)) ∧ Hid (Below w.heap.size w wq)) (fun i _ => ps.length - (intOf i).toNat)
                case atStart => exact ⟨0, [], Nat.zero_le _, rfl, HM0, HR0, HQ0, HB1⟩
                case round =>
                  clear HM0 HR0 HQ0 HB1
                  obtain ⟨j, T, hj, rfl, HM, HRJ, HQ, HB1⟩ := hrel
                  by_cases hjl : j < ps.length
                  · obtain ⟨ad2, A2, c2, rfl, hc2, hl2, hia⟩ := HRJ.out.row j hjl
                    have hd : ps.drop j = ps[j] :: ps.drop (j + 1) := List.drop_eq_getElem_cons hjl
                    have hq := HQ.out
                    have hpl := HPB.out _ (List.getElem_mem hjl)
                    rw [hd, wayB] at hq
                    obtain ⟨p, hp⟩ : ∃ p, p = ps[j] := ⟨_, rfl⟩
                    rw [← hp] at hq hc2 hia hpl
                    cases hpb : partB n T p with
                    | false =>
                      have HC := Lib.hid (row_near n c2 wr hia HM.out hpl hpb)
                      have HF : Hid (rightB n s ws = false) := by show _ = _; exact HNO.out (by rw [HOK.out, hq, hpb]; rfl)
                      clear hpb hd hp hq hia
                      go_wp2_with (go_at_call 30; refine HC.out.mono ?_; rintro e w3 ⟨rfl, _, hg3⟩; have HB3 := Lib.hid (below_grown HB1.out hg3 HB1.out.size (fun k e => by cases e; exact hlo)); clear hg3)
                      go_ret
                      exact ⟨ret_bool HF.out.symm, HB3.out⟩
                    | true =>
                      have HC := Lib.hid (row_near n c2 wr hia HM.out hpl hpb)
                      have HQ' : Hid (wayB n [] ps = wayB n (T ++ p) (ps.drop (j + 1))) := by show _ = _; rw [hq, hpb]; rfl
                      clear hpb hd hp hq hia HQ
                      go_wp2_with (go_at_call 30; refine HC.out.mono ?_; rintro e w3 ⟨rfl, hm3, hg3⟩; have HB3 := Lib.hid (below_grown HB1.out hg3 HB1.out.size (fun k e => by cases e; exact hlo)); have HM3 := Lib.hid (hm3 rfl); have HR3 := Lib.hid (HRJ.out.apart (Nat.le_refl _) hg3); clear hg3 hm3)
                      go_roundw
                      case rel => exact ⟨j + 1, T ++ p, by omega, by go_num, HM3, HR3, HQ', HB3⟩
                      case measure => simp [intOf]; omega
                  · have HA' : Hid ((ws.take (k + 1)).all (okWay n) = true) := by
                      show _ = _
                      refine HYES.out ?_
                      rw [HOK.out, HQ.out, List.drop_eq_nil_of_le (by omega)]
                      rfl
                    go_wp2
                    go_roundw
                    case rel => exact ⟨k + 1, by omega, by go_num, HA', HB1⟩
                    case measure => simp [intOf]; omega
              · have HF : Hid (rightB n s ws = false) := by show _ = _; exact HNO.out (by unfold okWay; rw [decide_eq_false (by omega)]; rfl)
                clear hp0
                go_wp2
                go_ret
                exact ⟨ret_bool HF.out.symm, HBA.out⟩
          · have HT : Hid (rightB n s ws = true) := by
              have := HA.out
              rw [List.take_of_length_le (by omega)] at this
              show _ = _
              rw [HR.out, this]
            go_wp2
            go_ret
            exact ⟨ret_bool HT.out.symm, HB.out⟩
      · have HF : Hid (rightB n s ws = false) := by show _ = _; rw [rightB_eq, decide_eq_false (by omega)]; simp
        clear hnm hw0
        go_enter Try.func11, Try.ntmps11
        go_wp2_with (go_at_call 29; refine HN.out.mono ?_; rintro e w' ⟨rfl, rfl⟩)
        go_ret
        exact ⟨ret_bool HF.out.symm, HB0.out⟩
end Go.Proofs.Ytebpdlnknfjoaaa
