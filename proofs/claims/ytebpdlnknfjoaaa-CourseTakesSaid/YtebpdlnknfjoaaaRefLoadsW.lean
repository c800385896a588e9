/- The walk of the document's Loads. -/
import Derived.Test.YtebpdlnknfjoaaaHoldsW
import Derived.Test.YtebpdlnknfjoaaaRefRightW
import Derived.Test.YtebpdlnknfjoaaaStillAt
namespace Go.Proofs.Ytebpdlnknfjoaaa
set_option linter.unusedVariables false
set_option linter.unusedSimpArgs false
open Go.RowKit

def refWay (os : List Int) (ps : List (List Int)) : List (List Int) := (allOf ps).filter (refHold os ps)
theorem dfs_mem : ∀ (ps : List (List Int)) (l : List Int), ∀ r ∈ dfs ps l, ∀ x ∈ r, x ∈ l ∨ x ∈ ps.flatten
  | [], l => fun r hr x hx => by
    unfold dfs at hr
    rw [List.mem_singleton] at hr
    subst hr
    exact .inl hx
  | p :: ps, l => fun r hr x hx => by
    unfold dfs at hr
    obtain ⟨y, hy, hr⟩ := List.mem_flatMap.1 hr
    rcases dfs_mem ps (l ++ [y]) r hr x hx with h | h
    · rcases List.mem_append.1 h with h | h
      · exact .inl h
      · rw [List.mem_singleton] at h
        subst h
        exact .inr (by rw [List.flatten_cons]; exact List.mem_append.2 (.inl hy))
    · exact .inr (by rw [List.flatten_cons]; exact List.mem_append.2 (.inr h))
theorem hold_same {os : List Int} {ps : List (List Int)} {r : List Int} (h : ∀ x ∈ r, x ∈ ps.flatten) : refHold os ps r = holdB (needOf os ps.flatten) r := by
  unfold refHold holdB
  rw [Bool.eq_iff_iff, List.all_eq_true, List.all_eq_true]
  refine forall_congr' fun x => forall_congr' fun hx => ?_
  have hT := h x hx
  rw [List.all_eq_true]
  unfold needOf partOk
  by_cases ho : os.getD x.toNat 0 ∈ ps.flatten
  · rw [if_pos ⟨hT, ho⟩]
    obtain ⟨p, hp, hop⟩ := List.mem_flatten.1 ho
    constructor
    · intro h1
      have := h1 p hp
      rw [decide_eq_true hop] at this
      simpa using this
    · intro h1 p' _
      have h1' : decide (os.getD x.toNat 0 ∈ r) = true := h1
      rw [h1', Bool.or_true]
  · rw [if_neg (fun q => ho q.2)]
    refine ⟨fun _ => rfl, fun _ p hp => ?_⟩
    rw [decide_eq_false (fun q => ho (List.mem_flatten.2 ⟨p, hp, q⟩))]
    rfl
theorem way_same (os : List Int) (ps : List (List Int)) : refWay os ps = wayLoads os ps := by
  unfold refWay wayLoads
  rw [all_dfs]
  refine List.filter_congr fun r hr => hold_same fun x hx => ?_
  rcases dfs_mem ps [] r hr x hx with h | h
  · cases h
  · exact h
theorem filter_snoc {α : Type} {p : α → Bool} {xs : List α} {k : Nat} (hk : k < xs.length) : (xs.take (k + 1)).filter p = (xs.take k).filter p ++ (if p xs[k] then [xs[k]] else []) := by
  rw [List.take_succ_eq_append_getElem hk, List.filter_append]
  congr 1
  simp only [List.filter_cons, List.filter_nil]
theorem flatMap_snoc {α β : Type} {f : α → List β} {xs : List α} {k : Nat} (hk : k < xs.length) : (xs.take (k + 1)).flatMap f = (xs.take k).flatMap f ++ f xs[k] := by
  rw [List.take_succ_eq_append_getElem hk, List.flatMap_append]
  simp

set_option maxRecDepth 100000 in
set_option maxHeartbeats 1000000 in
theorem refLoads_any {A A2 : Option Addr} {os : List Int} {ws : List (List (List Int))} (s : ByteArray) (c c2 : Nat) (w : World) (hO : OversAt w.heap.size w A os) (hW : WaysAt w.heap.size w A2 ws) (hs : s.size ≤ 9223372036854775807) (h2 : ∀ ps ∈ ws, ∀ p ∈ ps, p.length ≤ 1000) (hos : os.length ≤ 1000) :
    Calls Try.prog 21 #[.slice A os.length c, .agg #[.string s, .slice A2 ws.length c2]] w (LoadsPost os s ws w) := by
  have HB0 := Lib.hid (alloc_below w (.cells #[.string s, .slice A2 ws.length c2] 24))
  have HO := Lib.hid hO
  have HW := Lib.hid hW
  cases hr : rightB os.length s ws with
  | false =>
    have HC := Lib.hid (refRight_any os.length s c2 (w.alloc (.cells #[.string s, .slice A2 ws.length c2] 24)) (hW.later HB0.out) hs h2)
    rw [hr] at HC
    have HL : Hid (loadsOf os s ws = []) := by show _ = _; unfold loadsOf; rw [hr]; rfl
    clear hr hO hW h2
    go_enter Try.func21, Try.ntmps21
    go_wp2_with (go_at_call 12; refine HC.out.mono ?_; rintro e w1 ⟨rfl, hb1⟩; have HB1 := Lib.hid (HB0.out.trans (hb1.mono HB0.out.size)); clear hb1)
    go_ret
    exact ⟨none, 0, by rw [HL.out]; rfl, by rw [HL.out]; intro i hi; simp at hi, HB1.out⟩
  | true =>
    have HC := Lib.hid (refRight_any os.length s c2 (w.alloc (.cells #[.string s, .slice A2 ws.length c2] 24)) (hW.later HB0.out) hs h2)
    rw [hr] at HC
    have HL : Hid (loadsOf os s ws = ws.flatMap (refWay os)) := by
      show _ = _
      unfold loadsOf
      rw [if_pos hr]
      congr 1
      funext ps
      exact (way_same os ps).symm
    obtain ⟨hw4, hrp⟩ := right_parts hr
    have HRP := Lib.hid hrp
    have HBX : Hid ((w.alloc (.cells #[.string s, .slice A2 ws.length c2] 24)).cell? ⟨w.heap.size, 1, none⟩ = some (.slice A2 ws.length c2)) := by show _ = _; simp [go_sem]
    have HLN : Hid (∀ k, k ≤ ws.length → ((ws.take k).flatMap (refWay os)).length ≤ 4096 * k) := by
      intro k
      induction k with
      | zero => intro _; simp
      | succ k ih =>
        intro hk
        rw [flatMap_snoc (show k < ws.length by omega), List.length_append]
        have h1 := ih (by omega)
        have hm := hrp _ (List.getElem_mem (show k < ws.length by omega))
        have h2 := all_len hm.2.1 ws[k].length (Nat.le_refl _)
        rw [List.take_length] at h2
        have h3 : (refWay os ws[k]).length ≤ (allOf ws[k]).length := List.length_filter_le _ _
        have h4 : 8 ^ ws[k].length ≤ 8 ^ 4 := Nat.pow_le_pow_right (by decide) hm.1
        have h5 : (8 : Nat) ^ 4 = 4096 := by decide
        omega
    clear hr hO hW h2 hrp
    go_enter Try.func21, Try.ntmps21
    go_wp2_with (go_at_call 12; refine HC.out.mono ?_; rintro e w1 ⟨rfl, hb1⟩; have HB1 := Lib.hid (HB0.out.trans (hb1.mono HB0.out.size)); have hbx1 : w1.cell? ⟨w.heap.size, 1, none⟩ = some (.slice A2 ws.length c2) := (World.cell?_of_block (hb1.block _ (cell_lt HBX.out))).trans HBX.out; clear hb1)
    have HBX1 : Hid (w1.cell? ⟨w.heap.size, 1, none⟩ = some (.slice A2 ws.length c2)) := hbx1
    have HOR : Hid (OutRows (w.heap.size + 1) Any w1 (.slice none 0 0) ((ws.take 0).flatMap (refWay os))) := OutRows.start _ _ _
    clear HBX HB0 HC hbx1
    go_loopw [5, 6] (fun o i wr => ∃ (k : Nat) (vo : Value) (wk : World), vo = o ∧ wk = wr ∧ k ≤ ws.length ∧ i = .int .i64 (k : Nat) ∧ Hid (OutRows (w.heap.size + 1) Any wk vo ((ws.take k).flatMap (refWay os))) ∧ Hid (Below w.heap.size w wk) ∧ Hid (wk.cell? ⟨w.heap.size, 1, none⟩ = some (.slice A2 ws.length c2))) (fun _ i _ => ws.length - (intOf i).toNat)
    case atStart => exact ⟨0, _, _, rfl, rfl, Nat.zero_le _, rfl, HOR, HB1, HBX1⟩
    case round =>
      clear HOR HB1 HBX1
      obtain ⟨k, vo, wk, rfl, rfl, hk, rfl, HOR, HB, HBX⟩ := hrel
      have hbx := HBX.out
      by_cases hlt : k < ws.length
      · obtain ⟨ad, A1, c1, rfl, hadB, hc1, hl1, hR⟩ := (HW.out.later HB.out) k hlt
        obtain ⟨hp4, hp8, hin⟩ := HRP.out _ (List.getElem_mem hlt)
        have hln := HLN.out k hk
        have HFM := Lib.hid (flatMap_snoc (f := refWay os) hlt)
        obtain ⟨ps, hps⟩ : ∃ ps, ps = ws[k] := ⟨_, rfl⟩
        rw [← hps] at hc1 hR hp4 hp8 hin HFM
        obtain ⟨E, hE⟩ : ∃ E, E = (ws.take k).flatMap (refWay os) := ⟨_, rfl⟩
        rw [← hE] at HOR hln HFM
        have HA := Lib.hid (allW_any c1 wk (hR.now) hp4 hp8)
        have HR := Lib.hid hR
        have HP8 := Lib.hid hp8
        have HIN := Lib.hid hin
        have hall : (allOf ps).length ≤ 4096 := by
          have h2 := all_len hp8 ps.length (Nat.le_refl _)
          rw [List.take_length] at h2
          have h4 : 8 ^ ps.length ≤ 8 ^ 4 := Nat.pow_le_pow_right (by decide) hp4
          have h5 : (8 : Nat) ^ 4 = 4096 := by decide
          omega
        have hrows : ∀ r ∈ allOf ps, r.length = ps.length := by
          have := all_rows (ps := ps) ps.length (Nat.le_refl _)
          rwa [List.take_length] at this
        have HROWS := Lib.hid hrows
        have HMEM : Hid (∀ r ∈ allOf ps, ∀ x ∈ r, 0 ≤ x ∧ x < os.length) := by
          intro r hr x hx
          rw [all_dfs] at hr
          rcases dfs_mem ps [] r hr x hx with h | h
          · cases h
          · exact hin x h
        obtain ⟨L, hL⟩ : ∃ L, L = allOf ps := ⟨_, rfl⟩
        have HFM2 : Hid ((ws.take (k + 1)).flatMap (refWay os) = E ++ L.filter (refHold os ps)) := by show _ = _; rw [HFM.out, hL]; rfl
        unfold AllPost at HA
        rw [← hL] at HA hall HROWS HMEM
        have HPSK := Lib.hid hps
        clear hps hE hl1 hR hp8 hin hadB HFM hrows hL
        go_wp2_with (go_at_call 42; go_loud (refine HA.out.mono ?_; rintro e wa ⟨va, rfl, hva, hba⟩; have HVA := Lib.hid hva; have HOA : Hid (OutRows (w.heap.size + 1) Any wa vo (E ++ (L.take 0).filter (refHold os ps))) := (by show OutRows _ _ _ _ _; rw [List.take_zero, List.filter_nil, List.append_nil]; exact HOR.out.laid hba); have HBA := Lib.hid (HB.out.trans (hba.mono HB.out.size)); have hbxa : wa.cell? ⟨w.heap.size, 1, none⟩ = some (.slice (some ad) ws.length c2) := (cell_later HBX.out hba); have HBXA := Lib.hid hbxa; clear hva hba hbxa))
        obtain ⟨Aa, ca, rfl⟩ := HVA.out.len
        have HAP0 : Hid (∀ q, vo.ownBlock = some q → (Value.slice Aa L.length ca).ownBlock ≠ some q) := by
          intro q h1 h2
          obtain ⟨_, cur, h3⟩ := HOR.out.block q h1
          have h4 := (HVA.out.block q h2).1
          have := (Array.getElem?_eq_some_iff.1 h3).1
          omega
        go_loopw [5, 8] (fun o i wr => ∃ (j : Nat) (v5 : Value) (wj : World), v5 = o ∧ wj = wr ∧ j ≤ L.length ∧ i = .int .i64 (j : Nat) ∧ Hid (OutRows (w.heap.size + 1) Any wj v5 (E ++ (L.take j).filter (refHold os ps))) ∧ Hid (Below w.heap.size w wj) ∧ Hid (∀ q, v5.ownBlock = some q → (Value.slice Aa L.length ca).ownBlock ≠ some q) ∧ Hid (wj.cell? ⟨w.heap.size, 1, none⟩ = some (.slice (some ad) ws.length c2)) ∧ Hid (OutRows wk.heap.size Any wj (.slice Aa L.length ca) L)) (fun _ i _ => L.length - (intOf i).toNat)
        case atStart => exact ⟨0, _, _, rfl, rfl, Nat.zero_le _, rfl, HOA, HBA, HAP0, HBXA, HVA⟩
        case round =>
          clear HOA HBA HBXA HVA HAP0
          obtain ⟨j, v5, wj, rfl, rfl, hj, rfl, HO5, HB5, HAPJ, HBX5, HVJ⟩ := hrel
          have hbx5 := HBX5.out
          by_cases hjl : j < L.length
          · obtain ⟨g, cap, u, hv, hcj, hri⟩ := HVJ.out.row j hjl
            cases hv
            obtain ⟨Ai, ci, rfl, hci, hir⟩ := hri.intsAt
            rw [add_free, Nat.zero_add] at hcj
            obtain ⟨ad0, A10, c10, e0, _, hc10, _, hR0⟩ := (HW.out.later HB5.out) k hlt
            cases e0
            have hpsk := HPSK.out
            rw [← hpsk] at hc10 hR0
            have hrl := HROWS.out _ (List.getElem_mem hjl)
            have hmem := HMEM.out _ (List.getElem_mem hjl)
            have HFS := Lib.hid (filter_snoc (p := refHold os ps) hjl)
            obtain ⟨r, hr⟩ : ∃ r, r = L[j] := ⟨_, rfl⟩
            rw [← hr] at hcj hir hrl hmem HFS hri
            have hrl4 : r.length ≤ 4 := by omega
            clear hrl
            have hbd : Below wj.heap.size wj wj.drew := below_drewN (Below.refl _ _) 1
            have HC (q : Bool) (hq : refHold os ps r = q) := refHolds_any c c10 ci wj.drew (((HO.out.later HB5.out).now).later hbd) ((hR0.now).later hbd) (hir.later hbd) hmem (by omega) (by omega) (fun p hp => by have := HP8.out p hp; omega) hos hq
            have hcj0 : True := trivial
            have hln2 : (E ++ (L.take j).filter (refHold os ps)).length < 1000000000 := by
              have := List.length_filter_le (refHold os ps) (L.take j)
              rw [List.length_take] at this
              rw [List.length_append]
              omega
            cases hq : refHold os ps r with
            | false =>
              have HC1 := Lib.hid (HC false hq)
              have HO6 : Hid (OutRows (w.heap.size + 1) Any wj v5 (E ++ (L.take (j + 1)).filter (refHold os ps))) := by
                show OutRows _ _ _ _ _
                rw [HFS.out, hq, if_neg (by decide), List.append_nil]
                exact HO5.out
              clear HC hq hir hmem hr hpsk hcj0 hR0
              have HRI := Lib.hid hri
              have HCJ := Lib.hid hcj
              clear hri
              go_wp2
              refine still_tail 10 (by kernel_rfl) (by kernel_rfl) (fun KK hKK => ?_)
              have HKK := Lib.hid hKK
              clear hKK
              simp only [List.take_succ_cons, List.take_zero, List.drop_succ_cons, List.drop_zero] at HKK ⊢
              have hy1 : World.cell? wj.drew ⟨w.heap.size, 1, none⟩ = some (.slice (some ad) ws.length c2) := hbx5
              have hy2 : World.cell? wj.drew (ad.add k) = some (.slice A10 ps.length c10) := hc10
              have hy3 : World.cell? wj.drew ⟨g, j, none⟩ = some (.slice Ai r.length ci) := hcj
              have HBD := Lib.hid hbd
              clear hbd hbx5 hc10 hcj
              generalize wj.drew = w9 at HC1 HBD HKK hy1 hy2 hy3 ⊢
              iterate 10 (refine still_take (by kernel_rfl) (fun K hK => ?_); go_simp; refine hK _ ?_; clear hK K)
              refine still_nil ?_
              refine HKK.out _ ?_
              clear HKK KK
              go_wp2_with (go_at_call 43; refine HC1.out.mono ?_; rintro e w4 ⟨rfl, hb4⟩; have HB4 := Lib.hid (HBD.out.trans (hb4.mono HBD.out.size)); clear hb4)
              go_roundw
              case rel => exact ⟨j + 1, _, _, rfl, rfl, by omega, by go_num, HO6.out.laid HB4.out, HB5.out.trans (HB4.out.mono HB5.out.size), HAPJ, cell_later HBX5.out HB4.out, HVJ.out.laid HB4.out⟩
              case measure => simp [intOf]; omega
            | true =>
              have HC1 := Lib.hid (HC true hq)
              have HFE : Hid (E ++ (L.take (j + 1)).filter (refHold os ps) = (E ++ (L.take j).filter (refHold os ps)) ++ [r]) := by
                show _ = _
                rw [HFS.out, hq, if_pos rfl, List.append_assoc]
              clear HC hq hir hmem hr hpsk hcj0 hR0
              have HRI := Lib.hid hri
              have HCJ := Lib.hid hcj
              clear hri
              go_wp2
              refine still_tail 10 (by kernel_rfl) (by kernel_rfl) (fun KK hKK => ?_)
              have HKK := Lib.hid hKK
              clear hKK
              simp only [List.take_succ_cons, List.take_zero, List.drop_succ_cons, List.drop_zero] at HKK ⊢
              have hy1 : World.cell? wj.drew ⟨w.heap.size, 1, none⟩ = some (.slice (some ad) ws.length c2) := hbx5
              have hy2 : World.cell? wj.drew (ad.add k) = some (.slice A10 ps.length c10) := hc10
              have hy3 : World.cell? wj.drew ⟨g, j, none⟩ = some (.slice Ai r.length ci) := hcj
              have HBD := Lib.hid hbd
              clear hbd hbx5 hc10 hcj
              generalize wj.drew = w9 at HC1 HBD HKK hy1 hy2 hy3 ⊢
              iterate 10 (refine still_take (by kernel_rfl) (fun K hK => ?_); go_simp; refine hK _ ?_; clear hK K)
              refine still_nil ?_
              refine HKK.out _ ?_
              clear HKK KK
              clear hy1 hy2 hy3
              go_wp2_with (fail)
              refine HC1.out.mono ?_
              rintro e w4 ⟨rfl, hb4⟩
              have HB4 := Lib.hid (HBD.out.trans (hb4.mono HBD.out.size))
              have hz3 : w4.cell? ⟨g, j, none⟩ = some (.slice Ai r.length ci) := cell_later HCJ.out HB4.out
              have hba4 := alloc_below w4 (.cells #[.slice Ai r.length ci] 29)
              have hob4 := (HO5.out.laid HB4.out).laid hba4
              obtain ⟨v6, w5, hap, hout, hgr, hat⟩ := hob4.add_at ((HRI.out.grow HB4.out).grow hba4) (alloc_new w4 _) hln2 (Nat.le_trans (cell_lt HBX5.out) (Nat.le_trans HB4.out.size hba4.size))
              have HAP := Lib.hid hap
              have HB6 : Hid (Below w.heap.size w w5) := below_grown ((HB5.out.trans (HB4.out.mono HB5.out.size)).trans (hba4.mono (Nat.le_trans HB5.out.size HB4.out.size))) hgr (Nat.le_trans HB5.out.size (Nat.le_trans HB4.out.size hba4.size)) (fun q e => by have := (hob4.block q e).1; omega)
              have HO6 : Hid (OutRows (w.heap.size + 1) Any w5 v6 (E ++ (L.take (j + 1)).filter (refHold os ps))) := (by show OutRows _ _ _ _ _; rw [HFE.out]; exact hout)
              have HV6 : Hid (OutRows wk.heap.size Any w5 (.slice (some ⟨g, 0, none⟩) L.length ca) L) := ((HVJ.out.laid HB4.out).laid hba4).move (fun q hq => hgr.block q (let ⟨_, cur, hc⟩ := ((HVJ.out.laid HB4.out).laid hba4).block q hq; (Array.getElem?_eq_some_iff.1 hc).1) (fun e => HAPJ.out q e.symm hq)) (fun q cur _ hq => ⟨hgr.block q (Array.getElem?_eq_some_iff.1 hq).1 (fun e => by obtain ⟨_, cur2, hc⟩ := hob4.block q e.symm; rw [hq] at hc; cases hc), trivial⟩)
              have HA6 : Hid (∀ q, v6.ownBlock = some q → (Value.slice (some ⟨g, 0, none⟩) L.length ca).ownBlock ≠ some q) := (fun q hq hq2 => by
                rcases hat with e | e
                · exact HAPJ.out q (e ▸ hq) hq2
                · rw [e] at hq
                  cases hq
                  obtain ⟨_, cur, hc⟩ := (HVJ.out.laid HB4.out).block _ hq2
                  have := (Array.getElem?_eq_some_iff.1 hc).1
                  simp at this
                  omega)
              have HX6 : Hid (w5.cell? ⟨w.heap.size, 1, none⟩ = some (.slice (some ad) ws.length c2)) := (by
                show _ = _
                have h1 := cell_alloc (cell_later HBX5.out HB4.out) (.cells #[.slice Ai r.length ci] 29)
                rw [← h1]
                exact World.cell?_of_block (hgr.block _ (cell_lt h1) (fun e => by have := (hob4.block w.heap.size e.symm).1; omega)))
              clear hb4 hba4 hob4 hap hout hgr hat
              go_wp2_with (at_builtin; refine wpList_append_run rfl _ _ 34 rfl rfl rfl HAP.out ?_)
              go_roundw
              case rel => exact ⟨j + 1, _, _, rfl, rfl, by omega, by go_num, HO6, HB6, HA6, HX6, HV6⟩
              case measure => simp [intOf]; omega
          · have HO7 : Hid (OutRows (w.heap.size + 1) Any wj v5 ((ws.take (k + 1)).flatMap (refWay os))) := by
              have := HO5.out
              rw [List.take_of_length_le (show L.length ≤ j by omega), ← HFM2.out] at this
              exact this
            go_wp2
            go_roundw
            case rel => exact ⟨k + 1, _, _, rfl, rfl, by omega, by go_num, HO7, HB5, HBX5⟩
            case measure => simp [intOf]; omega
      · have hf := HOR.out
        rw [List.take_of_length_le (show ws.length ≤ k by omega), ← HL.out] at hf
        obtain ⟨Ao, co, rfl, hro⟩ := hf.rows
        have HRO := Lib.hid hro
        clear hro hf HOR
        go_wp2
        go_ret
        exact ⟨Ao, co, rfl, HRO.out, HB.out⟩
end Go.Proofs.Ytebpdlnknfjoaaa
