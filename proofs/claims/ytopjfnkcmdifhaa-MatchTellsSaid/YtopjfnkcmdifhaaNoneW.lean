/- The walk of the law MatchNone. -/
import Derived.Test.YtopjfnkcmdifhaaStillAt
import Derived.Test.YtopjfnkcmdifhaaLawHallW
import Derived.Test.YtopjfnkcmdifhaaRightW
namespace Go.Proofs.Ytopjfnkcmdifhaa
set_option linter.unusedVariables false
set_option linter.unusedSimpArgs false
open Go.RowKit Kuhn

theorem rows_pairwise (right : Int) (near : List (List Int)) (i : Nat) : (rowF (near.map (rowOf right)) i).Pairwise (· < ·) := by
  rw [rowF_map]
  exact (rowOf_spec right _).1

theorem mostOf_right {near : List (List Int)} {right : Int} {l : List (List Int)} (hll : l = near.map (rowOf right)) : rightB l (mostOf l) = true := by
  have hnn : ∀ i v, v ∈ rowF l i → 0 ≤ v := fun i v h => rows_nn right near i v (hll ▸ h)
  unfold rightB
  rw [mostOf_length, decide_eq_true rfl, Bool.true_and, vmB_iff hnn]
  exact (mostOf_ok hnn).1

/-- At the first place in which the two rows differ. -/
def NoneAt (a b : List Int) : Prop := ∀ (k : Nat) (x y : Int), a[k]? = some x → b[k]? = some y → x ≠ y → a.take k = b.take k → 0 ≤ x ∧ (y < 0 ∨ x < y)
theorem none_at {a b : List Int} (h : Ahead a b) : NoneAt a b := by
  intro k x y hx hy hne ht
  rcases h with rfl | ⟨j, hj, x', y', hx', hy', hne', h0, h1⟩
  · rw [hx] at hy; cases hy; exact absurd rfl hne
  · have hkl : k < a.length := (List.getElem?_eq_some_iff.1 hx).1
    have e : k = j := by
      rcases Nat.lt_trichotomy k j with q | q | q
      · have : a[k]? = b[k]? := by
          have h1 : (a.take j)[k]? = (b.take j)[k]? := by rw [hj]
          rwa [List.getElem?_take_of_lt q, List.getElem?_take_of_lt q] at h1
        rw [hx, hy] at this; cases this; exact absurd rfl hne
      · exact q
      · have : a[j]? = b[j]? := by
          have h1 : (a.take k)[j]? = (b.take k)[j]? := by rw [ht]
          rwa [List.getElem?_take_of_lt q, List.getElem?_take_of_lt q] at h1
        rw [hx', hy'] at this; cases this; exact absurd rfl hne'
    subst e
    rw [hx] at hx'; cases hx'
    rw [hy] at hy'; cases hy'
    exact ⟨h0, h1⟩
theorem none_fact {near : List (List Int)} {right : Int} {l : List (List Int)} {m b : List Int} (hll : l = near.map (rowOf right)) (hb : b = mostOf l) (hr : rightB l m = true) :
    m.length = b.length ∧ sizeOf m ≤ sizeOf b ∧ (sizeOf m = sizeOf b → NoneAt b m) := by
  have hnn : ∀ i v, v ∈ rowF l i → 0 ≤ v := fun i v h => rows_nn right near i v (hll ▸ h)
  unfold rightB at hr
  rw [Bool.and_eq_true, decide_eq_true_iff, vmB_iff hnn] at hr
  subst hb
  refine ⟨by rw [mostOf_length, hr.1], ?_, ?_⟩
  · have := mostOf_max hnn hr.2 hr.1
    rw [cnt_size, cnt_size] at this
    omega
  · intro he
    refine none_at (mostOf_ahead hnn (fun i => hll ▸ rows_pairwise right near i) hr.2 hr.1 ?_)
    have h1 := cnt_size m
    have h2 := cnt_size (mostOf l)
    omega

theorem Right_near {near : List (List Int)} {right : Int} {l : List (List Int)} {m : List Int} {n : Nat} {q : Bool} (hll : l = near.map (rowOf right)) (hq : rightB l m = q) (hn1 : m.length = n) (A A2 : Option Addr) (c c2 : Nat) (w : World) (hR : RowsAt w.heap.size w A near) (hm : IntsAt w.heap.size w A2 m) (hn : near.length ≤ 1000) (hl : ∀ r ∈ near, r.length ≤ 1000) :
    Calls Try.prog 21 #[.slice A near.length c, .int .i64 right, .slice A2 n c2] w fun e w' => e = .returned (.bool q) ∧ Below w.heap.size w w' := by
  subst hn1
  subst hq
  rw [hll]
  exact Right_any near right m A A2 c c2 w hR hm hn hl

set_option maxRecDepth 100000 in
set_option maxHeartbeats 1000000 in
theorem none_law (near : List (List Int)) (right : Int) (m : List Int) (A : Option Addr) (c : Nat) (A2 : Option Addr) (c2 : Nat) (w : World) (hR : RowsAt w.heap.size w A near) (hm : IntsAt w.heap.size w A2 m) :
    Calls Try.prog 8 #[.slice A near.length c, .int .i64 right, .slice A2 m.length c2] w fun e w' => e = .returned (.bool true) ∧ Below w.heap.size w w' := by
  have HF := Lib.hid (few_any c near w hR)
  have HH := Lib.hid (heads_any w)
  cases hf : fewB near with
  | false =>
    rw [hf] at HF
    clear hf hR hm
    go_enter Try.func8, Try.ntmps8
    go_wp2_with (first
      | (go_at_call 10; refine HF.out.mono ?_; rintro e w' ⟨rfl, rfl⟩)
      | (go_at_call 11; refine HH.out.mono ?_; rintro e w' ⟨rfl, hb⟩; have HB := Lib.hid hb; clear hb))
    go_ret
    exact ⟨rfl, HB.out⟩
  | true =>
    rw [hf] at HF
    by_cases h40 : m.length ≤ 40
    case neg =>
      have h40' : (40 : Int) < (m.length : Int) := by omega
      clear hf hR hm
      go_enter Try.func8, Try.ntmps8
      go_wp2_with (first
        | (go_at_call 10; refine HF.out.mono ?_; rintro e w' ⟨rfl, rfl⟩)
        | (go_at_call 11; refine HH.out.mono ?_; rintro e w' ⟨rfl, hb⟩; have HB := Lib.hid hb; clear hb))
      go_ret
      exact ⟨rfl, HB.out⟩
    obtain ⟨h12, h16⟩ := few_bounds hf
    have h40' : ¬ (40 : Int) < (m.length : Int) := by omega
    obtain ⟨l, hll⟩ : ∃ l, l = near.map (rowOf right) := ⟨_, rfl⟩
    obtain ⟨b, hb⟩ : ∃ b, b = mostOf l := ⟨_, rfl⟩
    have hbl : b.length = near.length := by rw [hb, mostOf_length, hll]; simp
    have h1000 : ∀ r ∈ near, r.length ≤ 1000 := fun r hr => by have := h16 r hr; omega
    have HC1 := Lib.hid (most_near hll A c w hR (by omega) h1000)
    rw [← hb] at HC1
    have HLL := Lib.hid hll
    have HR := Lib.hid hR
    have HM := Lib.hid hm
    have HBL := Lib.hid hbl
    have HK := Lib.hid h1000
    have HRB : Hid (rightB l b = true) := by rw [hb]; exact mostOf_right hll
    have HNF := fun h => none_fact (m := m) hll hb h
    clear hf hR hm hll hb hbl h1000 h16 HH
    cases hr : rightB l m with
    | false =>
      have HRM := Lib.hid hr
      clear hr HNF
      go_enter Try.func8, Try.ntmps8
      go_wp2_with (first
        | (go_at_call 10; refine HF.out.mono ?_; rintro e w' ⟨rfl, rfl⟩)
        | (go_at_call 12; refine HC1.out.mono ?_; rintro e w1 ⟨A1, c1, rfl, hi1, hb1⟩; have HB1 := Lib.hid hb1; have HC2 := Lib.hid (Right_near HLL.out HRB.out HBL.out A A1 c c1 w1 (HR.out.later hb1).now hi1 (by omega) HK.out); clear hb1 hi1)
        | (go_at_call 21; with_reducible refine HC3.out.mono ?_; rintro e w3 ⟨rfl, hb3⟩; have HB3 := Lib.hid (HB2.out.trans (hb3.mono HB2.out.size)); have HH := Lib.hid (heads_any w3); clear hb3)
        | (go_at_call 21; with_reducible refine HC2.out.mono ?_; rintro e w2 ⟨rfl, hb2⟩; have HB2 := Lib.hid (HB1.out.trans (hb2.mono HB1.out.size)); have HC3 := Lib.hid (Right_near HLL.out HRM.out rfl A A2 c c2 w2 (HR.out.later HB2.out).now (HM.out.later HB2.out).now (by omega) HK.out); clear hb2)
        | (go_at_call 11; refine HH.out.mono ?_; rintro e w4 ⟨rfl, hb4⟩; have HB4 := Lib.hid (HB3.out.trans (hb4.mono HB3.out.size)); clear hb4))
      go_ret
      exact ⟨rfl, HB4.out⟩
    | true =>
      have HRM := Lib.hid hr
      obtain ⟨hml, hsz, hat⟩ := HNF hr
      clear hr HNF
      obtain ⟨s1, hs1⟩ : ∃ s1, s1 = sizeOf m := ⟨_, rfl⟩
      obtain ⟨s2, hs2⟩ : ∃ s2, s2 = sizeOf b := ⟨_, rfl⟩
      rw [← hs1, ← hs2] at hsz hat
      have HS1 := Lib.hid hs1
      have HS2 := Lib.hid hs2
      have HML := Lib.hid hml
      have HAT := Lib.hid hat
      have hgt : ¬ ((s2 : Int) < (s1 : Int)) := by omega
      clear hs1 hs2 hat hml
      by_cases hlt : s1 < s2
      · have hlt' : (s1 : Int) < (s2 : Int) := by omega
        go_enter Try.func8, Try.ntmps8
        go_wp2_with (first
          | (go_at_call 10; refine HF.out.mono ?_; rintro e w' ⟨rfl, rfl⟩)
          | (go_at_call 12; refine HC1.out.mono ?_; rintro e w1 ⟨A1, c1, rfl, hi1, hb1⟩; have HB1 := Lib.hid hb1; have HI1 := Lib.hid hi1; have HC2 := Lib.hid (Right_near HLL.out HRB.out HBL.out A A1 c c1 w1 (HR.out.later hb1).now hi1 (by omega) HK.out); clear hb1 hi1)
          | (go_at_call 21; with_reducible refine HC3.out.mono ?_; rintro e w3 ⟨rfl, hb3⟩; have HB3 := Lib.hid (HB2.out.trans (hb3.mono HB2.out.size)); have HH := Lib.hid (heads_any w3); have HC4 := Lib.hid (Size_near c2 m w3 rfl (HM.out.later HB3.out) (by omega)); rw [← HS1.out] at HC4; have HC5 := Lib.hid (Size_near c1 b w3 HBL.out ((HI1.out.later hb2').later hb3) (by have := HBL.out; omega)); rw [← HS2.out] at HC5; clear hb3)
          | (go_at_call 21; with_reducible refine HC2.out.mono ?_; rintro e w2 ⟨rfl, hb2⟩; have HB2 := Lib.hid (HB1.out.trans (hb2.mono HB1.out.size)); have hb2' := hb2; have HC3 := Lib.hid (Right_near HLL.out HRM.out rfl A A2 c c2 w2 (HR.out.later HB2.out).now (HM.out.later HB2.out).now (by omega) HK.out); clear hb2)
          | (go_at_call 14; with_reducible refine HC4.out.mono ?_; rintro e w5 ⟨rfl, rfl⟩)
          | (go_at_call 14; with_reducible refine HC5.out.mono ?_; rintro e w5 ⟨rfl, rfl⟩)
          | (go_at_call 11; refine HH.out.mono ?_; rintro e w4 ⟨rfl, hb4⟩; have HB4 := Lib.hid (HB3.out.trans (hb4.mono HB3.out.size)); clear hb4))
        go_ret
        exact ⟨rfl, HB4.out⟩
      · have hlt' : ¬ (s1 : Int) < (s2 : Int) := by omega
        go_enter Try.func8, Try.ntmps8
        go_wp2_with (first
          | (go_at_call 10; refine HF.out.mono ?_; rintro e w' ⟨rfl, rfl⟩)
          | (go_at_call 12; refine HC1.out.mono ?_; rintro e w1 ⟨A1, c1, rfl, hi1, hb1⟩; have HB1 := Lib.hid hb1; have HI1 := Lib.hid hi1; have HC2 := Lib.hid (Right_near HLL.out HRB.out HBL.out A A1 c c1 w1 (HR.out.later hb1).now hi1 (by omega) HK.out); clear hb1 hi1)
          | (go_at_call 21; with_reducible refine HC3.out.mono ?_; rintro e w3 ⟨rfl, hb3⟩; have HB3 := Lib.hid (HB2.out.trans (hb3.mono HB2.out.size)); have HI3 := Lib.hid ((HI1.out.later hb2').later hb3); have HC4 := Lib.hid (Size_near c2 m w3 rfl (HM.out.later HB3.out) (by omega)); rw [← HS1.out] at HC4; have HC5 := Lib.hid (Size_near c1 b w3 HBL.out HI3.out (by have := HBL.out; omega)); rw [← HS2.out] at HC5; clear hb3 hb2')
          | (go_at_call 21; with_reducible refine HC2.out.mono ?_; rintro e w2 ⟨rfl, hb2⟩; have HB2 := Lib.hid (HB1.out.trans (hb2.mono HB1.out.size)); have hb2' := hb2; have HC3 := Lib.hid (Right_near HLL.out HRM.out rfl A A2 c c2 w2 (HR.out.later HB2.out).now (HM.out.later HB2.out).now (by omega) HK.out); clear hb2)
          | (go_at_call 14; with_reducible refine HC4.out.mono ?_; rintro e w5 ⟨rfl, rfl⟩)
          | (go_at_call 14; with_reducible refine HC5.out.mono ?_; rintro e w5 ⟨rfl, rfl⟩))
        clear HC1 HC2 HC3 HC4 HC5
        have HNA0 := HAT.out (by omega)
        have HM3 := Lib.hid ((HM.out.later HB3.out).now)
        clear HS1 HS2 hsz hgt hlt hlt' HAT
        have HNA := Lib.hid HNA0
        clear HNA0
        go_loopw [8] (fun u wr => ∃ k, k ≤ m.length ∧ u = .int .i64 (k : Nat) ∧ Hid (b.take k = m.take k) ∧ Hid (Below w3.heap.size w3 wr)) (fun u _ => m.length - (intOf u).toNat)
        case atStart => exact ⟨0, Nat.zero_le _, rfl, by show b.take 0 = m.take 0; simp, Below.refl _ _⟩
        case round =>
          obtain ⟨k, hk, rfl, HT, HB⟩ := hrel
          by_cases hlt : k < m.length
          · have hltb : k < b.length := by have := HML.out; omega
            obtain ⟨ad1, rfl, hx1⟩ := (HM3.out.later (HB.out.mono (by exact Nat.le_refl _))).cell k hlt
            obtain ⟨ad2, rfl, hx2⟩ := (HI3.out.later (HB.out.mono (by exact Nat.le_refl _))).cell k hltb
            have hbn : (k : Int) < (near.length : Int) := by have := HBL.out; omega
            have HS := Lib.hid (same_take hltb hlt)
            have HN : Hid (b[k] ≠ m[k] → b.take k = m.take k → 0 ≤ b[k] ∧ (m[k] < 0 ∨ b[k] < m[k])) := (fun h1 h2 => HNA.out k b[k] m[k] (List.getElem?_eq_getElem hltb) (List.getElem?_eq_getElem hlt) h1 h2)
            obtain ⟨x, hx⟩ : ∃ x, x = m[k] := ⟨_, rfl⟩
            obtain ⟨y, hy⟩ : ∃ y, y = b[k] := ⟨_, rfl⟩
            rw [← hx] at hx1
            rw [← hy] at hx2
            rw [← hx, ← hy] at HS HN
            clear hx hy
            by_cases he : x = y
            · have HT' : Hid (b.take (k + 1) = m.take (k + 1)) := HS.out.2 ⟨HT.out, he.symm⟩
              subst he
              clear hltb
              go_wp2
              go_quiet (fail)
              go_wp2
              have HB' := Lib.hid (below_drewN HB.out nq)
              go_roundw
              case rel => exact ⟨k + 1, by omega, by go_num, HT', HB'⟩
              case measure => simp [intOf]; omega
            · have hne : (x != y) = true := by simpa using he
              obtain ⟨hy0, hxy⟩ := HN.out (fun h => he h.symm) HT.out
              clear he hltb
              go_wp2
              go_quiet (fail)
              go_wp2
              have hx1' : (wr.drewN nq).cell? (ad1.add k) = some (.int .i64 x) := hx1
              have hx2' : (wr.drewN nq).cell? (ad2.add k) = some (.int .i64 y) := hx2
              have HB' := Lib.hid (below_drewN HB.out nq)
              generalize wr.drewN nq = wq at hx1' hx2' HB' ⊢
              have HH := Lib.hid (heads_any wq.drew)
              have HB9 : Hid (Below w.heap.size w wq.drew) := (below_drewN (HB3.out.trans (HB'.out.mono HB3.out.size)) 1)
              by_cases hx0 : x < 0
              · clear hxy
                refine still_tail 24 (by kernel_rfl) (by kernel_rfl) (fun KK hKK => ?_)
                have HKK := Lib.hid hKK
                clear hKK
                simp only [List.take_succ_cons, List.take_zero, List.drop_succ_cons, List.drop_zero] at HKK ⊢
                have hy1 : World.cell? wq.drew (ad1.add k) = some (.int .i64 x) := hx1'
                have hy2 : World.cell? wq.drew (ad2.add k) = some (.int .i64 y) := hx2'
                generalize wq.drew = w9 at HB9 HH HKK hy1 hy2 ⊢
                iterate 12 (refine still_take (by kernel_rfl) (fun K hK => ?_); go_simp; refine hK _ ?_; clear hK K)
                iterate 9 (refine still_skip (by kernel_rfl) (fun K hK => ?_); go_simp; refine hK _ ?_; clear hK K)
                iterate 3 (refine still_take (by kernel_rfl) (fun K hK => ?_); go_simp; refine hK _ ?_; clear hK K)
                refine still_nil ?_
                refine HKK.out _ ?_
                clear HKK KK
                go_wp2_with (go_at_call 11; refine HH.out.mono ?_; rintro e w4 ⟨rfl, hb4⟩; have HB4 := Lib.hid (HB9.out.trans (hb4.mono HB9.out.size)); clear hb4)
                go_ret
                exact ⟨rfl, HB4.out⟩
              · have hyx : y < x := by omega
                clear hxy
                refine still_tail 24 (by kernel_rfl) (by kernel_rfl) (fun KK hKK => ?_)
                have HKK := Lib.hid hKK
                clear hKK
                simp only [List.take_succ_cons, List.take_zero, List.drop_succ_cons, List.drop_zero] at HKK ⊢
                have hy1 : World.cell? wq.drew (ad1.add k) = some (.int .i64 x) := hx1'
                have hy2 : World.cell? wq.drew (ad2.add k) = some (.int .i64 y) := hx2'
                generalize wq.drew = w9 at HB9 HH HKK hy1 hy2 ⊢
                iterate 24 (refine still_take (by kernel_rfl) (fun K hK => ?_); go_simp; refine hK _ ?_; clear hK K)
                refine still_nil ?_
                refine HKK.out _ ?_
                clear HKK KK
                go_wp2_with (go_at_call 11; refine HH.out.mono ?_; rintro e w4 ⟨rfl, hb4⟩; have HB4 := Lib.hid (HB9.out.trans (hb4.mono HB9.out.size)); clear hb4)
                go_ret
                exact ⟨rfl, HB4.out⟩
          · have HB9 := Lib.hid (HB3.out.trans (HB.out.mono HB3.out.size))
            have HH := Lib.hid (heads_any wr)
            go_wp2_with (go_at_call 11; refine HH.out.mono ?_; rintro e w4 ⟨rfl, hb4⟩; have HB4 := Lib.hid (HB9.out.trans (hb4.mono HB9.out.size)); clear hb4)
            go_ret
            exact ⟨rfl, HB4.out⟩
end Go.Proofs.Ytopjfnkcmdifhaa
