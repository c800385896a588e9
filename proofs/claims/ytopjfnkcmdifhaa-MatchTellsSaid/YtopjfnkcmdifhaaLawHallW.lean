/- The walk of the law MatchHall. -/
import Derived.Test.YtopjfnkcmdifhaaHeads
namespace Go.Proofs.Ytopjfnkcmdifhaa
set_option linter.unusedVariables false
set_option linter.unusedSimpArgs false
open Go.RowKit Kuhn

theorem few_bounds {near : List (List Int)} (h : fewB near = true) : near.length ≤ 12 ∧ ∀ r ∈ near, r.length ≤ 16 := by
  unfold fewB at h
  rw [Bool.and_eq_true, decide_eq_true_iff, decide_eq_true_iff] at h
  exact h

theorem size_bare (m : List Int) : ∀ i, sizeOf m + (bareFrom i m).length = m.length := by
  induction m with
  | nil => intro i; rfl
  | cons x xs ih =>
    intro i
    have := ih (i + 1)
    by_cases h : 0 ≤ x
    · have h' : ¬ x < 0 := by omega
      simp only [sizeOf, bareFrom, List.filter_cons, h, h', decide_true, if_true, if_false, List.length_cons]
      unfold sizeOf at this
      omega
    · have h' : x < 0 := by omega
      simp only [sizeOf, bareFrom, List.filter_cons, h, h', decide_false, if_true, if_false, List.length_cons, Bool.false_eq_true]
      unfold sizeOf at this
      omega
theorem cnt_size (m : List Int) : cnt m = sizeOf m := by
  induction m with
  | nil => rfl
  | cons x xs ih =>
    simp only [cnt, sizeOf, List.filter_cons]
    unfold sizeOf at ih
    by_cases h : 0 ≤ x
    · simp [h, ih]; omega
    · simp [h, ih]

theorem most_near {near : List (List Int)} {right : Int} {l : List (List Int)} (hll : l = near.map (rowOf right)) (A : Option Addr) (c : Nat) (w : World) (hR : RowsAt w.heap.size w A near) (hn : near.length ≤ 1000) (hl : ∀ r ∈ near, r.length ≤ 1000) :
    Calls Try.prog 12 #[.slice A near.length c, .int .i64 right] w fun e w' => ∃ A1 c1, e = .returned (.slice A1 near.length c1) ∧ IntsAt w'.heap.size w' A1 (mostOf l) ∧ Below w.heap.size w w' := by
  have e : (mostOf l).length = near.length := by rw [mostOf_length, hll]; simp
  have := most_l hll A c w hR hn hl
  rw [e] at this
  exact this
theorem Size_near {n : Nat} {B : Nat} {A : Option Addr} (c : Nat) (m : List Int) (w : World) (hm : m.length = n) (h : IntsAt B w A m) (hb : m.length ≤ 9223372036854775807) :
    Calls Try.prog 14 #[.slice A n c] w fun e w' => e = .returned (.int .i64 (sizeOf m)) ∧ w = w' := by
  subst hm
  exact Size_any c m w h hb

theorem hall_nil {near : List (List Int)} {right : Int} {l : List (List Int)} (hll : l = near.map (rowOf right)) (A : Option Addr) (c : Nat) (w : World) (hR : RowsAt w.heap.size w A near) (hn : near.length ≤ 1000) (hl : ∀ r ∈ near, r.length ≤ 1000) (hb : bareFrom 0 (mostOf l) = []) :
    Calls Try.prog 13 #[.slice A near.length c, .int .i64 right] w fun e w' => e = .returned (.tuple #[.slice none 0 0, .slice none 0 0, .bool false]) ∧ Below w.heap.size w w' := by
  refine (Hall_any near right A c w hR hn hl).mono ?_
  rw [← hll]
  rintro e w' (⟨_, h1, h2⟩ | ⟨b, bs, A1, c1, ys, A2, c2, zs, h, _⟩)
  · exact ⟨h1, h2⟩
  · rw [hb] at h; cases h
theorem hall_cons {near : List (List Int)} {right : Int} {l : List (List Int)} (hll : l = near.map (rowOf right)) (A : Option Addr) (c : Nat) (w : World) (hR : RowsAt w.heap.size w A near) (hn : near.length ≤ 1000) (hl : ∀ r ∈ near, r.length ≤ 1000) {b : Int} {bs : List Int} (hb : bareFrom 0 (mostOf l) = b :: bs) :
    Calls Try.prog 13 #[.slice A near.length c, .int .i64 right] w fun e w' => ∃ A1 c1 ys A2 c2 zs, e = .returned (.tuple #[.slice A1 ys.length c1, .slice A2 zs.length c2, .bool true]) ∧ IntsAt w'.heap.size w' A1 ys ∧ IntsAt w'.heap.size w' A2 zs ∧
      IsSet ys (LeftOf l (mostOf l) [b]) ∧ IsSet zs (RightOf l (mostOf l) [b]) ∧ Below w.heap.size w w' := by
  refine (Hall_any near right A c w hR hn hl).mono ?_
  rw [← hll]
  rintro e w' (⟨h, _⟩ | ⟨b', bs', A1, c1, ys, A2, c2, zs, h, r⟩)
  · rw [hb] at h; cases h
  · rw [hb] at h
    cases h
    exact ⟨A1, c1, ys, A2, c2, zs, r⟩

/-- What the law asks of Hall's rows. -/
structure HallFacts (near : List (List Int)) (right : Int) (ys zs : List Int) : Prop where
  left : ∀ n ∈ ys, ∃ j : Nat, n = j ∧ j < near.length ∧ ∀ v ∈ near.getD j [], 0 ≤ v → v < right → hasB zs v = true
  rise : ys.Pairwise (· < ·)
  ylen : ys.length ≤ 1000000
  zlen : zs.length ≤ 1000000
  more : zs.length < ys.length

theorem hall_facts {near : List (List Int)} {right : Int} {l : List (List Int)} {m : List Int} (hll : l = near.map (rowOf right)) (hn : near.length ≤ 1000) (hl : ∀ r ∈ near, r.length ≤ 1000) (hm : m = mostOf l)
    {b : Int} {bs : List Int} (hb : bareFrom 0 m = b :: bs) {ys zs : List Int} (hy : IsSet ys (LeftOf l m [b])) (hz : IsSet zs (RightOf l m [b])) : HallFacts near right ys zs := by
  have hlen : l.length = near.length := by rw [hll]; simp
  have hml : m.length = l.length := by rw [hm, mostOf_length]
  have hnn : ∀ i v, v ∈ rowF l i → 0 ≤ v := fun i v h => rows_nn right near i v (hll ▸ h)
  have hbb : b ∈ bareFrom 0 m := by rw [hb]; exact .head _
  obtain ⟨i, rfl, x, hx, hx0⟩ := (mem_bare m b).1 hbb
  have hil : i < l.length := by have := (List.getElem?_eq_some_iff.1 hx).1; omega
  have hfr : ∀ u ∈ [(i : Int)], ∃ i : Nat, u = i ∧ i < l.length := fun u hu => ⟨i, by simpa using hu, hil⟩
  have hrow : ∀ j v, v ∈ rowF l j ↔ v ∈ near.getD j [] ∧ 0 ≤ v ∧ v < right := fun j v => by rw [hll, rowF_map]; exact (rowOf_spec right _).2 v
  refine ⟨?_, hy.1, ?_, ?_, ?_⟩
  · intro n hn'
    obtain ⟨j, rfl, hj⟩ := (hy.2 n).1 hn'
    refine ⟨j, rfl, by have := Come.lt hfr hml hj; omega, fun v hv h0 h1 => ?_⟩
    rw [hasB_iff]
    exact (hz.2 v).2 ⟨j, hj, (hrow j v).2 ⟨hv, h0, h1⟩⟩
  · have := nodup_le (a := ys) (b := (List.range l.length).map (fun k : Nat => (k : Int))) (hy.1.imp (fun h e => by omega)) (fun n hn' => by
      obtain ⟨j, rfl, hj⟩ := (hy.2 n).1 hn'
      exact List.mem_map.2 ⟨j, List.mem_range.2 (Come.lt hfr hml hj), rfl⟩)
    simp at this
    omega
  · have h1 := nodup_le (a := zs) (b := (List.range l.length).flatMap (rowF l)) (hz.1.imp (fun h e => by omega)) (fun n hn' => by
      obtain ⟨u, hu, hnu⟩ := (hz.2 n).1 hn'
      exact List.mem_flatMap.2 ⟨u, List.mem_range.2 (Come.lt hfr hml hu), hnu⟩)
    have h2 := flat_le (rows_le hll hl) l.length
    have h3 : l.length * 1000 ≤ 1000 * 1000 := Nat.mul_le_mul_right _ (by omega)
    omega
  · subst hm
    exact hall_more (mostOf_ok hnn).1 hml (mostOf_ok hnn).2 hx hx0 (hz.1.imp (fun h e => by omega)) hy.2 hz.2

set_option maxRecDepth 100000 in
set_option maxHeartbeats 4000000 in
theorem hall_law (near : List (List Int)) (right : Int) (A : Option Addr) (c : Nat) (w : World) (hR : RowsAt w.heap.size w A near) :
    Calls Try.prog 3 #[.slice A near.length c, .int .i64 right] w fun e w' => e = .returned (.bool true) ∧ Below w.heap.size w w' := by
  have HF := Lib.hid (few_any c near w hR)
  cases hf : fewB near with
  | false =>
    rw [hf] at HF
    have HH := Lib.hid (heads_any w)
    clear hf hR
    go_enter Try.func3, Try.ntmps3
    go_wp2_with (first
      | (go_at_call 10; refine HF.out.mono ?_; rintro e w' ⟨rfl, rfl⟩)
      | (go_at_call 11; refine HH.out.mono ?_; rintro e w' ⟨rfl, hb⟩; have HB := Lib.hid hb; clear hb))
    go_ret
    exact ⟨rfl, HB.out⟩
  | true =>
    rw [hf] at HF
    obtain ⟨h12, h16⟩ := few_bounds hf
    obtain ⟨l, hll⟩ : ∃ l, l = near.map (rowOf right) := ⟨_, rfl⟩
    obtain ⟨m, hm⟩ : ∃ m, m = mostOf l := ⟨_, rfl⟩
    have hlen : l.length = near.length := by rw [hll]; simp
    have hml : m.length = near.length := by rw [hm, mostOf_length, hlen]
    have h1000 : ∀ r ∈ near, r.length ≤ 1000 := fun r hr => by have := h16 r hr; omega
    have HC1 := Lib.hid (most_near hll A c w hR (by omega) h1000)
    rw [← hm] at HC1
    have HLL := Lib.hid hll
    have HM := Lib.hid hm
    have HR := Lib.hid hR
    have HLEN := Lib.hid hlen
    have HML := Lib.hid hml
    have HK := Lib.hid h1000
    have HSB := Lib.hid (size_bare m 0)
    have HCC : Hid (cnt m = mm (rowF l) (free []) 0 l.length) := by rw [hm]; exact (mostOf_ok (fun i v h => rows_nn right near i v (hll ▸ h))).2
    have HVM : Hid (VM l 0 [] m) := by rw [hm]; exact (mostOf_ok (fun i v h => rows_nn right near i v (hll ▸ h))).1
    clear hf hR hll hm hlen hml h1000 h16
    cases hb : bareFrom 0 m with
    | nil =>
      have hsz : sizeOf m = near.length := by
        have h1 := HSB.out
        have h2 := HML.out
        rw [hb] at h1
        simp only [List.length_nil] at h1
        omega
      have HSZ := Lib.hid hsz
      have HB0 := Lib.hid hb
      clear hsz hb
      go_enter Try.func3, Try.ntmps3
      go_wp2_with (first
        | (go_at_call 10; refine HF.out.mono ?_; rintro e w' ⟨rfl, rfl⟩)
        | (go_at_call 12; refine HC1.out.mono ?_; rintro e w1 ⟨A1, c1, rfl, hi1, hb1⟩; have HB1 := Lib.hid hb1; have HI1 := Lib.hid hi1; have HC2 := Lib.hid (hall_nil HLL.out A c w1 (HR.out.later hb1).now (by omega) HK.out (HM.out ▸ HB0.out)); clear hb1 hi1)
        | (go_at_call 13; refine HC2.out.mono ?_; rintro e w2 ⟨rfl, hb2⟩; have HB2 := Lib.hid (HB1.out.trans (hb2.mono HB1.out.size)); have HC3 := Lib.hid (Size_near c1 m w2 HML.out (HI1.out.later hb2) (by have := HML.out; omega)); rw [HSZ.out] at HC3; have HH := Lib.hid (heads_any w2); clear hb2)
        | (go_at_call 14; refine HC3.out.mono ?_; rintro e w3 ⟨rfl, rfl⟩)
        | (go_at_call 11; refine HH.out.mono ?_; rintro e w4 ⟨rfl, hb4⟩; have HB4 := Lib.hid (HB2.out.trans (hb4.mono HB2.out.size)); clear hb4))
      go_ret
      exact ⟨rfl, HB4.out⟩
    | cons b bs =>
      have hsz : sizeOf m < near.length := by
        have h1 := HSB.out
        have h2 := HML.out
        rw [hb] at h1
        simp only [List.length_cons] at h1
        omega
      obtain ⟨q, hq⟩ : ∃ q, q = sizeOf m := ⟨_, rfl⟩
      rw [← hq] at hsz
      have HQ := Lib.hid hq
      have HB0 := Lib.hid hb
      clear hb hq
      go_enter Try.func3, Try.ntmps3
      go_wp2_with (first
        | (go_at_call 10; refine HF.out.mono ?_; rintro e w' ⟨rfl, rfl⟩)
        | (go_at_call 12; refine HC1.out.mono ?_; rintro e w1 ⟨A1, c1, rfl, hi1, hb1⟩; have HB1 := Lib.hid hb1; have HI1 := Lib.hid hi1; have HC2 := Lib.hid (hall_cons HLL.out A c w1 (HR.out.later hb1).now (by omega) HK.out (HM.out ▸ HB0.out)); rw [← HM.out] at HC2; clear hb1 hi1)
        | (go_at_call 13; refine HC2.out.mono ?_; rintro e w2 ⟨A2, c2, ys, A3, c3, zs, rfl, hy, hz, hys, hzs, hb2⟩; have HB2 := Lib.hid (HB1.out.trans (hb2.mono HB1.out.size)); have HY := Lib.hid hy; have HZ := Lib.hid hz; have HYS := Lib.hid hys; have HZS := Lib.hid hzs; have HC3 := Lib.hid (Size_near c1 m w2 HML.out (HI1.out.later hb2) (by have := HML.out; omega)); rw [← HQ.out] at HC3; have HH := Lib.hid (heads_any w2); clear hb2 hy hz hys hzs)
        | (go_at_call 14; refine HC3.out.mono ?_; rintro e w3 ⟨rfl, rfl⟩))
      have HFA := Lib.hid (hall_facts HLL.out (by omega) HK.out HM.out HB0.out HYS.out HZS.out)
      have hylen := HFA.out.ylen
      have hmore := HFA.out.more
      clear HC1 HC2 HC3 HF
      go_loop [9] (fun u => ∃ k, k ≤ ys.length ∧ u = .int .i64 (k : Nat)) (fun u => ys.length - (intOf u).toNat)
      case atStart => exact ⟨0, Nat.zero_le _, rfl⟩
      case round =>
        obtain ⟨k, hk, rfl⟩ := hrel
        by_cases hlt : k < ys.length
        · obtain ⟨ad, rfl, hx⟩ := HY.out.cell k hlt
          obtain ⟨j, hj, hjl, hv⟩ := HFA.out.left _ (List.getElem_mem hlt)
          obtain ⟨ad2, A4, c4, rfl, hrow, hlc, hia⟩ := (HR.out.below HB2.out).row j hjl
          have hgd : near.getD j [] = near[j] := by rw [List.getD_eq_getElem?_getD, List.getElem?_eq_getElem hjl, Option.getD_some]
          have hr1000 := HK.out _ (List.getElem_mem hjl)
          rw [hgd] at hv
          obtain ⟨r, hr⟩ : ∃ r, r = near[j] := ⟨_, rfl⟩
          rw [← hr] at hrow hlc hia hv hr1000
          have HV := Lib.hid hv
          have HIA := Lib.hid hia
          have hrow0 := Lib.hid hrow
          rw [hj] at hx
          have HZL := Lib.hid HFA.out.zlen
          have HRK := Lib.hid hr
          have hcase : (¬ (0 : Int) < (k : Int)) ∨ ∃ y0 : Int, (0 : Int) < (k : Int) ∧ 0 < k ∧ y0 < (j : Int) ∧ w2.cell? (ad.add (k - 1)) = some (.int .i64 y0) := by
            by_cases hk0 : k = 0
            · left; omega
            · right
              obtain ⟨_, e, hx0⟩ := HY.out.cell (k - 1) (by omega)
              cases e
              have hrise := List.pairwise_iff_getElem.1 HFA.out.rise (k - 1) k (by omega) hlt (by omega)
              rw [hj] at hrise
              exact ⟨_, by omega, by omega, hrise, hx0⟩
          clear hv hia hr hgd hj
          rcases hcase with hk1 | ⟨y0, hk1, hk2, hrise, hx0⟩
          all_goals
            go_wp2
            clear hrow
            go_loop [11] (fun u => ∃ t, t ≤ r.length ∧ u = .int .i64 (t : Nat)) (fun u => r.length - (intOf u).toNat)
            case atStart => exact ⟨0, Nat.zero_le _, rfl⟩
            case round =>
              obtain ⟨t, ht, rfl⟩ := hrel
              have hrow := hrow0.out
              by_cases htl : t < r.length
              · obtain ⟨ad3, rfl, hx3⟩ := HIA.out.cell t htl
                obtain ⟨x3, hx3e⟩ : ∃ x3, x3 = r[t] := ⟨_, rfl⟩
                have hm3 : x3 ∈ r := by rw [hx3e]; exact List.getElem_mem htl
                rw [← hx3e] at hx3
                clear hx3e
                by_cases h30 : 0 ≤ x3
                · by_cases h3r : x3 < right
                  · have hh := has_any c3 zs x3 w2 HZ.out (by have := HZL.out; omega)
                    rw [HV.out x3 hm3 h30 h3r] at hh
                    have HHA := Lib.hid hh
                    clear hh hm3
                    go_wp2_with (go_at_call 15; refine HHA.out.mono ?_; rintro e w' ⟨rfl, rfl⟩)
                    go_round
                    case rel => exact ⟨t + 1, by omega, by go_num⟩
                    case measure => simp [intOf]; omega
                  · clear hm3
                    go_wp2
                    go_round
                    case rel => exact ⟨t + 1, by omega, by go_num⟩
                    case measure => simp [intOf]; omega
                · clear hm3
                  go_wp2
                  go_round
                  case rel => exact ⟨t + 1, by omega, by go_num⟩
                  case measure => simp [intOf]; omega
              · go_wp2
                go_round
                case rel => exact ⟨k + 1, by omega, by go_num⟩
                case measure => simp [intOf]; omega
        · go_wp2_with (go_at_call 11; refine HH.out.mono ?_; rintro e w4 ⟨rfl, hb4⟩; have HB4 := Lib.hid (HB2.out.trans (hb4.mono HB2.out.size)); clear hb4)
          go_ret
          exact ⟨rfl, HB4.out⟩
end Go.Proofs.Ytopjfnkcmdifhaa
