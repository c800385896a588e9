/- The walk of the law MatchOrder. -/
import Derived.Test.YtopjfnkcmdifhaaOrderP
namespace Go.Proofs.Ytopjfnkcmdifhaa
set_option linter.unusedVariables false
set_option linter.unusedSimpArgs false
open Go.RowKit Kuhn

theorem most_turn {near : List (List Int)} {right : Int} {l : List (List Int)} {A : Option Addr} (hll : l = near.map (rowOf right)) (c : Nat) (w : World) (hR : RowsAt w.heap.size w A (near.map (turnRow right))) (hn : near.length ≤ 1000) (hl : ∀ r ∈ near, r.length ≤ 16) :
    Calls Try.prog 12 #[.slice A near.length c, .int .i64 right] w fun e w' => ∃ A1 c1, e = .returned (.slice A1 near.length c1) ∧ IntsAt w'.heap.size w' A1 (mostOf l) ∧ Below w.heap.size w w' := by
  have := most_near (near := near.map (turnRow right)) (right := right) (l := l) (by rw [hll, rows_turn]) A c w hR (by simpa using hn) (fun r hr => by
    obtain ⟨q, hq, rfl⟩ := List.mem_map.1 hr
    have := turn_le right q
    have := hl q hq
    omega)
  simpa using this
theorem same_near {A1 A2 : Option Addr} {B n1 n2 : Nat} {a b : List Int} {q : Bool} (c1 c2 : Nat) (w : World) (h1 : IntsAt B w A1 a) (h2 : IntsAt B w A2 b) (e1 : a.length = n1) (e2 : b.length = n2) (hb : n1 ≤ 9223372036854775807) (hq : decide (a = b) = q) :
    Calls Try.prog 16 #[.slice A1 n1 c1, .slice A2 n2 c2] w fun e w' => e = .returned (.bool q) ∧ Below w.heap.size w w' := by
  subst e1 e2 hq
  exact same_any c1 c2 a b w h1 h2 hb

set_option maxRecDepth 100000 in
set_option maxHeartbeats 1000000 in
theorem order_law (near : List (List Int)) (right : Int) (A : Option Addr) (c : Nat) (w : World) (hR : RowsAt w.heap.size w A near) (hright : right < 9223372036854775808) :
    Calls Try.prog 5 #[.slice A near.length c, .int .i64 right] w fun e w' => e = .returned (.bool true) ∧ Below w.heap.size w w' := by
  have HF := Lib.hid (few_any c near w hR)
  cases hf : fewB near with
  | false =>
    rw [hf] at HF
    have HH := Lib.hid (heads_any w)
    clear hf hR
    go_enter Try.func5, Try.ntmps5
    go_wp2_with (first
      | (go_at_call 10; refine HF.out.mono ?_; rintro e w' ⟨rfl, rfl⟩)
      | (go_at_call 11; refine HH.out.mono ?_; rintro e w' ⟨rfl, hb⟩; have HB := Lib.hid hb; clear hb))
    go_ret
    exact ⟨rfl, HB.out⟩
  | true =>
    rw [hf] at HF
    obtain ⟨h12, h16⟩ := few_bounds hf
    have HR := Lib.hid hR
    have HK := Lib.hid h16
    clear hf hR h16
    go_enter Try.func5, Try.ntmps5
    go_wp2_with (go_at_call 10; refine HF.out.mono ?_; rintro e w' ⟨rfl, rfl⟩)
    clear HF
    have HS0 := Lib.hid (TurnSt.start near right (w := w) (World.ownsRow_made (e := 25) (base := w.heap.size) (size := 1) w #[] 0 (Nat.le_refl _) (by unfold maxLen; omega) rfl) ((Below.refl _ _).alloc (Nat.le_refl _) _))
    go_loopw [5, 6] (fun v u wr => ∃ k, k ≤ near.length ∧ u = .int .i64 (k : Nat) ∧ Hid (TurnSt near right w wr k v)) (fun _ u _ => near.length - (intOf u).toNat)
    case atStart => exact ⟨0, Nat.zero_le _, rfl, HS0⟩
    case round =>
      clear HS0
      obtain ⟨k, hk, rfl, HS⟩ := hrel
      by_cases hlt : k < near.length
      · obtain ⟨ad, A', c', rfl, hrow, hlc, hia⟩ := (HR.out.below HS.out.below).row k hlt
        have hr16 := HK.out near[k] (List.getElem_mem hlt)
        obtain ⟨r, hr⟩ : ∃ r, r = near[k] := ⟨_, rfl⟩
        rw [← hr] at hrow hlc hia hr16
        have HIA := Lib.hid hia.now
        have HRR := Lib.hid hr
        have HROW := Lib.hid hrow
        have hrow1 := cell_alloc hrow (.cells #[] 25)
        have hrow2 := cell_alloc hrow (.cells #[] 3)
        clear hr hia
        go_wp2
        obtain ⟨wo, rfl⟩ : ∃ wo : World, wo = wr := ⟨_, rfl⟩
        have HO0 : Hid ((wo.alloc (.cells #[] 3)).ownsRow wo.heap.size 3 1 (.slice (some ⟨wo.heap.size, 0, none⟩) 0 0) (turnRow right (r.drop r.length)).length (ints (turnRow right (r.drop r.length)))) := by
          rw [List.drop_length]
          exact World.ownsRow_made (e := 3) (base := wo.heap.size) (size := 1) wo #[] 0 (Nat.le_refl _) (by unfold maxLen; omega) rfl
        clear hrow hrow1 hrow2
        go_loopw [7, 8] (fun v u wq => ∃ j, j ≤ r.length ∧ u = .int .i64 ((j : Nat) - 1 : Int) ∧ Hid (wq.ownsRow wo.heap.size 3 1 v (turnRow right (r.drop j)).length (ints (turnRow right (r.drop j)))) ∧ Hid (Below wo.heap.size wo wq)) (fun _ u _ => (intOf u + 1).toNat)
        case atStart => exact ⟨r.length, Nat.le_refl _, rfl, HO0, (Below.refl _ _).alloc (Nat.le_refl _) _⟩
        case round =>
          clear HO0
          obtain ⟨j, hj, hu, HO, HB⟩ := hrel
          rcases j with _ | i
          · obtain rfl : u8 = .int .i64 (-1) := by rw [hu]; rfl
            obtain ⟨A3, c3, rfl, _, _⟩ := Ints.of_own HO.out
            have HN := Lib.hid (HS.out.next hlt (by omega) (wq := wr) (by rw [← HRR.out]; exact HO.out) HB.out)
            obtain ⟨g', cap', w', hap, hts⟩ := HN.out
            have HAP := Lib.hid hap
            have HTS := Lib.hid hts
            clear HN hap hts hu HO
            go_wp2_with (at_builtin; refine wpList_append_run rfl _ _ 22 rfl rfl rfl HAP.out ?_)
            go_roundw
            case rel => exact ⟨k + 1, by omega, by go_num, HTS⟩
            case measure => simp [intOf]; omega
          · obtain rfl : u8 = .int .i64 (i : Int) := by rw [hu]; congr 1; omega
            have hi : i < r.length := by omega
            have hrow : wr.cell? (ad.add k) = some (.slice A' r.length c') := (World.cell?_of_block (HB.out.block _ (cell_lt HROW.out))).trans HROW.out
            obtain ⟨ad2, rfl, hx0⟩ := HIA.out.cell i hi
            have hx : wr.cell? (ad2.add i) = some (.int .i64 r[i]) := (World.cell?_of_block (HB.out.block _ (cell_lt hx0))).trans hx0
            have hle := turn_le right (r.drop (i + 1))
            have hld : (r.drop (i + 1)).length ≤ r.length := by rw [List.length_drop]; omega
            have hbs := HB.out.size
            have hsn := turn_drop right r i hi
            obtain ⟨x, hxe⟩ : ∃ x, x = r[i] := ⟨_, rfl⟩
            rw [← hxe] at hx hx0 hsn
            clear hxe hu
            obtain ⟨T, hT⟩ : ∃ T, T = turnRow right (r.drop (i + 1)) := ⟨_, rfl⟩
            rw [← hT] at hle hsn HO
            obtain ⟨g1, cap1, w1, hap1, hown1, hgr1⟩ := app_ints (ty := 25) Try.underlying25 info3 HO.out x (by omega) hbs
            have hB1 : Below wo.heap.size wo w1 := below_grown HB.out hgr1 hbs (own_ge HO.out)
            have HAP := Lib.hid hap1
            have hrow1 : w1.cell? (ad.add k) = some (.slice (some ad2) r.length c') := (World.cell?_of_block (hB1.block _ (cell_lt HROW.out))).trans HROW.out
            have hx1 : w1.cell? (ad2.add i) = some (.int .i64 x) := (World.cell?_of_block (hB1.block _ (cell_lt hx0))).trans hx0
            have HB1 := Lib.hid hB1
            have HSN := Lib.hid hsn
            have HO1 := Lib.hid hown1
            have HX0 := Lib.hid hx0
            have HT := Lib.hid hT
            clear hsn hown1 hap1 hgr1 hB1 hx0 hT hbs
            have hb1 := HB1.out.size
            by_cases hm : 0 ≤ x ∧ x < right
            · obtain ⟨hm1, hm2⟩ := hm
              obtain ⟨g2, cap2, w2, hap2, hown2, hgr2⟩ := app_ints (ty := 25) Try.underlying25 info3 HO1.out x (by simp; omega) hb1
              have HAP2 := Lib.hid hap2
              have HB2 := Lib.hid (below_grown HB1.out hgr2 hb1 (own_ge HO1.out))
              have ho2 : w2.ownsRow wo.heap.size 3 1 (.slice (some ⟨g2, 0, none⟩) (T.length + 1 + 1) cap2) (turnRow right (r.drop i)).length (ints (turnRow right (r.drop i))) := by
                rw [HSN.out, if_pos ⟨hm1, hm2⟩, show T ++ [x, x] = T ++ [x] ++ [x] by simp]
                simpa using hown2
              have HO2 := Lib.hid ho2
              clear hap2 hown2 hgr2 HT ho2
              simp only [List.length_append, List.length_cons, List.length_nil, Nat.zero_add] at HAP2
              go_wp2_with (first | (at_builtin; refine wpList_append_run rfl _ _ 25 rfl rfl rfl HAP.out ?_) | (at_builtin; refine wpList_append_run rfl _ _ 25 rfl rfl rfl HAP2.out ?_))
              go_roundw
              case rel => exact ⟨i, by omega, by go_num, HO2, HB2⟩
              case measure => simp [intOf]
            · have HO2 : Hid (w1.ownsRow wo.heap.size 3 1 (.slice (some ⟨g1, 0, none⟩) (T.length + 1) cap1) (turnRow right (r.drop i)).length (ints (turnRow right (r.drop i)))) := by
                rw [HSN.out, if_neg hm]
                exact HO1.out
              by_cases h0 : 0 ≤ x
              · have h1 : ¬ x < right := fun q => hm ⟨h0, q⟩
                clear hm HT
                go_wp2_with (at_builtin; refine wpList_append_run rfl _ _ 25 rfl rfl rfl HAP.out ?_)
                go_roundw
                case rel => exact ⟨i, by omega, by go_num, HO2, HB1⟩
                case measure => simp [intOf]
              · clear hm HT
                go_wp2_with (at_builtin; refine wpList_append_run rfl _ _ 25 rfl rfl rfl HAP.out ?_)
                go_roundw
                case rel => exact ⟨i, by omega, by go_num, HO2, HB1⟩
                case measure => simp [intOf]
      · obtain rfl : k = near.length := by omega
        obtain ⟨At, ct, rfl, ht⟩ := HS.out.done
        have HT := Lib.hid ht
        have HB := Lib.hid HS.out.below
        obtain ⟨l, hll⟩ : ∃ l, l = near.map (rowOf right) := ⟨_, rfl⟩
        obtain ⟨m, hm⟩ : ∃ m, m = mostOf l := ⟨_, rfl⟩
        have hml : m.length = near.length := by rw [hm, mostOf_length, hll]; simp
        have h1000 : ∀ r ∈ near, r.length ≤ 1000 := fun r hr => by have := HK.out r hr; omega
        have hsz := size_mono near right
        rw [← hll, ← hm] at hsz
        have HC1 := Lib.hid (most_near hll A c wr ((HR.out.below HS.out.below).mono HS.out.below.size) (by omega) h1000)
        rw [← hm] at HC1
        have HLL := Lib.hid hll
        have HMM := Lib.hid hm
        have HML := Lib.hid hml
        have HK2 := Lib.hid h1000
        have htl : (near.map (turnRow right)).length = near.length := by simp
        clear hll hm hml h1000 ht HS hlt hk
        by_cases hr1 : right < 1
        · go_wp2_with (first
            | (go_at_call 16; with_reducible refine HC3.out.mono ?_; rintro e w3 ⟨rfl, hb3⟩; have HB3 := Lib.hid (HB2.out.trans (hb3.mono HB2.out.size)); have HH := Lib.hid (heads_any w3); clear hb3)
            | (go_at_call 12; with_reducible refine HC2.out.mono ?_; rintro e w2 ⟨A2, c2, rfl, hi2, hb2⟩; have HB2 := Lib.hid (HB1.out.trans (hb2.mono HB1.out.size)); have HC3 := Lib.hid (same_near (q := true) c1 c2 w2 ((HI1.out.later hb2).mono hb2.size) hi2 HML.out HML.out (by omega) (decide_eq_true rfl)); clear hb2 hi2)
            | (go_at_call 12; with_reducible refine HC1.out.mono ?_; rintro e w1 ⟨A1, c1, rfl, hi1, hb1⟩; have HB1 := Lib.hid hb1; have HI1 := Lib.hid hi1; have HC2 := Lib.hid (most_turn HLL.out ct w1 (HT.out.later hb1).now (by omega) HK.out); rw [← HMM.out] at HC2; clear hb1 hi1)
            | (go_at_call 11; with_reducible refine HH.out.mono ?_; rintro e w9 ⟨rfl, hb9⟩; have HB9 := Lib.hid (HB3.out.trans (hb9.mono HB3.out.size)); clear hb9))
          go_ret
          exact ⟨rfl, HB.out.trans (HB9.out.mono HB.out.size)⟩
        · obtain ⟨p, hp⟩ : ∃ p, p = mostOf (near.map (rowOf (right - 1))) := ⟨_, rfl⟩
          have hpl : p.length = near.length := by rw [hp, mostOf_length]; simp
          rw [← hp] at hsz
          obtain ⟨sp, hsp⟩ : ∃ sp, sp = sizeOf p := ⟨_, rfl⟩
          obtain ⟨sm, hsm⟩ : ∃ sm, sm = sizeOf m := ⟨_, rfl⟩
          rw [← hsp, ← hsm] at hsz
          have hle : (sp : Int) ≤ (sm : Int) := by omega
          have HPP := Lib.hid hp
          have HPL := Lib.hid hpl
          have HSP := Lib.hid hsp
          have HSM := Lib.hid hsm
          clear hp hpl hsp hsm hsz
          go_wp2_with (first
            | (go_at_call 12; with_reducible refine HC4.out.mono ?_; rintro e w4 ⟨A4, c4, rfl, hi4, hb4⟩; have HB4 := Lib.hid (HB3.out.trans (hb4.mono HB3.out.size)); have HC5 := Lib.hid (Size_near c4 p w4 HPL.out hi4 (by have := HPL.out; omega)); rw [← HSP.out] at HC5; have HC6 := Lib.hid (most_near HLL.out A c w4 ((HR.out.later (HB.out.trans (HB4.out.mono HB.out.size))).now) (by omega) HK2.out); rw [← HMM.out] at HC6; clear hb4 hi4)
            | (go_at_call 14; with_reducible refine HC5.out.mono ?_; rintro e w5 ⟨rfl, rfl⟩)
            | (go_at_call 12; with_reducible refine HC6.out.mono ?_; rintro e w6 ⟨A6, c6, rfl, hi6, hb6⟩; have HB6 := Lib.hid (HB4.out.trans (hb6.mono HB4.out.size)); have HC7 := Lib.hid (Size_near c6 m w6 HML.out hi6 (by have := HML.out; omega)); rw [← HSM.out] at HC7; have HH := Lib.hid (heads_any w6); clear hb6 hi6)
            | (go_at_call 14; with_reducible refine HC7.out.mono ?_; rintro e w7 ⟨rfl, rfl⟩)
            | (go_at_call 16; with_reducible refine HC3.out.mono ?_; rintro e w3 ⟨rfl, hb3⟩; have HB3 := Lib.hid (HB2.out.trans (hb3.mono HB2.out.size)); have HC4 := Lib.hid (most_near (right := right - 1) rfl A c w3 ((HR.out.later (HB.out.trans (HB3.out.mono HB.out.size))).now) (by omega) HK2.out); rw [← HPP.out] at HC4; clear hb3)
            | (go_at_call 12; with_reducible refine HC2.out.mono ?_; rintro e w2 ⟨A2, c2, rfl, hi2, hb2⟩; have HB2 := Lib.hid (HB1.out.trans (hb2.mono HB1.out.size)); have HC3 := Lib.hid (same_near (q := true) c1 c2 w2 ((HI1.out.later hb2).mono hb2.size) hi2 HML.out HML.out (by omega) (decide_eq_true rfl)); clear hb2 hi2)
            | (go_at_call 12; with_reducible refine HC1.out.mono ?_; rintro e w1 ⟨A1, c1, rfl, hi1, hb1⟩; have HB1 := Lib.hid hb1; have HI1 := Lib.hid hi1; have HC2 := Lib.hid (most_turn HLL.out ct w1 (HT.out.later hb1).now (by omega) HK.out); rw [← HMM.out] at HC2; clear hb1 hi1)
            | (go_at_call 11; with_reducible refine HH.out.mono ?_; rintro e w9 ⟨rfl, hb9⟩; have HB9 := Lib.hid (HB6.out.trans (hb9.mono HB6.out.size)); clear hb9))
          go_ret
          exact ⟨rfl, HB.out.trans (HB9.out.mono HB.out.size)⟩
end Go.Proofs.Ytopjfnkcmdifhaa
