/- The walk of the law MatchCovers. -/
import Derived.Test.YtopjfnkcmdifhaaNoneW
import Derived.Test.YtopjfnkcmdifhaaCoverW
namespace Go.Proofs.Ytopjfnkcmdifhaa
set_option linter.unusedVariables false
set_option linter.unusedSimpArgs false
open Go.RowKit Kuhn

theorem cover_near {near : List (List Int)} {right : Int} {l : List (List Int)} {m : List Int} (hll : l = near.map (rowOf right)) (hm : m = mostOf l) (A : Option Addr) (c : Nat) (w : World) (hR : RowsAt w.heap.size w A near) (hn : near.length ≤ 1000) (hl : ∀ r ∈ near, r.length ≤ 1000) :
    Calls Try.prog 19 #[.slice A near.length c, .int .i64 right] w fun e w' => ∃ A1 c1 xs A2 c2 zs, e = .returned (.tuple #[.slice A1 xs.length c1, .slice A2 zs.length c2]) ∧ IntsAt w'.heap.size w' A1 xs ∧ IntsAt w'.heap.size w' A2 zs ∧
      xs.length + zs.length = sizeOf m ∧ (∀ (u : Nat) v, u < near.length → v ∈ near.getD u [] → 0 ≤ v → v < right → hasB xs (u : Int) = true ∨ hasB zs v = true) ∧ Below w.heap.size w w' := by
  refine (Cover_any near right A c w hR hn hl).mono ?_
  rw [← hll]
  rintro e w' ⟨A1, c1, xs, A2, c2, zs, rfl, h1, h2, hx, hz, hb⟩
  rw [← hm] at hx hz
  have hnn : ∀ i v, v ∈ rowF l i → 0 ≤ v := fun i v h => rows_nn right near i v (hll ▸ h)
  have hml : m.length = l.length := by rw [hm, mostOf_length]
  refine ⟨A1, c1, xs, A2, c2, zs, rfl, h1, h2, ?_, ?_, hb⟩
  · rw [← cnt_size]
    have hok := mostOf_ok hnn
    rw [← hm] at hok
    exact cover_count hok.1 hml hok.2 (mem_bare m) (hx.1.imp (fun h e => by omega)) (hz.1.imp (fun h e => by omega)) hx.2 hz.2
  · intro u v hu hv h0 h1
    have hr : v ∈ rowF l u := by rw [hll, rowF_map]; exact ((rowOf_spec right _).2 v).2 ⟨hv, h0, h1⟩
    rw [hasB_iff, hasB_iff]
    by_cases hc : Come (rowF l) (ofM m) (fun i => (i : Int) ∈ bareFrom 0 m) u
    · exact .inr ((hz.2 v).2 ⟨u, hc, hr⟩)
    · refine .inl ((hx.2 _).2 ⟨u, rfl, ?_, hc⟩)
      have hul : u < m.length := by rw [hml, hll]; simpa using hu
      refine ⟨m[u], List.getElem?_eq_getElem hul, ?_⟩
      apply Classical.byContradiction
      intro hneg
      exact hc (.start u ((mem_bare m u).2 ⟨u, rfl, m[u], List.getElem?_eq_getElem hul, by omega⟩))

set_option maxRecDepth 100000 in
set_option maxHeartbeats 1000000 in
theorem covers_law (near : List (List Int)) (right : Int) (A : Option Addr) (c : Nat) (w : World) (hR : RowsAt w.heap.size w A near) :
    Calls Try.prog 9 #[.slice A near.length c, .int .i64 right] w fun e w' => e = .returned (.bool true) ∧ Below w.heap.size w w' := by
  have HF := Lib.hid (few_any c near w hR)
  cases hf : fewB near with
  | false =>
    rw [hf] at HF
    have HH := Lib.hid (heads_any w)
    clear hf hR
    go_enter Try.func9, Try.ntmps9
    go_wp2_with (first
      | (go_at_call 10; refine HF.out.mono ?_; rintro e w' ⟨rfl, rfl⟩)
      | (go_at_call 11; refine HH.out.mono ?_; rintro e w' ⟨rfl, hb⟩; have HB := Lib.hid hb; clear hb))
    go_ret
    exact ⟨rfl, HB.out⟩
  | true =>
    rw [hf] at HF
    obtain ⟨h12, h16⟩ := few_bounds hf
    obtain ⟨l, hll⟩ : ∃ l, l = near.map (rowOf right) := ⟨_, rfl⟩
    obtain ⟨m, hm⟩ : ∃ m, m = mostOf l := ⟨_, rfl⟩
    have hlen : l.length = near.length := by rw [hll]; simp
    have hml : m.length = near.length := by rw [hm, mostOf_length, hlen]
    have h1000 : ∀ r ∈ near, r.length ≤ 1000 := fun r hr => by have := h16 r hr; omega
    have HC1 := Lib.hid (most_near hll A c w hR (by omega) h1000)
    rw [← hm] at HC1
    have HRB : Hid (rightB l m = true) := by rw [hm]; exact mostOf_right hll
    have hsl : sizeOf m ≤ 12 := by have := size_bare m 0; omega
    obtain ⟨q, hq⟩ : ∃ q, q = sizeOf m := ⟨_, rfl⟩
    rw [← hq] at hsl
    have HQ := Lib.hid hq
    have HLL := Lib.hid hll
    have HM := Lib.hid hm
    have HR := Lib.hid hR
    have HML := Lib.hid hml
    have HK := Lib.hid h1000
    clear hf hR hll hm hlen hml h1000 h16 hq
    go_enter Try.func9, Try.ntmps9
    go_wp2_with (first
      | (go_at_call 10; refine HF.out.mono ?_; rintro e w' ⟨rfl, rfl⟩)
      | (go_at_call 12; refine HC1.out.mono ?_; rintro e w1 ⟨A1, c1, rfl, hi1, hb1⟩; have HB1 := Lib.hid hb1; have HI1 := Lib.hid hi1; have HC2 := Lib.hid (cover_near HLL.out HM.out A c w1 (HR.out.later hb1).now (by omega) HK.out); rw [← HQ.out] at HC2; clear hb1 hi1)
      | (go_at_call 19; refine HC2.out.mono ?_; rintro e w2 ⟨A2, c2, xs, A3, c3, zs, rfl, hx, hz, hs, hcv, hb2⟩; have HB2 := Lib.hid (HB1.out.trans (hb2.mono HB1.out.size)); have HX := Lib.hid hx; have HZ := Lib.hid hz; have HCV := Lib.hid hcv; have hxl : xs.length ≤ 12 := (by omega); have hzl : zs.length ≤ 12 := (by omega); have hsum : (((xs.length : Int) + (zs.length : Int)) != (q : Int)) = false := (by simp; omega); have HI2 := Lib.hid (HI1.out.later hb2).now; have HC3 := Lib.hid (Size_near c1 m w2 HML.out HI2.out (by have := HML.out; omega)); rw [← HQ.out] at HC3; have HC4 := Lib.hid (Right_near HLL.out HRB.out HML.out A A1 c c1 w2 (HR.out.later HB2.out).now HI2.out (by omega) HK.out); clear hb2 hx hz hs hcv)
      | (go_at_call 14; refine HC3.out.mono ?_; rintro e w3 ⟨rfl, rfl⟩)
      | (go_at_call 21; refine HC4.out.mono ?_; rintro e w4 ⟨rfl, hb4⟩; have HB4 := Lib.hid (HB2.out.trans (hb4.mono HB2.out.size)); have HX4 := Lib.hid (HX.out.later hb4); have HZ4 := Lib.hid (HZ.out.later hb4); have HH := Lib.hid (heads_any w4); clear hb4))
    clear HC1 HC2 HC3 HC4 HF HX HZ
    go_loop [8] (fun u => ∃ k, k ≤ near.length ∧ u = .int .i64 (k : Nat)) (fun u => near.length - (intOf u).toNat)
    case atStart => exact ⟨0, Nat.zero_le _, rfl⟩
    case round =>
      obtain ⟨k, hk, rfl⟩ := hrel
      by_cases hlt : k < near.length
      · obtain ⟨ad2, A4, c4, rfl, hrow, hlc, hia⟩ := (HR.out.below HB4.out).row k hlt
        have hgd : near.getD k [] = near[k] := by rw [List.getD_eq_getElem?_getD, List.getElem?_eq_getElem hlt, Option.getD_some]
        have hr1000 := HK.out _ (List.getElem_mem hlt)
        have hv := fun v => HCV.out k v hlt
        rw [hgd] at hv
        obtain ⟨r, hr⟩ : ∃ r, r = near[k] := ⟨_, rfl⟩
        rw [← hr] at hrow hlc hia hv hr1000
        have HV := Lib.hid hv
        have HIA := Lib.hid hia
        have hrow0 := Lib.hid hrow
        clear hv hia hr hgd
        go_wp2
        clear hrow
        go_loop [9] (fun u => ∃ t, t ≤ r.length ∧ u = .int .i64 (t : Nat)) (fun u => r.length - (intOf u).toNat)
        case atStart => exact ⟨0, Nat.zero_le _, rfl⟩
        case round =>
          obtain ⟨t, ht, rfl⟩ := hrel
          have hrow := hrow0.out
          by_cases htl : t < r.length
          · obtain ⟨ad3, rfl, hx3⟩ := HIA.out.cell t htl
            obtain ⟨x3, hx3e⟩ : ∃ x3, x3 = r[t] := ⟨_, rfl⟩
            have hm3 : x3 ∈ r := by rw [hx3e]; exact List.getElem_mem htl
            rw [← hx3e] at hx3
            clear hx3e
            by_cases h30 : 0 ≤ x3
            · by_cases h3r : x3 < right
              · have hh := has_any c2 xs (k : Int) w4 HX4.out (by omega)
                have hg := has_any c3 zs x3 w4 HZ4.out (by omega)
                have hor := HV.out x3 hm3 h30 h3r
                cases hhk : hasB xs (k : Int) with
                | true =>
                  rw [hhk] at hh
                  have HHA := Lib.hid hh
                  clear hh hm3 hg hor hhk
                  go_wp2_with (go_at_call 15; refine HHA.out.mono ?_; rintro e w' ⟨rfl, rfl⟩)
                  go_round
                  case rel => exact ⟨t + 1, by omega, by go_num⟩
                  case measure => simp [intOf]; omega
                | false =>
                  rw [hhk] at hh
                  have hz3 : hasB zs x3 = true := by
                    rcases hor with q | q
                    · rw [hhk] at q; cases q
                    · exact q
                  rw [hz3] at hg
                  have HHA := Lib.hid hh
                  have HHB := Lib.hid hg
                  clear hh hm3 hg hor hhk hz3
                  go_wp2_with (first
                    | (go_at_call 15; with_reducible refine HHA.out.mono ?_; rintro e w' ⟨rfl, rfl⟩)
                    | (go_at_call 15; with_reducible refine HHB.out.mono ?_; rintro e w' ⟨rfl, rfl⟩))
                  go_round
                  case rel => exact ⟨t + 1, by omega, by go_num⟩
                  case measure => simp [intOf]; omega
              · clear hm3
                go_wp2
                go_round
                case rel => exact ⟨t + 1, by omega, by go_num⟩
                case measure => simp [intOf]; omega
            · clear hm3
              go_wp2
              go_round
              case rel => exact ⟨t + 1, by omega, by go_num⟩
              case measure => simp [intOf]; omega
          · go_wp2
            go_round
            case rel => exact ⟨k + 1, by omega, by go_num⟩
            case measure => simp [intOf]; omega
      · go_wp2_with (go_at_call 11; refine HH.out.mono ?_; rintro e w5 ⟨rfl, hb5⟩; have HB5 := Lib.hid (HB4.out.trans (hb5.mono HB4.out.size)); clear hb5)
        go_ret
        exact ⟨rfl, HB5.out⟩
end Go.Proofs.Ytopjfnkcmdifhaa
