/- The walk of ref.come: which left ones, and which right ones, are come to from some left ones. -/
import Derived.Test.YtopjfnkcmdifhaaRiseW
import Derived.Test.YtopjfnkcmdifhaaRefMostW
namespace Go.Proofs.Ytopjfnkcmdifhaa
set_option linter.unusedVariables false
set_option linter.unusedSimpArgs false
open Go.RowKit Kuhn

def lenOf : Value → Nat
  | .slice _ n _ => n
  | _ => 0
def oneOf : Value → Nat
  | .bool true => 1
  | _ => 0

theorem mem_rowF {near : List (List Int)} {right : Int} {l : List (List Int)} (hll : l = near.map (rowOf right)) (i : Nat) (v : Int) : v ∈ rowF l i ↔ v ∈ near.getD i [] ∧ 0 ≤ v ∧ v < right := by
  subst hll
  rw [rowF_map]
  exact (rowOf_spec right _).2 v

def ComePost (l : List (List Int)) (m fr : List Int) (w : World) (e : Ending) (w' : World) : Prop :=
  ∃ A2 c2 ys A3 c3 zs, e = .returned (.tuple #[.slice A2 ys.length c2, .slice A3 zs.length c3]) ∧ IntsAt w'.heap.size w' A2 ys ∧ IntsAt w'.heap.size w' A3 zs ∧ IsSet ys (LeftOf l m fr) ∧ IsSet zs (RightOf l m fr) ∧ Below w.heap.size w w'

theorem ClosedR.skip {l : List (List Int)} {k : Nat} {L T : List Int} (h : ClosedR l k L T) (hk : (k : Int) ∉ L) : ClosedR l (k + 1) L T := by
  intro u hu huL
  by_cases e : u = k
  · subst e; exact absurd huL hk
  · exact h u (by omega) huL
theorem ClosedR.add {l : List (List Int)} {k : Nat} {L T : List Int} (h : ClosedR l k L T) (hk : ∀ v ∈ rowF l k, v ∈ T) : ClosedR l (k + 1) L T := by
  intro u hu huL
  by_cases e : u = k
  · subst e; exact hk
  · exact h u (by omega) huL
theorem ClosedL.add {m : List Int} {k : Nat} {x : Int} {L T : List Int} (h : ClosedL m k L T) (hx : m[k]? = some x) (hk : 0 ≤ x → x ∈ T → (k : Int) ∈ L) : ClosedL m (k + 1) L T := by
  intro u y hu hy h0 hT
  by_cases e : u = k
  · subst e; rw [hx] at hy; cases hy; exact hk h0 hT
  · exact h u y (by omega) hy h0 hT

set_option maxRecDepth 100000 in
set_option maxHeartbeats 600000 in
theorem come_any {near : List (List Int)} {right : Int} {A A1 Af : Option Addr} {l : List (List Int)} {m fr : List Int} {n1 nf : Nat} (hll : l = near.map (rowOf right)) (c c1 cf : Nat) (w : World) (hR : RowsAt w.heap.size w A near) (hm : IntsAt w.heap.size w A1 m) (hf : IntsAt w.heap.size w Af fr)
    (hn : near.length ≤ 1000) (hl : ∀ r ∈ near, r.length ≤ 1000) (hUl : near.flatten.length ≤ 1000) (hn1 : m.length = n1) (hnf : fr.length = nf) (hml : m.length = near.length) (hof : OfM m) (hfr : ∀ u ∈ fr, ∃ i : Nat, u = i ∧ i < l.length) (hup : fr.Pairwise (· < ·)) :
    Calls Try.prog 31 #[.slice A near.length c, .int .i64 right, .slice A1 n1 c1, .slice Af nf cf] w (ComePost l m fr w) := by
  subst hn1 hnf
  have hlen : l.length = near.length := by rw [hll]; simp
  have hmf := mem_rowF hll
  have HUF : Hid (∀ i, ∀ n ∈ rowF l i, n ∈ near.flatten) := fun i n hn => near_U i n ((hmf i n).1 hn).1
  have HST0 : Hid (ComeSt l m fr fr []) := ⟨hup, List.Pairwise.nil, fun u hu => hu, fun u hu => by obtain ⟨i, rfl, _⟩ := hfr u hu; exact ⟨i, rfl, .start i hu⟩, fun n hn => by cases hn⟩
  have HMF := Lib.hid hmf
  have HR := Lib.hid hR
  have HM := Lib.hid hm
  have HF := Lib.hid hf
  have HK := Lib.hid hl
  have HOF := Lib.hid hof
  have HFR := Lib.hid hfr
  have HMLL : Hid (m.length = l.length) := by show _ = _; omega
  have HLEN := Lib.hid hlen
  have hm1000 : m.length ≤ 1000 := by omega
  clear hml
  clear hll hR hm hf hl hof hfr hup hmf hlen
  go_enter Try.func31, Try.ntmps31
  go_wp2
  have HF0 : Hid (IntsAt (w.alloc (.cells #[] 3)).heap.size (w.alloc (.cells #[] 3)) Af fr) := ((HF.out.later ((Below.refl _ _).alloc (Nat.le_refl _) _))).mono (by simp)
  have HB0 : Hid (Below w.heap.size w (w.alloc (.cells #[] 3))) := (Below.refl _ _).alloc (Nat.le_refl _) _
  clear HF
  go_loopw [3, 10, 11] (fun vl vt vm wr => ∃ (L T : List Int) (b : Bool) (AL : Option Addr) (cL : Nat) (AT : Option Addr) (cT : Nat), vl = .slice AL (List.length L) cL ∧ vt = .slice AT (List.length T) cT ∧ vm = .bool b ∧ Hid (ComeSt l m fr L T) ∧
    Hid (IntsAt wr.heap.size wr AL L) ∧ Hid (IntsAt wr.heap.size wr AT T) ∧ Hid (b = false → ClosedR l l.length L T ∧ ClosedL m m.length L T) ∧ Hid (Below w.heap.size w wr)) (fun vl vt vm _ => 2 * (near.length + near.flatten.length - lenOf vl - lenOf vt) + oneOf vm)
  case atStart => exact ⟨fr, [], true, Af, cf, some ⟨w.heap.size, 0, none⟩, 0, rfl, rfl, rfl, HST0, HF0, IntsAt.nil _ _ _, (by intro e; cases e), HB0⟩
  case round =>
    clear HST0 HF0 HB0
    obtain ⟨L, T, b, AL, cL, AT, cT, rfl, rfl, rfl, HST, HIL, HIT, HCL, HB⟩ := hrel
    have hLl : L.length ≤ near.length := by have := HST.out.lenL HFR.out HMLL.out; have := HLEN.out; omega
    have hTl : T.length ≤ near.flatten.length := HST.out.lenT HUF.out
    cases b with
    | false =>
      obtain ⟨h1, h2⟩ := HCL.out rfl
      obtain ⟨h3, h4⟩ := HST.out.done h1 h2 HOF.out
      have H3 := Lib.hid h3
      have H4 := Lib.hid h4
      clear h1 h2 h3 h4
      go_wp2
      go_ret2
      exact ⟨AL, cL, L, AT, cT, T, rfl, HIL.out, HIT.out, H3.out, H4.out, HB.out⟩
    | true =>
      obtain ⟨wo, rfl⟩ : ∃ wo : World, wo = wr := ⟨_, rfl⟩
      have HRO := Lib.hid (HR.out.later HB.out).now
      have HMO := Lib.hid (HM.out.later HB.out).now
      have HW0 : Hid (Went L T L T false (ClosedR l 0 L T)) := Went.start _ _ (by intro u hu; omega)
      clear HCL
      go_wp2
      go_loopw [10, 11, 12] (fun vt vm i wr => ∃ (T1 : List Int) (b : Bool) (k : Nat) (AT : Option Addr) (cT : Nat), k ≤ near.length ∧ vt = .slice AT (List.length T1) cT ∧ vm = .bool b ∧ i = .int .i64 (k : Nat) ∧ Hid (ComeSt l m fr L T1) ∧ Hid (IntsAt wr.heap.size wr AT T1) ∧
        Hid (Went L T L T1 b (ClosedR l k L T)) ∧ Hid (Below wo.heap.size wo wr)) (fun _ _ i _ => near.length - (intOf i).toNat)
      case atStart => exact ⟨T, false, 0, AT, cT, Nat.zero_le _, rfl, rfl, rfl, HST, HIT, HW0, Below.refl _ _⟩
      case round =>
        clear HW0 HST HIT
        obtain ⟨T1, b1, k, AT1, cT1, hk, rfl, rfl, rfl, HST, HIT, HWE, HBB⟩ := hrel
        have HILN := Lib.hid (HIL.out.later HBB.out).now
        by_cases hlt : k < near.length
        · by_cases hkL : (k : Int) ∈ L
          · have HC := Lib.hid (has_near (q := true) cL L (k : Int) wr HILN.out rfl (by omega) (decide_eq_true hkL))
            obtain ⟨ad, A', c', rfl, hadB, hrow0, hlc, hia⟩ := HRO.out k hlt
            have hgd : near.getD k [] = near[k] := by rw [List.getD_eq_getElem?_getD, List.getElem?_eq_getElem hlt, Option.getD_some]
            have hr1000 := HK.out _ (List.getElem_mem hlt)
            obtain ⟨row, hrw⟩ : ∃ row, row = near[k] := ⟨_, rfl⟩
            rw [← hrw] at hrow0 hlc hia hr1000 hgd
            have HROW := Lib.hid hrow0
            have HIA := Lib.hid hia
            have HGD := Lib.hid hgd
            have HKL := Lib.hid hkL
            have HW1 : Hid (Went L T L T1 b1 (ClosedR l k L T ∧ ∀ v ∈ row.take 0, 0 ≤ v ∧ v < right → v ∈ T)) := HWE.out.same (fun _ _ h => ⟨h, by simp⟩)
            clear hgd hrw hia hadB hkL hrow0
            go_wp2_with (go_at_call 15; refine HC.out.mono ?_; rintro e w' ⟨rfl, rfl⟩)
            clear HC
            go_loopw [10, 11, 13] (fun vt vm i wr => ∃ (T1 : List Int) (b : Bool) (j : Nat) (AT : Option Addr) (cT : Nat), j ≤ row.length ∧ vt = .slice AT (List.length T1) cT ∧ vm = .bool b ∧ i = .int .i64 (j : Nat) ∧ Hid (ComeSt l m fr L T1) ∧ Hid (IntsAt wr.heap.size wr AT T1) ∧
              Hid (Went L T L T1 b (ClosedR l k L T ∧ ∀ v ∈ row.take j, 0 ≤ v ∧ v < right → v ∈ T)) ∧ Hid (Below wo.heap.size wo wr)) (fun _ _ i _ => row.length - (intOf i).toNat)
            case atStart => exact ⟨T1, b1, 0, AT1, cT1, Nat.zero_le _, rfl, rfl, rfl, HST, HIT, HW1, HBB⟩
            case round =>
              clear HW1 HST HIT HWE HBB HILN
              obtain ⟨T2, b2, j, AT2, cT2, hj, rfl, rfl, rfl, HST, HIT, HWE, HBB⟩ := hrel
              have hT2 : T2.length ≤ near.flatten.length := HST.out.lenT HUF.out
              have hrow : wr.cell? (ad.add k) = some (.slice A' row.length c') := (World.cell?_of_block (HBB.out.block _ (cell_lt HROW.out))).trans HROW.out
              by_cases hjl : j < row.length
              · obtain ⟨ad2, rfl, hx⟩ := (HIA.out.later HBB.out).cell j hjl
                have htk : row.take (j + 1) = row.take j ++ [row[j]] := List.take_succ_eq_append_getElem hjl
                have hxr : row[j] ∈ near.getD k [] := by rw [HGD.out]; exact List.getElem_mem hjl
                obtain ⟨x, hxe⟩ : ∃ x, x = row[j] := ⟨_, rfl⟩
                rw [← hxe] at hx htk hxr
                have HTK := Lib.hid htk
                clear hxe htk
                by_cases hin : 0 ≤ x ∧ x < right
                · have HC := Lib.hid (may_near (q := true) c near right x k wr ((HRO.out.later HBB.out).now) hlt HK.out (may_in hxr hin))
                  by_cases hxT : x ∈ T2
                  · have HD := Lib.hid (has_near (q := true) cT2 T2 x wr HIT.out rfl (by omega) (decide_eq_true hxT))
                    have HW2 : Hid (Went L T L T2 b2 (ClosedR l k L T ∧ ∀ v ∈ row.take (j + 1), 0 ≤ v ∧ v < right → v ∈ T)) := HWE.out.same (fun _ e h => ⟨h.1, fun v hv hin => by
                      rw [HTK.out, List.mem_append, List.mem_singleton] at hv
                      rcases hv with hv | rfl
                      · exact h.2 v hv hin
                      · rw [← e]; exact hxT⟩)
                    clear hxT hin hxr
                    go_wp2_with (first | (go_at_call 30; refine HC.out.mono ?_; rintro e w' ⟨rfl, rfl⟩) | (go_at_call 15; refine HD.out.mono ?_; rintro e w' ⟨rfl, rfl⟩))
                    go_roundw
                    case rel => exact ⟨T2, b2, j + 1, AT2, cT2, by omega, rfl, rfl, by go_num, HST, HIT, HW2, HBB⟩
                    case measure => simp [intOf]; omega
                  · have HD := Lib.hid (has_near (q := false) cT2 T2 x wr HIT.out rfl (by omega) (decide_eq_false hxT))
                    have HE := Lib.hid (rise_near cT2 wr HIT.out rfl HST.out.upT hxT (by omega))
                    have HXF : Hid (x ∈ rowF l k) := (HMF.out k x).2 ⟨hxr, hin⟩
                    clear hxT hin hxr
                    go_wp2_with (first | (go_at_call 30; refine HC.out.mono ?_; rintro e w' ⟨rfl, rfl⟩) | (go_at_call 15; refine HD.out.mono ?_; rintro e w' ⟨rfl, rfl⟩) | (go_at_call 38; refine HE.out.mono ?_; rintro e w3 ⟨A3, c3, ys, rfl, hyl, hi3, hs3, hb3⟩; have HST3 := Lib.hid (HST.out.addT HKL.out HXF.out hs3); have HI3 := Lib.hid hi3; have HBB3 := Lib.hid (HBB.out.trans (hb3.mono HBB.out.size)); have HW3 : Hid (Went L T L ys true (ClosedR l k L T ∧ ∀ v ∈ row.take (j + 1), 0 ≤ v ∧ v < right → v ∈ T)) := (HWE.out.more (by omega)); clear hi3 hs3 hb3))
                    go_roundw
                    case rel => exact ⟨ys, true, j + 1, A3, c3, by omega, congrArg (fun q => Value.slice A3 q c3) hyl.symm, rfl, by go_num, HST3, HI3, HW3, HBB3⟩
                    case measure => simp [intOf]; omega
                · have HC := Lib.hid (may_near (q := false) c near right x k wr ((HRO.out.later HBB.out).now) hlt HK.out (may_out hin))
                  have HW2 : Hid (Went L T L T2 b2 (ClosedR l k L T ∧ ∀ v ∈ row.take (j + 1), 0 ≤ v ∧ v < right → v ∈ T)) := HWE.out.same (fun _ e h => ⟨h.1, fun v hv hin2 => by
                    rw [HTK.out, List.mem_append, List.mem_singleton] at hv
                    rcases hv with hv | rfl
                    · exact h.2 v hv hin2
                    · exact absurd hin2 hin⟩)
                  clear hin hxr
                  go_wp2_with (go_at_call 30; refine HC.out.mono ?_; rintro e w' ⟨rfl, rfl⟩)
                  go_roundw
                  case rel => exact ⟨T2, b2, j + 1, AT2, cT2, by omega, rfl, rfl, by go_num, HST, HIT, HW2, HBB⟩
                  case measure => simp [intOf]; omega
              · have HW2 : Hid (Went L T L T2 b2 (ClosedR l (k + 1) L T)) := HWE.out.same (fun _ e h => h.1.add (fun v hv => by
                  have h1 := (HMF.out k v).1 hv
                  rw [HGD.out] at h1
                  refine h.2 v ?_ h1.2
                  rw [List.take_of_length_le (by omega)]
                  exact h1.1))
                go_wp2
                go_roundw
                case rel => exact ⟨T2, b2, k + 1, AT2, cT2, by omega, rfl, rfl, by go_num, HST, HIT, HW2, HBB⟩
                case measure => simp [intOf]; omega
          · have HC := Lib.hid (has_near (q := false) cL L (k : Int) wr HILN.out rfl (by omega) (decide_eq_false hkL))
            have HW1 : Hid (Went L T L T1 b1 (ClosedR l (k + 1) L T)) := HWE.out.same (fun _ _ h => h.skip hkL)
            clear hkL
            go_wp2_with (go_at_call 15; refine HC.out.mono ?_; rintro e w' ⟨rfl, rfl⟩)
            go_roundw
            case rel => exact ⟨T1, b1, k + 1, AT1, cT1, by omega, rfl, rfl, by go_num, HST, HIT, HW1, HBB⟩
            case measure => simp [intOf]; omega
        · have HW1 : Hid (Went L T L T1 b1 (ClosedR l l.length L T ∧ ClosedL m 0 L T)) := HWE.out.same (fun _ _ h => ⟨fun u hu => h u (by have := HLEN.out; omega), fun u x hu => by omega⟩)
          have hT1 : T1.length ≤ near.flatten.length := HST.out.lenT HUF.out
          clear HWE
          go_wp2
          go_loopw [3, 11, 15] (fun vl vm i wr => ∃ (L1 : List Int) (b : Bool) (k : Nat) (AL : Option Addr) (cL : Nat), k ≤ m.length ∧ vl = .slice AL (List.length L1) cL ∧ vm = .bool b ∧ i = .int .i64 (k : Nat) ∧ Hid (ComeSt l m fr L1 T1) ∧ Hid (IntsAt wr.heap.size wr AL L1) ∧ Hid (IntsAt wr.heap.size wr AT1 T1) ∧
            Hid (Went L T L1 T1 b (ClosedR l l.length L T ∧ ClosedL m k L T)) ∧ Hid (Below wo.heap.size wo wr)) (fun _ _ i _ => m.length - (intOf i).toNat)
          case atStart => exact ⟨L, b1, 0, AL, cL, Nat.zero_le _, rfl, rfl, rfl, HST, HILN, HIT, HW1, HBB⟩
          case round =>
            clear HW1 HST HILN HIT HBB
            obtain ⟨L1, b2, j, AL1, cL1, hj, rfl, rfl, rfl, HST, HILN, HIT, HWE, HBB⟩ := hrel
            have hL1 : L1.length ≤ near.length := by have := HST.out.lenL HFR.out HMLL.out; have := HLEN.out; omega
            by_cases hjl : j < m.length
            · obtain ⟨ad2, rfl, hx⟩ := (HMO.out.later HBB.out).cell j hjl
              have hmj : m[j]? = some m[j] := List.getElem?_eq_getElem hjl
              obtain ⟨x, hxe⟩ : ∃ x, x = m[j] := ⟨_, rfl⟩
              rw [← hxe] at hx hmj
              have HMJ := Lib.hid hmj
              clear hxe hmj
              by_cases h0 : 0 ≤ x
              · by_cases hxT : x ∈ T1
                · have HD := Lib.hid (has_near (q := true) cT1 T1 x wr HIT.out rfl (by omega) (decide_eq_true hxT))
                  by_cases hjL : (j : Int) ∈ L1
                  · have HE := Lib.hid (has_near (q := true) cL1 L1 (j : Int) wr HILN.out rfl (by omega) (decide_eq_true hjL))
                    have HW2 : Hid (Went L T L1 T1 b2 (ClosedR l l.length L T ∧ ClosedL m (j + 1) L T)) := HWE.out.same (fun e1 e2 h => ⟨h.1, h.2.add HMJ.out (fun _ _ => by rw [← e1]; exact hjL)⟩)
                    clear hxT hjL
                    go_wp2_with (first | (go_at_call 15; with_reducible refine HD.out.mono ?_; rintro e w' ⟨rfl, rfl⟩) | (go_at_call 15; with_reducible refine HE.out.mono ?_; rintro e w' ⟨rfl, rfl⟩))
                    go_roundw
                    case rel => exact ⟨L1, b2, j + 1, AL1, cL1, by omega, rfl, rfl, by go_num, HST, HILN, HIT, HW2, HBB⟩
                    case measure => simp [intOf]; omega
                  · have HE := Lib.hid (has_near (q := false) cL1 L1 (j : Int) wr HILN.out rfl (by omega) (decide_eq_false hjL))
                    have HG := Lib.hid (rise_near cL1 wr HILN.out rfl HST.out.up hjL (by omega))
                    have HXT := Lib.hid hxT
                    clear hxT hjL
                    go_wp2_with (first | (go_at_call 15; with_reducible refine HD.out.mono ?_; rintro e w' ⟨rfl, rfl⟩) | (go_at_call 15; with_reducible refine HE.out.mono ?_; rintro e w' ⟨rfl, rfl⟩) | (go_at_call 38; refine HG.out.mono ?_; rintro e w3 ⟨A3, c3, ys, rfl, hyl, hi3, hs3, hb3⟩; have HST3 := Lib.hid (HST.out.addL HOF.out HMJ.out h0 HXT.out hs3); have HI3 := Lib.hid hi3; have HIT3 := Lib.hid (HIT.out.later hb3).now; have HBB3 := Lib.hid (HBB.out.trans (hb3.mono HBB.out.size)); have HW3 : Hid (Went L T ys T1 true (ClosedR l l.length L T ∧ ClosedL m (j + 1) L T)) := (HWE.out.more (by omega)); clear hi3 hs3 hb3))
                    go_roundw
                    case rel => exact ⟨ys, true, j + 1, A3, c3, by omega, congrArg (fun q => Value.slice A3 q c3) hyl.symm, rfl, by go_num, HST3, HI3, HIT3, HW3, HBB3⟩
                    case measure => simp [intOf]; omega
                · have HD := Lib.hid (has_near (q := false) cT1 T1 x wr HIT.out rfl (by omega) (decide_eq_false hxT))
                  have HW2 : Hid (Went L T L1 T1 b2 (ClosedR l l.length L T ∧ ClosedL m (j + 1) L T)) := HWE.out.same (fun e1 e2 h => ⟨h.1, h.2.add HMJ.out (fun _ hT => absurd (e2 ▸ hT) hxT)⟩)
                  clear hxT
                  go_wp2_with (go_at_call 15; with_reducible refine HD.out.mono ?_; rintro e w' ⟨rfl, rfl⟩)
                  go_roundw
                  case rel => exact ⟨L1, b2, j + 1, AL1, cL1, by omega, rfl, rfl, by go_num, HST, HILN, HIT, HW2, HBB⟩
                  case measure => simp [intOf]; omega
              · have HW2 : Hid (Went L T L1 T1 b2 (ClosedR l l.length L T ∧ ClosedL m (j + 1) L T)) := HWE.out.same (fun e1 e2 h => ⟨h.1, h.2.add HMJ.out (fun h' _ => absurd h' h0)⟩)
                go_wp2
                go_roundw
                case rel => exact ⟨L1, b2, j + 1, AL1, cL1, by omega, rfl, rfl, by go_num, HST, HILN, HIT, HW2, HBB⟩
                case measure => simp [intOf]; omega
            · obtain rfl : j = m.length := by omega
              have HCL : Hid (b2 = false → ClosedR l l.length L1 T1 ∧ ClosedL m m.length L1 T1) := by
                intro e
                obtain ⟨e1, e2, h⟩ := HWE.out.2 e
                rw [e1, e2]
                exact h
              have hme : b2 = true → L.length + T.length < L1.length + T1.length := HWE.out.1
              have hme2 := HWE.out.le
              have HB2 := Lib.hid (HB.out.trans (HBB.out.mono HB.out.size))
              clear HWE
              go_wp2
              go_roundw
              case rel => exact ⟨L1, T1, b2, AL1, cL1, AT1, cT1, rfl, rfl, rfl, HST, HILN, HIT, HCL, HB2⟩
              case measure =>
                cases b2 with
                | true => have := hme rfl; simp [lenOf, oneOf, -List.length_flatten]; omega
                | false => simp [lenOf, oneOf, -List.length_flatten]; omega
end Go.Proofs.Ytopjfnkcmdifhaa
