/- The walks of within and Shorten. -/
import Derived.Test.YthnjjonjhenifaaWalks
namespace Go.Proofs.Ythnjjonjhenifaa
set_option linter.unusedVariables false
set_option linter.unusedSimpArgs false
open Go.RowKit Go.Sort

def withinB (why : List Int) (but : Int) (cl : List Int) : Bool := why.all fun n => decide (n = but) || decide (n ∈ cl)
set_option maxHeartbeats 600000 in
theorem within_any {B : Nat} {A A2 : Option Addr} {why cl : List Int} {n m : Nat} {r : Bool} (but : Int) (c c2 : Nat) (w : World) (h1 : IntsAt B w A why) (h2 : IntsAt B w A2 cl) (hn : why.length = n) (hm : cl.length = m) (hn1 : n ≤ 10000) (hm1 : m ≤ 10000) (hr : withinB why but cl = r) :
    Calls Try.prog 47 #[.slice A n c, .int .i64 but, .slice A2 m c2] w fun e w' => e = .returned (.bool r) ∧ w = w' := by
  subst hn
  have H1 := Lib.hid h1
  have HC : Hid (∀ x q, decide (x ∈ cl) = q → Calls Try.prog 44 #[.slice A2 m c2, .int .i64 x] w fun e w' => e = .returned (.bool q) ∧ w = w') := fun x q hq => contains_near c2 x h2 hm (by omega) hq
  have HR := Lib.hid hr
  clear h1 h2 hm hr
  go_enter Try.func47, Try.ntmps47
  go_wp2
  go_loop [11] (fun i => ∃ k : Nat, k ≤ why.length ∧ i = .int .i64 (k : Nat) ∧ Hid ((why.take k).all (fun n => decide (n = but) || decide (n ∈ cl)) = true)) (fun i => why.length - (intOf i).toNat)
  case atStart => exact ⟨0, Nat.zero_le _, rfl, by show _ = _; simp⟩
  case round =>
    obtain ⟨k, hk, rfl, HA⟩ := hrel
    by_cases hlt : k < why.length
    · obtain ⟨ad, rfl, hx⟩ := H1.out.cell k hlt
      obtain ⟨x, hxe⟩ : ∃ x, x = why[k] := ⟨_, rfl⟩
      rw [← hxe] at hx
      have HXE := Lib.hid hxe
      clear hxe
      by_cases he : x = but
      · have hb : (x != but) = false := by simpa using he
        have HA' : Hid ((why.take (k + 1)).all (fun n => decide (n = but) || decide (n ∈ cl)) = true) := all_take hlt HA.out (by rw [← HXE.out, decide_eq_true he]; rfl)
        clear he
        go_wp2
        go_round
        case rel => exact ⟨k + 1, by omega, by go_num, HA'⟩
        case measure => simp [intOf]; omega
      · have hb : (x != but) = true := by simpa using he
        cases hq : decide (x ∈ cl) with
        | true =>
          have HC1 := Lib.hid (HC.out x true hq)
          have HA' : Hid ((why.take (k + 1)).all (fun n => decide (n = but) || decide (n ∈ cl)) = true) := all_take hlt HA.out (by rw [← HXE.out, hq, Bool.or_true])
          clear he hq
          go_wp2_with (go_at_call 44; refine HC1.out.mono ?_; rintro e w' ⟨rfl, rfl⟩)
          go_round
          case rel => exact ⟨k + 1, by omega, by go_num, HA'⟩
          case measure => simp [intOf]; omega
        | false =>
          have HC1 := Lib.hid (HC.out x false hq)
          have HF : Hid (r = false) := by
            show _ = _
            rw [← HR.out]
            exact all_fails hlt (by rw [← HXE.out, decide_eq_false he, hq]; rfl)
          clear he hq
          go_wp2_with (go_at_call 44; refine HC1.out.mono ?_; rintro e w' ⟨rfl, rfl⟩)
          go_ret
          exact ⟨ret_bool HF.out.symm, rfl⟩
    · have HT : Hid (r = true) := by
        show _ = _
        rw [← HR.out]
        have := HA.out
        rwa [List.take_of_length_le (by omega)] at this
      go_wp2
      go_ret
      exact ⟨ret_bool HT.out.symm, rfl⟩

/-- slices.Delete of one element, at a slice that the call owns. -/
theorem delete_own {w : World} {base i : Nat} {A : Option Addr} {cap : Nat} {xs : List Int} (h : w.ownsRow base 3 1 (.slice A xs.length cap) xs.length (ints xs)) (hi : i < xs.length) :
    Calls Try.prog 48 #[.slice A xs.length cap, .int .i64 i, .int .i64 ((i : Int) + 1)] w fun r w' => r = .returned (.slice A (xs.length - 1) cap) ∧ w'.ownsRow base 3 1 (.slice A (xs.length - 1) cap) (xs.take i ++ xs.drop (i + 1)).length (ints (xs.take i ++ xs.drop (i + 1))) ∧ w.grownBy w' (Value.slice A xs.length cap).ownBlock := by
  rcases h.2 with ⟨e, h0⟩ | ⟨g, cap', cur, e, hg, hb, hc, hm, hs, ht⟩
  · omega
  · cases e
    rw [Nat.mul_one] at ht
    have hl : (xs.take i ++ xs.drop (i + 1)).length = xs.length - 1 := by rw [List.length_append, List.length_take, List.length_drop]; omega
    have hcon := Try.slices_Delete_int g 0 cap i (i + 1) xs w (holds_ints hb ht) hc (by unfold maxLen at hm; omega) (by omega) (by omega)
    rw [Int.natCast_add, show ((1 : Nat) : Int) = 1 from rfl] at hcon
    refine hcon.mono ?_
    rintro r w' ⟨rfl, q, rfl⟩
    have e2 : ∀ (ts : Array Int), putRow (Value.int .i64) (Sort.ahead w q) g 0 ts = grow (putRow (Value.int .i64) (Sort.ahead w q) g 0 ts) #[] := fun ts => by unfold grow; rw [Array.append_empty]
    rw [e2]
    have hone : i + 1 - i = 1 := by omega
    rw [hone]
    have := own_put (w := w) (n := q) (os := #[]) (ts := xs.take i ++ xs.drop (i + 1) ++ List.replicate 1 0) (zs := xs.take i ++ xs.drop (i + 1)) (by rw [List.length_append, hl, List.length_replicate, hs]; omega) (by rw [List.take_left']; rfl) hg hb (by rw [hl]; omega) hm hs
    refine ⟨rfl, ?_, grownBy_put _⟩
    rw [hl] at this ⊢
    exact this

/-! ### Shorten, in plain words -/
def shortStep (ms : List Mk) (c : List Int) (i : Nat) : List Int :=
  let m := atM ms (posI ms (c.getD i 0)).toNat
  if m.why ≠ [] ∧ withinB m.why m.lit c = true then c.take i ++ c.drop (i + 1) else c
def shortTo (ms : List Mk) : Nat → List Int → List Int
  | 0, c => c
  | i + 1, c => shortTo ms i (shortStep ms c i)
def shortP (ms : List Mk) (cl : List Int) : List Int := if falseB ms cl = true then shortTo ms (litSort cl).length (litSort cl) else litSort cl
theorem step_sub {ms : List Mk} {c : List Int} {i : Nat} : (shortStep ms c i).Sublist c := by
  unfold shortStep
  simp only
  split
  · have : (c.take i ++ c.drop (i + 1)).Sublist (c.take i ++ c.drop i) := List.Sublist.append_left (List.drop_sublist_drop_left c (by omega)) _
    rwa [List.take_append_drop] at this
  · exact List.Sublist.refl _
theorem step_len {ms : List Mk} {c : List Int} {i : Nat} (hi : i < c.length) : i ≤ (shortStep ms c i).length := by
  unfold shortStep
  simp only
  split
  · rw [List.length_append, List.length_take]; omega
  · omega
theorem Fal.sub {ms : List Mk} {c d : List Int} (h : Fal ms c) (hs : d.Sublist c) : Fal ms d :=
  ⟨h.right, List.Pairwise.sublist hs h.asc, fun q => h.nz (hs.subset q), fun x hx => h.r64 x (hs.subset hx), fun x hx => h.out x (hs.subset hx)⟩
theorem own_map {w : World} {base e m : Nat} {v : Value} {n : Nat} {xs : List Value} {f : Int → Option Value} (h : w.ownsRow base e 1 v n xs) (hm : MapV w m f) : some m ≠ v.ownBlock := by
  intro q
  rcases h.2 with ⟨rfl, _⟩ | ⟨g, cap, cur, rfl, _, hb, _⟩
  · cases q
  · cases q
    obtain ⟨es, ck, hb2, _⟩ := hm
    rw [hb] at hb2
    cases hb2

def ShortPost (ms : List Mk) (cl : List Int) (w : World) (e : Ending) (w' : World) : Prop :=
  ∃ A c, e = .returned (.slice A (shortP ms cl).length c) ∧ CapI w' A c (shortP ms cl) ∧ Below w.heap.size w w'
set_option maxRecDepth 100000 in
set_option maxHeartbeats 2000000 in
theorem shorten_any {A A2 : Option Addr} {ms : List Mk} {cl : List Int} {n : Nat} (c c2 : Nat) (w : World) (hM : MarksAt w.heap.size w A ms) (hI : IntsAt w.heap.size w A2 cl) (hz : Sized ms) (hn : cl.length = n) (hn1 : n ≤ 1000) (hr : ∀ x ∈ cl, R64 x) :
    Calls Try.prog 30 #[.slice A ms.length c, .slice A2 n c2] w (ShortPost ms cl w) := by
  have HM := Lib.hid hM
  have HI := Lib.hid hI
  have HN := Lib.hid hn
  have HZ := Lib.hid hz
  have hml := hz.1
  have HS := Lib.hid (litSort_any c2 w hI hn (Nat.le_trans hn1 (by decide)))
  have HSL : Hid ((litSort cl).length ≤ 1000) := Nat.le_trans (sort_len cl) (by omega)
  have HFC : Hid (∀ w1 q, Below w.heap.size w w1 → falseB ms cl = q → Calls Try.prog 14 #[.slice A ms.length c, .slice A2 n c2] w1 fun e w' => e = .returned (.bool q) ∧ Below w1.heap.size w1 w') := fun w1 q hb hq => false_any c c2 w1 ((hM.later hb).mono hb.size) ((hI.later hb).mono hb.size) hz hn hn1 hq
  have HFAL := Lib.hid (fun h => (fal_of hr h : Fal ms (litSort cl)))
  have HSP : Hid (shortP ms cl = if falseB ms cl = true then shortTo ms (litSort cl).length (litSort cl) else litSort cl) := rfl
  obtain ⟨S, hS⟩ : ∃ S, S = litSort cl := ⟨_, rfl⟩
  unfold LitPost at HS
  rw [← hS] at HS HSL HFAL HSP
  cases hf : falseB ms cl with
  | false =>
    have HF0 := Lib.hid (fun w1 hb => (HFC.out w1 false hb hf))
    have HE : Hid (S = shortP ms cl) := by show _ = _; rw [HSP.out, hf]; rfl
    clear hM hI hn hz hr hf hS HFC
    go_enter Try.func30, Try.ntmps30
    go_wp2_with (first
      | (go_at_call 32; refine HS.out.mono ?_; rintro e w2 ⟨A3, c3, rfl, ho3, hb3⟩; have HB2 := Lib.hid hb3; have HO2 := Lib.hid ho3; have HP := Lib.hid (places_any c w2 ((HM.out.later HB2.out).mono HB2.out.size) (Nat.le_trans hml (by decide))); clear ho3 hb3)
      | (go_at_call 33; refine HP.out.mono ?_; rintro e w3 ⟨m, rfl, hmw, hmv, hb4⟩; have HB3 := Lib.hid (HB2.out.trans (hb4.mono HB2.out.size)); have HO3 := Lib.hid (own_later HO2.out hb4); clear hmv hb4 hmw)
      | (go_at_call 14; refine (HF0.out _ HB3.out).mono ?_; rintro e w4 ⟨rfl, hb5⟩; have HB4 := Lib.hid (HB3.out.trans (hb5.mono HB3.out.size)); have HI4 := Lib.hid (own_cap (own_later HO3.out hb5)); clear hb5))
    go_ret
    exact ⟨A3, c3, congrArg (fun zs : List Int => Ending.returned (.slice A3 zs.length c3)) HE.out, by rw [← HE.out]; exact HI4.out, HB4.out⟩
  | true =>
    have HF0 := Lib.hid (fun w1 hb => (HFC.out w1 true hb hf))
    have HE : Hid (shortTo ms S.length S = shortP ms cl) := by show _ = _; rw [HSP.out, if_pos hf]
    have HFS := Lib.hid (HFAL.out hf)
    clear hM hI hn hz hr hf hS HFC
    go_enter Try.func30, Try.ntmps30
    go_wp2_with (first
      | (go_at_call 32; refine HS.out.mono ?_; rintro e w2 ⟨A3, c3, rfl, ho3, hb3⟩; have HB2 := Lib.hid hb3; have HO2 := Lib.hid ho3; have HP := Lib.hid (places_any c w2 ((HM.out.later HB2.out).mono HB2.out.size) (Nat.le_trans hml (by decide))); clear ho3 hb3)
      | (go_at_call 33; refine HP.out.mono ?_; rintro e w3 ⟨m, rfl, hmw, hmv, hb4⟩; have HB3 := Lib.hid (HB2.out.trans (hb4.mono HB2.out.size)); have HV3 := Lib.hid hmv; have HO3 := Lib.hid (own_later HO2.out hb4); clear hmv hb4 hmw)
      | (go_at_call 14; refine (HF0.out _ HB3.out).mono ?_; rintro e w4 ⟨rfl, hb5⟩; have HB4 := Lib.hid (HB3.out.trans (hb5.mono HB3.out.size)); have HO4 := Lib.hid (own_later HO3.out hb5); have HV4 := Lib.hid (HV3.out.below hb5 HV3.out.lt); have hsl := HSL.out; clear hb5))
    have HK0 : Hid (S.length ≤ S.length) := Nat.le_refl _
    have HSUB : Hid (S.length ≤ 1000) := HSL.out
    clear hsl
    go_loopw [5, 7] (fun v i wr => ∃ (k : Nat) (cc : List Int) (Ac : Option Addr) (cap : Nat) (wk : World), wk = wr ∧ v = .slice Ac cc.length cap ∧ i = .int .i64 ((k : Int) - 1) ∧ Hid (k ≤ cc.length) ∧ Hid (cc.length ≤ 1000) ∧ Hid (shortTo ms k cc = shortP ms cl) ∧ Hid (Fal ms cc) ∧ Hid (wk.ownsRow w.heap.size 3 1 (.slice Ac cc.length cap) cc.length (ints cc)) ∧ Hid (MapV wk m (mapF (placeF ms ms.length))) ∧ Hid (Below w.heap.size w wk)) (fun _ i _ => (intOf i + 1).toNat)
    case atStart => exact ⟨S.length, S, _, _, _, rfl, rfl, rfl, HK0, HSUB, HE, HFS, HO4, HV4, HB4⟩
    case round =>
      clear HK0 HSUB HE HFS HO4 HV4 HB4
      obtain ⟨k, cc, Ac, cap, wk, rfl, rfl, rfl, HK, HCL, HSH, HFA, HO, HV, HB⟩ := hrel
      cases k with
      | zero =>
        have HE : Hid (cc = shortP ms cl) := HSH.out
        have HI9 := Lib.hid (own_cap HO.out)
        rw [show ((0 : Nat) : Int) - 1 = -1 from rfl]
        go_wp2
        go_ret
        exact ⟨Ac, cap, congrArg (fun zs : List Int => Ending.returned (.slice Ac zs.length cap)) HE.out, by rw [← HE.out]; exact HI9.out, HB.out⟩
      | succ j =>
        rw [show ((j + 1 : Nat) : Int) - 1 = (j : Int) by omega]
        have hj : j < cc.length := HK.out
        have hcl := HCL.out
        obtain ⟨adc, rfl, hx⟩ := (own_ints HO.out).cell j hj
        obtain ⟨i, hi, hpi, _, _⟩ := HFA.out.pos (List.getElem_mem hj)
        have HSH2 : Hid (shortTo ms j (shortStep ms cc j) = shortP ms cl) := HSH.out
        have HST : Hid (shortStep ms cc j = if (atM ms i).why ≠ [] ∧ withinB (atM ms i).why (atM ms i).lit cc = true then cc.take j ++ cc.drop (j + 1) else cc) := by
          show _ = _
          unfold shortStep
          simp only
          rw [show cc.getD j 0 = cc[j] by simp [List.getD_eq_getElem?_getD, hj], hpi, Int.toNat_natCast]
        have HFN := Lib.hid (HFA.out.sub (step_sub (ms := ms) (c := cc) (i := j)))
        have HLN := Lib.hid (step_len (ms := ms) hj)
        have HCN : Hid ((shortStep ms cc j).length ≤ 1000) := Nat.le_trans step_sub.length_le hcl
        obtain ⟨x, hxe⟩ : ∃ x, x = cc[j] := ⟨_, rfl⟩
        rw [← hxe] at hx hpi
        have l1 := look_map1 HV.out (wrap64 (-x))
        have hp : (placeF ms ms.length (wrap64 (-x))).getD 0 = (i : Int) := hpi
        rw [hp] at l1
        obtain ⟨ad2, Aw, cw, rfl, _, h1, h2, h3, _, hiw⟩ := (HM.out.later HB.out) i hi
        have hwl := HZ.out.2 i hi
        obtain ⟨x1, hx1⟩ : ∃ x, x = (atM ms i).lit := ⟨_, rfl⟩
        obtain ⟨y1, hy1⟩ : ∃ y, y = (atM ms i).lev := ⟨_, rfl⟩
        obtain ⟨z1, hz1⟩ : ∃ z, z = (atM ms i).why := ⟨_, rfl⟩
        rw [← hx1] at h1 HST
        rw [← hy1] at h2
        rw [← hz1] at h3 hwl hiw HST
        have hba := alloc_below wk (.cells #[.int .i64 x1, .int .i64 y1, .slice Aw z1.length cw] 37)
        have HBA := Lib.hid (HB.out.trans (hba.mono HB.out.size))
        have HVA := Lib.hid (HV.out.alloc (.cells #[.int .i64 x1, .int .i64 y1, .slice Aw z1.length cw] 37))
        have HOA := Lib.hid (HO.out.alloc (.cells #[.int .i64 x1, .int .i64 y1, .slice Aw z1.length cw] 37))
        have HIW := Lib.hid ((hiw.later hba).mono (Nat.le_refl _)).now
        clear hxe hpi hp hx1 hy1 hz1 hiw hba
        obtain ⟨N, hN⟩ : ∃ N, N = shortStep ms cc j := ⟨_, rfl⟩
        rw [← hN] at HSH2 HST HFN HLN HCN
        clear hN
        by_cases hz : z1 = []
        · have hz2 : ¬ (0 : Int) < (z1.length : Int) := by rw [hz]; simp
          have hz3 : decide (0 < z1.length) = false := by rw [hz]; rfl
          have HNE : Hid (N = cc) := by show _ = _; rw [HST.out, if_neg (fun q => q.1 hz)]
          clear hz
          have he := HNE.out
          subst he
          go_wp2
          go_roundw
          case rel => exact ⟨j, N, _, _, _, rfl, rfl, rfl, HLN, HCN, HSH2, HFN, HOA, HVA, HBA⟩
          case measure => simp [intOf]
        · have hzp : 0 < z1.length := List.length_pos_iff.2 hz
          have hz2 : (0 : Int) < (z1.length : Int) := by omega
          have hz3 : decide (0 < z1.length) = true := decide_eq_true hzp
          obtain ⟨q, hq⟩ : ∃ q, withinB z1 x1 cc = q := ⟨_, rfl⟩
          have HWI := Lib.hid (within_any x1 cw cap _ HIW.out (own_ints HOA.out) rfl rfl (Nat.le_trans hwl (by decide)) (Nat.le_trans hcl (by decide)) hq)
          cases q with
          | false =>
            have HNE : Hid (N = cc) := by show _ = _; rw [HST.out, if_neg (fun p => by rw [hq] at p; cases p.2)]
            clear hz hq
            have he := HNE.out
            subst he
            go_wp2_with (go_at_call 47; refine HWI.out.mono ?_; rintro e w' ⟨rfl, rfl⟩)
            go_roundw
            case rel => exact ⟨j, N, _, _, _, rfl, rfl, rfl, HLN, HCN, HSH2, HFN, HOA, HVA, HBA⟩
            case measure => simp [intOf]
          | true =>
            have HNE : Hid (N = cc.take j ++ cc.drop (j + 1)) := by show _ = _; rw [HST.out, if_pos ⟨hz, hq⟩]
            have HNL : Hid (N.length = cc.length - 1) := by show _ = _; rw [HNE.out, List.length_append, List.length_take, List.length_drop]; omega
            have HD := Lib.hid (delete_own HOA.out hj)
            clear hz hq
            go_wp2_with (first
              | (go_at_call 47; refine HWI.out.mono ?_; rintro e w' ⟨rfl, rfl⟩)
              | (go_at_call 48; refine HD.out.mono ?_; rintro e w5 ⟨rfl, ho5, hg5⟩
                 have HB5 := Lib.hid (below_grown HBA.out hg5 HBA.out.size (own_ge HOA.out))
                 have HV5 := Lib.hid (HVA.out.grown hg5 (own_map HOA.out HVA.out))
                 have HO5 : Hid (w5.ownsRow w.heap.size 3 1 (.slice (some adc) N.length cap) N.length (ints N)) := (by show World.ownsRow _ _ _ _ _ _ _; rw [← HNE.out] at ho5; rw [HNL.out] at ho5 ⊢; exact ho5)
                 clear ho5 hg5))
            rw [← HNL.out]
            go_roundw
            case rel => exact ⟨j, N, _, _, _, rfl, rfl, rfl, HLN, HCN, HSH2, HFN, HO5, HV5, HB5⟩
            case measure => simp [intOf]
end Go.Proofs.Ythnjjonjhenifaa
