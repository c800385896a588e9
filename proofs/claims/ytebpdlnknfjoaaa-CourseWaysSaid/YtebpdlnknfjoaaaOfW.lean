/- The walk of the law's of: is a load one of a way that holds together? -/
import Derived.Test.YtebpdlnknfjoaaaHoldsW
namespace Go.Proofs.Ytebpdlnknfjoaaa
set_option linter.unusedVariables false
set_option linter.unusedSimpArgs false
open Go.RowKit

/-- The i-th class of the load fits the way. -/
def atOk (os : List Int) (ps : List (List Int)) (load : List Int) (i : Nat) : Bool :=
  decide (0 ≤ load.getD i 0) && decide (load.getD i 0 < os.length) && decide (load.getD i 0 ∈ ps.getD i []) &&
    (List.range ps.length).all fun k => !(decide (os.getD (load.getD i 0).toNat 0 ∈ ps.getD k [])) || decide (load.getD k 0 = os.getD (load.getD i 0).toNat 0)
def ofB (os : List Int) (ps : List (List Int)) (load : List Int) : Bool := decide (load.length = ps.length) && (List.range load.length).all (atOk os ps load)

theorem range_take {n k : Nat} (h : k ≤ n) : (List.range n).take k = List.range k := by
  apply List.ext_getElem?
  intro i
  by_cases hi : i < k
  · rw [List.getElem?_take_of_lt hi]
    simp [show i < n by omega, hi]
  · rw [List.getElem?_take_eq_none (by omega), List.getElem?_eq_none (by simp; omega)]
theorem all_range {f : Nat → Bool} {n k : Nat} (h : k < n) (h1 : (List.range k).all f = true) (h2 : f k = true) : (List.range (k + 1)).all f = true := by
  rw [List.range_succ, List.all_append, h1]
  simp [h2]
theorem all_range_no {f : Nat → Bool} {n k : Nat} (h : k < n) (h2 : f k = false) : (List.range n).all f = false := by
  rw [Bool.eq_false_iff]
  intro q
  rw [List.all_eq_true.1 q k (List.mem_range.2 h)] at h2
  cases h2
theorem getD_ints {xs : List Int} {k : Nat} (hk : k < xs.length) : xs.getD k 0 = xs[k] := by simp [List.getD_eq_getElem?_getD, List.getElem?_eq_getElem hk]
theorem getD_rows {xs : List (List Int)} {k : Nat} (hk : k < xs.length) : xs.getD k [] = xs[k] := by simp [List.getD_eq_getElem?_getD, List.getElem?_eq_getElem hk]

set_option maxRecDepth 100000 in
set_option maxHeartbeats 1000000 in
theorem of_any {A A1 A2 : Option Addr} {os load : List Int} {ps : List (List Int)} {q : Bool} (c c1 c2 : Nat) (w : World) (hO : OversAt w.heap.size w A os) (hR : RowsAt w.heap.size w A1 ps) (hI : IntsAt w.heap.size w A2 load)
    (hl : load.length ≤ 1000) (hp : ps.length ≤ 1000) (hpp : ∀ p ∈ ps, p.length ≤ 1000) (hos : os.length ≤ 1000) (hq : ofB os ps load = q) :
    Calls Try.prog 25 #[.slice A os.length c, .agg #[.slice A1 ps.length c1], .slice A2 load.length c2] w fun e w' => e = .returned (.bool q) ∧ Below w.heap.size w w' := by
  have HB0 := Lib.hid (alloc_below w (.cells #[.slice A1 ps.length c1] 42))
  have HBX : Hid ((w.alloc (.cells #[.slice A1 ps.length c1] 42)).cell? ⟨w.heap.size, 0, none⟩ = some (.slice A1 ps.length c1)) := by show _ = _; exact cell_one (alloc_new _ _)
  obtain ⟨W, hW⟩ : ∃ W, W = w.alloc (.cells #[.slice A1 ps.length c1] 42) := ⟨_, rfl⟩
  have HO := Lib.hid ((hO.later HB0.out).now)
  have HR := Lib.hid ((hR.later HB0.out).now)
  have HI := Lib.hid ((hI.later HB0.out).now)
  have HPP := Lib.hid hpp
  have HQ := Lib.hid hq
  rw [← hW] at HB0 HO HR HI HBX
  clear hO hR hI hpp hq
  by_cases hlen : load.length = ps.length
  case neg =>
    have hl1 : ((load.length : Int) != (ps.length : Int)) = true := by simp; omega
    have HF : Hid (q = false) := by show _ = _; rw [← HQ.out]; unfold ofB; rw [decide_eq_false hlen]; rfl
    have hbx := HBX.out
    clear hlen
    subst hW
    go_enter Try.func25, Try.ntmps25
    go_wp2
    go_ret
    exact ⟨ret_bool HF.out.symm, HB0.out⟩
  have hl1 : ((load.length : Int) != (ps.length : Int)) = false := by simp [hlen]
  have HLEN := Lib.hid hlen
  have HQ2 : Hid ((List.range load.length).all (atOk os ps load) = q) := by
    show _ = _
    rw [← HQ.out]
    unfold ofB
    rw [decide_eq_true hlen, Bool.true_and]
  have hbx := HBX.out
  clear hlen HQ
  subst hW
  go_enter Try.func25, Try.ntmps25
  go_wp2
  obtain ⟨W, hW⟩ : ∃ W, W = w.alloc (.cells #[.slice A1 ps.length c1] 42) := ⟨_, rfl⟩
  rw [← hW] at HB0 HO HR HI HBX ⊢
  clear hW hbx
  go_loopw [7] (fun i wr => ∃ (k : Nat) (wk : World), wk = wr ∧ k ≤ load.length ∧ i = .int .i64 (k : Nat) ∧ Hid ((List.range k).all (atOk os ps load) = true) ∧ Hid (Below W.heap.size W wk)) (fun i _ => load.length - (intOf i).toNat)
  case atStart => exact ⟨0, _, rfl, Nat.zero_le _, rfl, by show _ = _; rfl, Below.refl _ _⟩
  case round =>
    obtain ⟨k, wk, rfl, hk, rfl, HA, HB⟩ := hrel
    by_cases hlt : k < load.length
    · have hltp : k < ps.length := by have := HLEN.out; omega
      have hltp' : (k : Int) < (ps.length : Int) := by omega
      have hbx := cell_later HBX.out HB.out
      obtain ⟨ad2, rfl, hx⟩ := (HI.out.later HB.out).cell k hlt
      obtain ⟨ad3, A3, c3, rfl, hc3, _, hia⟩ := (HR.out.later HB.out).row k hltp
      have hpl := HPP.out _ (List.getElem_mem hltp)
      have HAT : Hid (∀ r, atOk os ps load k = r → r = false → q = false) := by
        intro r h1 h2
        rw [← HQ2.out]
        exact all_range_no hlt (h1.trans h2)
      have hge := getD_ints hlt
      have hpe := getD_rows hltp
      obtain ⟨x, hxe⟩ : ∃ x, x = load[k] := ⟨_, rfl⟩
      obtain ⟨p, hpp⟩ : ∃ p, p = ps[k] := ⟨_, rfl⟩
      rw [← hxe] at hx hge
      rw [← hpp] at hc3 hia hpl hpe
      have HGE := Lib.hid hge
      have HPE := Lib.hid hpe
      clear hxe hpp hge hpe
      by_cases hx0 : x < 0
      · have hd : decide (x < 0) = true := decide_eq_true hx0
        have HF : Hid (q = false) := HAT.out false (by unfold atOk; rw [HGE.out, decide_eq_false (show ¬ 0 ≤ x by omega)]; rfl) rfl
        clear hia
        go_wp2
        go_quiet (fail)
        go_wp2
        go_ret
        exact ⟨ret_bool HF.out.symm, HB0.out.trans ((below_drewN HB.out nq).mono HB0.out.size)⟩
      · have hd : decide (x < 0) = false := decide_eq_false hx0
        by_cases hx1 : (os.length : Int) ≤ x
        · have hd2 : decide ((os.length : Int) ≤ x) = true := decide_eq_true hx1
          have HF : Hid (q = false) := HAT.out false (by unfold atOk; rw [HGE.out, decide_eq_false (show ¬ x < (os.length : Int) by omega), Bool.and_false]; rfl) rfl
          clear hia
          go_wp2
          go_quiet (fail)
          go_wp2
          go_ret
          exact ⟨ret_bool HF.out.symm, HB0.out.trans ((below_drewN HB.out nq).mono HB0.out.size)⟩
        · have hd2 : decide ((os.length : Int) ≤ x) = false := decide_eq_false hx1
          obtain ⟨b, hb⟩ : ∃ b, b = decide (x ∈ p) := ⟨_, rfl⟩
          have HT := Lib.hid (show ∀ (w2 : World), w2.heap = wk.heap → Calls Try.prog 33 #[.slice A3 p.length c3, .int .i64 x] w2 (fun e w' => e = .returned (.bool b) ∧ w' = w2) from fun w2 e => (has_near (B := W.heap.size) c3 p x w2 (hia.move (fun b _ _ => by rw [e])) rfl hpl hb.symm).mono fun _ _ h => ⟨h.1, h.2.symm⟩)
          have HBE := Lib.hid hb
          clear hia hb
          cases b with
          | false =>
            have HF : Hid (q = false) := HAT.out false (by unfold atOk; rw [HGE.out, HPE.out, ← HBE.out, Bool.and_false]; rfl) rfl
            go_wp2
            go_quiet ((refine Calls.quiet_of_same (HT.out _ ?_); rfl))
            go_wp2
            go_ret
            exact ⟨ret_bool HF.out.symm, HB0.out.trans ((below_drewN HB.out nq).mono HB0.out.size)⟩
          | true =>
            obtain ⟨m, rfl⟩ : ∃ m : Nat, x = m := ⟨x.toNat, by omega⟩
            have hm : m < os.length := by omega
            have hdm : decide (os.length ≤ m) = false := decide_eq_false (by omega)
            obtain ⟨ad, rfl, hc⟩ := (HO.out.later HB.out).over m hm
            obtain ⟨o, ho⟩ : ∃ o, o = os[m] := ⟨_, rfl⟩
            rw [← ho] at hc
            have HOE : Hid (os.getD (m : Int).toNat 0 = o) := by show _ = _; rw [Int.toNat_natCast, getD_at hm, ho]
            have HIN : Hid (atOk os ps load k = (List.range ps.length).all fun j => !(decide (o ∈ ps.getD j [])) || decide (load.getD j 0 = o)) := by
              show _ = _
              unfold atOk
              rw [HGE.out, HPE.out, ← HBE.out, HOE.out, decide_eq_true (show (0 : Int) ≤ m by omega), decide_eq_true (show (m : Int) < os.length by omega)]
              simp
            clear ho hx0 hx1
            go_wp2
            go_quiet ((refine Calls.quiet_of_same (HT.out _ ?_); rfl))
            go_wp2
            have HBQ : Hid (Below W.heap.size W (wk.drewN nq)) := below_drewN HB.out nq
            have hbx : (wk.drewN nq).cell? ⟨w.heap.size, 0, none⟩ = some (.slice (some ad3) ps.length c1) := cell_later HBX.out HBQ.out
            have hc2 : (wk.drewN nq).cell? ⟨(ad.add (m * 7)).block, (ad.add (m * 7)).off + 6, none⟩ = some (.int .i64 o) := hc
            have hx2 : (wk.drewN nq).cell? (ad2.add k) = some (.int .i64 (m : Nat)) := hx
            generalize wk.drewN nq = wq at HBQ hbx hc2 hx2 ⊢
            clear hc hx hc3 HT
            go_wp2
            go_loop [9] (fun i => ∃ j : Nat, j ≤ ps.length ∧ i = .int .i64 (j : Nat) ∧ Hid ((List.range j).all (fun j => !(decide (o ∈ ps.getD j [])) || decide (load.getD j 0 = o)) = true)) (fun i => ps.length - (intOf i).toNat)
            case atStart => exact ⟨0, Nat.zero_le _, rfl, by show _ = _; rfl⟩
            case round =>
              obtain ⟨j, hj, rfl, HJ⟩ := hrel
              by_cases hjl : j < ps.length
              · have hjlo : j < load.length := by have := HLEN.out; omega
                have hjlo' : (j : Int) < (load.length : Int) := by omega
                obtain ⟨ad4, A4, c4, e4, hc4, _, hia4⟩ := (HR.out.later HBQ.out).row j hjl
                cases e4
                obtain ⟨ad5, e5, hx5⟩ := (HI.out.later HBQ.out).cell j hjlo
                cases e5
                have hpl4 := HPP.out _ (List.getElem_mem hjl)
                have hg4 := getD_rows hjl
                have hg5 := getD_ints hjlo
                obtain ⟨p4, hp4⟩ : ∃ p4, p4 = ps[j] := ⟨_, rfl⟩
                obtain ⟨y, hy⟩ : ∃ y, y = load[j] := ⟨_, rfl⟩
                rw [← hp4] at hc4 hia4 hpl4 hg4
                rw [← hy] at hx5 hg5
                have HG4 := Lib.hid hg4
                have HG5 := Lib.hid hg5
                clear hp4 hy hg4 hg5
                cases h1 : decide (o ∈ p4) with
                | false =>
                  have HC1 := Lib.hid (has_near c4 p4 o wq hia4 rfl hpl4 h1)
                  have HJ' : Hid ((List.range (j + 1)).all (fun j => !(decide (o ∈ ps.getD j [])) || decide (load.getD j 0 = o)) = true) := all_range hjl HJ.out (by rw [HG4.out, h1]; rfl)
                  clear hia4 h1
                  go_wp2_with (go_at_call 33; refine HC1.out.mono ?_; rintro e w' ⟨rfl, rfl⟩)
                  go_round
                  case rel => exact ⟨j + 1, by omega, by go_num, HJ'⟩
                  case measure => simp [intOf]; omega
                | true =>
                  have HC1 := Lib.hid (has_near c4 p4 o wq hia4 rfl hpl4 h1)
                  by_cases hyo : y = o
                  · have HJ' : Hid ((List.range (j + 1)).all (fun j => !(decide (o ∈ ps.getD j [])) || decide (load.getD j 0 = o)) = true) := all_range hjl HJ.out (by rw [HG5.out, decide_eq_true hyo, Bool.or_true])
                    subst hyo
                    clear hia4 h1
                    go_wp2_with (go_at_call 33; refine HC1.out.mono ?_; rintro e w' ⟨rfl, rfl⟩)
                    go_round
                    case rel => exact ⟨j + 1, by omega, by go_num, HJ'⟩
                    case measure => simp [intOf]; omega
                  · have hne : (y != o) = true := by simpa using hyo
                    have HF : Hid (q = false) := HAT.out false (by
                      rw [HIN.out]
                      refine all_range_no hjl ?_
                      rw [HG4.out, HG5.out, h1, decide_eq_false hyo]
                      rfl) rfl
                    clear hia4 h1 hyo
                    go_wp2_with (go_at_call 33; refine HC1.out.mono ?_; rintro e w' ⟨rfl, rfl⟩)
                    go_ret
                    exact ⟨ret_bool HF.out.symm, HB0.out.trans (HBQ.out.mono HB0.out.size)⟩
              · have HA' : Hid ((List.range (k + 1)).all (atOk os ps load) = true) := all_range hlt HA.out (by
                  rw [HIN.out]
                  have := HJ.out
                  rwa [show j = ps.length by omega] at this)
                go_wp2
                go_roundw
                case rel => exact ⟨k + 1, _, rfl, by omega, by go_num, HA', HBQ⟩
                case measure => simp [intOf]; omega
    · have HT : Hid (q = true) := by
        show _ = _
        rw [← HQ2.out]
        have := HA.out
        rwa [show k = load.length by omega] at this
      go_wp2
      go_ret
      exact ⟨ret_bool HT.out.symm, HB0.out.trans (HB.out.mono HB0.out.size)⟩
end Go.Proofs.Ytebpdlnknfjoaaa
