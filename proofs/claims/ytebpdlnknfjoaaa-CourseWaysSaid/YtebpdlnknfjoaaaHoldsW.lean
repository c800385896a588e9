/- The walk of the document's holds. -/
import Derived.Test.YtebpdlnknfjoaaaAllW
import Derived.Test.YtebpdlnknfjoaaaOver
namespace Go.Proofs.Ytebpdlnknfjoaaa
set_option linter.unusedVariables false
set_option linter.unusedSimpArgs false
open Go.RowKit

def partOk (o : Int) (load p : List Int) : Bool := !(decide (o ∈ p)) || decide (o ∈ load)
def refHold (os : List Int) (ps : List (List Int)) (load : List Int) : Bool := load.all fun x => ps.all fun p => partOk (os.getD x.toNat 0) load p

set_option maxRecDepth 100000 in
set_option maxHeartbeats 600000 in
theorem refHolds_any {A A1 A2 : Option Addr} {os load : List Int} {ps : List (List Int)} {q : Bool} (c c1 c2 : Nat) (w : World) (hO : OversAt w.heap.size w A os) (hR : RowsAt w.heap.size w A1 ps) (hI : IntsAt w.heap.size w A2 load) (hin : ∀ x ∈ load, 0 ≤ x ∧ x < os.length)
    (hl : load.length ≤ 1000) (hp : ps.length ≤ 1000) (hpp : ∀ p ∈ ps, p.length ≤ 1000) (hos : os.length ≤ 1000) (hq : refHold os ps load = q) :
    Calls Try.prog 43 #[.slice A os.length c, .agg #[.slice A1 ps.length c1], .slice A2 load.length c2] w fun e w' => e = .returned (.bool q) ∧ Below w.heap.size w w' := by
  have HB0 := Lib.hid (alloc_below w (.cells #[.slice A1 ps.length c1] 42))
  obtain ⟨W, hW⟩ : ∃ W, W = w.alloc (.cells #[.slice A1 ps.length c1] 42) := ⟨_, rfl⟩
  have HO := Lib.hid ((hO.later HB0.out).now)
  have HR := Lib.hid ((hR.later HB0.out).now)
  have HI := Lib.hid ((hI.later HB0.out).now)
  have HIN := Lib.hid hin
  have HPP := Lib.hid hpp
  have HQ := Lib.hid hq
  clear hO hR hI hin hpp hq
  have hbx : (w.alloc (.cells #[.slice A1 ps.length c1] 42)).cell? ⟨w.heap.size, 0, none⟩ = some (.slice A1 ps.length c1) := by simp [go_sem]
  rw [← hW] at HB0 HO HR HI hbx
  clear hbx
  have HBX : Hid (W.cell? ⟨w.heap.size, 0, none⟩ = some (.slice A1 ps.length c1)) := by show _ = _; rw [hW]; exact cell_one (alloc_new _ _)
  subst hW
  go_enter Try.func43, Try.ntmps43
  go_wp2
  go_loop [7] (fun i => ∃ k : Nat, k ≤ load.length ∧ i = .int .i64 (k : Nat) ∧ Hid ((load.take k).all (fun x => ps.all fun p => partOk (os.getD x.toNat 0) load p) = true)) (fun i => load.length - (intOf i).toNat)
  case atStart => exact ⟨0, Nat.zero_le _, rfl, by show _ = _; simp⟩
  case round =>
    obtain ⟨k, hk, rfl, HA⟩ := hrel
    by_cases hlt : k < load.length
    · obtain ⟨ad2, rfl, hx⟩ := HI.out.cell k hlt
      obtain ⟨hx0, hx1⟩ := HIN.out _ (List.getElem_mem hlt)
      obtain ⟨x, hxe⟩ : ∃ x, x = load[k] := ⟨_, rfl⟩
      rw [← hxe] at hx hx0 hx1
      have HXE := Lib.hid hxe
      obtain ⟨m, rfl⟩ : ∃ m : Nat, x = m := ⟨x.toNat, by omega⟩
      have hm : m < os.length := by omega
      obtain ⟨ad, rfl, hc⟩ := HO.out.over m hm
      obtain ⟨o, ho⟩ : ∃ o, o = os[m] := ⟨_, rfl⟩
      rw [← ho] at hc
      have HOE : Hid (os.getD (m : Int).toNat 0 = o) := by show _ = _; rw [Int.toNat_natCast, getD_at hm, ho]
      have hbx := HBX.out
      clear hxe ho hx0 hx1
      go_wp2
      go_loop [9] (fun i => ∃ j : Nat, j ≤ ps.length ∧ i = .int .i64 (j : Nat) ∧ Hid ((ps.take j).all (fun p => partOk o load p) = true)) (fun i => ps.length - (intOf i).toNat)
      case atStart => exact ⟨0, Nat.zero_le _, rfl, by show _ = _; simp⟩
      case round =>
        obtain ⟨j, hj, rfl, HJ⟩ := hrel
        by_cases hjl : j < ps.length
        · obtain ⟨ad3, A3, c3, rfl, hc3, hl3, hia⟩ := HR.out.row j hjl
          have hpl := HPP.out _ (List.getElem_mem hjl)
          obtain ⟨p, hpe⟩ : ∃ p, p = ps[j] := ⟨_, rfl⟩
          rw [← hpe] at hc3 hia hpl
          have HPE := Lib.hid hpe
          cases h1 : decide (o ∈ p) with
          | false =>
            have HC1 := Lib.hid (has_near c3 p o _ hia rfl hpl h1)
            have HJ' : Hid ((ps.take (j + 1)).all (fun p => partOk o load p) = true) := all_take hjl HJ.out (by rw [← HPE.out]; unfold partOk; rw [h1]; rfl)
            clear hia hpe h1
            go_wp2_with (go_at_call 33; refine HC1.out.mono ?_; rintro e w' ⟨rfl, rfl⟩)
            go_round
            case rel => exact ⟨j + 1, by omega, by go_num, HJ'⟩
            case measure => simp [intOf]; omega
          | true =>
            have HC1 := Lib.hid (has_near c3 p o _ hia rfl hpl h1)
            cases h2 : decide (o ∈ load) with
            | true =>
              have HC2 := Lib.hid (has_near c2 load o _ HI.out rfl hl h2)
              have HJ' : Hid ((ps.take (j + 1)).all (fun p => partOk o load p) = true) := all_take hjl HJ.out (by rw [← HPE.out]; unfold partOk; rw [h1, h2]; rfl)
              clear hia hpe h1 h2
              go_wp2_with (go_at_call 33; first | ((with_reducible refine HC1.out.mono ?_); rintro e w1 ⟨rfl, rfl⟩) | ((with_reducible refine HC2.out.mono ?_); rintro e w1 ⟨rfl, rfl⟩))
              go_round
              case rel => exact ⟨j + 1, by omega, by go_num, HJ'⟩
              case measure => simp [intOf]; omega
            | false =>
              have HC2 := Lib.hid (has_near c2 load o _ HI.out rfl hl h2)
              have HF : Hid (refHold os ps load = false) := all_fails hlt (by
                rw [← HXE.out]
                refine all_fails hjl ?_
                rw [← HPE.out, HOE.out]
                unfold partOk
                rw [h1, h2]
                rfl)
              clear hia hpe h1 h2
              go_wp2_with (go_at_call 33; first | ((with_reducible refine HC1.out.mono ?_); rintro e w1 ⟨rfl, rfl⟩) | ((with_reducible refine HC2.out.mono ?_); rintro e w1 ⟨rfl, rfl⟩))
              go_ret
              exact ⟨ret_bool (by rw [← HQ.out, HF.out]), HB0.out⟩
        · have HA' : Hid ((load.take (k + 1)).all (fun x => ps.all fun p => partOk (os.getD x.toNat 0) load p) = true) := all_take hlt HA.out (by
            rw [← HXE.out, HOE.out]
            have := HJ.out
            rwa [List.take_of_length_le (by omega)] at this)
          go_wp2
          go_round
          case rel => exact ⟨k + 1, by omega, by go_num, HA'⟩
          case measure => simp [intOf]; omega
    · have HT : Hid (refHold os ps load = true) := by
        have := HA.out
        rwa [List.take_of_length_le (by omega)] at this
      go_wp2
      go_ret
      exact ⟨ret_bool (by rw [← HQ.out, HT.out]), HB0.out⟩
end Go.Proofs.Ytebpdlnknfjoaaa
