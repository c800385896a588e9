/- course.Right and the document's. -/
import Derived.Test.YtebpdlnknfjoaaaRow
import Derived.Test.YtebpdlnknfjoaaaMany
namespace Go.Proofs.Ytebpdlnknfjoaaa
set_option linter.unusedVariables false
set_option linter.unusedSimpArgs false
open Go.RowKit

set_option maxHeartbeats 800000 in
theorem rising_any {B : Nat} {A : Option Addr} {p : List Int} (n : Int) (c : Nat) (w : World) (hI : IntsAt B w A p) (hp : p.length ≤ 1000) :
    Calls Try.prog 32 #[.slice A p.length c, .int .i64 n] w fun e w' => e = .returned (.bool (riseB n (-1) p)) ∧ Below w.heap.size w w' := by
  have HI := Lib.hid hI
  clear hI
  go_enter Try.func32, Try.ntmps32
  go_wp2
  go_loopw [5] (fun i wr => ∃ (k : Nat) (l : Int), k ≤ p.length ∧ -1 ≤ l ∧ i = .int .i64 (k : Nat) ∧ Hid (∀ j (h : j < p.length), k = j + 1 → p[j] = l ∧ 0 ≤ l) ∧ Hid (riseB n (-1) p = riseB n l (p.drop k)) ∧ Hid (k = 0 → l = -1) ∧ Hid (Below w.heap.size w wr)) (fun i _ => p.length - (intOf i).toNat)
  case atStart => exact ⟨0, -1, Nat.zero_le _, by omega, rfl, (by intro j h e; omega), rfl, (fun _ => rfl), Below.refl _ _⟩
  case round =>
    obtain ⟨k, l, hk, hl1, rfl, HL, HQ, H0, HB⟩ := hrel
    by_cases hlt : k < p.length
    · obtain ⟨ad, rfl, hx⟩ := (HI.out.later HB.out).cell k hlt
      have hd : p.drop k = p[k] :: p.drop (k + 1) := List.drop_eq_getElem_cons hlt
      have hq := HQ.out
      rw [hd, riseB] at hq
      obtain ⟨x, hxe⟩ : ∃ x, x = p[k] := ⟨_, rfl⟩
      rw [← hxe] at hq hx
      have HXE := Lib.hid hxe
      clear hd hxe
      by_cases hx0 : x < 0
      · have hd1 : decide (x < 0) = true := decide_eq_true hx0
        have HF : Hid (riseB n (-1) p = false) := by
          show _ = _
          rw [hq, if_neg (by omega)]
        clear hq hx0
        go_wp2
        go_quiet (fail)
        go_wp2
        go_ret
        exact ⟨ret_bool HF.out.symm, below_drewN HB.out nq⟩
      · have hd1 : decide (x < 0) = false := decide_eq_false hx0
        by_cases hxn : n ≤ x
        · have hd2 : decide (n ≤ x) = true := decide_eq_true hxn
          have HF : Hid (riseB n (-1) p = false) := by
            show _ = _
            rw [hq, if_neg (by omega)]
          clear hq hx0 hxn
          go_wp2
          go_quiet (fail)
          go_wp2
          go_ret
          exact ⟨ret_bool HF.out.symm, below_drewN HB.out nq⟩
        · have hd2 : decide (n ≤ x) = false := decide_eq_false hxn
          by_cases hk0 : 0 < k
          · obtain ⟨hlk, hl0⟩ := HL.out (k - 1) (by omega) (by omega)
            obtain ⟨ad2, e2, hy⟩ := (HI.out.later HB.out).cell (k - 1) (by omega)
            cases e2
            rw [hlk] at hy
            obtain ⟨m, hmk⟩ : ∃ m, m = k - 1 := ⟨_, rfl⟩
            have hwr : IntKind.i64.wrap ((k : Int) - 1) = (m : Int) := by
              rw [IntWalk.i64_left, IntWalk.wrap64_in _ (by omega)]
              omega
            rw [← hmk] at hy
            have hmp : m < p.length := by omega
            have hd3 : decide (0 < k) = true := decide_eq_true hk0
            clear hmk hlk hk0
            by_cases hxl : x ≤ l
            · have hd4 : decide (x ≤ l) = true := decide_eq_true hxl
              have HF : Hid (riseB n (-1) p = false) := by
                show _ = _
                rw [hq, if_neg (by omega)]
              clear hq hx0 hxn hxl
              go_wp2
              go_quiet (fail)
              go_wp2
              go_ret
              exact ⟨ret_bool HF.out.symm, below_drewN HB.out nq⟩
            · have hd4 : decide (x ≤ l) = false := decide_eq_false hxl
              rw [if_pos (by omega)] at hq
              have HQ' : Hid (riseB n (-1) p = riseB n x (p.drop (k + 1))) := hq
              have HL' : Hid (∀ j (h : j < p.length), k + 1 = j + 1 → p[j] = x ∧ 0 ≤ x) := by
                intro j h e
                obtain rfl : j = k := by omega
                exact ⟨HXE.out.symm, by omega⟩
              have hx1 : -1 ≤ x := by omega
              clear hq hx0 hxn hxl
              go_wp2
              go_quiet (fail)
              go_wp2
              have HB' := Lib.hid (below_drewN HB.out nq)
              go_roundw
              case rel => exact ⟨k + 1, x, by omega, hx1, by go_num, HL', HQ', (by intro e; omega), HB'⟩
              case measure => simp [intOf]; omega
          · have hl := H0.out (by omega)
            rw [if_pos (by omega)] at hq
            have HQ' : Hid (riseB n (-1) p = riseB n x (p.drop (k + 1))) := hq
            have HL' : Hid (∀ j (h : j < p.length), k + 1 = j + 1 → p[j] = x ∧ 0 ≤ x) := by
              intro j h e
              obtain rfl : j = k := by omega
              exact ⟨HXE.out.symm, by omega⟩
            have hx1 : -1 ≤ x := by omega
            have hd3 : decide (0 < k) = false := decide_eq_false hk0
            clear hq hx0 hxn hl hk0
            go_wp2
            go_quiet (fail)
            go_wp2
            have HB' := Lib.hid (below_drewN HB.out nq)
            go_roundw
            case rel => exact ⟨k + 1, x, by omega, hx1, by go_num, HL', HQ', (by intro e; omega), HB'⟩
            case measure => simp [intOf]; omega
    · have HT : Hid (riseB n (-1) p = true) := by
        have hq := HQ.out
        rw [List.drop_eq_nil_of_le (by omega)] at hq
        exact hq
      go_wp2
      go_ret
      exact ⟨ret_bool HT.out.symm, HB.out⟩
end Go.Proofs.Ytebpdlnknfjoaaa
