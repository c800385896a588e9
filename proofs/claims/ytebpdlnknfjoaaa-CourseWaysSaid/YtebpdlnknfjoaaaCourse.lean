/- Courses and classes, as a world holds them. -/
import Derived.Test.YtebpdlnknfjoaaaOwn
import Derived.Test.YtebpdlnknfjoaaaHas
namespace Go.Proofs.Ytebpdlnknfjoaaa
set_option linter.unusedVariables false
set_option linter.unusedSimpArgs false
open Go.RowKit

/-- The ways behind an address, all in blocks below B. -/
def WaysAt (B : Nat) (w : World) (A : Option Addr) (ws : List (List (List Int))) : Prop :=
  ∀ i (h : i < ws.length), ∃ ad A' c', A = some ad ∧ ad.block < B ∧ w.cell? (ad.add i) = some (.slice A' ws[i].length c') ∧ ws[i].length ≤ c' ∧ RowsAt B w A' ws[i]
/-- The classes behind an address: what each one's Over is. -/
def OversAt (B : Nat) (w : World) (A : Option Addr) (os : List Int) : Prop :=
  ∀ i (h : i < os.length), ∃ ad, A = some ad ∧ ad.block < B ∧ w.cell? (ad.add (i * 7 + 6)) = some (.int .i64 os[i])

section
variable {B B' : Nat} {w w' : World} {A : Option Addr} {ws : List (List (List Int))} {os : List Int}
theorem WaysAt.mono (h : WaysAt B w A ws) (hB : B ≤ B') : WaysAt B' w A ws := fun i hi =>
  let ⟨ad, A', c', e, hb, hc, hl, hi'⟩ := h i hi; ⟨ad, A', c', e, Nat.lt_of_lt_of_le hb hB, hc, hl, hi'.mono hB⟩
theorem WaysAt.later (h : WaysAt B w A ws) (hb : Below w.heap.size w w') : WaysAt B w' A ws := fun i hi =>
  let ⟨ad, A', c', e, hb', hc, hl, hi'⟩ := h i hi
  ⟨ad, A', c', e, hb', by rw [← hc]; exact World.cell?_of_block (hb.block _ (cell_lt hc)), hl, hi'.later hb⟩
theorem WaysAt.now (h : WaysAt B w A ws) : WaysAt w.heap.size w A ws := fun i hi =>
  let ⟨ad, A', c', e, hb, hc, hl, hi'⟩ := h i hi; ⟨ad, A', c', e, by have := cell_lt hc; rwa [add_block] at this, hc, hl, hi'.now⟩
theorem OversAt.mono (h : OversAt B w A os) (hB : B ≤ B') : OversAt B' w A os := fun i hi =>
  let ⟨ad, e, hb, hc⟩ := h i hi; ⟨ad, e, Nat.lt_of_lt_of_le hb hB, hc⟩
theorem OversAt.later (h : OversAt B w A os) (hb : Below w.heap.size w w') : OversAt B w' A os := fun i hi =>
  let ⟨ad, e, hb', hc⟩ := h i hi
  ⟨ad, e, hb', by rw [← hc]; exact World.cell?_of_block (hb.block _ (cell_lt hc))⟩
theorem OversAt.now (h : OversAt B w A os) : OversAt w.heap.size w A os := fun i hi =>
  let ⟨ad, e, hb, hc⟩ := h i hi; ⟨ad, e, by have := cell_lt hc; rwa [add_block] at this, hc⟩
end

/-- Few ways, few parts, few classes. -/
def fewB (ws : List (List (List Int))) : Bool := decide (ws.length ≤ 6) && ws.all fun ps => decide (ps.length ≤ 6) && ps.all fun p => decide (p.length ≤ 10)

theorem all_take {α : Type} {p : α → Bool} {xs : List α} {k : Nat} (hk : k < xs.length) (h : (xs.take k).all p = true) (hx : p xs[k] = true) : (xs.take (k + 1)).all p = true := by
  rw [List.take_succ_eq_append_getElem hk, List.all_append, h]
  simp [hx]
theorem all_fails {α : Type} {p : α → Bool} {xs : List α} {k : Nat} (hk : k < xs.length) (hx : p xs[k] = false) : xs.all p = false := by
  rw [Bool.eq_false_iff]
  intro h
  rw [List.all_eq_true.1 h _ (List.getElem_mem hk)] at hx
  cases hx

set_option maxHeartbeats 400000 in
theorem few_any {B : Nat} {A : Option Addr} {ws : List (List (List Int))} (name : ByteArray) (c : Nat) (w : World) (hW : WaysAt B w A ws) :
    Calls Try.prog 9 #[.agg #[.string name, .slice A ws.length c]] w fun e w' => e = .returned (.bool (fewB ws)) ∧ Below w.heap.size w w' := by
  have HB := Lib.hid (alloc_below w (.cells #[.string name, .slice A ws.length c] 24))
  have HW := Lib.hid (hW.later HB.out)
  clear hW
  by_cases h6 : ws.length ≤ 6
  · go_enter Try.func9, Try.ntmps9
    go_wp2
    go_loop [3] (fun i => ∃ k, k ≤ ws.length ∧ i = .int .i64 (k : Nat) ∧ Hid ((ws.take k).all (fun ps => decide (ps.length ≤ 6) && ps.all fun p => decide (p.length ≤ 10)) = true)) (fun i => ws.length - (intOf i).toNat)
    case atStart => exact ⟨0, Nat.zero_le _, rfl, by show _ = _; simp⟩
    case round =>
      obtain ⟨k, hk, rfl, HA⟩ := hrel
      by_cases hlt : k < ws.length
      · obtain ⟨ad, A1, c1, rfl, _, hc1, hl1, hR⟩ := HW.out k hlt
        have HR := Lib.hid hR
        obtain ⟨ps, hps⟩ : ∃ ps, ps = ws[k] := ⟨_, rfl⟩
        rw [← hps] at hc1 HR
        have HP := Lib.hid hps
        clear hps hl1 hR
        by_cases hp6 : ps.length ≤ 6
        · go_wp2
          go_loop [4] (fun i => ∃ j, j ≤ ps.length ∧ i = .int .i64 (j : Nat) ∧ Hid ((ps.take j).all (fun p => decide (p.length ≤ 10)) = true)) (fun i => ps.length - (intOf i).toNat)
          case atStart => exact ⟨0, Nat.zero_le _, rfl, by show _ = _; simp⟩
          case round =>
            obtain ⟨j, hj, rfl, HJ⟩ := hrel
            by_cases hjl : j < ps.length
            · obtain ⟨ad2, A2, c2, rfl, hc2, hl2, _⟩ := HR.out.row j hjl
              obtain ⟨p, hp⟩ : ∃ p, p = ps[j] := ⟨_, rfl⟩
              rw [← hp] at hc2
              have HPP := Lib.hid hp
              clear hp hl2
              by_cases hp10 : p.length ≤ 10
              · have HJ' : Hid ((ps.take (j + 1)).all (fun p => decide (p.length ≤ 10)) = true) := all_take hjl HJ.out (by rw [← HPP.out]; exact decide_eq_true hp10)
                go_wp2
                go_round
                case rel => exact ⟨j + 1, by omega, by go_num, HJ'⟩
                case measure => simp [intOf]; omega
              · have HF : Hid (fewB ws = false) := by
                  show _ = _
                  unfold fewB
                  rw [all_fails hlt (p := fun ps => decide (ps.length ≤ 6) && ps.all fun p => decide (p.length ≤ 10)) (by
                    rw [← HP.out, all_fails hjl (by rw [← HPP.out]; exact decide_eq_false hp10), Bool.and_false]), Bool.and_false]
                go_wp2
                go_ret
                exact ⟨ret_bool HF.out.symm, HB.out⟩
            · have HA' : Hid ((ws.take (k + 1)).all (fun ps => decide (ps.length ≤ 6) && ps.all fun p => decide (p.length ≤ 10)) = true) := by
                refine all_take hlt HA.out ?_
                have := HJ.out
                rw [List.take_of_length_le (by omega)] at this
                rw [← HP.out, this, decide_eq_true hp6]
                rfl
              go_wp2
              go_round
              case rel => exact ⟨k + 1, by omega, by go_num, HA'⟩
              case measure => simp [intOf]; omega
        · have HF : Hid (fewB ws = false) := by
            show _ = _
            unfold fewB
            rw [all_fails hlt (p := fun ps => decide (ps.length ≤ 6) && ps.all fun p => decide (p.length ≤ 10)) (by
              rw [← HP.out, decide_eq_false hp6, Bool.false_and]), Bool.and_false]
          go_wp2
          go_ret
          exact ⟨ret_bool HF.out.symm, HB.out⟩
      · have HT : Hid (fewB ws = true) := by
          show _ = _
          have := HA.out
          rw [List.take_of_length_le (by omega)] at this
          unfold fewB
          rw [this, decide_eq_true h6]
          rfl
        go_wp2
        go_ret
        exact ⟨ret_bool HT.out.symm, HB.out⟩
  · have HF : Hid (fewB ws = false) := by
      show _ = _
      unfold fewB
      rw [decide_eq_false h6, Bool.false_and]
    go_enter Try.func9, Try.ntmps9
    go_wp2
    go_ret
    exact ⟨ret_bool HF.out.symm, HB.out⟩
end Go.Proofs.Ytebpdlnknfjoaaa
