/- How many loads: course.Count and the document's. -/
import Derived.Test.YtebpdlnknfjoaaaCourse
namespace Go.Proofs.Ytebpdlnknfjoaaa
set_option linter.unusedVariables false
set_option linter.unusedSimpArgs false
open Go.RowKit

def prodOf (ps : List (List Int)) : Nat := ps.foldl (fun n p => min 65536 (n * min 65536 p.length)) 1
def countOf (ws : List (List (List Int))) : Nat := ws.foldl (fun s ps => min 65536 (s + prodOf ps)) 0
theorem prod_snoc {ps : List (List Int)} {k : Nat} (hk : k < ps.length) : prodOf (ps.take (k + 1)) = min 65536 (prodOf (ps.take k) * min 65536 ps[k].length) := by
  unfold prodOf
  rw [List.take_succ_eq_append_getElem hk, List.foldl_append]
  rfl
theorem count_snoc {ws : List (List (List Int))} {k : Nat} (hk : k < ws.length) : countOf (ws.take (k + 1)) = min 65536 (countOf (ws.take k) + prodOf ws[k]) := by
  unfold countOf
  rw [List.take_succ_eq_append_getElem hk, List.foldl_append]
  rfl
theorem prod_le (ps : List (List Int)) : prodOf ps ≤ 65536 := by
  have : ∀ k, k ≤ ps.length → prodOf (ps.take k) ≤ 65536 := by
    intro k
    cases k with
    | zero => intro _; simp [prodOf]
    | succ k => intro h; rw [prod_snoc h]; omega
  have h := this ps.length (Nat.le_refl _)
  rwa [List.take_length] at h
theorem count_le (ws : List (List (List Int))) : countOf ws ≤ 65536 := by
  have : ∀ k, k ≤ ws.length → countOf (ws.take k) ≤ 65536 := by
    intro k
    cases k with
    | zero => intro _; simp [countOf]
    | succ k => intro h; rw [count_snoc h]; omega
  have h := this ws.length (Nat.le_refl _)
  rwa [List.take_length] at h

theorem mul_is (q p : Nat) (h : q ≤ 65536) : wrap64 ((q : Int) * min 65536 (p : Int)) = ((q * min 65536 p : Nat) : Int) := by
  have e : (q : Int) * min 65536 (p : Int) = ((q * min 65536 p : Nat) : Int) := by
    rw [Int.natCast_mul]
    congr 1
    omega
  have hm : q * min 65536 p ≤ 65536 * 65536 := Nat.mul_le_mul h (Nat.min_le_left _ _)
  rw [e]
  exact IntWalk.wrap64_in _ (by omega)
theorem mul_ref (q p : Nat) (h : q ≤ 65536) : min (wrap64 ((q : Int) * min (p : Int) 65536)) 65536 = ((min 65536 (q * min 65536 p) : Nat) : Int) := by
  rw [Int.min_comm (p : Int), mul_is q p h]
  omega
theorem mul_it (q p : Nat) (h : q ≤ 65536) : min 65536 (wrap64 ((q : Int) * min 65536 (p : Int))) = ((min 65536 (q * min 65536 p) : Nat) : Int) := by
  rw [mul_is q p h]
  omega

set_option maxHeartbeats 600000 in
theorem refCount_any {B : Nat} {A : Option Addr} {ws : List (List (List Int))} (name : ByteArray) (c : Nat) (w : World) (hW : WaysAt B w A ws) (h1 : ws.length ≤ 1000) (h2 : ∀ ps ∈ ws, ps.length ≤ 1000) :
    Calls Try.prog 17 #[.agg #[.string name, .slice A ws.length c]] w fun e w' => e = .returned (.int .i64 (countOf ws)) ∧ Below w.heap.size w w' := by
  have HB := Lib.hid (alloc_below w (.cells #[.string name, .slice A ws.length c] 24))
  have HW := Lib.hid (hW.later HB.out)
  have H2 := Lib.hid h2
  clear hW h2
  go_enter Try.func17, Try.ntmps17
  go_wp2
  go_loop [3, 4] (fun s i => ∃ k n, k ≤ ws.length ∧ n ≤ 65536 ∧ s = .int .i64 (n : Nat) ∧ i = .int .i64 (k : Nat) ∧ Hid (n = countOf (ws.take k))) (fun _ i => ws.length - (intOf i).toNat)
  case atStart => exact ⟨0, 0, Nat.zero_le _, by omega, rfl, rfl, by show _ = _; simp [countOf]⟩
  case round =>
    obtain ⟨k, n, hk, hn, rfl, rfl, HN⟩ := hrel
    by_cases hlt : k < ws.length
    · obtain ⟨ad, A1, c1, rfl, _, hc1, hl1, hR⟩ := HW.out k hlt
      have HR := Lib.hid hR
      have hp1 := H2.out _ (List.getElem_mem hlt)
      have HSN := Lib.hid (count_snoc hlt)
      obtain ⟨ps, hps⟩ : ∃ ps, ps = ws[k] := ⟨_, rfl⟩
      rw [← hps] at hc1 HR hp1 HSN
      clear hps hl1 hR
      go_wp2
      go_loop [5, 6] (fun s i => ∃ j q, j ≤ ps.length ∧ q ≤ 65536 ∧ s = .int .i64 (q : Nat) ∧ i = .int .i64 (j : Nat) ∧ Hid (q = prodOf (ps.take j))) (fun _ i => ps.length - (intOf i).toNat)
      case atStart => exact ⟨0, 1, Nat.zero_le _, by omega, rfl, rfl, by show _ = _; simp [prodOf]⟩
      case round =>
        obtain ⟨j, q, hj, hq, rfl, rfl, HQ⟩ := hrel
        by_cases hjl : j < ps.length
        · obtain ⟨ad2, A2, c2, rfl, hc2, hl2, _⟩ := HR.out.row j hjl
          have HSP := Lib.hid (prod_snoc hjl)
          obtain ⟨p, hp⟩ : ∃ p, p = ps[j] := ⟨_, rfl⟩
          rw [← hp] at hc2 HSP
          clear hp hl2
          go_wp2
          go_round
          case rel => exact ⟨j + 1, min 65536 (q * min 65536 p.length), by omega, by omega, congrArg _ (mul_ref q p.length hq), by go_num, by show _ = _; rw [HSP.out, ← HQ.out]⟩
          case measure => simp [intOf]; omega
        · have HN' : Hid (min 65536 (n + q) = countOf (ws.take (k + 1))) := by
            show _ = _
            rw [HSN.out, ← HN.out, HQ.out, List.take_of_length_le (by omega)]
          go_wp2
          go_round
          case rel => exact ⟨k + 1, min 65536 (n + q), by omega, by omega, congrArg _ (by omega), by go_num, HN'⟩
          case measure => simp [intOf]; omega
    · have HT : Hid (n = countOf ws) := by
        have := HN.out
        rwa [List.take_of_length_le (by omega)] at this
      go_wp2
      go_ret
      exact ⟨ret_int (by rw [HT.out]), HB.out⟩

set_option maxHeartbeats 600000 in
theorem count_any {B : Nat} {A : Option Addr} {ws : List (List (List Int))} (name : ByteArray) (c : Nat) (w : World) (hW : WaysAt B w A ws) (h1 : ws.length ≤ 1000) (h2 : ∀ ps ∈ ws, ps.length ≤ 1000) :
    Calls Try.prog 16 #[.agg #[.string name, .slice A ws.length c]] w fun e w' => e = .returned (.int .i64 (countOf ws)) ∧ Below w.heap.size w w' := by
  have HB0 := Lib.hid (alloc_below w (.cells #[.string name, .slice A ws.length c] 24))
  have HW := Lib.hid hW
  have H2 := Lib.hid h2
  clear hW h2
  go_enter Try.func16, Try.ntmps16
  go_wp2
  go_loopw [3, 12] (fun s i wr => ∃ k n, k ≤ ws.length ∧ n ≤ 65536 ∧ s = .int .i64 (n : Nat) ∧ i = .int .i64 (k : Nat) ∧ Hid (n = countOf (ws.take k)) ∧ Hid (Below w.heap.size w wr)) (fun _ i _ => ws.length - (intOf i).toNat)
  case atStart => exact ⟨0, 0, Nat.zero_le _, by omega, rfl, rfl, by show _ = _; simp [countOf], HB0⟩
  case round =>
    clear HB0
    obtain ⟨k, n, hk, hn, rfl, rfl, HN, HB⟩ := hrel
    by_cases hlt : k < ws.length
    · obtain ⟨ad, A1, c1, rfl, _, hc1, hl1, hR⟩ := (HW.out.later HB.out) k hlt
      have hp1 := H2.out _ (List.getElem_mem hlt)
      have HSN := Lib.hid (count_snoc hlt)
      obtain ⟨ps, hps⟩ : ∃ ps, ps = ws[k] := ⟨_, rfl⟩
      rw [← hps] at hc1 hR hp1 HSN
      have HBA := Lib.hid (HB.out.alloc HB.out.size (.cells #[.slice A1 ps.length c1] 42))
      have HR := Lib.hid (hR.later (alloc_below wr (.cells #[.slice A1 ps.length c1] 42)))
      clear hps hl1 hR
      go_wp2
      go_loop [6, 19] (fun s i => ∃ j q, j ≤ ps.length ∧ q ≤ 65536 ∧ s = .int .i64 (q : Nat) ∧ i = .int .i64 (j : Nat) ∧ Hid (q = prodOf (ps.take j))) (fun _ i => ps.length - (intOf i).toNat)
      case atStart => exact ⟨0, 1, Nat.zero_le _, by omega, rfl, rfl, by show _ = _; simp [prodOf]⟩
      case round =>
        obtain ⟨j, q, hj, hq, rfl, rfl, HQ⟩ := hrel
        by_cases hjl : j < ps.length
        · obtain ⟨ad2, A2, c2, rfl, hc2, hl2, _⟩ := HR.out.row j hjl
          have HSP := Lib.hid (prod_snoc hjl)
          obtain ⟨p, hp⟩ : ∃ p, p = ps[j] := ⟨_, rfl⟩
          rw [← hp] at hc2 HSP
          clear hp hl2
          go_wp2
          go_round
          case rel => exact ⟨j + 1, min 65536 (q * min 65536 p.length), by omega, by omega, congrArg _ (mul_it q p.length hq), by go_num, by show _ = _; rw [HSP.out, ← HQ.out]⟩
          case measure => simp [intOf]; omega
        · have HN' : Hid (min 65536 (n + q) = countOf (ws.take (k + 1))) := by
            show _ = _
            rw [HSN.out, ← HN.out, HQ.out, List.take_of_length_le (by omega)]
          go_wp2
          go_roundw
          case rel => exact ⟨k + 1, min 65536 (n + q), by omega, by omega, congrArg _ (by omega), by go_num, HN', HBA⟩
          case measure => simp [intOf]; omega
    · have HT : Hid (n = countOf ws) := by
        have := HN.out
        rwa [List.take_of_length_le (by omega)] at this
      go_wp2
      go_ret
      exact ⟨ret_int (by rw [HT.out]), HB.out⟩
end Go.Proofs.Ytebpdlnknfjoaaa
