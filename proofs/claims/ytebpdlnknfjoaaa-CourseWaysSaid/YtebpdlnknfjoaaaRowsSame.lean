/- The walk of the document's Rows: are two rows of rows the same? -/
import Derived.Test.YtebpdlnknfjoaaaHas
import Derived.Test.YtebpdlnknfjoaaaStillAt
namespace Go.Proofs.Ytebpdlnknfjoaaa
set_option linter.unusedVariables false
set_option linter.unusedSimpArgs false
open Go.RowKit

theorem take_same {α : Type} {a b : List α} {k : Nat} (ha : k < a.length) (hb : k < b.length) : a.take (k + 1) = b.take (k + 1) ↔ a.take k = b.take k ∧ a[k] = b[k] := by
  rw [List.take_succ_eq_append_getElem ha, List.take_succ_eq_append_getElem hb]
  constructor
  · intro h
    have := List.append_inj' h rfl
    exact ⟨this.1, by simpa using this.2⟩
  · rintro ⟨h1, h2⟩
    rw [h1, h2]

set_option maxHeartbeats 1000000 in
theorem rows_same {A1 A2 : Option Addr} {B n m : Nat} {a b : List (List Int)} {q : Bool} (c1 c2 : Nat) (w : World) (h1 : RowsAt B w A1 a) (h2 : RowsAt B w A2 b) (hn : a.length = n) (hm : b.length = m) (hb : n ≤ 1000000) (hl : ∀ r ∈ a, r.length ≤ 1000000) (hq : decide (a = b) = q) :
    Calls Try.prog 19 #[.slice A1 n c1, .slice A2 m c2] w fun e w' => e = .returned (.bool q) ∧ Below w.heap.size w w' := by
  subst hn hm hq
  have H1 := Lib.hid h1
  have H2 := Lib.hid h2
  have HL := Lib.hid hl
  clear h1 h2 hl
  by_cases hlen : a.length = b.length
  · have hl1 : ((a.length : Int) != (b.length : Int)) = false := by simp [hlen]
    have HLEN := Lib.hid hlen
    clear hlen
    go_enter Try.func19, Try.ntmps19
    go_wp2
    go_loopw [5] (fun i wr => ∃ k, k ≤ a.length ∧ i = .int .i64 (k : Nat) ∧ Hid (a.take k = b.take k) ∧ Hid (Below w.heap.size w wr)) (fun i _ => a.length - (intOf i).toNat)
    case atStart => exact ⟨0, Nat.zero_le _, rfl, by show _ = _; simp, Below.refl _ _⟩
    case round =>
      obtain ⟨k, hk, rfl, HT, HB⟩ := hrel
      by_cases hlt : k < a.length
      · have hltb : k < b.length := by have := HLEN.out; omega
        obtain ⟨ad1, B1, d1, rfl, hx1, _, hi1⟩ := (H1.out.later HB.out).row k hlt
        obtain ⟨ad2, B2, d2, rfl, hx2, _, hi2⟩ := (H2.out.later HB.out).row k hltb
        have HS := Lib.hid (take_same hlt hltb)
        have hxl := HL.out _ (List.getElem_mem hlt)
        obtain ⟨x, hx⟩ : ∃ x, x = a[k] := ⟨_, rfl⟩
        obtain ⟨y, hy⟩ : ∃ y, y = b[k] := ⟨_, rfl⟩
        rw [← hx] at hx1 hi1 HS hxl
        rw [← hy] at hx2 hi2 HS
        clear hx hy
        have hltb' : (k : Int) < (b.length : Int) := by omega
        have hb9 : Below w.heap.size w wr.drew := below_drewN HB.out 1
        by_cases he : x = y
        · have HT' : Hid (a.take (k + 1) = b.take (k + 1)) := HS.out.2 ⟨HT.out, he⟩
          have HC := Lib.hid (same_near (q := true) d1 d2 wr.drew (hi1.later (below_drewN (Below.refl _ _) 1)) (hi2.later (below_drewN (Below.refl _ _) 1)) rfl rfl (by omega) (decide_eq_true he))
          clear HS hi1 hi2 he
          go_wp2
          refine still_tail 8 (by kernel_rfl) (by kernel_rfl) (fun KK hKK => ?_)
          have HKK := Lib.hid hKK
          clear hKK
          simp only [List.take_succ_cons, List.take_zero, List.drop_succ_cons, List.drop_zero] at HKK ⊢
          have hy1 : World.cell? wr.drew (ad1.add k) = some (.slice B1 x.length d1) := hx1
          have hy2 : World.cell? wr.drew (ad2.add k) = some (.slice B2 y.length d2) := hx2
          have HB9 := Lib.hid hb9
          clear hb9
          generalize wr.drew = w9 at HC HB9 HKK hy1 hy2 ⊢
          iterate 8 (refine still_take (by kernel_rfl) (fun K hK => ?_); go_simp; refine hK _ ?_; clear hK K)
          refine still_nil ?_
          refine HKK.out _ ?_
          clear HKK KK
          go_wp2_with (go_at_call 13; refine HC.out.mono ?_; rintro e w4 ⟨rfl, hb4⟩; have HB4 := Lib.hid (HB9.out.trans (hb4.mono HB9.out.size)); clear hb4)
          go_roundw
          case rel => exact ⟨k + 1, by omega, by go_num, HT', HB4⟩
          case measure => simp [intOf]; omega
        · have HF : Hid (decide (a = b) = false) := by
            refine decide_eq_false (fun e => he ?_)
            have := HS.out.1 (by rw [e])
            exact this.2
          have HC := Lib.hid (same_near (q := false) d1 d2 wr.drew (hi1.later (below_drewN (Below.refl _ _) 1)) (hi2.later (below_drewN (Below.refl _ _) 1)) rfl rfl (by omega) (decide_eq_false he))
          clear HS hi1 hi2 he
          go_wp2
          refine still_tail 8 (by kernel_rfl) (by kernel_rfl) (fun KK hKK => ?_)
          have HKK := Lib.hid hKK
          clear hKK
          simp only [List.take_succ_cons, List.take_zero, List.drop_succ_cons, List.drop_zero] at HKK ⊢
          have hy1 : World.cell? wr.drew (ad1.add k) = some (.slice B1 x.length d1) := hx1
          have hy2 : World.cell? wr.drew (ad2.add k) = some (.slice B2 y.length d2) := hx2
          have HB9 := Lib.hid hb9
          clear hb9
          generalize wr.drew = w9 at HC HB9 HKK hy1 hy2 ⊢
          iterate 8 (refine still_take (by kernel_rfl) (fun K hK => ?_); go_simp; refine hK _ ?_; clear hK K)
          refine still_nil ?_
          refine HKK.out _ ?_
          clear HKK KK
          go_wp2_with (go_at_call 13; refine HC.out.mono ?_; rintro e w4 ⟨rfl, hb4⟩; have HB4 := Lib.hid (HB9.out.trans (hb4.mono HB9.out.size)); clear hb4)
          go_ret
          exact ⟨ret_bool HF.out.symm, HB4.out⟩
      · have HTT : Hid (decide (a = b) = true) := by
          have := HT.out
          rw [List.take_of_length_le (by omega), List.take_of_length_le (by have := HLEN.out; omega)] at this
          exact decide_eq_true this
        go_wp2
        go_ret
        exact ⟨ret_bool HTT.out.symm, HB.out⟩
  · have hl1 : ((a.length : Int) != (b.length : Int)) = true := by simp; omega
    have HF : Hid (decide (a = b) = false) := decide_eq_false (fun e => hlen (by rw [e]))
    clear hlen
    go_enter Try.func19, Try.ntmps19
    go_wp2
    go_ret
    exact ⟨ret_bool HF.out.symm, Below.refl _ _⟩
end Go.Proofs.Ytebpdlnknfjoaaa
