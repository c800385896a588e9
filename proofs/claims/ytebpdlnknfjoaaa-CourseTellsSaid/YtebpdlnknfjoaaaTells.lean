/- The walk of the law CourseTells. -/
import Derived.Test.YtebpdlnknfjoaaaHeads
import Derived.Test.YtebpdlnknfjoaaaRefRightW
import Derived.Test.YtebpdlnknfjoaaaRefClasses
import Derived.Test.YtebpdlnknfjoaaaFew
namespace Go.Proofs.Ytebpdlnknfjoaaa
set_option linter.unusedVariables false
set_option linter.unusedSimpArgs false
open Go.RowKit

def tellWords (n : Int) (s : ByteArray) (A : Option Addr) (c : Nat) (ws : List (List (List Int))) (q : Bool) (ys : List Int) (k : Nat) : List Word := [.is (.int .i64 n), .is (.agg #[.string s, .slice A ws.length c]), .is (.bool q), .is (.int .i64 n), .is (.agg #[.string s, .slice A ws.length c]), .is (.bool q), .is (.bool true), .is (.bool true), .is (.agg #[.string s, .slice A ws.length c]), intsW (ys), .is (.agg #[.string s, .slice A ws.length c]), intsW (ys), .is (.bool true), .is (.bool true), .is (.bool true), .is (.agg #[.string s, .slice A ws.length c]), .is (.int .i64 (k : Nat)), .is (.agg #[.string s, .slice A ws.length c]), .is (.int .i64 (k : Nat)), .is (.bool true), .is (.bool true), .is (.bool true), .is (.bool true), .is (.bool true), .is (.bool true)]

set_option maxRecDepth 100000 in
set_option maxHeartbeats 4000000 in
theorem tells_law (n : Int) (s : ByteArray) (ws : List (List (List Int))) (A : Option Addr) (c : Nat) (w : World) (hs : s.size ≤ maxLen) (hW : WaysAt w.heap.size w A ws) :
    Calls Try.prog 3 #[.int .i64 n, .agg #[.string s, .slice A ws.length c]] w fun e w' => e = .returned (.bool true) ∧ Below w.heap.size w w' := by
  have hs9 : s.size ≤ 9223372036854775807 := hs
  obtain ⟨W, hWW⟩ : ∃ W, W = w.alloc (.cells #[.string s, .slice A ws.length c] 24) := ⟨_, rfl⟩
  have HB0 : Hid (Below w.heap.size w W) := by rw [hWW]; exact alloc_below w _
  have HF : Hid (Calls Try.prog 9 #[.agg #[.string s, .slice A ws.length c]] W fun e w' => e = .returned (.bool (fewB ws)) ∧ Below W.heap.size W w') := few_any s c W (hW.later HB0.out)
  have HH : Hid (∀ w : World, Calls Try.prog 10 #[] w fun e w' => e = .returned (.bool true) ∧ Below w.heap.size w w') := heads_any
  cases hf : fewB ws with
  | false =>
    rw [hf] at HF
    clear hf hW
    subst hWW
    go_enter Try.func3, Try.ntmps3
    go_wp2_with (first
      | (go_at_call 9; refine HF.out.mono ?_; rintro e w2 ⟨rfl, hb⟩; have HB := Lib.hid (HB0.out.trans (hb.mono HB0.out.size)); clear hb)
      | (go_at_call 10; refine (HH.out _).mono ?_; rintro e w4 ⟨rfl, hb4⟩; have HB4 := Lib.hid (HB.out.trans (hb4.mono HB.out.size)); clear hb4))
    go_ret
    exact ⟨rfl, HB4.out⟩
  | true =>
    rw [hf] at HF
    obtain ⟨h1, h2, h3⟩ := few_bounds hf
    have hsm : Small ws := ⟨by omega, fun ps hps => ⟨by have := h2 ps hps; omega, fun p hp => by have := h3 ps hps p hp; omega⟩⟩
    have hfl := few_flat hf
    have HC := Lib.hid (course_cells w s A ws.length c)
    rw [← hWW] at HC
    have HW : Hid (∀ w1, Below W.heap.size W w1 → WaysAt w1.heap.size w1 A ws) := fun w1 hb => ((hW.later HB0.out).later (hb.mono (Nat.le_refl _))).now
    have h1000 : ∀ ps ∈ ws, ∀ p ∈ ps, p.length ≤ 1000 := fun ps hps p hp => by have := h3 ps hps p hp; omega
    have h6 : ∀ ps ∈ ws, ps.length ≤ 1000 := fun ps hps => by have := h2 ps hps; omega
    obtain ⟨q, hq⟩ : ∃ q, q = rightB n s ws := ⟨_, rfl⟩
    obtain ⟨k, hk⟩ : ∃ k, k = countOf ws := ⟨_, rfl⟩
    obtain ⟨ys, hys⟩ := exists_set (flatOf ws)
    have hyl : ys.length ≤ 1000 := Nat.le_trans (nodup_le (rising_nodup hys.1) (fun x hx => (hys.2 x).1 hx)) hfl
    have HR1 : Hid (∀ w, WaysAt w.heap.size w A ws → Calls Try.prog 11 #[.int .i64 n, .agg #[.string s, .slice A ws.length c]] w fun e w' => e = .returned (.bool q) ∧ Below w.heap.size w w') := fun w h => by rw [hq]; exact right_any n s c w h hs9 h1000
    have HR2 : Hid (∀ w, WaysAt w.heap.size w A ws → Calls Try.prog 12 #[.int .i64 n, .agg #[.string s, .slice A ws.length c]] w fun e w' => e = .returned (.bool q) ∧ Below w.heap.size w w') := fun w h => by rw [hq]; exact refRight_any n s c w h hs9 h1000
    have HK1 : Hid (∀ w, WaysAt w.heap.size w A ws → Calls Try.prog 16 #[.agg #[.string s, .slice A ws.length c]] w fun e w' => e = .returned (.int .i64 (k : Nat)) ∧ Below w.heap.size w w') := fun w h => by rw [hk]; exact count_any s c w h (by omega) h6
    have HK2 : Hid (∀ w, WaysAt w.heap.size w A ws → Calls Try.prog 17 #[.agg #[.string s, .slice A ws.length c]] w fun e w' => e = .returned (.int .i64 (k : Nat)) ∧ Below w.heap.size w w') := fun w h => by rw [hk]; exact refCount_any s c w h (by omega) h6
    have HC1 : Hid (∀ w, WaysAt w.heap.size w A ws → Calls Try.prog 14 #[.agg #[.string s, .slice A ws.length c]] w fun e w' => ∃ A' c', e = .returned (.slice A' ys.length c') ∧ IntsAt w'.heap.size w' A' ys ∧ Below w.heap.size w w') := fun w h =>
      (classes_any s c w h hsm).mono (fun e w' ⟨A9, c9, zs, e1, e2, e3, e4⟩ => by cases set_unique e3 hys; exact ⟨A9, c9, e1, e2, e4⟩)
    have HC2 : Hid (∀ w, WaysAt w.heap.size w A ws → Calls Try.prog 15 #[.agg #[.string s, .slice A ws.length c]] w fun e w' => ∃ A' c', e = .returned (.slice A' ys.length c') ∧ IntsAt w'.heap.size w' A' ys ∧ Below w.heap.size w w') := fun w h =>
      (refClasses_any s c w h hsm hfl).mono (fun e w' ⟨A9, c9, zs, e1, e2, e3, e4⟩ => by cases set_unique e3 hys; exact ⟨A9, c9, e1, e2, e4⟩)
    have HS : Hid (∀ (A1 A2 : Option Addr) (c1 c2 : Nat) (w : World), IntsAt w.heap.size w A1 ys → IntsAt w.heap.size w A2 ys → Calls Try.prog 13 #[.slice A1 ys.length c1, .slice A2 ys.length c2] w fun e w' => e = .returned (.bool true) ∧ Below w.heap.size w w') :=
      fun A1 A2 c1 c2 w h1 h2 => same_near (q := true) c1 c2 w h1 h2 rfl rfl (by omega) (by simp)
    clear hf hW hq hk hys hsm hfl h1000 h6 h1 h2 h3 hs9 hyl
    subst hWW
    go_enter Try.func3, Try.ntmps3
    go_wp2_with (go_at_call 9; refine HF.out.mono ?_; rintro e w2 ⟨rfl, hb⟩; have HBW := Lib.hid hb; clear hb)
    refine region_words (tellWords n s A c ws q ys k) (by kernel_rfl) (by kernel_rfl) ?_ ?_
    · refine ⟨?_, ?_, ?_, ?_, ?_, ?_, ?_, ?_, ?_, ?_, ?_, ?_, ?_, ?_, ?_, ?_, ?_, ?_, ?_, ?_, ?_, ?_, ?_, ?_, ?_, trivial⟩
      · intro a w1 hb hs hd hf hj
        have h0 : a.tmps.getD 0 undef = .int .i64 n := hf 0 (by decide)
        refine st_still (wanted_none rfl) (u := .int .i64 n) ?_ rfl
        simp [execOp, Act.eval, h0, go_sem, -Array.getD_eq_getD_getElem?]
      · intro a w1 hb hs hd hf hj
        have h3 : a.tmps.getD 3 undef = .pointer (some ⟨w.heap.size, 0, none⟩) := hf 3 (by decide)
        have hbw := HBW.out.trans (hb.mono HBW.out.size)
        obtain ⟨c0, c1⟩ := HC.out w1 hbw
        refine st_still (wanted_none rfl) (u := .agg #[.string s, .slice A ws.length c]) ?_ rfl
        simp [execOp, Act.eval, h3, c0, c1, go_sem, -Array.getD_eq_getD_getElem?]
      · intro a w1 hb hs hd hf hj
        have h9 : a.tmps.getD 9 undef = .int .i64 n := hj 0 (by kernel_rfl)
        have h10 : a.tmps.getD 10 undef = .agg #[.string s, .slice A ws.length c] := hj 1 (by kernel_rfl)
        have hbw := HBW.out.trans (hb.mono HBW.out.size)
        have hw1 := HW.out w1 hbw
        refine st_call (wanted_none rfl) (f := 11) (args := #[.int .i64 n, .agg #[.string s, .slice A ws.length c]]) ?_ ((HR1.out w1 hw1).mono (fun e w2 ⟨h1, h2⟩ => ⟨_, h1, rfl, h2⟩))
        simp [execOp, Act.eval, resolve, h9, h10, go_sem, -Array.getD_eq_getD_getElem?]
      · intro a w1 hb hs hd hf hj
        have h0 : a.tmps.getD 0 undef = .int .i64 n := hf 0 (by decide)
        refine st_still (wanted_none rfl) (u := .int .i64 n) ?_ rfl
        simp [execOp, Act.eval, h0, go_sem, -Array.getD_eq_getD_getElem?]
      · intro a w1 hb hs hd hf hj
        have h3 : a.tmps.getD 3 undef = .pointer (some ⟨w.heap.size, 0, none⟩) := hf 3 (by decide)
        have hbw := HBW.out.trans (hb.mono HBW.out.size)
        obtain ⟨c0, c1⟩ := HC.out w1 hbw
        refine st_still (wanted_none rfl) (u := .agg #[.string s, .slice A ws.length c]) ?_ rfl
        simp [execOp, Act.eval, h3, c0, c1, go_sem, -Array.getD_eq_getD_getElem?]
      · intro a w1 hb hs hd hf hj
        have h12 : a.tmps.getD 12 undef = .int .i64 n := hj 3 (by kernel_rfl)
        have h13 : a.tmps.getD 13 undef = .agg #[.string s, .slice A ws.length c] := hj 4 (by kernel_rfl)
        have hbw := HBW.out.trans (hb.mono HBW.out.size)
        have hw1 := HW.out w1 hbw
        refine st_call (wanted_none rfl) (f := 12) (args := #[.int .i64 n, .agg #[.string s, .slice A ws.length c]]) ?_ ((HR2.out w1 hw1).mono (fun e w2 ⟨h1, h2⟩ => ⟨_, h1, rfl, h2⟩))
        simp [execOp, Act.eval, resolve, h12, h13, go_sem, -Array.getD_eq_getD_getElem?]
      · intro a w1 hb hs hd hf hj
        have h11 : a.tmps.getD 11 undef = .bool q := hj 2 (by kernel_rfl)
        have h14 : a.tmps.getD 14 undef = .bool q := hj 5 (by kernel_rfl)
        refine st_still (wanted_none rfl) (u := .bool true) ?_ rfl
        simp [execOp, Act.eval, h11, h14, go_sem, -Array.getD_eq_getD_getElem?]
      · intro a w1 hb hs hd hf hj
        have h15 : a.tmps.getD 15 undef = .bool true := hj 6 (by kernel_rfl)
        refine st_still (wanted_none rfl) (u := .bool true) ?_ rfl
        simp [execOp, Act.eval, h15, go_sem, -Array.getD_eq_getD_getElem?]
      · intro a w1 hb hs hd hf hj
        have hg : a.tmps.getD 16 undef = .bool true := hj 7 (by kernel_rfl)
        have h3 : a.tmps.getD 3 undef = .pointer (some ⟨w.heap.size, 0, none⟩) := hf 3 (by decide)
        have hbw := HBW.out.trans (hb.mono HBW.out.size)
        obtain ⟨c0, c1⟩ := HC.out w1 hbw
        refine st_still (wanted_true rfl rfl hg) (u := .agg #[.string s, .slice A ws.length c]) ?_ rfl
        simp [execOp, Act.eval, h3, c0, c1, go_sem, -Array.getD_eq_getD_getElem?]
      · intro a w1 hb hs hd hf hj
        have hg : a.tmps.getD 16 undef = .bool true := hj 7 (by kernel_rfl)
        have h17 : a.tmps.getD 17 undef = .agg #[.string s, .slice A ws.length c] := hj 8 (by kernel_rfl)
        have hbw := HBW.out.trans (hb.mono HBW.out.size)
        have hw1 := HW.out w1 hbw
        refine st_call (wanted_true rfl rfl hg) (f := 14) (args := #[.agg #[.string s, .slice A ws.length c]]) ?_ ((HC1.out w1 hw1).mono (fun e w2 ⟨A9, c9, h1, h2, h3⟩ => ⟨_, h1, ⟨A9, c9, rfl, h2⟩, h3⟩))
        simp [execOp, Act.eval, resolve, h17, go_sem, -Array.getD_eq_getD_getElem?]
      · intro a w1 hb hs hd hf hj
        have hg : a.tmps.getD 16 undef = .bool true := hj 7 (by kernel_rfl)
        have h3 : a.tmps.getD 3 undef = .pointer (some ⟨w.heap.size, 0, none⟩) := hf 3 (by decide)
        have hbw := HBW.out.trans (hb.mono HBW.out.size)
        obtain ⟨c0, c1⟩ := HC.out w1 hbw
        refine st_still (wanted_true rfl rfl hg) (u := .agg #[.string s, .slice A ws.length c]) ?_ rfl
        simp [execOp, Act.eval, h3, c0, c1, go_sem, -Array.getD_eq_getD_getElem?]
      · intro a w1 hb hs hd hf hj
        have hg : a.tmps.getD 16 undef = .bool true := hj 7 (by kernel_rfl)
        have h19 : a.tmps.getD 19 undef = .agg #[.string s, .slice A ws.length c] := hj 10 (by kernel_rfl)
        have hbw := HBW.out.trans (hb.mono HBW.out.size)
        have hw1 := HW.out w1 hbw
        refine st_call (wanted_true rfl rfl hg) (f := 15) (args := #[.agg #[.string s, .slice A ws.length c]]) ?_ ((HC2.out w1 hw1).mono (fun e w2 ⟨A9, c9, h1, h2, h3⟩ => ⟨_, h1, ⟨A9, c9, rfl, h2⟩, h3⟩))
        simp [execOp, Act.eval, resolve, h19, go_sem, -Array.getD_eq_getD_getElem?]
      · intro a w1 hb hs hd hf hj
        have hg : a.tmps.getD 16 undef = .bool true := hj 7 (by kernel_rfl)
        obtain ⟨A18, c18, h18, i18⟩ : ∃ A c, a.tmps.getD 18 undef = .slice A ys.length c ∧ IntsAt w1.heap.size w1 A ys := hj 9 (by kernel_rfl)
        obtain ⟨A20, c20, h20, i20⟩ : ∃ A c, a.tmps.getD 20 undef = .slice A ys.length c ∧ IntsAt w1.heap.size w1 A ys := hj 11 (by kernel_rfl)
        refine st_call (wanted_true rfl rfl hg) (f := 13) (args := #[.slice A18 ys.length c18, .slice A20 ys.length c20]) ?_ ((HS.out A18 A20 c18 c20 w1 i18 i20).mono (fun e w2 ⟨h1, h2⟩ => ⟨_, h1, rfl, h2⟩))
        simp [execOp, Act.eval, resolve, h18, h20, go_sem, -Array.getD_eq_getD_getElem?]
      · intro a w1 hb hs hd hf hj
        have h16 : a.tmps.getD 16 undef = .bool true := hj 7 (by kernel_rfl)
        have h21 : a.tmps.getD 21 undef = .bool true := hj 12 (by kernel_rfl)
        refine st_still (wanted_none rfl) (u := .bool true) ?_ rfl
        simp [execOp, Act.eval, h16, h21, go_sem, -Array.getD_eq_getD_getElem?]
      · intro a w1 hb hs hd hf hj
        have h22 : a.tmps.getD 22 undef = .bool true := hj 13 (by kernel_rfl)
        refine st_still (wanted_none rfl) (u := .bool true) ?_ rfl
        simp [execOp, Act.eval, h22, go_sem, -Array.getD_eq_getD_getElem?]
      · intro a w1 hb hs hd hf hj
        have hg : a.tmps.getD 23 undef = .bool true := hj 14 (by kernel_rfl)
        have h3 : a.tmps.getD 3 undef = .pointer (some ⟨w.heap.size, 0, none⟩) := hf 3 (by decide)
        have hbw := HBW.out.trans (hb.mono HBW.out.size)
        obtain ⟨c0, c1⟩ := HC.out w1 hbw
        refine st_still (wanted_true rfl rfl hg) (u := .agg #[.string s, .slice A ws.length c]) ?_ rfl
        simp [execOp, Act.eval, h3, c0, c1, go_sem, -Array.getD_eq_getD_getElem?]
      · intro a w1 hb hs hd hf hj
        have hg : a.tmps.getD 23 undef = .bool true := hj 14 (by kernel_rfl)
        have h24 : a.tmps.getD 24 undef = .agg #[.string s, .slice A ws.length c] := hj 15 (by kernel_rfl)
        have hbw := HBW.out.trans (hb.mono HBW.out.size)
        have hw1 := HW.out w1 hbw
        refine st_call (wanted_true rfl rfl hg) (f := 16) (args := #[.agg #[.string s, .slice A ws.length c]]) ?_ ((HK1.out w1 hw1).mono (fun e w2 ⟨h1, h2⟩ => ⟨_, h1, rfl, h2⟩))
        simp [execOp, Act.eval, resolve, h24, go_sem, -Array.getD_eq_getD_getElem?]
      · intro a w1 hb hs hd hf hj
        have hg : a.tmps.getD 23 undef = .bool true := hj 14 (by kernel_rfl)
        have h3 : a.tmps.getD 3 undef = .pointer (some ⟨w.heap.size, 0, none⟩) := hf 3 (by decide)
        have hbw := HBW.out.trans (hb.mono HBW.out.size)
        obtain ⟨c0, c1⟩ := HC.out w1 hbw
        refine st_still (wanted_true rfl rfl hg) (u := .agg #[.string s, .slice A ws.length c]) ?_ rfl
        simp [execOp, Act.eval, h3, c0, c1, go_sem, -Array.getD_eq_getD_getElem?]
      · intro a w1 hb hs hd hf hj
        have hg : a.tmps.getD 23 undef = .bool true := hj 14 (by kernel_rfl)
        have h26 : a.tmps.getD 26 undef = .agg #[.string s, .slice A ws.length c] := hj 17 (by kernel_rfl)
        have hbw := HBW.out.trans (hb.mono HBW.out.size)
        have hw1 := HW.out w1 hbw
        refine st_call (wanted_true rfl rfl hg) (f := 17) (args := #[.agg #[.string s, .slice A ws.length c]]) ?_ ((HK2.out w1 hw1).mono (fun e w2 ⟨h1, h2⟩ => ⟨_, h1, rfl, h2⟩))
        simp [execOp, Act.eval, resolve, h26, go_sem, -Array.getD_eq_getD_getElem?]
      · intro a w1 hb hs hd hf hj
        have hg : a.tmps.getD 23 undef = .bool true := hj 14 (by kernel_rfl)
        have h25 : a.tmps.getD 25 undef = .int .i64 (k : Nat) := hj 16 (by kernel_rfl)
        have h27 : a.tmps.getD 27 undef = .int .i64 (k : Nat) := hj 18 (by kernel_rfl)
        refine st_still (wanted_true rfl rfl hg) (u := .bool true) ?_ rfl
        simp [execOp, Act.eval, h25, h27, go_sem, -Array.getD_eq_getD_getElem?]
      · intro a w1 hb hs hd hf hj
        have h23 : a.tmps.getD 23 undef = .bool true := hj 14 (by kernel_rfl)
        have h28 : a.tmps.getD 28 undef = .bool true := hj 19 (by kernel_rfl)
        refine st_still (wanted_none rfl) (u := .bool true) ?_ rfl
        simp [execOp, Act.eval, h23, h28, go_sem, -Array.getD_eq_getD_getElem?]
      · intro a w1 hb hs hd hf hj
        have h29 : a.tmps.getD 29 undef = .bool true := hj 20 (by kernel_rfl)
        refine st_still (wanted_none rfl) (u := .bool true) ?_ rfl
        simp [execOp, Act.eval, h29, go_sem, -Array.getD_eq_getD_getElem?]
      · intro a w1 hb hs hd hf hj
        have hg : a.tmps.getD 30 undef = .bool true := hj 21 (by kernel_rfl)
        refine st_call (wanted_true rfl rfl hg) (f := 10) (args := #[]) ?_ ((heads_any w1).mono (fun e w2 ⟨h1, h2⟩ => ⟨_, h1, rfl, h2⟩))
        simp [execOp, Act.eval, resolve, go_sem, -Array.getD_eq_getD_getElem?]
      · intro a w1 hb hs hd hf hj
        have h30 : a.tmps.getD 30 undef = .bool true := hj 21 (by kernel_rfl)
        have h31 : a.tmps.getD 31 undef = .bool true := hj 22 (by kernel_rfl)
        refine st_still (wanted_none rfl) (u := .bool true) ?_ rfl
        simp [execOp, Act.eval, h30, h31, go_sem, -Array.getD_eq_getD_getElem?]
      · intro a w1 hb hs hd hf hj
        have h32 : a.tmps.getD 32 undef = .bool true := hj 23 (by kernel_rfl)
        refine st_still (wanted_none rfl) (u := .bool true) ?_ rfl
        simp [execOp, Act.eval, h32, go_sem, -Array.getD_eq_getD_getElem?]
    · intro a w1 hb hs hd hf hj
      have h0 : a.tmps.getD 4 undef = .bool true := hj 24 (by decide)
      simp only [Exit.then]
      apply_rules [wp_ret]
      refine bodyPost_ret (results_tmp rfl _ _ _) hd ?_
      rw [h0]
      exact ⟨rfl, HB0.out.trans ((HBW.out.trans (hb.mono HBW.out.size)).mono HB0.out.size)⟩
end Go.Proofs.Ytebpdlnknfjoaaa
