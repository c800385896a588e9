/- The walk of the law CourseLoads. -/
import Derived.Test.YtebpdlnknfjoaaaHeads
import Derived.Test.YtebpdlnknfjoaaaRefLoadsW
import Derived.Test.YtebpdlnknfjoaaaLoadsAll
namespace Go.Proofs.Ytebpdlnknfjoaaa
set_option linter.unusedVariables false
set_option linter.unusedSimpArgs false
open Go.RowKit

def loadWords (os : List Int) (A : Option Addr) (c : Nat) (s : ByteArray) (A2 : Option Addr) (c2 : Nat) (ws : List (List (List Int))) (L : List (List Int)) : List Word := [.is (.slice A os.length c), .is (.agg #[.string s, .slice A2 ws.length c2]), rowsW (L), .is (.slice A os.length c), .is (.agg #[.string s, .slice A2 ws.length c2]), rowsW (L), .is (.bool true), .is (.bool true), .is (.bool true), .is (.bool true), .is (.bool true)]

set_option maxRecDepth 100000 in
set_option maxHeartbeats 1000000 in
theorem loads_law (os : List Int) (s : ByteArray) (ws : List (List (List Int))) (A : Option Addr) (c : Nat) (A2 : Option Addr) (c2 : Nat) (w : World) (hO : OversAt w.heap.size w A os) (hs : s.size ≤ maxLen) (hW : WaysAt w.heap.size w A2 ws) :
    Calls Try.prog 4 #[.slice A os.length c, .agg #[.string s, .slice A2 ws.length c2]] w fun e w' => e = .returned (.bool true) ∧ Below w.heap.size w w' := by
  have hs9 : s.size ≤ 9223372036854775807 := hs
  obtain ⟨W, hWW⟩ : ∃ W, W = w.alloc (.cells #[.string s, .slice A2 ws.length c2] 24) := ⟨_, rfl⟩
  have HB0 : Hid (Below w.heap.size w W) := by rw [hWW]; exact alloc_below w _
  have HF : Hid (∀ q, lightB ws = q → Calls Try.prog 18 #[.agg #[.string s, .slice A2 ws.length c2]] W fun e w' => e = .returned (.bool q) ∧ Below W.heap.size W w') := fun q hq => light_any s c2 W (hW.later HB0.out).now hq
  have HH : Hid (∀ w : World, Calls Try.prog 10 #[] w fun e w' => e = .returned (.bool true) ∧ Below w.heap.size w w') := heads_any
  cases hf : lightB ws with
  | false =>
    have HFC := Lib.hid (HF.out false hf)
    clear hf hW hO HF
    subst hWW
    go_enter Try.func4, Try.ntmps4
    go_wp2_with (first
      | (go_at_call 18; refine HFC.out.mono ?_; rintro e w2 ⟨rfl, hb⟩; have HB := Lib.hid (HB0.out.trans (hb.mono HB0.out.size)); clear hb)
      | (go_at_call 10; refine (HH.out _).mono ?_; rintro e w4 ⟨rfl, hb4⟩; have HB4 := Lib.hid (HB.out.trans (hb4.mono HB.out.size)); clear hb4))
    go_ret
    exact ⟨rfl, HB4.out⟩
  | true =>
    have HFC := Lib.hid (HF.out true hf)
    by_cases h40 : os.length ≤ 40
    case neg =>
      have h40' : (40 : Int) < (os.length : Int) := by omega
      clear hf hW hO HF h40
      subst hWW
      go_enter Try.func4, Try.ntmps4
      go_wp2_with (first
        | (go_at_call 18; refine HFC.out.mono ?_; rintro e w2 ⟨rfl, hb⟩; have HB := Lib.hid (HB0.out.trans (hb.mono HB0.out.size)); clear hb)
        | (go_at_call 10; refine (HH.out _).mono ?_; rintro e w4 ⟨rfl, hb4⟩; have HB4 := Lib.hid (HB.out.trans (hb4.mono HB.out.size)); clear hb4))
      go_ret
      exact ⟨rfl, HB4.out⟩
    have h40' : ¬ (40 : Int) < (os.length : Int) := by omega
    have hfe : fewB ws = true := by
      unfold lightB at hf
      rw [Bool.and_eq_true] at hf
      exact hf.1
    obtain ⟨h1, h2, h3⟩ := few_bounds hfe
    have HC := Lib.hid (course_cells w s A2 ws.length c2)
    rw [← hWW] at HC
    have HW : Hid (∀ w1, Below W.heap.size W w1 → OversAt w1.heap.size w1 A os ∧ WaysAt w1.heap.size w1 A2 ws) := fun w1 hb => ⟨((hO.later HB0.out).later hb).now, ((hW.later HB0.out).later (hb.mono (Nat.le_refl _))).now⟩
    have h1000 : ∀ ps ∈ ws, ∀ p ∈ ps, p.length ≤ 1000 := fun ps hps p hp => by have := h3 ps hps p hp; omega
    obtain ⟨L, hL⟩ : ∃ L, L = loadsOf os s ws := ⟨_, rfl⟩
    have HLL : Hid (L.length ≤ 1000000 ∧ ∀ r ∈ L, r.length ≤ 1000000) := by
      refine ⟨by rw [hL]; exact Nat.le_trans loads_few (by decide), fun r hr => ?_⟩
      rw [hL] at hr
      have := loads_len r hr
      omega
    have HL1 : Hid (∀ w, OversAt w.heap.size w A os → WaysAt w.heap.size w A2 ws → Calls Try.prog 20 #[.slice A os.length c, .agg #[.string s, .slice A2 ws.length c2]] w fun e w' => ∃ A' c', e = .returned (.slice A' L.length c') ∧ RowsAt w'.heap.size w' A' L ∧ Below w.heap.size w w') := fun w h1 h2 => by rw [hL]; exact loads_all s c c2 w h1 h2 hs9 h1000 (by omega)
    have HL2 : Hid (∀ w, OversAt w.heap.size w A os → WaysAt w.heap.size w A2 ws → Calls Try.prog 21 #[.slice A os.length c, .agg #[.string s, .slice A2 ws.length c2]] w fun e w' => ∃ A' c', e = .returned (.slice A' L.length c') ∧ RowsAt w'.heap.size w' A' L ∧ Below w.heap.size w w') := fun w h1 h2 => by rw [hL]; exact refLoads_any s c c2 w h1 h2 hs9 h1000 (by omega)
    have HS : Hid (∀ (A1 A2 : Option Addr) (c1 c2 : Nat) (w : World), RowsAt w.heap.size w A1 L → RowsAt w.heap.size w A2 L → Calls Try.prog 19 #[.slice A1 L.length c1, .slice A2 L.length c2] w fun e w' => e = .returned (.bool true) ∧ Below w.heap.size w w') :=
      fun A1 A2 c1 c2 w h1 h2 => rows_same (q := true) c1 c2 w h1 h2 rfl rfl HLL.out.1 HLL.out.2 (by simp)
    clear hf hW hL hO h1000 h1 h2 h3 hs9 hfe HF h40
    subst hWW
    go_enter Try.func4, Try.ntmps4
    go_wp2_with (go_at_call 18; refine HFC.out.mono ?_; rintro e w2 ⟨rfl, hb⟩; have HBW := Lib.hid hb; clear hb)
    refine region_words (loadWords os A c s A2 c2 ws L) (by kernel_rfl) (by kernel_rfl) ?_ ?_
    · refine ⟨?_, ?_, ?_, ?_, ?_, ?_, ?_, ?_, ?_, ?_, ?_, trivial⟩
      · intro a w1 hb hs hd hf hj
        have h0 : a.tmps.getD 0 undef = .slice A os.length c := hf 0 (by decide)
        refine st_still (wanted_none rfl) (u := .slice A os.length c) ?_ rfl
        simp [execOp, Act.eval, h0, go_sem, -Array.getD_eq_getD_getElem?]
      · intro a w1 hb hs hd hf hj
        have h3 : a.tmps.getD 3 undef = .pointer (some ⟨w.heap.size, 0, none⟩) := hf 3 (by decide)
        have hbw := HBW.out.trans (hb.mono HBW.out.size)
        obtain ⟨c0, c1⟩ := HC.out w1 hbw
        refine st_still (wanted_none rfl) (u := .agg #[.string s, .slice A2 ws.length c2]) ?_ rfl
        simp [execOp, Act.eval, h3, c0, c1, go_sem, -Array.getD_eq_getD_getElem?]
      · intro a w1 hb hs hd hf hj
        have h14 : a.tmps.getD 14 undef = .slice A os.length c := hj 0 (by kernel_rfl)
        have h15 : a.tmps.getD 15 undef = .agg #[.string s, .slice A2 ws.length c2] := hj 1 (by kernel_rfl)
        have hbw := HBW.out.trans (hb.mono HBW.out.size)
        have hw1 := HW.out w1 hbw
        refine st_call (wanted_none rfl) (f := 20) (args := #[.slice A os.length c, .agg #[.string s, .slice A2 ws.length c2]]) ?_ ((HL1.out w1 hw1.1 hw1.2).mono (fun e w2 ⟨A9, c9, h1, h2, h3⟩ => ⟨_, h1, ⟨A9, c9, rfl, h2⟩, h3⟩))
        simp [execOp, Act.eval, resolve, h14, h15, go_sem, -Array.getD_eq_getD_getElem?]
      · intro a w1 hb hs hd hf hj
        have h0 : a.tmps.getD 0 undef = .slice A os.length c := hf 0 (by decide)
        refine st_still (wanted_none rfl) (u := .slice A os.length c) ?_ rfl
        simp [execOp, Act.eval, h0, go_sem, -Array.getD_eq_getD_getElem?]
      · intro a w1 hb hs hd hf hj
        have h3 : a.tmps.getD 3 undef = .pointer (some ⟨w.heap.size, 0, none⟩) := hf 3 (by decide)
        have hbw := HBW.out.trans (hb.mono HBW.out.size)
        obtain ⟨c0, c1⟩ := HC.out w1 hbw
        refine st_still (wanted_none rfl) (u := .agg #[.string s, .slice A2 ws.length c2]) ?_ rfl
        simp [execOp, Act.eval, h3, c0, c1, go_sem, -Array.getD_eq_getD_getElem?]
      · intro a w1 hb hs hd hf hj
        have h17 : a.tmps.getD 17 undef = .slice A os.length c := hj 3 (by kernel_rfl)
        have h18 : a.tmps.getD 18 undef = .agg #[.string s, .slice A2 ws.length c2] := hj 4 (by kernel_rfl)
        have hbw := HBW.out.trans (hb.mono HBW.out.size)
        have hw1 := HW.out w1 hbw
        refine st_call (wanted_none rfl) (f := 21) (args := #[.slice A os.length c, .agg #[.string s, .slice A2 ws.length c2]]) ?_ ((HL2.out w1 hw1.1 hw1.2).mono (fun e w2 ⟨A9, c9, h1, h2, h3⟩ => ⟨_, h1, ⟨A9, c9, rfl, h2⟩, h3⟩))
        simp [execOp, Act.eval, resolve, h17, h18, go_sem, -Array.getD_eq_getD_getElem?]
      · intro a w1 hb hs hd hf hj
        obtain ⟨A16, c16, h16, i16⟩ : ∃ A c, a.tmps.getD 16 undef = .slice A L.length c ∧ RowsAt w1.heap.size w1 A L := hj 2 (by kernel_rfl)
        obtain ⟨A19, c19, h19, i19⟩ : ∃ A c, a.tmps.getD 19 undef = .slice A L.length c ∧ RowsAt w1.heap.size w1 A L := hj 5 (by kernel_rfl)
        refine st_call (wanted_none rfl) (f := 19) (args := #[.slice A16 L.length c16, .slice A19 L.length c19]) ?_ ((HS.out A16 A19 c16 c19 w1 i16 i19).mono (fun e w2 ⟨h1, h2⟩ => ⟨_, h1, rfl, h2⟩))
        simp [execOp, Act.eval, resolve, h16, h19, go_sem, -Array.getD_eq_getD_getElem?]
      · intro a w1 hb hs hd hf hj
        have h20 : a.tmps.getD 20 undef = .bool true := hj 6 (by kernel_rfl)
        refine st_still (wanted_none rfl) (u := .bool true) ?_ rfl
        simp [execOp, Act.eval, h20, go_sem, -Array.getD_eq_getD_getElem?]
      · intro a w1 hb hs hd hf hj
        have hg : a.tmps.getD 21 undef = .bool true := hj 7 (by kernel_rfl)
        refine st_call (wanted_true rfl rfl hg) (f := 10) (args := #[]) ?_ ((heads_any w1).mono (fun e w2 ⟨h1, h2⟩ => ⟨_, h1, rfl, h2⟩))
        simp [execOp, Act.eval, resolve, go_sem, -Array.getD_eq_getD_getElem?]
      · intro a w1 hb hs hd hf hj
        have h21 : a.tmps.getD 21 undef = .bool true := hj 7 (by kernel_rfl)
        have h22 : a.tmps.getD 22 undef = .bool true := hj 8 (by kernel_rfl)
        refine st_still (wanted_none rfl) (u := .bool true) ?_ rfl
        simp [execOp, Act.eval, h21, h22, go_sem, -Array.getD_eq_getD_getElem?]
      · intro a w1 hb hs hd hf hj
        have h23 : a.tmps.getD 23 undef = .bool true := hj 9 (by kernel_rfl)
        refine st_still (wanted_none rfl) (u := .bool true) ?_ rfl
        simp [execOp, Act.eval, h23, go_sem, -Array.getD_eq_getD_getElem?]
    · intro a w1 hb hs hd hf hj
      have h0 : a.tmps.getD 4 undef = .bool true := hj 10 (by decide)
      simp only [Exit.then]
      apply_rules [wp_ret]
      refine bodyPost_ret (results_tmp rfl _ _ _) hd ?_
      rw [h0]
      exact ⟨rfl, HB0.out.trans ((HBW.out.trans (hb.mono HBW.out.size)).mono HB0.out.size)⟩
end Go.Proofs.Ytebpdlnknfjoaaa
