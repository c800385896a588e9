/- The walk of the law CourseSames. -/
import Derived.Test.YtebpdlnknfjoaaaHeads
import Derived.Test.YtebpdlnknfjoaaaSameW
namespace Go.Proofs.Ytebpdlnknfjoaaa
set_option linter.unusedVariables false
set_option linter.unusedSimpArgs false
open Go.RowKit

def sameWords (s : ByteArray) (A1 : Option Addr) (a : List (List (List Int))) (c1 : Nat) (t : ByteArray) (A2 : Option Addr) (b : List (List (List Int))) (c2 : Nat) (q : Bool) : List Word := [.is (.agg #[.string s, .slice A1 a.length c1]), .is (.agg #[.string t, .slice A2 b.length c2]), .is (.bool q), .is (.agg #[.string s, .slice A1 a.length c1]), .is (.agg #[.string t, .slice A2 b.length c2]), .is (.bool q), .is (.bool true), .is (.bool true), .is (.agg #[.string s, .slice A1 a.length c1]), .is (.agg #[.string s, .slice A1 a.length c1]), .is (.bool true), .is (.bool true), .is (.bool true), .is (.bool true), .is (.bool true), .is (.bool true)]

theorem few_small {ws : List (List (List Int))} (h : fewB ws = true) : Small ws := by
  obtain ⟨h1, h2, h3⟩ := few_bounds h
  exact ⟨by omega, fun ps hps => ⟨by have := h2 ps hps; omega, fun p hp => by have := h3 ps hps p hp; omega⟩⟩
theorem two_boxes (w : World) (u v : Array Value) : ∀ w1, Below ((w.alloc (.cells u 24)).alloc (.cells v 24)).heap.size ((w.alloc (.cells u 24)).alloc (.cells v 24)) w1 →
    w1.heap[w.heap.size]? = some (.cells u 24 (0, 0)) ∧ w1.heap[w.heap.size + 1]? = some (.cells v 24 (0, 0)) := by
  intro w1 hb
  have h1 := alloc_at w (.cells u 24)
  have h2 := alloc_at (w.alloc (.cells u 24)) (.cells v 24)
  have e : (w.alloc (.cells u 24)).heap.size = w.heap.size + 1 := by simp
  rw [e] at h2
  have h3 := (Below.heap_alloc (w.alloc (.cells u 24)) (.cells v 24) _ (Array.getElem?_eq_some_iff.1 h1).1).trans h1
  exact ⟨(hb.block _ (Array.getElem?_eq_some_iff.1 h3).1).trans h3, (hb.block _ (Array.getElem?_eq_some_iff.1 h2).1).trans h2⟩
theorem box_two {w : World} {b : Nat} {u v : Value} (h : w.heap[b]? = some (.cells #[u, v] 24 (0, 0))) : w.cell? ⟨b, 0, none⟩ = some u ∧ w.cell? ⟨b, 1, none⟩ = some v := by
  constructor <;> (unfold World.cell?; rw [h]; rfl)

set_option maxRecDepth 100000 in
set_option maxHeartbeats 1000000 in
theorem sames_law (s : ByteArray) (a : List (List (List Int))) (t : ByteArray) (b : List (List (List Int))) (A1 : Option Addr) (c1 : Nat) (A2 : Option Addr) (c2 : Nat) (w : World) (hs : s.size ≤ maxLen) (h1 : WaysAt w.heap.size w A1 a) (ht : t.size ≤ maxLen) (h2 : WaysAt w.heap.size w A2 b) :
    Calls Try.prog 8 #[.agg #[.string s, .slice A1 a.length c1], .agg #[.string t, .slice A2 b.length c2]] w fun e w' => e = .returned (.bool true) ∧ Below w.heap.size w w' := by
  obtain ⟨W, hWW⟩ : ∃ W, W = (w.alloc (.cells #[.string s, .slice A1 a.length c1] 24)).alloc (.cells #[.string t, .slice A2 b.length c2] 24) := ⟨_, rfl⟩
  have HB0 : Hid (Below w.heap.size w W) := by rw [hWW]; exact ((Below.refl _ _).alloc (Nat.le_refl _) _).alloc (by simp) _
  have HW : Hid (∀ w1, Below W.heap.size W w1 → WaysAt w1.heap.size w1 A1 a ∧ WaysAt w1.heap.size w1 A2 b) := fun w1 hb => ⟨((h1.later HB0.out).later hb).now, ((h2.later HB0.out).later hb).now⟩
  have hbx := two_boxes w #[.string s, .slice A1 a.length c1] #[.string t, .slice A2 b.length c2]
  rw [← hWW] at hbx
  have HC1 : Hid (∀ w1, Below W.heap.size W w1 → w1.cell? ⟨w.heap.size, 0, none⟩ = some (.string s) ∧ w1.cell? ⟨w.heap.size, 1, none⟩ = some (.slice A1 a.length c1)) := fun w1 hb => box_two (hbx w1 hb).1
  have HC2 : Hid (∀ w1, Below W.heap.size W w1 → w1.cell? ⟨w.heap.size + 1, 0, none⟩ = some (.string t) ∧ w1.cell? ⟨w.heap.size + 1, 1, none⟩ = some (.slice A2 b.length c2)) := fun w1 hb => box_two (hbx w1 hb).2
  have HF1 : Hid (∀ w1 q, fewB a = q → Below W.heap.size W w1 → Calls Try.prog 9 #[.agg #[.string s, .slice A1 a.length c1]] w1 fun e w' => e = .returned (.bool q) ∧ Below w1.heap.size w1 w') := fun w1 q hq hb => by rw [← hq]; exact few_any s c1 w1 (HW.out w1 hb).1
  have HF2 : Hid (∀ w1 q, fewB b = q → Below W.heap.size W w1 → Calls Try.prog 9 #[.agg #[.string t, .slice A2 b.length c2]] w1 fun e w' => e = .returned (.bool q) ∧ Below w1.heap.size w1 w') := fun w1 q hq hb => by rw [← hq]; exact few_any t c2 w1 (HW.out w1 hb).2
  have HH : Hid (∀ w : World, Calls Try.prog 10 #[] w fun e w' => e = .returned (.bool true) ∧ Below w.heap.size w w') := heads_any
  obtain ⟨d1, d2⟩ := HC1.out W (Below.refl _ _)
  obtain ⟨d3, d4⟩ := HC2.out W (Below.refl _ _)
  cases hf : fewB a with
  | false =>
    have HX1 := Lib.hid (HF1.out W false hf (Below.refl _ _))
    clear hf h1 h2 hbx HF1 HF2 HW HC1 HC2 d1 d2 d3 d4
    subst hWW
    go_enter Try.func8, Try.ntmps8
    go_wp2_with (first
      | (go_at_call 9; refine HX1.out.mono ?_; rintro e w2 ⟨rfl, hb⟩; have HB := Lib.hid (HB0.out.trans (hb.mono HB0.out.size)); clear hb)
      | (go_at_call 10; refine (HH.out _).mono ?_; rintro e w4 ⟨rfl, hb4⟩; have HB4 := Lib.hid (HB.out.trans (hb4.mono HB.out.size)); clear hb4))
    go_ret
    exact ⟨rfl, HB4.out⟩
  | true =>
    have HX1 := Lib.hid (HF1.out W true hf (Below.refl _ _))
    cases hg : fewB b with
    | false =>
      clear hf h1 h2 hbx HF1 HW d1 d2 d3 d4
      subst hWW
      go_enter Try.func8, Try.ntmps8
      go_wp2_with (first
        | (go_at_call 9; first
           | ((with_reducible refine HX1.out.mono ?_); rintro e w2 ⟨rfl, hb⟩; have HX2 := Lib.hid (HF2.out w2 false hg hb); have hcc := HC2.out w2 hb; obtain ⟨d3, d4⟩ := hcc; have HB := Lib.hid (HB0.out.trans (hb.mono HB0.out.size)); clear hb)
           | ((with_reducible refine HX2.out.mono ?_); rintro e w3 ⟨rfl, hb3⟩; have HB3 := Lib.hid (HB.out.trans (hb3.mono HB.out.size)); clear hb3))
        | (go_at_call 10; refine (HH.out _).mono ?_; rintro e w4 ⟨rfl, hb4⟩; have HB4 := Lib.hid (HB3.out.trans (hb4.mono HB3.out.size)); clear hb4))
      go_ret
      exact ⟨rfl, HB4.out⟩
    | true =>
      have hsa := few_small hf
      have hsb := few_small hg
      obtain ⟨q, hq⟩ : ∃ q, q = sameB s t a b := ⟨_, rfl⟩
      have haa : sameB s s a a = true := by unfold sameB; simp
      have HS1 : Hid (∀ w, WaysAt w.heap.size w A1 a → WaysAt w.heap.size w A2 b → Calls Try.prog 26 #[.agg #[.string s, .slice A1 a.length c1], .agg #[.string t, .slice A2 b.length c2]] w fun e w' => e = .returned (.bool q) ∧ Below w.heap.size w w') := fun w h1 h2 => courseSame_any s t c1 c2 w h1 h2 hsa hsb hq.symm
      have HS2 : Hid (∀ w, WaysAt w.heap.size w A1 a → WaysAt w.heap.size w A2 b → Calls Try.prog 27 #[.agg #[.string s, .slice A1 a.length c1], .agg #[.string t, .slice A2 b.length c2]] w fun e w' => e = .returned (.bool q) ∧ Below w.heap.size w w') := fun w h1 h2 => refSame_any s t c1 c2 w h1 h2 hsa hsb hq.symm
      have HS3 : Hid (∀ w, WaysAt w.heap.size w A1 a → Calls Try.prog 26 #[.agg #[.string s, .slice A1 a.length c1], .agg #[.string s, .slice A1 a.length c1]] w fun e w' => e = .returned (.bool true) ∧ Below w.heap.size w w') := fun w h1 => courseSame_any s s c1 c1 w h1 h1 hsa hsa haa
      clear h1 h2 hbx HF1 d1 d2 d3 d4 hsa hsb hq haa hf
      subst hWW
      go_enter Try.func8, Try.ntmps8
      go_wp2_with (go_at_call 9; first
           | ((with_reducible refine HX1.out.mono ?_); rintro e w2 ⟨rfl, hb⟩; have HX2 := Lib.hid (HF2.out w2 true hg hb); have hcc := HC2.out w2 hb; obtain ⟨d3, d4⟩ := hcc; have HBV := Lib.hid hb; clear hb)
           | ((with_reducible refine HX2.out.mono ?_); rintro e w3 ⟨rfl, hb3⟩; have HBW := Lib.hid (HBV.out.trans (hb3.mono HBV.out.size)); clear hb3 d3 d4))
      refine region_words (sameWords s A1 a c1 t A2 b c2 q) (by kernel_rfl) (by kernel_rfl) ?_ ?_
      · refine ⟨?_, ?_, ?_, ?_, ?_, ?_, ?_, ?_, ?_, ?_, ?_, ?_, ?_, ?_, ?_, ?_, trivial⟩
        · intro a9 w1 hb hs hd hf hj
          have h2 : a9.tmps.getD 2 undef = .pointer (some ⟨w.heap.size, 0, none⟩) := hf 2 (by decide)
          have hbw := HBW.out.trans (hb.mono HBW.out.size)
          obtain ⟨k0, k1⟩ := HC1.out w1 hbw
          refine st_still (wanted_none rfl) (u := .agg #[.string s, .slice A1 a.length c1]) ?_ rfl
          simp [execOp, Act.eval, h2, k0, k1, go_sem, -Array.getD_eq_getD_getElem?]
        · intro a9 w1 hb hs hd hf hj
          have h3 : a9.tmps.getD 3 undef = .pointer (some ⟨w.heap.size + 1, 0, none⟩) := hf 3 (by decide)
          have hbw := HBW.out.trans (hb.mono HBW.out.size)
          obtain ⟨k0, k1⟩ := HC2.out w1 hbw
          refine st_still (wanted_none rfl) (u := .agg #[.string t, .slice A2 b.length c2]) ?_ rfl
          simp [execOp, Act.eval, h3, k0, k1, go_sem, -Array.getD_eq_getD_getElem?]
        · intro a9 w1 hb hs hd hf hj
          have h14 : a9.tmps.getD 14 undef = .agg #[.string s, .slice A1 a.length c1] := hj 0 (by kernel_rfl)
          have h15 : a9.tmps.getD 15 undef = .agg #[.string t, .slice A2 b.length c2] := hj 1 (by kernel_rfl)
          have hbw := HBW.out.trans (hb.mono HBW.out.size)
          have hw1 := HW.out w1 hbw
          refine st_call (wanted_none rfl) (f := 26) (args := #[.agg #[.string s, .slice A1 a.length c1], .agg #[.string t, .slice A2 b.length c2]]) ?_ ((HS1.out w1 hw1.1 hw1.2).mono (fun e w2 ⟨h1, h2⟩ => ⟨_, h1, rfl, h2⟩))
          simp [execOp, Act.eval, resolve, h14, h15, go_sem, -Array.getD_eq_getD_getElem?]
        · intro a9 w1 hb hs hd hf hj
          have h2 : a9.tmps.getD 2 undef = .pointer (some ⟨w.heap.size, 0, none⟩) := hf 2 (by decide)
          have hbw := HBW.out.trans (hb.mono HBW.out.size)
          obtain ⟨k0, k1⟩ := HC1.out w1 hbw
          refine st_still (wanted_none rfl) (u := .agg #[.string s, .slice A1 a.length c1]) ?_ rfl
          simp [execOp, Act.eval, h2, k0, k1, go_sem, -Array.getD_eq_getD_getElem?]
        · intro a9 w1 hb hs hd hf hj
          have h3 : a9.tmps.getD 3 undef = .pointer (some ⟨w.heap.size + 1, 0, none⟩) := hf 3 (by decide)
          have hbw := HBW.out.trans (hb.mono HBW.out.size)
          obtain ⟨k0, k1⟩ := HC2.out w1 hbw
          refine st_still (wanted_none rfl) (u := .agg #[.string t, .slice A2 b.length c2]) ?_ rfl
          simp [execOp, Act.eval, h3, k0, k1, go_sem, -Array.getD_eq_getD_getElem?]
        · intro a9 w1 hb hs hd hf hj
          have h17 : a9.tmps.getD 17 undef = .agg #[.string s, .slice A1 a.length c1] := hj 3 (by kernel_rfl)
          have h18 : a9.tmps.getD 18 undef = .agg #[.string t, .slice A2 b.length c2] := hj 4 (by kernel_rfl)
          have hbw := HBW.out.trans (hb.mono HBW.out.size)
          have hw1 := HW.out w1 hbw
          refine st_call (wanted_none rfl) (f := 27) (args := #[.agg #[.string s, .slice A1 a.length c1], .agg #[.string t, .slice A2 b.length c2]]) ?_ ((HS2.out w1 hw1.1 hw1.2).mono (fun e w2 ⟨h1, h2⟩ => ⟨_, h1, rfl, h2⟩))
          simp [execOp, Act.eval, resolve, h17, h18, go_sem, -Array.getD_eq_getD_getElem?]
        · intro a9 w1 hb hs hd hf hj
          have h16 : a9.tmps.getD 16 undef = .bool q := hj 2 (by kernel_rfl)
          have h19 : a9.tmps.getD 19 undef = .bool q := hj 5 (by kernel_rfl)
          refine st_still (wanted_none rfl) (u := .bool true) ?_ rfl
          simp [execOp, Act.eval, h16, h19, go_sem, -Array.getD_eq_getD_getElem?]
        · intro a9 w1 hb hs hd hf hj
          have h20 : a9.tmps.getD 20 undef = .bool true := hj 6 (by kernel_rfl)
          refine st_still (wanted_none rfl) (u := .bool true) ?_ rfl
          simp [execOp, Act.eval, h20, go_sem, -Array.getD_eq_getD_getElem?]
        · intro a9 w1 hb hs hd hf hj
          have hg : a9.tmps.getD 21 undef = .bool true := hj 7 (by kernel_rfl)
          have h2 : a9.tmps.getD 2 undef = .pointer (some ⟨w.heap.size, 0, none⟩) := hf 2 (by decide)
          have hbw := HBW.out.trans (hb.mono HBW.out.size)
          obtain ⟨k0, k1⟩ := HC1.out w1 hbw
          refine st_still (wanted_true rfl rfl hg) (u := .agg #[.string s, .slice A1 a.length c1]) ?_ rfl
          simp [execOp, Act.eval, h2, k0, k1, go_sem, -Array.getD_eq_getD_getElem?]
        · intro a9 w1 hb hs hd hf hj
          have hg : a9.tmps.getD 21 undef = .bool true := hj 7 (by kernel_rfl)
          have h2 : a9.tmps.getD 2 undef = .pointer (some ⟨w.heap.size, 0, none⟩) := hf 2 (by decide)
          have hbw := HBW.out.trans (hb.mono HBW.out.size)
          obtain ⟨k0, k1⟩ := HC1.out w1 hbw
          refine st_still (wanted_true rfl rfl hg) (u := .agg #[.string s, .slice A1 a.length c1]) ?_ rfl
          simp [execOp, Act.eval, h2, k0, k1, go_sem, -Array.getD_eq_getD_getElem?]
        · intro a9 w1 hb hs hd hf hj
          have hg : a9.tmps.getD 21 undef = .bool true := hj 7 (by kernel_rfl)
          have h22 : a9.tmps.getD 22 undef = .agg #[.string s, .slice A1 a.length c1] := hj 8 (by kernel_rfl)
          have h23 : a9.tmps.getD 23 undef = .agg #[.string s, .slice A1 a.length c1] := hj 9 (by kernel_rfl)
          have hbw := HBW.out.trans (hb.mono HBW.out.size)
          have hw1 := HW.out w1 hbw
          refine st_call (wanted_true rfl rfl hg) (f := 26) (args := #[.agg #[.string s, .slice A1 a.length c1], .agg #[.string s, .slice A1 a.length c1]]) ?_ ((HS3.out w1 hw1.1).mono (fun e w2 ⟨h1, h2⟩ => ⟨_, h1, rfl, h2⟩))
          simp [execOp, Act.eval, resolve, h22, h23, go_sem, -Array.getD_eq_getD_getElem?]
        · intro a9 w1 hb hs hd hf hj
          have h21 : a9.tmps.getD 21 undef = .bool true := hj 7 (by kernel_rfl)
          have h24 : a9.tmps.getD 24 undef = .bool true := hj 10 (by kernel_rfl)
          refine st_still (wanted_none rfl) (u := .bool true) ?_ rfl
          simp [execOp, Act.eval, h21, h24, go_sem, -Array.getD_eq_getD_getElem?]
        · intro a9 w1 hb hs hd hf hj
          have h25 : a9.tmps.getD 25 undef = .bool true := hj 11 (by kernel_rfl)
          refine st_still (wanted_none rfl) (u := .bool true) ?_ rfl
          simp [execOp, Act.eval, h25, go_sem, -Array.getD_eq_getD_getElem?]
        · intro a9 w1 hb hs hd hf hj
          have hg : a9.tmps.getD 26 undef = .bool true := hj 12 (by kernel_rfl)
          refine st_call (wanted_true rfl rfl hg) (f := 10) (args := #[]) ?_ ((heads_any w1).mono (fun e w2 ⟨h1, h2⟩ => ⟨_, h1, rfl, h2⟩))
          simp [execOp, Act.eval, resolve, go_sem, -Array.getD_eq_getD_getElem?]
        · intro a9 w1 hb hs hd hf hj
          have h26 : a9.tmps.getD 26 undef = .bool true := hj 12 (by kernel_rfl)
          have h27 : a9.tmps.getD 27 undef = .bool true := hj 13 (by kernel_rfl)
          refine st_still (wanted_none rfl) (u := .bool true) ?_ rfl
          simp [execOp, Act.eval, h26, h27, go_sem, -Array.getD_eq_getD_getElem?]
        · intro a9 w1 hb hs hd hf hj
          have h28 : a9.tmps.getD 28 undef = .bool true := hj 14 (by kernel_rfl)
          refine st_still (wanted_none rfl) (u := .bool true) ?_ rfl
          simp [execOp, Act.eval, h28, go_sem, -Array.getD_eq_getD_getElem?]
      · intro a w1 hb hs hd hf hj
        have h0 : a.tmps.getD 4 undef = .bool true := hj 15 (by decide)
        simp only [Exit.then]
        apply_rules [wp_ret]
        refine bodyPost_ret (results_tmp rfl _ _ _) hd ?_
        rw [h0]
        exact ⟨rfl, HB0.out.trans ((HBW.out.trans (hb.mono HBW.out.size)).mono HB0.out.size)⟩
end Go.Proofs.Ytebpdlnknfjoaaa
