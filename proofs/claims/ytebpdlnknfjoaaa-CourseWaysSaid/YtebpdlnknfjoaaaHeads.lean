/- The chapter's example returns true. -/
import Derived.Test.YtebpdlnknfjoaaaHeadsP
import Derived.Test.YtebpdlnknfjoaaaClasses
namespace Go.Proofs.Ytebpdlnknfjoaaa
set_option linter.unusedVariables false
set_option linter.unusedSimpArgs false
open Go.RowKit

/-- The course, its ways in the block b. -/
def cv (b : Nat) : Value := .agg #[.string s0, .slice (some ⟨b, 0, none⟩) 1 1]
theorem two_rows {w : World} {A1 A2 : Option Addr} {c1 c2 : Nat} {xs ys : List Int} (h1 : IntsAt w.heap.size w A1 xs) (h2 : IntsAt w.heap.size w A2 ys) (hc1 : xs.length ≤ c1) (hc2 : ys.length ≤ c2) :
    RowsAt (w.alloc (.cells #[.slice A1 xs.length c1, .slice A2 ys.length c2] 29)).heap.size (w.alloc (.cells #[.slice A1 xs.length c1, .slice A2 ys.length c2] 29)) (some ⟨w.heap.size, 0, none⟩) [xs, ys] := by
  have hb := alloc_below w (.cells #[.slice A1 xs.length c1, .slice A2 ys.length c2] 29)
  have h := alloc_at w (.cells #[.slice A1 xs.length c1, .slice A2 ys.length c2] 29)
  intro i hi
  have h4 : i < 2 := hi
  match i, h4 with
  | 0, _ => exact ⟨_, A1, c1, rfl, by simp, by rw [add_free]; unfold World.cell?; rw [h]; rfl, hc1, (h1.later hb).mono hb.size⟩
  | 1, _ => exact ⟨_, A2, c2, rfl, by simp, by rw [add_free]; unfold World.cell?; rw [h]; rfl, hc2, (h2.later hb).mono hb.size⟩

def headWords (b : Nat) : List Word := [.is (cv b), .is (.bool true), .is (.bool true), oversW os0, .is (cv b), rowsW [[0, 2], [1, 3]], intsC [0, 2], intsC [1, 3], rowsW [[0, 2], [1, 3]], .is (.bool true), .is (.bool true), .is (.bool true), .is (cv b), .is (.int .i64 4), .is (.bool true), .is (.bool true), .is (.bool true), oversW os0, .is (cv b), intsW [1, 3], .is (.bool true), .is (.bool true), .is (.bool true), oversW os0, .is (cv b), intsW [0, 3], .is (.bool false), .is (.bool true), .is (.bool true), .is (.bool true), oversW os0, intsW [1], intsW [1], .is (.bool true), .is (.bool true), .is (.bool true), .is (cv b), intsW [0, 1, 2, 3], intsW [0, 1, 2, 3], .is (.bool true), .is (.bool true), .is (.bool true)]

/-- Memory, the example's course laid. -/
def headW (w : World) : World :=
  ((((w.alloc (.cells #[.int .i64 0, .int .i64 1] 3)).alloc (.cells #[.int .i64 2, .int .i64 3] 3)).alloc (.cells #[.slice (some ⟨w.heap.size, 0, none⟩) 2 2, .slice (some ⟨w.heap.size + 1, 0, none⟩) 2 2] 29)).alloc
    (.cells #[.slice (some ⟨w.heap.size + 1 + 1, 0, none⟩) 2 2] 42)).alloc (.cells #[.string { data := #[99] }, .slice (some ⟨w.heap.size + 1 + 1 + 1, 0, none⟩) 1 1] 24)
theorem headW_heap (w : World) : (headW w).heap[w.heap.size]? = some (.cells #[.int .i64 0, .int .i64 1] 3 (0, 0)) ∧ (headW w).heap[w.heap.size + 1]? = some (.cells #[.int .i64 2, .int .i64 3] 3 (0, 0)) ∧
    (headW w).heap[w.heap.size + 1 + 1]? = some (.cells #[.slice (some ⟨w.heap.size, 0, none⟩) 2 2, .slice (some ⟨w.heap.size + 1, 0, none⟩) 2 2] 29 (0, 0)) ∧ (headW w).heap[w.heap.size + 1 + 1 + 1]? = some (.cells #[.slice (some ⟨w.heap.size + 1 + 1, 0, none⟩) 2 2] 42 (0, 0)) ∧
    (headW w).heap[w.heap.size + 1 + 1 + 1 + 1]? = some (.cells #[.string s0, .slice (some ⟨w.heap.size + 1 + 1 + 1, 0, none⟩) 1 1] 24 (0, 0)) := by
  have sz : ∀ (w : World) (o : Obj), (w.alloc o).heap.size = w.heap.size + 1 := fun w o => by simp
  have old : ∀ (w : World) (o : Obj) (k : Nat) (x : Obj), w.heap[k]? = some x → (w.alloc o).heap[k]? = some x := fun w o k x hk => (Below.heap_alloc w o k (Array.getElem?_eq_some_iff.1 hk).1).trans hk
  have new : ∀ (w : World) (o : Obj) (k : Nat), k = w.heap.size → (w.alloc o).heap[k]? = some o := fun w o k hk => by subst hk; exact alloc_at w o
  unfold headW
  exact ⟨old _ _ _ _ (old _ _ _ _ (old _ _ _ _ (old _ _ _ _ (new _ _ _ rfl)))), old _ _ _ _ (old _ _ _ _ (old _ _ _ _ (new _ _ _ (by simp)))), old _ _ _ _ (old _ _ _ _ (new _ _ _ (by simp))), old _ _ _ _ (new _ _ _ (by simp)), new _ _ _ (by simp)⟩
theorem headW_below (w : World) : Below w.heap.size w (headW w) := by
  unfold headW
  exact (((((Below.refl _ _).alloc (Nat.le_refl _) _).alloc (by simp) _).alloc (by simp; omega) _).alloc (by simp; omega) _).alloc (by simp; omega) _
theorem ints_block {w : World} {g e : Nat} {x y : Int} (h : w.heap[g]? = some (.cells #[.int .i64 x, .int .i64 y] e (0, 0))) : IntsAt w.heap.size w (some ⟨g, 0, none⟩) [x, y] := by
  intro i hi
  have h4 : i < 2 := hi
  refine ⟨_, rfl, (Array.getElem?_eq_some_iff.1 h).1, ?_⟩
  rw [add_free]
  unfold World.cell?
  rw [h]
  match i, h4 with
  | 0, _ => rfl
  | 1, _ => rfl
theorem headW_ways (w : World) : WaysAt (headW w).heap.size (headW w) (some ⟨w.heap.size + 1 + 1 + 1, 0, none⟩) ws0 := by
  obtain ⟨h1, h2, h3, h4, h5⟩ := headW_heap w
  have hr : RowsAt (headW w).heap.size (headW w) (some ⟨w.heap.size + 1 + 1, 0, none⟩) [[0, 1], [2, 3]] := by
    intro i hi
    have hi2 : i < 2 := hi
    match i, hi2 with
    | 0, _ => exact ⟨_, _, 2, rfl, (Array.getElem?_eq_some_iff.1 h3).1, by rw [add_free]; unfold World.cell?; rw [h3]; rfl, Nat.le_refl _, ints_block h1⟩
    | 1, _ => exact ⟨_, _, 2, rfl, (Array.getElem?_eq_some_iff.1 h3).1, by rw [add_free]; unfold World.cell?; rw [h3]; rfl, Nat.le_refl _, ints_block h2⟩
  intro i hi
  have hi2 : i < 1 := hi
  match i, hi2 with
  | 0, _ => exact ⟨_, _, 2, rfl, (Array.getElem?_eq_some_iff.1 h4).1, by rw [add_free]; unfold World.cell?; rw [h4]; rfl, Nat.le_refl _, hr⟩

set_option maxRecDepth 100000 in
set_option maxHeartbeats 4000000 in
theorem heads_any (w : World) : Calls Try.prog 10 #[] w fun e w' => e = .returned (.bool true) ∧ Below w.heap.size w w' := by
  obtain ⟨W, hW⟩ : ∃ W, W = headW w := ⟨_, rfl⟩
  have HC : Hid (∀ w1, Below W.heap.size W w1 → w1.cell? ⟨w.heap.size + 1 + 1 + 1 + 1, 0, none⟩ = some (.string s0) ∧ w1.cell? ⟨w.heap.size + 1 + 1 + 1 + 1, 1, none⟩ = some (.slice (some ⟨w.heap.size + 1 + 1 + 1, 0, none⟩) 1 1)) := by
    intro w1 hb
    obtain ⟨_, _, _, _, h5⟩ := headW_heap w
    rw [← hW] at h5
    have := (hb.block _ (Array.getElem?_eq_some_iff.1 h5).1).trans h5
    constructor <;> (unfold World.cell?; rw [this]; rfl)
  have HW : Hid (∀ w1, Below W.heap.size W w1 → WaysAt w1.heap.size w1 (some ⟨w.heap.size + 1 + 1 + 1, 0, none⟩) ws0) := by
    intro w1 hb
    have := headW_ways w
    rw [← hW] at this
    exact (this.later hb).mono hb.size
  have HB := Lib.hid (headW_below w)
  rw [← hW] at HB
  go_enter Try.func10, Try.ntmps10
  go_wp2
  have e := hW
  unfold headW at e
  rw [← e]
  clear e hW
  refine region_words (headWords (w.heap.size + 1 + 1 + 1)) (by kernel_rfl) (by kernel_rfl) ?_ ?_
  · refine ⟨?_, ?_, ?_, ?_, ?_, ?_, ?_, ?_, ?_, ?_, ?_, ?_, ?_, ?_, ?_, ?_, ?_, ?_, ?_, ?_, ?_, ?_, ?_, ?_, ?_, ?_, ?_, ?_, ?_, ?_, ?_, ?_, ?_, ?_, ?_, ?_, ?_, ?_, ?_, ?_, ?_, ?_, trivial⟩
    · intro a w1 hb hs hd hf hj
      have h1 : a.tmps.getD 1 undef = .pointer (some ⟨w.heap.size + 1 + 1 + 1 + 1, 0, none⟩) := hf 1 (by decide)
      obtain ⟨c0, c1⟩ := HC.out w1 hb
      refine st_still (wanted_none rfl) (u := cv (w.heap.size + 1 + 1 + 1)) ?_ rfl
      simp [execOp, Act.eval, h1, c0, c1, cv, go_sem, -Array.getD_eq_getD_getElem?]
    · intro a w1 hb hs hd hf hj
      have hc : a.tmps.getD 8 undef = cv (w.heap.size + 1 + 1 + 1) := hj 0 (by kernel_rfl)
      have hw1 := HW.out w1 hb
      refine st_call (wanted_none rfl) (f := 11) (args := #[.int .i64 4, .agg #[.string s0, .slice (some ⟨w.heap.size + 1 + 1 + 1, 0, none⟩) 1 1]]) ?_ ((right_near (q := true) 4 s0 1 w1 hw1 (by decide) (by decide) right0).mono (fun e w2 ⟨h1, h2⟩ => ⟨_, h1, rfl, h2⟩))
      simp [execOp, Act.eval, hc, cv, resolve, go_sem, -Array.getD_eq_getD_getElem?]
    · intro a w1 hb hs hd hf hj
      have h0 : a.tmps.getD 9 undef = .bool true := hj 1 (by kernel_rfl)
      refine st_still (wanted_none rfl) (u := .bool true) ?_ rfl
      simp [execOp, Act.eval, h0, go_sem, -Array.getD_eq_getD_getElem?]
    · intro a w1 hb hs hd hf hj
      have hg : a.tmps.getD 10 undef = .bool true := hj 2 (by kernel_rfl)
      refine st_call (wanted_true rfl rfl hg) (f := 28) (args := #[]) ?_ (classes_fn w1)
      simp [execOp, Act.eval, resolve, go_sem, -Array.getD_eq_getD_getElem?]
    · intro a w1 hb hs hd hf hj
      have hg : a.tmps.getD 10 undef = .bool true := hj 2 (by kernel_rfl)
      have h1 : a.tmps.getD 1 undef = .pointer (some ⟨w.heap.size + 1 + 1 + 1 + 1, 0, none⟩) := hf 1 (by decide)
      obtain ⟨c0, c1⟩ := HC.out w1 hb
      refine st_still (wanted_true rfl rfl hg) (u := cv (w.heap.size + 1 + 1 + 1)) ?_ rfl
      simp [execOp, Act.eval, h1, c0, c1, cv, go_sem, -Array.getD_eq_getD_getElem?]
    · intro a w1 hb hs hd hf hj
      have hg : a.tmps.getD 10 undef = .bool true := hj 2 (by kernel_rfl)
      have hc : a.tmps.getD 12 undef = cv (w.heap.size + 1 + 1 + 1) := hj 4 (by kernel_rfl)
      obtain ⟨Ao, co, eo, ho⟩ : ∃ A c, a.tmps.getD 11 undef = .slice A 4 c ∧ OversAt w1.heap.size w1 A os0 := hj 3 (by kernel_rfl)
      have hw1 := HW.out w1 hb
      refine st_call (wanted_true rfl rfl hg) (f := 20) (args := #[.slice Ao 4 co, .agg #[.string s0, .slice (some ⟨w.heap.size + 1 + 1 + 1, 0, none⟩) 1 1]]) ?_ ((loads_any s0 co 1 w1 ho hw1 (by decide) (by decide) (by decide) (by decide)).mono (fun e w2 ⟨A9, c9, h1, h2, h3⟩ => ⟨_, h1, ⟨A9, c9, by rw [loads0], by rw [loads0] at h2; exact h2⟩, h3⟩))
      simp [execOp, Act.eval, hc, cv, eo, resolve, go_sem, -Array.getD_eq_getD_getElem?]
    · intro a w1 hb hs hd hf hj
      have hg : a.tmps.getD 10 undef = .bool true := hj 2 (by kernel_rfl)
      refine st_grow (wanted_true rfl rfl hg) (u := .slice (some ⟨w1.heap.size, 0, none⟩) 2 2) (w' := w1.alloc (.cells #[.int .i64 0, .int .i64 2] 3)) ?_ ⟨some ⟨w1.heap.size, 0, none⟩, 2, rfl, new_ints w1 [0, 2] 3, Nat.le_refl _⟩ (alloc_below _ _)
      simp [execOp, Act.eval, go_sem, -Array.getD_eq_getD_getElem?]
    · intro a w1 hb hs hd hf hj
      have hg : a.tmps.getD 10 undef = .bool true := hj 2 (by kernel_rfl)
      refine st_grow (wanted_true rfl rfl hg) (u := .slice (some ⟨w1.heap.size, 0, none⟩) 2 2) (w' := w1.alloc (.cells #[.int .i64 1, .int .i64 3] 3)) ?_ ⟨some ⟨w1.heap.size, 0, none⟩, 2, rfl, new_ints w1 [1, 3] 3, Nat.le_refl _⟩ (alloc_below _ _)
      simp [execOp, Act.eval, go_sem, -Array.getD_eq_getD_getElem?]
    · intro a w1 hb hs hd hf hj
      have hg : a.tmps.getD 10 undef = .bool true := hj 2 (by kernel_rfl)
      obtain ⟨Ai, ci, ei, hi, hci⟩ : ∃ A c, a.tmps.getD 14 undef = .slice A 2 c ∧ IntsAt w1.heap.size w1 A [0, 2] ∧ 2 ≤ c := hj 6 (by kernel_rfl)
      obtain ⟨Ai2, ci2, ei2, hi2, hci2⟩ : ∃ A c, a.tmps.getD 15 undef = .slice A 2 c ∧ IntsAt w1.heap.size w1 A [1, 3] ∧ 2 ≤ c := hj 7 (by kernel_rfl)
      refine st_grow (wanted_true rfl rfl hg) (u := .slice (some ⟨w1.heap.size, 0, none⟩) 2 2) (w' := w1.alloc (.cells #[.slice Ai 2 ci, .slice Ai2 2 ci2] 29)) ?_ ⟨some ⟨w1.heap.size, 0, none⟩, 2, rfl, two_rows hi hi2 hci hci2⟩ (alloc_below _ _)
      simp [execOp, Act.eval, ei, ei2, go_sem, -Array.getD_eq_getD_getElem?]
    · intro a w1 hb hs hd hf hj
      have hg : a.tmps.getD 10 undef = .bool true := hj 2 (by kernel_rfl)
      obtain ⟨Ar, cr, er, hr⟩ : ∃ A c, a.tmps.getD 13 undef = .slice A 2 c ∧ RowsAt w1.heap.size w1 A [[0, 2], [1, 3]] := hj 5 (by kernel_rfl)
      obtain ⟨Ar2, cr2, er2, hr2⟩ : ∃ A c, a.tmps.getD 16 undef = .slice A 2 c ∧ RowsAt w1.heap.size w1 A [[0, 2], [1, 3]] := hj 8 (by kernel_rfl)
      refine st_call (wanted_true rfl rfl hg) (f := 19) (args := #[.slice Ar 2 cr, .slice Ar2 2 cr2]) ?_ ((rows_same (q := true) cr cr2 w1 hr hr2 rfl rfl (by decide) (by decide) (by decide)).mono (fun e w2 ⟨h1, h2⟩ => ⟨_, h1, rfl, h2⟩))
      simp [execOp, Act.eval, er, er2, resolve, go_sem, -Array.getD_eq_getD_getElem?]
    · intro a w1 hb hs hd hf hj
      have h0 : a.tmps.getD 10 undef = .bool true := hj 2 (by kernel_rfl)
      have h1 : a.tmps.getD 17 undef = .bool true := hj 9 (by kernel_rfl)
      refine st_still (wanted_none rfl) (u := .bool true) ?_ rfl
      simp [execOp, Act.eval, h0, h1, go_sem, -Array.getD_eq_getD_getElem?]
    · intro a w1 hb hs hd hf hj
      have h0 : a.tmps.getD 18 undef = .bool true := hj 10 (by kernel_rfl)
      refine st_still (wanted_none rfl) (u := .bool true) ?_ rfl
      simp [execOp, Act.eval, h0, go_sem, -Array.getD_eq_getD_getElem?]
    · intro a w1 hb hs hd hf hj
      have hg : a.tmps.getD 19 undef = .bool true := hj 11 (by kernel_rfl)
      have h1 : a.tmps.getD 1 undef = .pointer (some ⟨w.heap.size + 1 + 1 + 1 + 1, 0, none⟩) := hf 1 (by decide)
      obtain ⟨c0, c1⟩ := HC.out w1 hb
      refine st_still (wanted_true rfl rfl hg) (u := cv (w.heap.size + 1 + 1 + 1)) ?_ rfl
      simp [execOp, Act.eval, h1, c0, c1, cv, go_sem, -Array.getD_eq_getD_getElem?]
    · intro a w1 hb hs hd hf hj
      have hg : a.tmps.getD 19 undef = .bool true := hj 11 (by kernel_rfl)
      have hc : a.tmps.getD 20 undef = cv (w.heap.size + 1 + 1 + 1) := hj 12 (by kernel_rfl)
      have hw1 := HW.out w1 hb
      refine st_call (wanted_true rfl rfl hg) (f := 16) (args := #[.agg #[.string s0, .slice (some ⟨w.heap.size + 1 + 1 + 1, 0, none⟩) 1 1]]) ?_ ((count_any s0 1 w1 hw1 (by decide) (by decide)).mono (fun e w2 ⟨h1, h2⟩ => ⟨_, h1, by rw [count0]; rfl, h2⟩))
      simp [execOp, Act.eval, hc, cv, resolve, go_sem, -Array.getD_eq_getD_getElem?]
    · intro a w1 hb hs hd hf hj
      have hg : a.tmps.getD 19 undef = .bool true := hj 11 (by kernel_rfl)
      have h0 : a.tmps.getD 21 undef = .int .i64 4 := hj 13 (by kernel_rfl)
      refine st_still (wanted_true rfl rfl hg) (u := .bool true) ?_ rfl
      simp [execOp, Act.eval, h0, go_sem, -Array.getD_eq_getD_getElem?]
    · intro a w1 hb hs hd hf hj
      have h0 : a.tmps.getD 19 undef = .bool true := hj 11 (by kernel_rfl)
      have h1 : a.tmps.getD 22 undef = .bool true := hj 14 (by kernel_rfl)
      refine st_still (wanted_none rfl) (u := .bool true) ?_ rfl
      simp [execOp, Act.eval, h0, h1, go_sem, -Array.getD_eq_getD_getElem?]
    · intro a w1 hb hs hd hf hj
      have h0 : a.tmps.getD 23 undef = .bool true := hj 15 (by kernel_rfl)
      refine st_still (wanted_none rfl) (u := .bool true) ?_ rfl
      simp [execOp, Act.eval, h0, go_sem, -Array.getD_eq_getD_getElem?]
    · intro a w1 hb hs hd hf hj
      have hg : a.tmps.getD 24 undef = .bool true := hj 16 (by kernel_rfl)
      refine st_call (wanted_true rfl rfl hg) (f := 28) (args := #[]) ?_ (classes_fn w1)
      simp [execOp, Act.eval, resolve, go_sem, -Array.getD_eq_getD_getElem?]
    · intro a w1 hb hs hd hf hj
      have hg : a.tmps.getD 24 undef = .bool true := hj 16 (by kernel_rfl)
      have h1 : a.tmps.getD 1 undef = .pointer (some ⟨w.heap.size + 1 + 1 + 1 + 1, 0, none⟩) := hf 1 (by decide)
      obtain ⟨c0, c1⟩ := HC.out w1 hb
      refine st_still (wanted_true rfl rfl hg) (u := cv (w.heap.size + 1 + 1 + 1)) ?_ rfl
      simp [execOp, Act.eval, h1, c0, c1, cv, go_sem, -Array.getD_eq_getD_getElem?]
    · intro a w1 hb hs hd hf hj
      have hg : a.tmps.getD 24 undef = .bool true := hj 16 (by kernel_rfl)
      refine st_grow (wanted_true rfl rfl hg) (u := .slice (some ⟨w1.heap.size, 0, none⟩) 2 2) (w' := w1.alloc (.cells #[.int .i64 1, .int .i64 3] 3)) ?_ ⟨some ⟨w1.heap.size, 0, none⟩, 2, rfl, new_ints w1 [1, 3] 3⟩ (alloc_below _ _)
      simp [execOp, Act.eval, go_sem, -Array.getD_eq_getD_getElem?]
    · intro a w1 hb hs hd hf hj
      have hg : a.tmps.getD 24 undef = .bool true := hj 16 (by kernel_rfl)
      have hc : a.tmps.getD 26 undef = cv (w.heap.size + 1 + 1 + 1) := hj 18 (by kernel_rfl)
      obtain ⟨Ao, co, eo, ho⟩ : ∃ A c, a.tmps.getD 25 undef = .slice A 4 c ∧ OversAt w1.heap.size w1 A os0 := hj 17 (by kernel_rfl)
      obtain ⟨Ai, ci, ei, hi⟩ : ∃ A c, a.tmps.getD 27 undef = .slice A 2 c ∧ IntsAt w1.heap.size w1 A [1, 3] := hj 19 (by kernel_rfl)
      have hw1 := HW.out w1 hb
      refine st_call (wanted_true rfl rfl hg) (f := 22) (args := #[.slice Ao 4 co, .agg #[.string s0, .slice (some ⟨w.heap.size + 1 + 1 + 1, 0, none⟩) 1 1], .slice Ai 2 ci]) ?_ ((takes_any (load := [1, 3]) s0 co 1 ci w1 ho hw1 hi (by decide) (by decide) (by decide) (by decide) (by decide)).mono (fun e w2 ⟨h1, h2⟩ => ⟨_, h1, (by rw [loads0]; rfl : Value.bool (decide _) = .bool true), h2⟩))
      simp [execOp, Act.eval, hc, cv, eo, ei, resolve, go_sem, -Array.getD_eq_getD_getElem?]
    · intro a w1 hb hs hd hf hj
      have h0 : a.tmps.getD 24 undef = .bool true := hj 16 (by kernel_rfl)
      have h1 : a.tmps.getD 28 undef = .bool true := hj 20 (by kernel_rfl)
      refine st_still (wanted_none rfl) (u := .bool true) ?_ rfl
      simp [execOp, Act.eval, h0, h1, go_sem, -Array.getD_eq_getD_getElem?]
    · intro a w1 hb hs hd hf hj
      have h0 : a.tmps.getD 29 undef = .bool true := hj 21 (by kernel_rfl)
      refine st_still (wanted_none rfl) (u := .bool true) ?_ rfl
      simp [execOp, Act.eval, h0, go_sem, -Array.getD_eq_getD_getElem?]
    · intro a w1 hb hs hd hf hj
      have hg : a.tmps.getD 30 undef = .bool true := hj 22 (by kernel_rfl)
      refine st_call (wanted_true rfl rfl hg) (f := 28) (args := #[]) ?_ (classes_fn w1)
      simp [execOp, Act.eval, resolve, go_sem, -Array.getD_eq_getD_getElem?]
    · intro a w1 hb hs hd hf hj
      have hg : a.tmps.getD 30 undef = .bool true := hj 22 (by kernel_rfl)
      have h1 : a.tmps.getD 1 undef = .pointer (some ⟨w.heap.size + 1 + 1 + 1 + 1, 0, none⟩) := hf 1 (by decide)
      obtain ⟨c0, c1⟩ := HC.out w1 hb
      refine st_still (wanted_true rfl rfl hg) (u := cv (w.heap.size + 1 + 1 + 1)) ?_ rfl
      simp [execOp, Act.eval, h1, c0, c1, cv, go_sem, -Array.getD_eq_getD_getElem?]
    · intro a w1 hb hs hd hf hj
      have hg : a.tmps.getD 30 undef = .bool true := hj 22 (by kernel_rfl)
      refine st_grow (wanted_true rfl rfl hg) (u := .slice (some ⟨w1.heap.size, 0, none⟩) 2 2) (w' := w1.alloc (.cells #[.int .i64 0, .int .i64 3] 3)) ?_ ⟨some ⟨w1.heap.size, 0, none⟩, 2, rfl, new_ints w1 [0, 3] 3⟩ (alloc_below _ _)
      simp [execOp, Act.eval, go_sem, -Array.getD_eq_getD_getElem?]
    · intro a w1 hb hs hd hf hj
      have hg : a.tmps.getD 30 undef = .bool true := hj 22 (by kernel_rfl)
      have hc : a.tmps.getD 32 undef = cv (w.heap.size + 1 + 1 + 1) := hj 24 (by kernel_rfl)
      obtain ⟨Ao, co, eo, ho⟩ : ∃ A c, a.tmps.getD 31 undef = .slice A 4 c ∧ OversAt w1.heap.size w1 A os0 := hj 23 (by kernel_rfl)
      obtain ⟨Ai, ci, ei, hi⟩ : ∃ A c, a.tmps.getD 33 undef = .slice A 2 c ∧ IntsAt w1.heap.size w1 A [0, 3] := hj 25 (by kernel_rfl)
      have hw1 := HW.out w1 hb
      refine st_call (wanted_true rfl rfl hg) (f := 22) (args := #[.slice Ao 4 co, .agg #[.string s0, .slice (some ⟨w.heap.size + 1 + 1 + 1, 0, none⟩) 1 1], .slice Ai 2 ci]) ?_ ((takes_any (load := [0, 3]) s0 co 1 ci w1 ho hw1 hi (by decide) (by decide) (by decide) (by decide) (by decide)).mono (fun e w2 ⟨h1, h2⟩ => ⟨_, h1, (by rw [loads0]; rfl : Value.bool (decide _) = .bool false), h2⟩))
      simp [execOp, Act.eval, hc, cv, eo, ei, resolve, go_sem, -Array.getD_eq_getD_getElem?]
    · intro a w1 hb hs hd hf hj
      have hg : a.tmps.getD 30 undef = .bool true := hj 22 (by kernel_rfl)
      have h0 : a.tmps.getD 34 undef = .bool false := hj 26 (by kernel_rfl)
      refine st_still (wanted_true rfl rfl hg) (u := .bool true) ?_ rfl
      simp [execOp, Act.eval, h0, go_sem, -Array.getD_eq_getD_getElem?]
    · intro a w1 hb hs hd hf hj
      have h0 : a.tmps.getD 30 undef = .bool true := hj 22 (by kernel_rfl)
      have h1 : a.tmps.getD 35 undef = .bool true := hj 27 (by kernel_rfl)
      refine st_still (wanted_none rfl) (u := .bool true) ?_ rfl
      simp [execOp, Act.eval, h0, h1, go_sem, -Array.getD_eq_getD_getElem?]
    · intro a w1 hb hs hd hf hj
      have h0 : a.tmps.getD 36 undef = .bool true := hj 28 (by kernel_rfl)
      refine st_still (wanted_none rfl) (u := .bool true) ?_ rfl
      simp [execOp, Act.eval, h0, go_sem, -Array.getD_eq_getD_getElem?]
    · intro a w1 hb hs hd hf hj
      have hg : a.tmps.getD 37 undef = .bool true := hj 29 (by kernel_rfl)
      refine st_call (wanted_true rfl rfl hg) (f := 28) (args := #[]) ?_ (classes_fn w1)
      simp [execOp, Act.eval, resolve, go_sem, -Array.getD_eq_getD_getElem?]
    · intro a w1 hb hs hd hf hj
      have hg : a.tmps.getD 37 undef = .bool true := hj 29 (by kernel_rfl)
      obtain ⟨Ao, co, eo, ho⟩ : ∃ A c, a.tmps.getD 38 undef = .slice A 4 c ∧ OversAt w1.heap.size w1 A os0 := hj 30 (by kernel_rfl)
      refine st_call (wanted_true rfl rfl hg) (f := 23) (args := #[.slice Ao 4 co, .int .i64 3]) ?_ ((above_any 3 co w1 ho (by decide)).mono (fun e w2 ⟨A9, c9, h1, h2, h3⟩ => ⟨_, h1, ⟨A9, c9, by rw [above0], by rw [above0] at h2; exact h2⟩, h3⟩))
      simp [execOp, Act.eval, eo, resolve, go_sem, -Array.getD_eq_getD_getElem?]
    · intro a w1 hb hs hd hf hj
      have hg : a.tmps.getD 37 undef = .bool true := hj 29 (by kernel_rfl)
      refine st_grow (wanted_true rfl rfl hg) (u := .slice (some ⟨w1.heap.size, 0, none⟩) 1 1) (w' := w1.alloc (.cells #[.int .i64 1] 3)) ?_ ⟨some ⟨w1.heap.size, 0, none⟩, 1, rfl, new_ints w1 [1] 3⟩ (alloc_below _ _)
      simp [execOp, Act.eval, go_sem, -Array.getD_eq_getD_getElem?]
    · intro a w1 hb hs hd hf hj
      have hg : a.tmps.getD 37 undef = .bool true := hj 29 (by kernel_rfl)
      obtain ⟨Ai, ci, ei, hi⟩ : ∃ A c, a.tmps.getD 39 undef = .slice A 1 c ∧ IntsAt w1.heap.size w1 A [1] := hj 31 (by kernel_rfl)
      obtain ⟨Ai2, ci2, ei2, hi2⟩ : ∃ A c, a.tmps.getD 40 undef = .slice A 1 c ∧ IntsAt w1.heap.size w1 A [1] := hj 32 (by kernel_rfl)
      refine st_call (wanted_true rfl rfl hg) (f := 13) (args := #[.slice Ai 1 ci, .slice Ai2 1 ci2]) ?_ ((same_near (q := true) ci ci2 w1 hi hi2 rfl rfl (by decide) (by decide)).mono (fun e w2 ⟨h1, h2⟩ => ⟨_, h1, rfl, h2⟩))
      simp [execOp, Act.eval, ei, ei2, resolve, go_sem, -Array.getD_eq_getD_getElem?]
    · intro a w1 hb hs hd hf hj
      have h0 : a.tmps.getD 37 undef = .bool true := hj 29 (by kernel_rfl)
      have h1 : a.tmps.getD 41 undef = .bool true := hj 33 (by kernel_rfl)
      refine st_still (wanted_none rfl) (u := .bool true) ?_ rfl
      simp [execOp, Act.eval, h0, h1, go_sem, -Array.getD_eq_getD_getElem?]
    · intro a w1 hb hs hd hf hj
      have h0 : a.tmps.getD 42 undef = .bool true := hj 34 (by kernel_rfl)
      refine st_still (wanted_none rfl) (u := .bool true) ?_ rfl
      simp [execOp, Act.eval, h0, go_sem, -Array.getD_eq_getD_getElem?]
    · intro a w1 hb hs hd hf hj
      have hg : a.tmps.getD 43 undef = .bool true := hj 35 (by kernel_rfl)
      have h1 : a.tmps.getD 1 undef = .pointer (some ⟨w.heap.size + 1 + 1 + 1 + 1, 0, none⟩) := hf 1 (by decide)
      obtain ⟨c0, c1⟩ := HC.out w1 hb
      refine st_still (wanted_true rfl rfl hg) (u := cv (w.heap.size + 1 + 1 + 1)) ?_ rfl
      simp [execOp, Act.eval, h1, c0, c1, cv, go_sem, -Array.getD_eq_getD_getElem?]
    · intro a w1 hb hs hd hf hj
      have hg : a.tmps.getD 43 undef = .bool true := hj 35 (by kernel_rfl)
      have hc : a.tmps.getD 44 undef = cv (w.heap.size + 1 + 1 + 1) := hj 36 (by kernel_rfl)
      have hw1 := HW.out w1 hb
      refine st_call (wanted_true rfl rfl hg) (f := 14) (args := #[.agg #[.string s0, .slice (some ⟨w.heap.size + 1 + 1 + 1, 0, none⟩) 1 1]]) ?_ ((classes_any s0 1 w1 hw1 small0).mono (fun e w2 ⟨A9, c9, ys, h1, h2, h3, h4⟩ => ⟨_, h1, ⟨A9, c9, by rw [classes0 h3], by rw [classes0 h3] at h2; exact h2⟩, h4⟩))
      simp [execOp, Act.eval, hc, cv, resolve, go_sem, -Array.getD_eq_getD_getElem?]
    · intro a w1 hb hs hd hf hj
      have hg : a.tmps.getD 43 undef = .bool true := hj 35 (by kernel_rfl)
      refine st_grow (wanted_true rfl rfl hg) (u := .slice (some ⟨w1.heap.size, 0, none⟩) 4 4) (w' := w1.alloc (.cells #[.int .i64 0, .int .i64 1, .int .i64 2, .int .i64 3] 3)) ?_ ⟨some ⟨w1.heap.size, 0, none⟩, 4, rfl, new_ints w1 [0, 1, 2, 3] 3⟩ (alloc_below _ _)
      simp [execOp, Act.eval, go_sem, -Array.getD_eq_getD_getElem?]
    · intro a w1 hb hs hd hf hj
      have hg : a.tmps.getD 43 undef = .bool true := hj 35 (by kernel_rfl)
      obtain ⟨Ai, ci, ei, hi⟩ : ∃ A c, a.tmps.getD 45 undef = .slice A 4 c ∧ IntsAt w1.heap.size w1 A [0, 1, 2, 3] := hj 37 (by kernel_rfl)
      obtain ⟨Ai2, ci2, ei2, hi2⟩ : ∃ A c, a.tmps.getD 46 undef = .slice A 4 c ∧ IntsAt w1.heap.size w1 A [0, 1, 2, 3] := hj 38 (by kernel_rfl)
      refine st_call (wanted_true rfl rfl hg) (f := 13) (args := #[.slice Ai 4 ci, .slice Ai2 4 ci2]) ?_ ((same_near (q := true) ci ci2 w1 hi hi2 rfl rfl (by decide) (by decide)).mono (fun e w2 ⟨h1, h2⟩ => ⟨_, h1, rfl, h2⟩))
      simp [execOp, Act.eval, ei, ei2, resolve, go_sem, -Array.getD_eq_getD_getElem?]
    · intro a w1 hb hs hd hf hj
      have h0 : a.tmps.getD 43 undef = .bool true := hj 35 (by kernel_rfl)
      have h1 : a.tmps.getD 47 undef = .bool true := hj 39 (by kernel_rfl)
      refine st_still (wanted_none rfl) (u := .bool true) ?_ rfl
      simp [execOp, Act.eval, h0, h1, go_sem, -Array.getD_eq_getD_getElem?]
    · intro a w1 hb hs hd hf hj
      have h0 : a.tmps.getD 48 undef = .bool true := hj 40 (by kernel_rfl)
      refine st_still (wanted_none rfl) (u := .bool true) ?_ rfl
      simp [execOp, Act.eval, h0, go_sem, -Array.getD_eq_getD_getElem?]
  · intro a w1 hb hs hd hf hj
    have h0 : a.tmps.getD 0 undef = .bool true := hj 41 (by decide)
    simp only [Exit.then]
    apply_rules [wp_ret]
    refine bodyPost_ret (results_tmp rfl _ _ _) hd ?_
    rw [h0]
    exact ⟨rfl, HB.out.trans (hb.mono HB.out.size)⟩
end Go.Proofs.Ytebpdlnknfjoaaa
