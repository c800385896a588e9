/- The walk of heads: the chapter's example holds. -/
import Derived.Test.YtopjfnkcmdifhaaHeadsP
namespace Go.Proofs.Ytopjfnkcmdifhaa
set_option linter.unusedVariables false
set_option linter.unusedSimpArgs false
open Go.RowKit Kuhn

def heads0 (w : World) : World :=
  (((w.alloc (.cells #[.int .i64 0] 3)).alloc (.cells #[.int .i64 0] 3)).alloc (.cells #[.int .i64 0, .int .i64 1] 3)).alloc
    (.cells #[.slice (some ⟨w.heap.size, 0, none⟩) 1 1, .slice (some ⟨w.heap.size + 1, 0, none⟩) 1 1, .slice (some ⟨w.heap.size + 1 + 1, 0, none⟩) 2 2] 25)
theorem heads0_below (w : World) : Below w.heap.size w (heads0 w) := ((((Below.refl _ _).alloc (Nat.le_refl _) _).alloc (by simp) _).alloc (by simp; omega) _).alloc (by simp; omega) _

theorem ints_lit {B : Nat} {w : World} {b : Nat} {xs : List Int} (hb : b < B) (h : ∀ i (hi : i < xs.length), w.cell? ⟨b, i, none⟩ = some (.int .i64 xs[i])) : IntsAt B w (some ⟨b, 0, none⟩) xs :=
  fun i hi => ⟨_, rfl, hb, by rw [add_free, Nat.zero_add]; exact h i hi⟩

theorem heads0_rows (w : World) : RowsAt (heads0 w).heap.size (heads0 w) (some ⟨w.heap.size + 1 + 1 + 1, 0, none⟩) near0 := by
  have hz : (heads0 w).heap.size = w.heap.size + 4 := by simp [heads0]
  have i0 : IntsAt (heads0 w).heap.size (heads0 w) (some ⟨w.heap.size, 0, none⟩) [0] := ints_lit (by omega) (fun i hi => by
    obtain rfl : i = 0 := by simp at hi; omega
    simp [heads0, go_sem])
  have i1 : IntsAt (heads0 w).heap.size (heads0 w) (some ⟨w.heap.size + 1, 0, none⟩) [0] := ints_lit (by omega) (fun i hi => by
    obtain rfl : i = 0 := by simp at hi; omega
    simp [heads0, go_sem])
  have i2 : IntsAt (heads0 w).heap.size (heads0 w) (some ⟨w.heap.size + 1 + 1, 0, none⟩) [0, 1] := ints_lit (by omega) (fun i hi => by
    have : i = 0 ∨ i = 1 := by simp at hi; omega
    rcases this with rfl | rfl <;> simp [heads0, go_sem])
  intro i hi
  have : i = 0 ∨ i = 1 ∨ i = 2 := by simp [near0] at hi; omega
  rcases this with rfl | rfl | rfl
  · exact ⟨_, _, 1, rfl, (by show w.heap.size + 1 + 1 + 1 < _; omega), by simp [heads0, near0, go_sem], by simp [near0], i0⟩
  · exact ⟨_, _, 1, rfl, (by show w.heap.size + 1 + 1 + 1 < _; omega), by simp [heads0, near0, go_sem, add_free], by simp [near0], i1⟩
  · exact ⟨_, _, 2, rfl, (by show w.heap.size + 1 + 1 + 1 < _; omega), by simp [heads0, near0, go_sem, add_free], by simp [near0], i2⟩

theorem same_true {A1 A2 : Option Addr} {B : Nat} (c1 c2 n1 n2 : Nat) (a : List Int) (w : World) (h1 : IntsAt B w A1 a) (h2 : IntsAt B w A2 a) (hn1 : n1 = a.length) (hn2 : n2 = a.length) (hb : a.length ≤ 9223372036854775807) :
    Calls Try.prog 16 #[.slice A1 n1 c1, .slice A2 n2 c2] w fun e w' => e = .returned (.bool true) ∧ Below w.heap.size w w' := by
  subst hn1 hn2
  refine (same_any c1 c2 a a w h1 h2 hb).mono ?_
  rintro e w' ⟨rfl, h⟩
  exact ⟨ret_bool (by simp), h⟩

theorem lit_at (w : World) (xs : List Int) (e : TypeId) : IntsAt (w.alloc (.cells (ints xs).toArray e)).heap.size (w.alloc (.cells (ints xs).toArray e)) (some ⟨w.heap.size, 0, none⟩) xs :=
  ints_lit (by simp) (fun i hi => by
    have : (w.alloc (.cells (ints xs).toArray e)).heap[w.heap.size]? = some (.cells (ints xs).toArray e (0, 0)) := (Go.MapKept.heap_alloc w _).1
    unfold World.cell?
    rw [this]
    simp [ints, hi])

theorem most0_any {A : Option Addr} (c : Nat) (w : World) (h : RowsAt w.heap.size w A near0) : Calls Try.prog 12 #[.slice A 3 c, .int .i64 2] w fun e w' => ∃ A1 c1, e = .returned (.slice A1 3 c1) ∧ IntsAt w'.heap.size w' A1 [0, -1, 1] ∧ Below w.heap.size w w' := by
  refine (most_l rows0.symm A c w h (by simp [near0]) (by simp [near0])).mono ?_
  rw [most0_eq]
  exact fun e w' h => h

/-- Same of a row that is there and a row just written out. -/
theorem same_lit {A : Option Addr} (c : Nat) (xs : List Int) (w : World) (h : IntsAt w.heap.size w A xs) (n : Nat) (hn : n = xs.length) (hb : xs.length ≤ 9223372036854775807) :
    Calls Try.prog 16 #[.slice A n c, .slice (some ⟨w.heap.size, 0, none⟩) n n] (w.alloc (.cells (ints xs).toArray 3)) fun e w' => e = .returned (.bool true) ∧ Below w.heap.size w w' := by
  refine (same_true c n n n xs _ ((h.later ((Below.refl _ _).alloc (Nat.le_refl _) _)).now) (lit_at w xs 3) hn hn hb).mono ?_
  rintro e w' ⟨rfl, hb⟩
  exact ⟨rfl, ((Below.refl w.heap.size w).alloc (Nat.le_refl _) _).trans (hb.mono (by simp))⟩
theorem size_lit (xs : List Int) (w : World) (n : Nat) (hn : n = xs.length) (hb : xs.length ≤ 9223372036854775807) (k : Int) (hk : k = (sizeOf xs : Nat)) :
    Calls Try.prog 14 #[.slice (some ⟨w.heap.size, 0, none⟩) n n] (w.alloc (.cells (ints xs).toArray 3)) fun e w' => e = .returned (.int .i64 k) ∧ Below w.heap.size w w' := by
  subst hn hk
  refine (Size_any _ xs _ (lit_at w xs 3) hb).mono ?_
  rintro e w' ⟨rfl, rfl⟩
  exact ⟨rfl, (Below.refl w.heap.size w).alloc (Nat.le_refl _) _⟩

set_option maxHeartbeats 4000000 in
theorem heads_any (w : World) : Calls Try.prog 11 #[] w fun e w' => e = .returned (.bool true) ∧ Below w.heap.size w w' := by
  have HC1 : Hid (Calls Try.prog 13 #[.slice (some ⟨w.heap.size + 1 + 1 + 1, 0, none⟩) 3 3, .int .i64 2] (heads0 w) fun e w' => ∃ A1 c1 A2 c2, e = .returned (.tuple #[.slice A1 2 c1, .slice A2 1 c2, .bool true]) ∧ IntsAt w'.heap.size w' A1 [0, 1] ∧ IntsAt w'.heap.size w' A2 [0] ∧ Below (heads0 w).heap.size (heads0 w) w') := by
    refine (Hall_any near0 2 _ 3 (heads0 w) (heads0_rows w) (by simp [near0]) (by simp [near0])).mono ?_
    rw [rows0]
    intro e w' h
    unfold HallPost at h
    rw [most0_eq] at h
    rcases h with ⟨h, _⟩ | ⟨b, bs, A1, c1, ys, A2, c2, zs, hb, rfl, h1, h2, h3, h4, h5⟩
    · cases h
    · have hb' : b = 1 := by
        have : bareFrom 0 [0, -1, 1] = [1] := rfl
        rw [this] at hb
        cases hb
        rfl
      subst hb'
      obtain rfl := left0 h3
      obtain rfl := right0 h4
      exact ⟨A1, c1, A2, c2, rfl, h1, h2, h5⟩
  go_enter Try.func11, Try.ntmps11
  go_wp2_with (first
    | (go_at_call 13; refine HC1.out.mono ?_; rintro e w1 ⟨A1, c1, A2, c2, rfl, hi1, hi2, hb1⟩; have HI1 := Lib.hid hi1; have HI2 := Lib.hid hi2; have HB1 := Lib.hid ((heads0_below w).trans (hb1.mono (heads0_below w).size)); have HC2 := Lib.hid (most0_any (A := some ⟨w.heap.size + 1 + 1 + 1, 0, none⟩) 3 w1 ((heads0_rows w).below hb1).now); clear hi1 hi2 hb1)
    | (go_at_call 12; refine HC2.out.mono ?_; rintro e w2 ⟨A3, c3, rfl, hi3, hb2⟩; have HB2 := Lib.hid (HB1.out.trans (hb2.mono HB1.out.size)); have HI12 := Lib.hid (HI1.out.later hb2).now; have HI22 := Lib.hid (HI2.out.later hb2).now; have HC3 := Lib.hid (same_lit c3 [0, -1, 1] w2 hi3 3 rfl (by simp)); clear hi3 hb2)
    | (go_at_call 16; refine HC5.out.mono ?_; rintro e w5 ⟨rfl, hb5⟩; have HB5 := Lib.hid (HB4.out.trans (hb5.mono HB4.out.size)); have HC6 := Lib.hid (size_lit [0, -1, 1] w5 3 rfl (by simp) 2 rfl); clear hb5)
    | (go_at_call 16; refine HC4.out.mono ?_; rintro e w4 ⟨rfl, hb4⟩; have HB4 := Lib.hid (HB3.out.trans (hb4.mono HB3.out.size)); have HC5 := Lib.hid (same_lit c2 [0] w4 (HI23.out.later hb4).now 1 rfl (by simp)); clear hb4)
    | (go_at_call 16; refine HC3.out.mono ?_; rintro e w3 ⟨rfl, hb3⟩; have HB3 := Lib.hid (HB2.out.trans (hb3.mono HB2.out.size)); have HI23 := Lib.hid (HI22.out.later hb3).now; have HC4 := Lib.hid (same_lit c1 [0, 1] w3 (HI12.out.later hb3).now 2 rfl (by simp)); clear hb3)
    | (go_at_call 14; refine HC6.out.mono ?_; rintro e w6 ⟨rfl, hb6⟩; have HB6 := Lib.hid (HB5.out.trans (hb6.mono HB5.out.size)); clear hb6))
  go_outline
  go_ret
  exact ⟨rfl, HB6.out⟩
end Go.Proofs.Ytopjfnkcmdifhaa
