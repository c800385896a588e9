/- The walk of the law CourseAbove. -/
import Derived.Test.YtebpdlnknfjoaaaHeads
import Derived.Test.YtebpdlnknfjoaaaAbove
import Derived.Test.YtebpdlnknfjoaaaRefAbove
namespace Go.Proofs.Ytebpdlnknfjoaaa
set_option linter.unusedVariables false
set_option linter.unusedSimpArgs false
open Go.RowKit

theorem climb_len (os : List Int) (cl : Int) : ∀ (f : Nat) (a : Int) (out : List Int), (climb os cl f a out).length ≤ out.length + f
  | 0, _, _ => Nat.le_refl _
  | f + 1, a, out => by
    unfold climb
    split
    · have h := climb_len os cl f (os.getD a.toNat 0) (out ++ [a])
      rw [List.length_append, List.length_singleton] at h
      omega
    · omega
theorem aboveOf_len (os : List Int) (cl : Int) : (aboveOf os cl).length ≤ os.length := by
  unfold aboveOf
  split
  · simpa using climb_len os cl os.length (os.getD cl.toNat 0) []
  · simp
set_option maxHeartbeats 400000 in
theorem above_law (os : List Int) (n : Int) (A : Option Addr) (c : Nat) (w : World) (hO : OversAt w.heap.size w A os) :
    Calls Try.prog 6 #[.slice A os.length c, .int .i64 n] w fun e w' => e = .returned (.bool true) ∧ Below w.heap.size w w' := by
  by_cases h60 : os.length ≤ 60
  case neg =>
    have h60' : (60 : Int) < (os.length : Int) := by omega
    have HH := Lib.hid (heads_any w)
    clear hO
    go_enter Try.func6, Try.ntmps6
    go_wp2_with (go_at_call 10; refine HH.out.mono ?_; rintro e w' ⟨rfl, hb⟩; have HB := Lib.hid hb; clear hb)
    go_ret
    exact ⟨rfl, HB.out⟩
  have h60' : ¬ (60 : Int) < (os.length : Int) := by omega
  have HO := Lib.hid hO
  have hlen := aboveOf_len os n
  obtain ⟨L, hL⟩ : ∃ L, L = aboveOf os n := ⟨_, rfl⟩
  have HA1 : Hid (Calls Try.prog 23 #[.slice A os.length c, .int .i64 n] w fun e w' => ∃ A' c', e = .returned (.slice A' L.length c') ∧ IntsAt w'.heap.size w' A' L ∧ Below w.heap.size w w') := by rw [hL]; exact above_any n c w hO (by omega)
  have HA2 : Hid (∀ w1, Below w.heap.size w w1 → Calls Try.prog 24 #[.slice A os.length c, .int .i64 n] w1 fun e w' => ∃ A' c', e = .returned (.slice A' L.length c') ∧ IntsAt w'.heap.size w' A' L ∧ Below w1.heap.size w1 w') := fun w1 hb => by rw [hL]; exact refAbove_any n c w1 ((hO.later hb).mono hb.size) (by omega)
  have h1000 : L.length ≤ 9223372036854775807 := by rw [hL]; omega
  have HS : Hid (∀ (A1 A2 : Option Addr) (c1 c2 : Nat) (w : World), IntsAt w.heap.size w A1 L → IntsAt w.heap.size w A2 L → Calls Try.prog 13 #[.slice A1 L.length c1, .slice A2 L.length c2] w fun e w' => e = .returned (.bool true) ∧ Below w.heap.size w w') :=
    fun A1 A2 c1 c2 w h1 h2 => same_near (q := true) c1 c2 w h1 h2 rfl rfl h1000 (by simp)
  have HH : Hid (∀ w : World, Calls Try.prog 10 #[] w fun e w' => e = .returned (.bool true) ∧ Below w.heap.size w w') := heads_any
  clear hlen hO h1000 hL
  go_enter Try.func6, Try.ntmps6
  go_wp2_with (first
    | (go_at_call 23; refine HA1.out.mono ?_; rintro e w1 ⟨A1, c1, rfl, hi1, hb1⟩; have HB1 := Lib.hid hb1; have HI1 := Lib.hid hi1; clear hb1 hi1)
    | (go_at_call 24; refine (HA2.out _ HB1.out).mono ?_; rintro e w2 ⟨A2, c2, rfl, hi2, hb2⟩; have HB2 := Lib.hid hb2; have HI2 := Lib.hid hi2; clear hb2 hi2)
    | (go_at_call 13; have HX := HS.out A1 A2 c1 c2 w2 ((HI1.out.later HB2.out).mono HB2.out.size) HI2.out; refine HX.mono ?_; clear HX; rintro e w3 ⟨rfl, hb3⟩; have HB3 := Lib.hid hb3; clear hb3)
    | (go_at_call 10; refine (HH.out _).mono ?_; rintro e w4 ⟨rfl, hb4⟩; have HB4 := Lib.hid hb4; clear hb4))
  go_ret
  exact ⟨rfl, ((HB1.out.trans (HB2.out.mono HB1.out.size)).trans (HB3.out.mono (Nat.le_trans HB1.out.size HB2.out.size))).trans (HB4.out.mono (Nat.le_trans (Nat.le_trans HB1.out.size HB2.out.size) HB3.out.size))⟩
end Go.Proofs.Ytebpdlnknfjoaaa
