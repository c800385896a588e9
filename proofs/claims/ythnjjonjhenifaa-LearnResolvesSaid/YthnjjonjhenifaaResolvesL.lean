/- The walk of LearnResolves. -/
import Derived.Test.YthnjjonjhenifaaWalks
import Derived.Test.YthnjjonjhenifaaPLearnTellsRes
namespace Go.Proofs.Ythnjjonjhenifaa
set_option linter.unusedVariables false
set_option linter.unusedSimpArgs false
open Go.RowKit

theorem res_any {A1 A2 : Option Addr} {a b : List Int} {n m : Nat} (l : Int) (c1 c2 : Nat) (w : World) (h1 : IntsAt w.heap.size w A1 a) (h2 : IntsAt w.heap.size w A2 b) (hn : a.length = n) (hm : b.length = m) (hn1 : n ≤ 10000) (hm1 : m ≤ 10000) :
    Calls Try.prog 22 #[.slice A1 n c1, .slice A2 m c2, .int .i64 l] w fun e w' => ∃ A c, e = .returned (.tuple #[.slice A (PLearnTells.resR a b l).1.length c, .bool (PLearnTells.resR a b l).2]) ∧ IntsAt w'.heap.size w' A (PLearnTells.resR a b l).1 ∧ Below w.heap.size w w' := by
  cases hr : resOk a b l with
  | true =>
    have e1 : PLearnTells.resR a b l = (resP a b l, true) := by unfold PLearnTells.resR; rw [if_pos hr]
    refine (res_yes l c1 c2 w h1 h2 hn hm hn1 hm1 hr).mono ?_
    rintro e w' ⟨A, c, rfl, ho, hb⟩
    rw [e1]
    exact ⟨A, c, rfl, own_ints ho, hb⟩
  | false =>
    have e1 : PLearnTells.resR a b l = ([], false) := by unfold PLearnTells.resR; rw [if_neg (by rw [hr]; decide)]
    refine (res_no l c1 c2 w h1 h2 hn hm hn1 hm1 hr).mono ?_
    rintro e w' ⟨rfl, hb⟩
    rw [e1]
    exact ⟨none, 0, rfl, IntsAt.nil _ _ _, hb⟩
theorem few_nil {A2 : Option Addr} {n : Nat} {q : Bool} (c2 : Nat) (w : World) (hq : decide (n ≤ 24) = q) :
    Calls Try.prog 10 #[.slice none 0 0, .slice A2 n c2] w fun e w' => e = .returned (.bool q) ∧ w = w' :=
  few_any (B := 0) (A := none) (ms := []) 0 c2 w (fun i hi => by cases hi) (by rw [← hq]; unfold fewB; simp)
theorem resR_len {a b : List Int} {l : Int} : (PLearnTells.resR a b l).1.length ≤ a.length + b.length := by
  unfold PLearnTells.resR
  split
  · refine Nat.le_trans (sort_len _) ?_
    rw [List.length_append]
    have h1 := PLearnTells.others_len (xs := a) (x := l)
    have h2 := PLearnTells.others_len (xs := b) (x := neg l)
    unfold PLearnTells.othersP at h1 h2
    omega
  · exact Nat.zero_le _

set_option maxHeartbeats 400000 in
theorem resolves_any (a b : List Int) (l : Int) (A1 : Option Addr) (c1 : Nat) (A2 : Option Addr) (c2 : Nat) (w : World) (h1 : IntsAt w.heap.size w A1 a) (k1 : a.length ≤ c1) (h2 : IntsAt w.heap.size w A2 b) (k2 : b.length ≤ c2) :
    Calls Try.prog 4 #[.slice A1 a.length c1, .slice A2 b.length c2, .int .i64 l] w fun e w' => e = .returned (.bool true) ∧ Below w.heap.size w w' := by
  obtain ⟨n, hn⟩ : ∃ n, a.length = n := ⟨_, rfl⟩
  obtain ⟨m, hm⟩ : ∃ m, b.length = m := ⟨_, rfl⟩
  rw [hn] at k1 ⊢
  rw [hm] at k2 ⊢
  have HH := Lib.hid (heads_any w)
  have HF1 (q : Bool) (hq : decide (n ≤ 24) = q) := few_nil (A2 := A1) c1 w hq
  have HF2 (q : Bool) (hq : decide (m ≤ 24) = q) := few_nil (A2 := A2) c2 w hq
  by_cases f1 : n ≤ 24
  rotate_left
  · have H1 := Lib.hid (HF1 false (by simpa using f1))
    clear HF1 HF2 h1 h2 k1 k2 hn hm f1
    go_enter Try.func4, Try.ntmps4
    go_wp2_with (first
      | (go_at_call 10; refine H1.out.mono ?_; rintro e w' ⟨rfl, rfl⟩)
      | (go_at_call 11; refine HH.out.mono ?_; rintro e w' ⟨rfl, hb⟩; have HB := Lib.hid hb; clear hb))
    go_ret
    exact ⟨rfl, HB.out⟩
  by_cases f2 : m ≤ 24
  rotate_left
  · have H1 := Lib.hid (HF1 true (by simpa using f1))
    have H2 := Lib.hid (HF2 false (by simpa using f2))
    clear HF1 HF2 h1 h2 k1 k2 hn hm f1 f2
    go_enter Try.func4, Try.ntmps4
    go_wp2_with (first
      | (go_at_call 10; with_reducible refine H1.out.mono ?_; rintro e w' ⟨rfl, rfl⟩; clear H1)
      | (go_at_call 10; refine H2.out.mono ?_; rintro e w' ⟨rfl, rfl⟩)
      | (go_at_call 11; refine HH.out.mono ?_; rintro e w' ⟨rfl, hb⟩; have HB := Lib.hid hb; clear hb))
    go_ret
    exact ⟨rfl, HB.out⟩
  have H1 := Lib.hid (HF1 true (by simpa using f1))
  have H2 := Lib.hid (HF2 true (by simpa using f2))
  have HC := Lib.hid (res_any l c1 c2 w h1 h2 hn hm (by omega) (by omega))
  have HR (w1 : World) (hb : Below w.heap.size w w1) := PLearnTells.res_ref (B := w1.heap.size) l c1 c2 w1 ((h1.later hb).mono hb.size) ((h2.later hb).mono hb.size) hn hm k1 k2 (by omega) (by omega)
  have HRR := Lib.hid HR
  have HL : Hid ((PLearnTells.resR a b l).1.length ≤ 100) := by
    show _ ≤ _
    have := resR_len (a := a) (b := b) (l := l)
    omega
  obtain ⟨R, hR⟩ : ∃ R, R = (PLearnTells.resR a b l).1 := ⟨_, rfl⟩
  obtain ⟨q, hq⟩ : ∃ q, q = (PLearnTells.resR a b l).2 := ⟨_, rfl⟩
  rw [← hR] at HL
  rw [← hR, ← hq] at HC HRR
  clear HR HF1 HF2 h1 h2 k1 k2 hn hm f1 f2 hR hq HH
  go_enter Try.func4, Try.ntmps4
  go_wp2_with (first
    | (go_at_call 10; with_reducible refine H1.out.mono ?_; rintro e w' ⟨rfl, rfl⟩; clear H1)
    | (go_at_call 10; refine H2.out.mono ?_; rintro e w' ⟨rfl, rfl⟩; clear H2)
    | (go_at_call 22; refine HC.out.mono ?_; rintro e w1 ⟨Ar, cr, rfl, hr, hb1⟩; have HX := Lib.hid hr; have HB1 := Lib.hid hb1; clear hr hb1)
    | (go_at_call 23; refine (HRR.out w1 HB1.out).mono ?_; rintro e w2 ⟨As, cs, rfl, hs, hb2⟩; have HY := Lib.hid hs; have HB2 := Lib.hid (HB1.out.trans (hb2.mono HB1.out.size)); have HX2 := Lib.hid ((HX.out.later hb2).mono hb2.size); have HS := Lib.hid (same_near (q := true) cr cs w2 HX2.out HY.out rfl rfl (Nat.le_trans HL.out (by decide)) (by simp)); clear hs hb2)
    | (go_at_call 18; refine HS.out.mono ?_; rintro e w3 ⟨rfl, hb3⟩; have HB3 := Lib.hid (HB2.out.trans (hb3.mono HB2.out.size)); have HH := Lib.hid (heads_any w3); clear hb3)
    | (go_at_call 11; refine HH.out.mono ?_; rintro e w4 ⟨rfl, hb4⟩; have HB4 := Lib.hid (HB3.out.trans (hb4.mono HB3.out.size)); clear hb4))
  go_ret
  exact ⟨rfl, HB4.out⟩
end Go.Proofs.Ythnjjonjhenifaa
