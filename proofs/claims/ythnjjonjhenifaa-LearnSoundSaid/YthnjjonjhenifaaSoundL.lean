/- The walk of LearnSound. -/
import Derived.Test.YthnjjonjhenifaaWalks
import Derived.Test.YthnjjonjhenifaaPLearnSoundHold
namespace Go.Proofs.Ythnjjonjhenifaa
set_option linter.unusedVariables false
set_option linter.unusedSimpArgs false
open Go.RowKit
open PLearnSound (holdsP hitB holds_any)

/-- Whatever is true, where two clauses hold their resolvent holds, too. -/
theorem res_sound {a b yes : List Int} {l : Int} (hl : R64 l) (hok : resOk a b l = true) (ha : holdsP a yes = true) (hb : holdsP b yes = true) : holdsP (resP a b l) yes = true := by
  obtain ⟨hl0, hlm, _, _⟩ := res_parts hok
  unfold holdsP at *
  rw [List.any_eq_true] at *
  obtain ⟨x, hx, hx2⟩ := ha
  obtain ⟨y, hy, hy2⟩ := hb
  have nz : ∀ z, hitB yes z = true → z ≠ 0 := by
    rintro z hz rfl
    revert hz
    unfold hitB
    simp
  by_cases ex : x = l
  · by_cases ey : y = neg l
    · exfalso
      subst ex ey
      unfold hitB at hx2 hy2
      rw [neg_neg hl] at hy2
      have hn := neg_of hl hlm
      simp only [Bool.or_eq_true, Bool.and_eq_true, decide_eq_true_eq, Bool.not_eq_true', decide_eq_false_iff_not] at hx2 hy2
      rcases hx2 with ⟨h1, h2⟩ | ⟨h1, h2, h3⟩
      · rcases hy2 with ⟨h4, h5⟩ | ⟨h4, h5, h6⟩
        · omega
        · exact h6 h2
      · rcases hy2 with ⟨h4, h5⟩ | ⟨h4, h5, h6⟩
        · exact h3 h5
        · omega
    · exact ⟨y, res_mem.2 ⟨.inr ⟨hy, ey⟩, nz y hy2⟩, hy2⟩
  · exact ⟨x, res_mem.2 ⟨.inl ⟨hx, ex⟩, nz x hx2⟩, hx2⟩
theorem few_nil {A2 : Option Addr} {n : Nat} {q : Bool} (c2 : Nat) (w : World) (hq : decide (n ≤ 24) = q) :
    Calls Try.prog 10 #[.slice none 0 0, .slice A2 n c2] w fun e w' => e = .returned (.bool q) ∧ w = w' :=
  few_any (B := 0) (A := none) (ms := []) 0 c2 w (fun i hi => by cases hi) (by rw [← hq]; unfold fewB; simp)
theorem resP_len {a b : List Int} {l : Int} : (resP a b l).length ≤ a.length + b.length := by
  refine Nat.le_trans (sort_len _) ?_
  rw [List.length_append]
  have h1 := List.length_filter_le (fun x => decide (x ≠ l)) a
  have h2 := List.length_filter_le (fun x => decide (x ≠ neg l)) b
  omega
/-- What the guard says. -/
def soundB (n m o : Nat) (a b : List Int) : Bool := !decide (n ≤ 24) || (!decide (m ≤ 24) || (!decide (o ≤ 24) || (decide (MIN ∈ a) || decide (MIN ∈ b))))

set_option maxHeartbeats 1000000 in
theorem sound_any (a b : List Int) (l : Int) (yes : List Int) (A1 : Option Addr) (c1 : Nat) (A2 : Option Addr) (c2 : Nat) (A3 : Option Addr) (c3 : Nat) (w : World) (h1 : IntsAt w.heap.size w A1 a) (k1 : a.length ≤ c1) (r1 : ∀ x ∈ a, R64 x) (h2 : IntsAt w.heap.size w A2 b) (k2 : b.length ≤ c2) (r2 : ∀ x ∈ b, R64 x) (h3 : IntsAt w.heap.size w A3 yes) (k3 : yes.length ≤ c3) (r3 : ∀ x ∈ yes, R64 x) :
    Calls Try.prog 5 #[.slice A1 a.length c1, .slice A2 b.length c2, .int .i64 l, .slice A3 yes.length c3] w fun e w' => e = .returned (.bool true) ∧ Below w.heap.size w w' := by
  obtain ⟨n, hn⟩ : ∃ n, a.length = n := ⟨_, rfl⟩
  obtain ⟨m, hm⟩ : ∃ m, b.length = m := ⟨_, rfl⟩
  obtain ⟨o, ho⟩ : ∃ o, yes.length = o := ⟨_, rfl⟩
  rw [hn] at k1 ⊢
  rw [hm] at k2 ⊢
  rw [ho] at k3 ⊢
  have HH := Lib.hid (heads_any w)
  have F1 := few_nil (q := decide (n ≤ 24)) (A2 := A1) c1 w rfl
  have F2 := few_nil (q := decide (m ≤ 24)) (A2 := A2) c2 w rfl
  have F3 := few_nil (q := decide (o ≤ 24)) (A2 := A3) c3 w rfl
  by_cases f1 : n ≤ 24
  case neg =>
    rw [decide_eq_false f1] at F1
    have H1 := Lib.hid F1
    clear F1 F2 F3 h1 h2 h3 k1 k2 k3 hn hm ho r1 r2 r3 f1
    go_enter Try.func5, Try.ntmps5
    go_wp2_with (first
      | (go_at_call 10; refine H1.out.mono ?_; rintro e w' ⟨rfl, rfl⟩)
      | (go_at_call 11; refine HH.out.mono ?_; rintro e w' ⟨rfl, hb⟩; have HB := Lib.hid hb; clear hb))
    go_ret
    exact ⟨rfl, HB.out⟩
  rw [decide_eq_true f1] at F1
  have H1 := Lib.hid F1
  by_cases f2 : m ≤ 24
  case neg =>
    rw [decide_eq_false f2] at F2
    have H2 := Lib.hid F2
    clear F1 F2 F3 h1 h2 h3 k1 k2 k3 hn hm ho r1 r2 r3 f1 f2
    go_enter Try.func5, Try.ntmps5
    go_wp2_with (first
      | (go_at_call 10; with_reducible refine H1.out.mono ?_; rintro e w' ⟨rfl, rfl⟩; clear H1)
      | (go_at_call 10; refine H2.out.mono ?_; rintro e w' ⟨rfl, rfl⟩)
      | (go_at_call 11; refine HH.out.mono ?_; rintro e w' ⟨rfl, hb⟩; have HB := Lib.hid hb; clear hb))
    go_ret
    exact ⟨rfl, HB.out⟩
  rw [decide_eq_true f2] at F2
  have H2 := Lib.hid F2
  by_cases f3 : o ≤ 24
  case neg =>
    rw [decide_eq_false f3] at F3
    have H3 := Lib.hid F3
    clear F1 F2 F3 h1 h2 h3 k1 k2 k3 hn hm ho r1 r2 r3 f1 f2 f3
    go_enter Try.func5, Try.ntmps5
    go_wp2_with (first
      | (go_at_call 10; with_reducible refine H1.out.mono ?_; rintro e w' ⟨rfl, rfl⟩; clear H1)
      | (go_at_call 10; with_reducible refine H2.out.mono ?_; rintro e w' ⟨rfl, rfl⟩; clear H2)
      | (go_at_call 10; refine H3.out.mono ?_; rintro e w' ⟨rfl, rfl⟩)
      | (go_at_call 11; refine HH.out.mono ?_; rintro e w' ⟨rfl, hb⟩; have HB := Lib.hid hb; clear hb))
    go_ret
    exact ⟨rfl, HB.out⟩
  rw [decide_eq_true f3] at F3
  have H3 := Lib.hid F3
  have G1 : Calls Try.prog 24 #[.slice A1 n c1, .int .i64 (-9223372036854775808)] w fun e w' => e = .returned (.bool (decide (MIN ∈ a))) ∧ w = w' := has_near c1 a MIN w h1 hn (by omega) rfl
  have G2 : Calls Try.prog 24 #[.slice A2 m c2, .int .i64 (-9223372036854775808)] w fun e w' => e = .returned (.bool (decide (MIN ∈ b))) ∧ w = w' := has_near c2 b MIN w h2 hm (by omega) rfl
  by_cases m1 : MIN ∈ a
  case pos =>
    rw [decide_eq_true m1] at G1
    have H4 := Lib.hid G1
    clear F1 F2 F3 h1 h2 h3 k1 k2 k3 hn hm ho r1 r2 r3 f1 f2 f3 G1 G2 m1
    go_enter Try.func5, Try.ntmps5
    go_wp2_with (first
      | (go_at_call 10; with_reducible refine H1.out.mono ?_; rintro e w' ⟨rfl, rfl⟩; clear H1)
      | (go_at_call 10; with_reducible refine H2.out.mono ?_; rintro e w' ⟨rfl, rfl⟩; clear H2)
      | (go_at_call 10; refine H3.out.mono ?_; rintro e w' ⟨rfl, rfl⟩)
      | (go_at_call 24; refine H4.out.mono ?_; rintro e w' ⟨rfl, rfl⟩)
      | (go_at_call 11; refine HH.out.mono ?_; rintro e w' ⟨rfl, hb⟩; have HB := Lib.hid hb; clear hb))
    go_ret
    exact ⟨rfl, HB.out⟩
  rw [decide_eq_false m1] at G1
  have H4 := Lib.hid G1
  by_cases m2 : MIN ∈ b
  case pos =>
    rw [decide_eq_true m2] at G2
    have H5 := Lib.hid G2
    clear F1 F2 F3 h1 h2 h3 k1 k2 k3 hn hm ho r1 r2 r3 f1 f2 f3 G1 G2 m1 m2
    go_enter Try.func5, Try.ntmps5
    go_wp2_with (first
      | (go_at_call 10; with_reducible refine H1.out.mono ?_; rintro e w' ⟨rfl, rfl⟩; clear H1)
      | (go_at_call 10; with_reducible refine H2.out.mono ?_; rintro e w' ⟨rfl, rfl⟩; clear H2)
      | (go_at_call 10; refine H3.out.mono ?_; rintro e w' ⟨rfl, rfl⟩)
      | (go_at_call 24; refine H4.out.mono ?_; rintro e w' ⟨rfl, rfl⟩; clear H4)
      | (go_at_call 24; refine H5.out.mono ?_; rintro e w' ⟨rfl, rfl⟩)
      | (go_at_call 11; refine HH.out.mono ?_; rintro e w' ⟨rfl, hb⟩; have HB := Lib.hid hb; clear hb))
    go_ret
    exact ⟨rfl, HB.out⟩
  rw [decide_eq_false m2] at G2
  have H5 := Lib.hid G2
  cases hr : resOk a b l with
  | false =>
    have HC := Lib.hid (res_no l c1 c2 w h1 h2 hn hm (by omega) (by omega) hr)
    clear F1 F2 F3 h1 h2 h3 k1 k2 k3 hn hm ho r1 r2 r3 f1 f2 f3 G1 G2 m1 m2 hr HH
    go_enter Try.func5, Try.ntmps5
    go_wp2_with (first
      | (go_at_call 10; with_reducible refine H1.out.mono ?_; rintro e w' ⟨rfl, rfl⟩; clear H1)
      | (go_at_call 10; with_reducible refine H2.out.mono ?_; rintro e w' ⟨rfl, rfl⟩; clear H2)
      | (go_at_call 10; refine H3.out.mono ?_; rintro e w' ⟨rfl, rfl⟩)
      | (go_at_call 24; with_reducible refine H4.out.mono ?_; rintro e w' ⟨rfl, rfl⟩; clear H4)
      | (go_at_call 24; refine H5.out.mono ?_; rintro e w' ⟨rfl, rfl⟩)
      | (go_at_call 22; refine HC.out.mono ?_; rintro e w1 ⟨rfl, hb1⟩; have HB1 := Lib.hid hb1; have HH := Lib.hid (heads_any w1); clear hb1)
      | (go_at_call 11; refine HH.out.mono ?_; rintro e w2 ⟨rfl, hb2⟩; have HB2 := Lib.hid (HB1.out.trans (hb2.mono HB1.out.size)); clear hb2))
    go_ret
    exact ⟨rfl, HB2.out⟩
  | true =>
    have hl : R64 l := r1 l (res_parts hr).2.2.1
    have HC := Lib.hid (res_yes l c1 c2 w h1 h2 hn hm (by omega) (by omega) hr)
    have HL : Hid ((resP a b l).length ≤ 1000) := by
      show _ ≤ _
      have := resP_len (a := a) (b := b) (l := l)
      omega
    have HS : Hid (holdsP a yes = true → holdsP b yes = true → holdsP (resP a b l) yes = true) := fun q1 q2 => res_sound hl hr q1 q2
    have hn1 : n ≤ 1000 := by omega
    have hm1 : m ≤ 1000 := by omega
    have ho1 : o ≤ 1000 := by omega
    have yy (w1 : World) (hb : Below w.heap.size w w1) : IntsAt w1.heap.size w1 A3 yes := (h3.later hb).mono hb.size
    have K1 := Lib.hid (fun (w1 : World) (hb : Below w.heap.size w w1) => holds_any (q := holdsP a yes) c1 c3 w1 ((h1.later hb).mono hb.size) (yy w1 hb) hn ho k1 k3 hn1 ho1 rfl)
    have K2 := Lib.hid (fun (w1 : World) (hb : Below w.heap.size w w1) => holds_any (q := holdsP b yes) c2 c3 w1 ((h2.later hb).mono hb.size) (yy w1 hb) hm ho k2 k3 hm1 ho1 rfl)
    obtain ⟨R, hR⟩ : ∃ R, R = resP a b l := ⟨_, rfl⟩
    rw [← hR] at HC HL HS
    have K3 := Lib.hid (fun (w1 : World) (hb : Below w.heap.size w w1) (Ar : Option Addr) (cr : Nat) (hi : IntsAt w1.heap.size w1 Ar R) (hc : R.length ≤ cr) => holds_any (q := holdsP R yes) cr c3 w1 hi (yy w1 hb) rfl ho hc k3 HL.out ho1 rfl)
    clear F1 F2 F3 h1 h2 h3 k1 k2 k3 hn hm ho r1 r2 r3 f1 f2 f3 G1 G2 m1 m2 hr HH hn1 hm1 ho1 hl hR yy
    unfold ResPost at HC
    cases qa : holdsP a yes with
    | false =>
      rw [qa] at K1
      clear K2 K3 HS qa
      go_enter Try.func5, Try.ntmps5
      go_wp2_with (first
        | (go_at_call 10; with_reducible refine H1.out.mono ?_; rintro e w' ⟨rfl, rfl⟩; clear H1)
        | (go_at_call 10; with_reducible refine H2.out.mono ?_; rintro e w' ⟨rfl, rfl⟩; clear H2)
        | (go_at_call 10; refine H3.out.mono ?_; rintro e w' ⟨rfl, rfl⟩)
        | (go_at_call 24; with_reducible refine H4.out.mono ?_; rintro e w' ⟨rfl, rfl⟩; clear H4)
        | (go_at_call 24; refine H5.out.mono ?_; rintro e w' ⟨rfl, rfl⟩)
        | (go_at_call 22; refine HC.out.mono ?_; rintro e w1 ⟨Ar, cr, rfl, ho1, hb1⟩; have HB1 := Lib.hid hb1; clear ho1 hb1)
        | (go_at_call 25; refine (K1.out w1 HB1.out).mono ?_; rintro e w2 ⟨rfl, hb2⟩; have HB2 := Lib.hid (HB1.out.trans (hb2.mono HB1.out.size)); have HH := Lib.hid (heads_any w2); clear hb2)
        | (go_at_call 11; refine HH.out.mono ?_; rintro e w3 ⟨rfl, hb3⟩; have HB3 := Lib.hid (HB2.out.trans (hb3.mono HB2.out.size)); clear hb3))
      go_ret
      exact ⟨rfl, HB3.out⟩
    | true =>
      rw [qa] at K1
      cases qb : holdsP b yes with
      | false =>
        rw [qb] at K2
        clear K3 HS qa qb
        go_enter Try.func5, Try.ntmps5
        go_wp2_with (first
          | (go_at_call 10; with_reducible refine H1.out.mono ?_; rintro e w' ⟨rfl, rfl⟩; clear H1)
          | (go_at_call 10; with_reducible refine H2.out.mono ?_; rintro e w' ⟨rfl, rfl⟩; clear H2)
          | (go_at_call 10; refine H3.out.mono ?_; rintro e w' ⟨rfl, rfl⟩)
          | (go_at_call 24; with_reducible refine H4.out.mono ?_; rintro e w' ⟨rfl, rfl⟩; clear H4)
          | (go_at_call 24; refine H5.out.mono ?_; rintro e w' ⟨rfl, rfl⟩)
          | (go_at_call 22; refine HC.out.mono ?_; rintro e w1 ⟨Ar, cr, rfl, ho1, hb1⟩; have HB1 := Lib.hid hb1; clear ho1 hb1)
          | (go_at_call 25; with_reducible refine (K1.out w1 HB1.out).mono ?_; rintro e w2 ⟨rfl, hb2⟩; have HB2 := Lib.hid (HB1.out.trans (hb2.mono HB1.out.size)); clear hb2 K1)
          | (go_at_call 25; refine (K2.out w2 HB2.out).mono ?_; rintro e w3 ⟨rfl, hb3⟩; have HB3 := Lib.hid (HB2.out.trans (hb3.mono HB2.out.size)); have HH := Lib.hid (heads_any w3); clear hb3)
          | (go_at_call 11; refine HH.out.mono ?_; rintro e w4 ⟨rfl, hb4⟩; have HB4 := Lib.hid (HB3.out.trans (hb4.mono HB3.out.size)); clear hb4))
        go_ret
        exact ⟨rfl, HB4.out⟩
      | true =>
        rw [qb] at K2
        rw [HS.out qa qb] at K3
        clear HS qa qb
        go_enter Try.func5, Try.ntmps5
        go_wp2_with (first
          | (go_at_call 10; with_reducible refine H1.out.mono ?_; rintro e w' ⟨rfl, rfl⟩; clear H1)
          | (go_at_call 10; with_reducible refine H2.out.mono ?_; rintro e w' ⟨rfl, rfl⟩; clear H2)
          | (go_at_call 10; refine H3.out.mono ?_; rintro e w' ⟨rfl, rfl⟩)
          | (go_at_call 24; with_reducible refine H4.out.mono ?_; rintro e w' ⟨rfl, rfl⟩; clear H4)
          | (go_at_call 24; refine H5.out.mono ?_; rintro e w' ⟨rfl, rfl⟩)
          | (go_at_call 22; refine HC.out.mono ?_; rintro e w1 ⟨Ar, cr, rfl, ho1, hb1⟩; have HB1 := Lib.hid hb1; have HRI := Lib.hid (own_ints ho1); have HRC : Hid (R.length ≤ cr) := (by show _ ≤ _; obtain ⟨_, _, e9, h9, _⟩ := Ints.of_own ho1; cases e9; exact h9); clear ho1 hb1)
          | (go_at_call 25; with_reducible refine (K1.out w1 HB1.out).mono ?_; rintro e w2 ⟨rfl, hb2⟩; have HB2 := Lib.hid (HB1.out.trans (hb2.mono HB1.out.size)); have HR2 := Lib.hid ((HRI.out.later hb2).mono hb2.size); clear hb2 K1)
          | (go_at_call 25; with_reducible refine (K2.out w2 HB2.out).mono ?_; rintro e w3 ⟨rfl, hb3⟩; have HB3 := Lib.hid (HB2.out.trans (hb3.mono HB2.out.size)); have HR3 := Lib.hid ((HR2.out.later hb3).mono hb3.size); clear hb3 K2)
          | (go_at_call 25; refine (K3.out w3 HB3.out Ar cr HR3.out HRC.out).mono ?_; rintro e w4 ⟨rfl, hb4⟩; have HB4 := Lib.hid (HB3.out.trans (hb4.mono HB3.out.size)); have HH := Lib.hid (heads_any w4); clear hb4)
          | (go_at_call 11; refine HH.out.mono ?_; rintro e w5 ⟨rfl, hb5⟩; have HB5 := Lib.hid (HB4.out.trans (hb5.mono HB4.out.size)); clear hb5))
        go_ret
        exact ⟨rfl, HB5.out⟩
end Go.Proofs.Ythnjjonjhenifaa
