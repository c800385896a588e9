/- The walks of course.Same, of the library's functions that it calls, and of the document's Same. -/
import Derived.Test.YtebpdlnknfjoaaaTakes
import Derived.Test.YtebpdlnknfjoaaaAllW
import Derived.Test.YtebpdlnknfjoaaaRowsSame
import Derived.Test.YtebpdlnknfjoaaaStillAt
import Derived.Test.YtebpdlnknfjoaaaFew
namespace Go.Proofs.Ytebpdlnknfjoaaa
set_option linter.unusedVariables false
set_option linter.unusedSimpArgs false
open Go.RowKit

theorem same1_any {B : Nat} {A1 A2 : Option Addr} {xs ys : List Int} {n m : Nat} {q : Bool} (c1 c2 : Nat) (w : World) (h1 : IntsAt B w A1 xs) (h2 : IntsAt B w A2 ys) (hn : xs.length = n) (hm : ys.length = m) (hb1 : n ≤ 1000000) (hb2 : m ≤ 1000000) (hq : decide (xs = ys) = q) :
    Calls Try.prog 48 #[.slice A1 n c1, .slice A2 m c2] w fun e w' => e = .returned (.bool q) ∧ Below w.heap.size w w' := by
  have HC := Lib.hid (equal_any c1 c2 w h1 h2 hn hm hb1 hb2 hq)
  clear h1 h2 hn hm
  go_enter Try.func48, Try.ntmps48
  go_wp2_with (go_at_call 46; refine HC.out.mono ?_; rintro e w1 ⟨rfl, hb⟩; have HB := Lib.hid hb; clear hb)
  go_ret
  exact ⟨rfl, HB.out⟩

set_option maxHeartbeats 600000 in
theorem eqRows_any {A1 A2 : Option Addr} {a b : List (List Int)} {n m : Nat} {q : Bool} (c1 c2 : Nat) (w : World) (h1 : RowsAt w.heap.size w A1 a) (h2 : RowsAt w.heap.size w A2 b) (hn : a.length = n) (hm : b.length = m) (hb : n ≤ 1000000) (hl1 : ∀ r ∈ a, r.length ≤ 1000000) (hl2 : ∀ r ∈ b, r.length ≤ 1000000) (hq : decide (a = b) = q) :
    Calls Try.prog 50 #[.slice A1 n c1, .slice A2 m c2, .func (.func 48) #[] #[]] w fun e w' => e = .returned (.bool q) ∧ Below w.heap.size w w' := by
  subst hn hm hq
  have H1 := Lib.hid h1
  have H2 := Lib.hid h2
  have HL1 := Lib.hid hl1
  have HL2 := Lib.hid hl2
  clear h1 h2 hl1 hl2
  by_cases hlen : a.length = b.length
  · have hl1 : ((a.length : Int) != (b.length : Int)) = false := by simp [hlen]
    have HLEN := Lib.hid hlen
    clear hlen
    go_enter Try.func50, Try.ntmps50
    go_wp2
    go_loopw [17] (fun i wr => ∃ (k : Nat) (wk : World), wk = wr ∧ k ≤ a.length ∧ i = .int .i64 (k : Nat) ∧ Hid (a.take k = b.take k) ∧ Hid (Below w.heap.size w wk)) (fun i _ => a.length - (intOf i).toNat)
    case atStart => exact ⟨0, _, rfl, Nat.zero_le _, rfl, by show _ = _; simp, Below.refl _ _⟩
    case round =>
      obtain ⟨k, wk, rfl, hk, rfl, HT, HB⟩ := hrel
      by_cases hlt : k < a.length
      · have hltb : k < b.length := by have := HLEN.out; omega
        obtain ⟨ad1, B1, d1, rfl, hx1, _, hi1⟩ := (H1.out.later HB.out).row k hlt
        obtain ⟨ad2, B2, d2, rfl, hx2, _, hi2⟩ := (H2.out.later HB.out).row k hltb
        have HS := Lib.hid (take_same hlt hltb)
        have hxl := HL1.out _ (List.getElem_mem hlt)
        have hyl := HL2.out _ (List.getElem_mem hltb)
        obtain ⟨x, hx⟩ : ∃ x, x = a[k] := ⟨_, rfl⟩
        obtain ⟨y, hy⟩ : ∃ y, y = b[k] := ⟨_, rfl⟩
        rw [← hx] at hx1 hi1 HS hxl
        rw [← hy] at hx2 hi2 HS hyl
        have hltb' : (k : Int) < (b.length : Int) := by omega
        clear hx hy
        by_cases he : x = y
        · have HT' : Hid (a.take (k + 1) = b.take (k + 1)) := HS.out.2 ⟨HT.out, he⟩
          have HC := Lib.hid (same1_any (q := true) d1 d2 wk hi1 hi2 rfl rfl hxl hyl (decide_eq_true he))
          clear HS hi1 hi2 he
          go_wp2_with (go_at_call 48; refine HC.out.mono ?_; rintro e w4 ⟨rfl, hb4⟩; have HB4 := Lib.hid (HB.out.trans (hb4.mono HB.out.size)); clear hb4)
          go_roundw
          case rel => exact ⟨k + 1, _, rfl, by omega, by go_num, HT', HB4⟩
          case measure => simp [intOf]; omega
        · have HF : Hid (decide (a = b) = false) := decide_eq_false (fun e => he (HS.out.1 (by rw [e])).2)
          have HC := Lib.hid (same1_any (q := false) d1 d2 wk hi1 hi2 rfl rfl hxl hyl (decide_eq_false he))
          clear HS hi1 hi2 he
          go_wp2_with (go_at_call 48; refine HC.out.mono ?_; rintro e w4 ⟨rfl, hb4⟩; have HB4 := Lib.hid (HB.out.trans (hb4.mono HB.out.size)); clear hb4)
          go_ret
          exact ⟨ret_bool HF.out.symm, HB4.out⟩
      · have HTT : Hid (decide (a = b) = true) := by
          have := HT.out
          rw [List.take_of_length_le (by omega), List.take_of_length_le (by have := HLEN.out; omega)] at this
          exact decide_eq_true this
        go_wp2
        go_ret
        exact ⟨ret_bool HTT.out.symm, HB.out⟩
  · have hl1 : ((a.length : Int) != (b.length : Int)) = true := by simp; omega
    have HF : Hid (decide (a = b) = false) := decide_eq_false (fun e => hlen (by rw [e]))
    clear hlen
    go_enter Try.func50, Try.ntmps50
    go_wp2
    go_ret
    exact ⟨ret_bool HF.out.symm, Below.refl _ _⟩

theorem same2_any {A1 A2 : Option Addr} {a b : List (List Int)} {n m g : Nat} {q : Bool} (c1 c2 : Nat) (w : World) (h1 : RowsAt w.heap.size w A1 a) (h2 : RowsAt w.heap.size w A2 b) (hn : a.length = n) (hm : b.length = m) (hb : n ≤ 1000000) (hl1 : ∀ r ∈ a, r.length ≤ 1000000) (hl2 : ∀ r ∈ b, r.length ≤ 1000000) (hq : decide (a = b) = q)
    (hg : w.cell? ⟨g, 0, none⟩ = some (.func (.func 48) #[] #[])) :
    Calls Try.prog 49 #[.agg #[.slice A1 n c1], .agg #[.slice A2 m c2], .pointer (some ⟨g, 0, none⟩)] w fun e w' => e = .returned (.bool q) ∧ Below w.heap.size w w' := by
  have hb0 : Below w.heap.size w ((w.alloc (.cells #[.slice A1 n c1] 42)).alloc (.cells #[.slice A2 m c2] 42)) := ((Below.refl _ _).alloc (Nat.le_refl _) _).alloc (by simp) _
  have HC := Lib.hid (eqRows_any c1 c2 _ ((h1.later hb0).now) ((h2.later hb0).now) hn hm hb hl1 hl2 hq)
  have hg2 := cell_alloc (cell_alloc hg (.cells #[.slice A1 n c1] 42)) (.cells #[.slice A2 m c2] 42)
  have hgl := cell_lt hg
  have HB0 := Lib.hid hb0
  clear h1 h2 hn hm hl1 hl2 hq hb0
  go_enter Try.func49, Try.ntmps49
  go_wp2_with (go_at_call 50; refine HC.out.mono ?_; rintro e w1 ⟨rfl, hb⟩; have HB := Lib.hid (HB0.out.trans (hb.mono HB0.out.size)); clear hb)
  go_ret
  exact ⟨rfl, HB.out⟩

set_option maxHeartbeats 600000 in
theorem eqWays_any {A1 A2 : Option Addr} {a b : List (List (List Int))} {n m g : Nat} {q : Bool} (c1 c2 : Nat) (w : World) (h1 : WaysAt w.heap.size w A1 a) (h2 : WaysAt w.heap.size w A2 b) (hn : a.length = n) (hm : b.length = m) (hs1 : Small a) (hs2 : Small b) (hq : decide (a = b) = q)
    (hg : w.cell? ⟨g, 0, none⟩ = some (.func (.func 48) #[] #[])) :
    Calls Try.prog 51 #[.slice A1 n c1, .slice A2 m c2, .func (.func 49) #[] #[.pointer (some ⟨g, 0, none⟩)]] w fun e w' => e = .returned (.bool q) ∧ Below w.heap.size w w' := by
  subst hn hm hq
  have H1 := Lib.hid h1
  have H2 := Lib.hid h2
  have HS1 := Lib.hid hs1
  have HS2 := Lib.hid hs2
  have HG := Lib.hid hg
  have hal : a.length ≤ 1000000 := by have := hs1.1; omega
  clear h1 h2 hs1 hs2 hg
  by_cases hlen : a.length = b.length
  · have hl1 : ((a.length : Int) != (b.length : Int)) = false := by simp [hlen]
    have HLEN := Lib.hid hlen
    clear hlen
    go_enter Try.func51, Try.ntmps51
    go_wp2
    go_loopw [17] (fun i wr => ∃ (k : Nat) (wk : World), wk = wr ∧ k ≤ a.length ∧ i = .int .i64 (k : Nat) ∧ Hid (a.take k = b.take k) ∧ Hid (Below w.heap.size w wk)) (fun i _ => a.length - (intOf i).toNat)
    case atStart => exact ⟨0, _, rfl, Nat.zero_le _, rfl, by show _ = _; simp, Below.refl _ _⟩
    case round =>
      obtain ⟨k, wk, rfl, hk, rfl, HT, HB⟩ := hrel
      by_cases hlt : k < a.length
      · have hltb : k < b.length := by have := HLEN.out; omega
        obtain ⟨ad1, B1, d1, rfl, _, hx1, _, hi1⟩ := (H1.out.later HB.out) k hlt
        obtain ⟨ad2, B2, d2, rfl, _, hx2, _, hi2⟩ := (H2.out.later HB.out) k hltb
        have HS := Lib.hid (take_same hlt hltb)
        have hxl := HS1.out.2 _ (List.getElem_mem hlt)
        have hyl := HS2.out.2 _ (List.getElem_mem hltb)
        obtain ⟨x, hx⟩ : ∃ x, x = a[k] := ⟨_, rfl⟩
        obtain ⟨y, hy⟩ : ∃ y, y = b[k] := ⟨_, rfl⟩
        rw [← hx] at hx1 hi1 HS hxl
        rw [← hy] at hx2 hi2 HS hyl
        have hltb' : (k : Int) < (b.length : Int) := by omega
        have hx2' := cell_alloc hx2 (.cells #[.slice B1 x.length d1] 42)
        have hb2 : Below wk.heap.size wk ((wk.alloc (.cells #[.slice B1 x.length d1] 42)).alloc (.cells #[.slice B2 y.length d2] 42)) := ((Below.refl _ _).alloc (Nat.le_refl _) _).alloc (by simp) _
        have hg2 : ((wk.alloc (.cells #[.slice B1 x.length d1] 42)).alloc (.cells #[.slice B2 y.length d2] 42)).cell? ⟨g, 0, none⟩ = some (.func (.func 48) #[] #[]) := (World.cell?_of_block (hb2.block _ (by have := cell_lt HG.out; have := HB.out.size; omega))).trans ((World.cell?_of_block (HB.out.block _ (cell_lt HG.out))).trans HG.out)
        have hC (q : Bool) (hq : decide (x = y) = q) := same2_any (g := g) (q := q) d1 d2 _ ((hi1.later hb2).now) ((hi2.later hb2).now) rfl rfl (by omega) (fun r hr => by have := hxl.2 r hr; omega) (fun r hr => by have := hyl.2 r hr; omega) hq hg2
        have HB2 := Lib.hid (HB.out.trans (hb2.mono HB.out.size))
        clear hx hy
        by_cases he : x = y
        · have HT' : Hid (a.take (k + 1) = b.take (k + 1)) := HS.out.2 ⟨HT.out, he⟩
          have HC := Lib.hid (hC true (decide_eq_true he))
          clear HS hi1 hi2 he hC hb2 hg2 hxl hyl
          go_wp2_with (go_at_call 49; refine HC.out.mono ?_; rintro e w4 ⟨rfl, hb4⟩; have HB4 := Lib.hid (HB2.out.trans (hb4.mono HB2.out.size)); clear hb4)
          go_roundw
          case rel => exact ⟨k + 1, _, rfl, by omega, by go_num, HT', HB4⟩
          case measure => simp [intOf]; omega
        · have HF : Hid (decide (a = b) = false) := decide_eq_false (fun e => he (HS.out.1 (by rw [e])).2)
          have HC := Lib.hid (hC false (decide_eq_false he))
          clear HS hi1 hi2 he hC hb2 hg2 hxl hyl
          go_wp2_with (go_at_call 49; refine HC.out.mono ?_; rintro e w4 ⟨rfl, hb4⟩; have HB4 := Lib.hid (HB2.out.trans (hb4.mono HB2.out.size)); clear hb4)
          go_ret
          exact ⟨ret_bool HF.out.symm, HB4.out⟩
      · have HTT : Hid (decide (a = b) = true) := by
          have := HT.out
          rw [List.take_of_length_le (by omega), List.take_of_length_le (by have := HLEN.out; omega)] at this
          exact decide_eq_true this
        go_wp2
        go_ret
        exact ⟨ret_bool HTT.out.symm, HB.out⟩
  · have hl1 : ((a.length : Int) != (b.length : Int)) = true := by simp; omega
    have HF : Hid (decide (a = b) = false) := decide_eq_false (fun e => hlen (by rw [e]))
    clear hlen
    go_enter Try.func51, Try.ntmps51
    go_wp2
    go_ret
    exact ⟨ret_bool HF.out.symm, Below.refl _ _⟩

def sameB (s t : ByteArray) (a b : List (List (List Int))) : Bool := decide (s.toList = t.toList) && decide (a = b)
theorem bytes_same {s t : ByteArray} (h : s.toList = t.toList) : s = t := by
  rw [ByteArray.toList_eq, ByteArray.toList_eq] at h
  cases s
  cases t
  congr 1
  exact Array.toList_inj.1 h

set_option maxRecDepth 100000 in
set_option maxHeartbeats 600000 in
theorem courseSame_any {A1 A2 : Option Addr} {a b : List (List (List Int))} {q : Bool} (s t : ByteArray) (c1 c2 : Nat) (w : World) (h1 : WaysAt w.heap.size w A1 a) (h2 : WaysAt w.heap.size w A2 b) (hs1 : Small a) (hs2 : Small b) (hq : sameB s t a b = q) :
    Calls Try.prog 26 #[.agg #[.string s, .slice A1 a.length c1], .agg #[.string t, .slice A2 b.length c2]] w fun e w' => e = .returned (.bool q) ∧ Below w.heap.size w w' := by
  have hb0 : Below w.heap.size w (((w.alloc (.cells #[.string s, .slice A1 a.length c1] 24)).alloc (.cells #[.string t, .slice A2 b.length c2] 24)).alloc (.cells #[.func (.func 48) #[] #[]] 28)) := (((Below.refl _ _).alloc (Nat.le_refl _) _).alloc (by simp) _).alloc (by simp; omega) _
  have HB0 := Lib.hid hb0
  by_cases hst : s.toList = t.toList
  · have HC := Lib.hid (fun q hq => eqWays_any (g := w.heap.size + 1 + 1) (q := q) c1 c2 _ ((h1.later hb0).now) ((h2.later hb0).now) rfl rfl hs1 hs2 hq (cell_one (by
      have h := alloc_new ((w.alloc (.cells #[.string s, .slice A1 a.length c1] 24)).alloc (.cells #[.string t, .slice A2 b.length c2] 24)) (.cells #[.func (.func 48) #[] #[]] 28)
      simpa using h)))
    have hq2 : decide (a = b) = q := by rw [← hq]; unfold sameB; rw [decide_eq_true hst]; rfl
    have HC2 := Lib.hid (HC.out q hq2)
    cases bytes_same hst
    clear hq h1 h2 hb0 HC hq2 hst hs1 hs2
    go_enter Try.func26, Try.ntmps26
    go_wp2_with (go_at_call 51; refine HC2.out.mono ?_; rintro e w1 ⟨rfl, hb⟩; have HB := Lib.hid (HB0.out.trans (hb.mono HB0.out.size)); clear hb)
    go_ret
    exact ⟨rfl, HB.out⟩
  · have HQ : Hid (q = false) := by show _ = _; rw [← hq]; unfold sameB; rw [decide_eq_false hst]; rfl
    clear hq h1 h2 hb0 hs1 hs2
    go_enter Try.func26, Try.ntmps26
    go_wp2
    go_ret
    exact ⟨ret_bool HQ.out.symm, HB0.out⟩

set_option maxRecDepth 100000 in
set_option maxHeartbeats 1000000 in
theorem refSame_any {A1 A2 : Option Addr} {a b : List (List (List Int))} {q : Bool} (s t : ByteArray) (c1 c2 : Nat) (w : World) (h1 : WaysAt w.heap.size w A1 a) (h2 : WaysAt w.heap.size w A2 b) (hs1 : Small a) (hs2 : Small b) (hq : sameB s t a b = q) :
    Calls Try.prog 27 #[.agg #[.string s, .slice A1 a.length c1], .agg #[.string t, .slice A2 b.length c2]] w fun e w' => e = .returned (.bool q) ∧ Below w.heap.size w w' := by
  have hb0 : Below w.heap.size w ((w.alloc (.cells #[.string s, .slice A1 a.length c1] 24)).alloc (.cells #[.string t, .slice A2 b.length c2] 24)) := ((Below.refl _ _).alloc (Nat.le_refl _) _).alloc (by simp) _
  have hbx1 : ((w.alloc (.cells #[.string s, .slice A1 a.length c1] 24)).alloc (.cells #[.string t, .slice A2 b.length c2] 24)).cell? ⟨w.heap.size, 1, none⟩ = some (.slice A1 a.length c1) := cell_alloc (by simp [go_sem]) _
  have hbx2 : ((w.alloc (.cells #[.string s, .slice A1 a.length c1] 24)).alloc (.cells #[.string t, .slice A2 b.length c2] 24)).cell? ⟨w.heap.size + 1, 1, none⟩ = some (.slice A2 b.length c2) := by
    have : w.heap.size + 1 = (w.alloc (.cells #[.string s, .slice A1 a.length c1] 24)).heap.size := by simp
    rw [this]
    simp [go_sem, -World.size_alloc]
  have HB0 := Lib.hid hb0
  have HX1 := Lib.hid hbx1
  have HX2 := Lib.hid hbx2
  have HW1 := Lib.hid ((h1.later hb0).now)
  have HW2 := Lib.hid ((h2.later hb0).now)
  have HS1 := Lib.hid hs1
  have HS2 := Lib.hid hs2
  have hal : a.length ≤ 1000000 := by have := hs1.1; omega
  by_cases hst : s.toList = t.toList
  · by_cases hlen : a.length = b.length
    · have hl1 : ((a.length : Int) != (b.length : Int)) = false := by simp [hlen]
      have HLEN := Lib.hid hlen
      have HQ : Hid (decide (a = b) = q) := by show _ = _; rw [← hq]; unfold sameB; rw [decide_eq_true hst]; rfl
      cases bytes_same hst
      clear hq h1 h2 hb0 hst hs1 hs2 hbx1 hbx2 hlen
      go_enter Try.func27, Try.ntmps27
      go_wp2
      obtain ⟨W0, hW0⟩ : ∃ W0, W0 = (w.alloc (.cells #[.string s, .slice A1 a.length c1] 24)).alloc (.cells #[.string s, .slice A2 b.length c2] 24) := ⟨_, rfl⟩
      rw [← hW0] at HB0 HX1 HX2 HW1 HW2 ⊢
      clear hW0
      go_loopw [5] (fun i wr => ∃ (k : Nat) (wk : World), wk = wr ∧ k ≤ a.length ∧ i = .int .i64 (k : Nat) ∧ Hid (a.take k = b.take k) ∧ Hid (Below W0.heap.size W0 wk)) (fun i _ => a.length - (intOf i).toNat)
      case atStart => exact ⟨0, _, rfl, Nat.zero_le _, rfl, by show _ = _; simp, Below.refl _ _⟩
      case round =>
        obtain ⟨k, wk, rfl, hk, rfl, HT, HB⟩ := hrel
        have hbx1 := cell_later HX1.out HB.out
        have hbx2 := cell_later HX2.out HB.out
        by_cases hlt : k < a.length
        · have hltb : k < b.length := by have := HLEN.out; omega
          obtain ⟨ad1, B1, d1, rfl, _, hx1, _, hi1⟩ := (HW1.out.later HB.out) k hlt
          obtain ⟨ad2, B2, d2, rfl, _, hx2, _, hi2⟩ := (HW2.out.later HB.out) k hltb
          have HS := Lib.hid (take_same hlt hltb)
          have hxl := HS1.out.2 _ (List.getElem_mem hlt)
          have hyl := HS2.out.2 _ (List.getElem_mem hltb)
          obtain ⟨x, hx⟩ : ∃ x, x = a[k] := ⟨_, rfl⟩
          obtain ⟨y, hy⟩ : ∃ y, y = b[k] := ⟨_, rfl⟩
          rw [← hx] at hx1 hi1 HS hxl
          rw [← hy] at hx2 hi2 HS hyl
          have hltb' : (k : Int) < (b.length : Int) := by omega
          have hbd : Below wk.heap.size wk wk.drew := below_drewN (Below.refl _ _) 1
          have hC (q : Bool) (hq : decide (x = y) = q) := rows_same (q := q) d1 d2 wk.drew (hi1.later hbd) (hi2.later hbd) rfl rfl (by omega) (fun r hr => by have := hxl.2 r hr; omega) hq
          clear hx hy
          by_cases he : x = y
          · have HT' : Hid (a.take (k + 1) = b.take (k + 1)) := HS.out.2 ⟨HT.out, he⟩
            have HC := Lib.hid (hC true (decide_eq_true he))
            clear HS hi1 hi2 he hC hxl hyl
            go_wp2
            refine still_tail 12 (by kernel_rfl) (by kernel_rfl) (fun KK hKK => ?_)
            have HKK := Lib.hid hKK
            clear hKK
            simp only [List.take_succ_cons, List.take_zero, List.drop_succ_cons, List.drop_zero] at HKK ⊢
            have hy1 : World.cell? wk.drew ⟨w.heap.size, 1, none⟩ = some (.slice (some ad1) a.length c1) := hbx1
            have hy2 : World.cell? wk.drew ⟨w.heap.size + 1, 1, none⟩ = some (.slice (some ad2) b.length c2) := hbx2
            have hy3 : World.cell? wk.drew (ad1.add k) = some (.slice B1 x.length d1) := hx1
            have hy4 : World.cell? wk.drew (ad2.add k) = some (.slice B2 y.length d2) := hx2
            have HBD := Lib.hid hbd
            clear hbd hbx1 hbx2 hx1 hx2
            generalize wk.drew = w9 at HC HBD HKK hy1 hy2 hy3 hy4 ⊢
            iterate 12 (refine still_take (by kernel_rfl) (fun K hK => ?_); go_simp; refine hK _ ?_; clear hK K)
            refine still_nil ?_
            refine HKK.out _ ?_
            clear HKK KK
            go_wp2_with (go_at_call 19; refine HC.out.mono ?_; rintro e w4 ⟨rfl, hb4⟩; have HB4 := Lib.hid (HB.out.trans ((HBD.out.trans (hb4.mono HBD.out.size)).mono HB.out.size)); clear hb4)
            go_roundw
            case rel => exact ⟨k + 1, _, rfl, by omega, by go_num, HT', HB4⟩
            case measure => simp [intOf]; omega
          · have HF : Hid (decide (a = b) = false) := decide_eq_false (fun e => he (HS.out.1 (by rw [e])).2)
            have HC := Lib.hid (hC false (decide_eq_false he))
            clear HS hi1 hi2 he hC hxl hyl
            go_wp2
            refine still_tail 12 (by kernel_rfl) (by kernel_rfl) (fun KK hKK => ?_)
            have HKK := Lib.hid hKK
            clear hKK
            simp only [List.take_succ_cons, List.take_zero, List.drop_succ_cons, List.drop_zero] at HKK ⊢
            have hy1 : World.cell? wk.drew ⟨w.heap.size, 1, none⟩ = some (.slice (some ad1) a.length c1) := hbx1
            have hy2 : World.cell? wk.drew ⟨w.heap.size + 1, 1, none⟩ = some (.slice (some ad2) b.length c2) := hbx2
            have hy3 : World.cell? wk.drew (ad1.add k) = some (.slice B1 x.length d1) := hx1
            have hy4 : World.cell? wk.drew (ad2.add k) = some (.slice B2 y.length d2) := hx2
            have HBD := Lib.hid hbd
            clear hbd hbx1 hbx2 hx1 hx2
            generalize wk.drew = w9 at HC HBD HKK hy1 hy2 hy3 hy4 ⊢
            iterate 12 (refine still_take (by kernel_rfl) (fun K hK => ?_); go_simp; refine hK _ ?_; clear hK K)
            refine still_nil ?_
            refine HKK.out _ ?_
            clear HKK KK
            go_wp2_with (go_at_call 19; refine HC.out.mono ?_; rintro e w4 ⟨rfl, hb4⟩; have HB4 := Lib.hid (HB.out.trans ((HBD.out.trans (hb4.mono HBD.out.size)).mono HB.out.size)); clear hb4)
            go_ret
            exact ⟨ret_bool (by rw [← HQ.out, HF.out]), HB0.out.trans (HB4.out.mono HB0.out.size)⟩
        · have HTT : Hid (decide (a = b) = true) := by
            have := HT.out
            rw [List.take_of_length_le (by omega), List.take_of_length_le (by have := HLEN.out; omega)] at this
            exact decide_eq_true this
          go_wp2
          go_ret
          exact ⟨ret_bool (by rw [← HQ.out, HTT.out]), HB0.out.trans (HB.out.mono HB0.out.size)⟩
    · have hl1 : ((a.length : Int) != (b.length : Int)) = true := by simp; omega
      have HQ : Hid (q = false) := by show _ = _; rw [← hq]; unfold sameB; rw [decide_eq_false (fun e : a = b => hlen (by rw [e])), Bool.and_false]
      cases bytes_same hst
      clear hq h1 h2 hb0 hst hs1 hs2 hbx1 hbx2 hlen
      go_enter Try.func27, Try.ntmps27
      go_wp2
      go_ret
      exact ⟨ret_bool HQ.out.symm, HB0.out⟩
  · have HQ : Hid (q = false) := by show _ = _; rw [← hq]; unfold sameB; rw [decide_eq_false hst]; rfl
    clear hq h1 h2 hb0 hs1 hs2
    go_enter Try.func27, Try.ntmps27
    go_wp2
    go_ret
    exact ⟨ret_bool HQ.out.symm, HB0.out⟩
end Go.Proofs.Ytebpdlnknfjoaaa
