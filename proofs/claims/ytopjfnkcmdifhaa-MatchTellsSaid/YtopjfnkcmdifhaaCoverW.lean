/- The walk of match.Cover. -/
import Derived.Test.YtopjfnkcmdifhaaHallW
namespace Go.Proofs.Ytopjfnkcmdifhaa
set_option linter.unusedVariables false
set_option linter.unusedSimpArgs false
open Go.RowKit Kuhn

/-- The places at which p holds, rising. -/
def idxFrom (p : Nat → Int → Bool) : Nat → List Int → List Int
  | _, [] => []
  | i, x :: xs => if p i x then (i : Int) :: idxFrom p (i + 1) xs else idxFrom p (i + 1) xs
theorem idx_append (p : Nat → Int → Bool) (xs ys : List Int) : ∀ i, idxFrom p i (xs ++ ys) = idxFrom p i xs ++ idxFrom p (i + xs.length) ys := by
  induction xs with
  | nil => intro i; simp [idxFrom]
  | cons x xs ih =>
    intro i
    simp only [List.cons_append, idxFrom, ih (i + 1), List.length_cons]
    rw [show i + 1 + xs.length = i + (xs.length + 1) by omega]
    split <;> simp
theorem idx_snoc (p : Nat → Int → Bool) (m : List Int) (k : Nat) (hk : k < m.length) : idxFrom p 0 (m.take (k + 1)) = if p k m[k] then idxFrom p 0 (m.take k) ++ [(k : Int)] else idxFrom p 0 (m.take k) := by
  rw [List.take_succ_eq_append_getElem hk, idx_append]
  have : (m.take k).length = k := by rw [List.length_take]; omega
  rw [this, Nat.zero_add]
  simp only [idxFrom]
  split <;> simp
theorem idx_le (p : Nat → Int → Bool) (xs : List Int) : ∀ i, (idxFrom p i xs).length ≤ xs.length := by
  induction xs with
  | nil => intro i; simp [idxFrom]
  | cons x xs ih =>
    intro i
    have := ih (i + 1)
    simp only [idxFrom]
    split <;> simp <;> omega
theorem mem_idx (p : Nat → Int → Bool) (xs : List Int) : ∀ i n, n ∈ idxFrom p i xs ↔ ∃ j : Nat, n = ((i + j : Nat) : Int) ∧ ∃ x, xs[j]? = some x ∧ p (i + j) x = true := by
  induction xs with
  | nil => intro i n; simp [idxFrom]
  | cons x xs ih =>
    intro i n
    have e : n ∈ idxFrom p i (x :: xs) ↔ (p i x = true ∧ n = (i : Int)) ∨ n ∈ idxFrom p (i + 1) xs := by
      simp only [idxFrom]
      by_cases h : p i x = true
      · rw [if_pos h, List.mem_cons]
        simp [h]
      · rw [if_neg h]
        simp [h]
    rw [e, ih]
    constructor
    · rintro (⟨h1, rfl⟩ | ⟨j, e, y, hy, hy0⟩)
      · exact ⟨0, by simp, x, by simp, h1⟩
      · exact ⟨j + 1, by rw [e]; omega, y, by simpa using hy, by rw [show i + (j + 1) = i + 1 + j by omega]; exact hy0⟩
    · rintro ⟨j, e, y, hy, hy0⟩
      cases j with
      | zero =>
        simp at hy
        subst hy
        exact .inl ⟨hy0, by simpa using e⟩
      | succ j => exact .inr ⟨j, by rw [e]; omega, y, by simpa using hy, by rw [show i + 1 + j = i + (j + 1) by omega]; exact hy0⟩
theorem idx_rise (p : Nat → Int → Bool) (xs : List Int) : ∀ i, (idxFrom p i xs).Pairwise (· < ·) := by
  induction xs with
  | nil => intro i; exact List.Pairwise.nil
  | cons x xs ih =>
    intro i
    simp only [idxFrom]
    split
    · refine List.pairwise_cons.2 ⟨fun n hn => ?_, ih _⟩
      obtain ⟨j, rfl, _⟩ := (mem_idx p xs _ n).1 hn
      omega
    · exact ih _

/-- Matched, and not come to. -/
def lone (s : List Int) (i : Nat) (x : Int) : Bool := decide (0 ≤ x) && !decide ((i : Int) ∈ s)

def CoverPost (l : List (List Int)) (w : World) (e : Ending) (w' : World) : Prop :=
  ∃ A1 c1 xs A2 c2 zs, e = .returned (.tuple #[.slice A1 xs.length c1, .slice A2 zs.length c2]) ∧ IntsAt w'.heap.size w' A1 xs ∧ IntsAt w'.heap.size w' A2 zs ∧
    IsSet xs (fun n => ∃ i : Nat, n = i ∧ (∃ x, (mostOf l)[i]? = some x ∧ 0 ≤ x) ∧ ¬ Come (rowF l) (ofM (mostOf l)) (fun i => (i : Int) ∈ bareFrom 0 (mostOf l)) i) ∧ IsSet zs (RightOf l (mostOf l) (bareFrom 0 (mostOf l))) ∧ Below w.heap.size w w'

theorem lone_set {l : List (List Int)} {m fr : List Int} {st : List Int × List Int} (h : Reached (rowF l) (ofM m) fr fr.length st) :
    IsSet (idxFrom (lone st.1) 0 m) (fun n => ∃ i : Nat, n = i ∧ (∃ x, m[i]? = some x ∧ 0 ≤ x) ∧ ¬ Come (rowF l) (ofM m) (fun i => (i : Int) ∈ fr) i) := by
  refine ⟨idx_rise _ _ _, fun n => ?_⟩
  rw [mem_idx]
  constructor
  · rintro ⟨j, e, x, hx, hp⟩
    simp only [Nat.zero_add, lone, Bool.and_eq_true, decide_eq_true_eq, Bool.not_eq_true', decide_eq_false_iff_not] at hp e
    exact ⟨j, e, ⟨x, hx, hp.1⟩, fun hc => hp.2 ((h.memL j).2 hc)⟩
  · rintro ⟨j, e, ⟨x, hx, h0⟩, hc⟩
    refine ⟨j, by simpa using e, x, hx, ?_⟩
    simp only [Nat.zero_add, lone, Bool.and_eq_true, decide_eq_true_eq, Bool.not_eq_true', decide_eq_false_iff_not]
    exact ⟨h0, fun q => hc ((h.memL j).1 q)⟩

set_option maxRecDepth 100000 in
set_option maxHeartbeats 1000000 in
theorem Cover_any (near : List (List Int)) (right : Int) (A : Option Addr) (c : Nat) (w : World) (hR : RowsAt w.heap.size w A near) (hn : near.length ≤ 1000) (hl : ∀ r ∈ near, r.length ≤ 1000) :
    Calls Try.prog 19 #[.slice A near.length c, .int .i64 right] w (CoverPost (near.map (rowOf right)) w) := by
  obtain ⟨l, hll⟩ : ∃ l, l = near.map (rowOf right) := ⟨_, rfl⟩
  have hl1000 : l.length ≤ 1000 := by rw [hll]; simpa using hn
  have HL2 := Lib.hid (rows_le hll hl)
  have HR := Lib.hid hR
  have HLL := Lib.hid hll
  have HL := Lib.hid hl
  have HC1 := Lib.hid (rows_l hll A c w hR hn hl)
  rw [← hll]
  obtain ⟨m, hm⟩ : ∃ m, m = mostOf l := ⟨_, rfl⟩
  have hml : m.length = l.length := by rw [hm]; exact mostOf_length l
  have hm1000 : m.length ≤ 1000 := by omega
  obtain ⟨b, hb⟩ : ∃ b, b = bareFrom 0 m := ⟨_, rfl⟩
  have hbl : b.length ≤ 1000 := by rw [hb]; have := bareFrom_le m 0; omega
  have HFR : Hid (∀ u ∈ b, ∃ i : Nat, u = i ∧ i < l.length) := by
    intro u hu
    rw [hb] at hu
    obtain ⟨i, hi, x, hx, hx0⟩ := (mem_bare m u).1 hu
    exact ⟨i, hi, by have := (List.getElem?_eq_some_iff.1 hx).1; omega⟩
  have HM := Lib.hid hm
  have HML := Lib.hid hml
  have HBN := Lib.hid hb
  clear hR hll hl hm hml hb
  go_enter Try.func19, Try.ntmps19
  go_wp2_with (first
    | (go_at_call 24; refine HC1.out.mono ?_; rintro e w1 ⟨A1, rfl, hR1, hb1⟩; have HR1 := Lib.hid hR1; have HB1 := Lib.hid hb1; have HC2 := Lib.hid (most_l HLL.out A c w1 (HR.out.later hb1).now hn HL.out); rw [← HM.out] at HC2; clear hR1 hb1)
    | (go_at_call 12; refine HC2.out.mono ?_; rintro e w2 ⟨A2, c2, rfl, hi2, hb2⟩; have HI2 := Lib.hid hi2; have HR2 := Lib.hid (HR1.out.later hb2); have HB2 := Lib.hid (HB1.out.trans (hb2.mono HB1.out.size)); have HC3 := Lib.hid (bare_any c2 m w2 hi2 (by omega)); rw [← HBN.out] at HC3; clear hi2 hb2)
    | (go_at_call 26; refine HC3.out.mono ?_; rintro e w3 ⟨A3, c3, rfl, hc3, hi3, hb3⟩; have HB3 := Lib.hid (HB2.out.trans (hb3.mono HB2.out.size)); have HI3 := Lib.hid (HI2.out.later hb3).now; have HC4 := Lib.hid (reach_any (c := l.length) (c1 := c2) (c2 := c3) w3 (HR2.out.later hb3).now (HI2.out.later hb3).now hi3 hl1000 HL2.out HML.out hbl HFR.out); clear hi3 hb3 hc3)
    | (go_at_call 27; refine HC4.out.mono ?_; rintro e w4 ⟨ml, mr, st, rfl, hml, hmr, hre, hb4⟩; have HB4 := Lib.hid (HB3.out.trans (hb4.mono HB3.out.size)); have HRE := Lib.hid hre; have HMR := Lib.hid hmr; have HMLP := Lib.hid hml; have HI4 := Lib.hid (HI3.out.later hb4).now; clear hml hmr hre hb4))
  clear HC1 HC2 HC3 HC4 HR HR1 HR2 HI2 HI3
  go_loopw [10, 29] (fun v u wr => ∃ k, k ≤ m.length ∧ u = .int .i64 (k : Nat) ∧ Hid (wr.ownsRow w4.heap.size 3 1 v (idxFrom (lone st.1) 0 (m.take k)).length (ints (idxFrom (lone st.1) 0 (m.take k)))) ∧ Hid (Below w4.heap.size w4 wr)) (fun _ u _ => m.length - (intOf u).toNat)
  case atStart => exact ⟨0, Nat.zero_le _, rfl, World.ownsRow_nil _ _ _ _, Below.refl _ _⟩
  case round =>
    obtain ⟨k, hk, rfl, HO, HB⟩ := hrel
    by_cases hlt : k < m.length
    · obtain ⟨ad, rfl, hx⟩ := (HI4.out.later HB.out).cell k hlt
      have hsn := idx_snoc (lone st.1) m k hlt
      obtain ⟨x, hxe⟩ : ∃ x, x = m[k] := ⟨_, rfl⟩
      rw [← hxe] at hx hsn
      have l1 := look_set (HMLP.out.below HB.out HMLP.out.lt) (k : Int)
      clear hxe
      by_cases hp : lone st.1 k x = true
      · rw [if_pos hp] at hsn
        obtain ⟨h0, hs⟩ : 0 ≤ x ∧ (k : Int) ∉ st.1 := by
          simpa [lone] using hp
        simp only [hs, decide_false] at l1
        have HSN := Lib.hid hsn
        have hle := idx_le (lone st.1) (m.take k) 0
        have hlt2 : (m.take k).length ≤ m.length := by rw [List.length_take]; omega
        obtain ⟨g', cap', w', hap, hown', hgr⟩ := app_ints (ty := 25) Try.underlying25 info3 HO.out (k : Int) (by omega) HB.out.size
        have HAP := Lib.hid hap
        have HO' : Hid (w'.ownsRow w4.heap.size 3 1 (.slice (some ⟨g', 0, none⟩) ((idxFrom (lone st.1) 0 (m.take k)).length + 1) cap') (idxFrom (lone st.1) 0 (m.take (k + 1))).length (ints (idxFrom (lone st.1) 0 (m.take (k + 1))))) := by rw [HSN.out]; exact hown'
        have HB' := Lib.hid (below_grown HB.out hgr HB.out.size (own_ge HO.out))
        clear hsn hle hlt2 hap hown' hgr hp hs
        go_wp2_with (at_builtin; refine wpList_append_run rfl _ _ 25 rfl rfl rfl HAP.out ?_)
        go_roundw
        case rel => exact ⟨k + 1, by omega, by go_num, HO', HB'⟩
        case measure => simp [intOf]; omega
      · rw [if_neg hp] at hsn
        have HO' : Hid (wr.ownsRow w4.heap.size 3 1 u10 (idxFrom (lone st.1) 0 (m.take (k + 1))).length (ints (idxFrom (lone st.1) 0 (m.take (k + 1))))) := by rw [hsn]; exact HO.out
        by_cases h0 : 0 ≤ x
        · have hs : (k : Int) ∈ st.1 := by
            apply Classical.byContradiction
            intro hs
            exact hp (by simp [lone, h0, hs])
          simp only [hs, decide_true] at l1
          clear hsn hp hs
          go_wp2
          go_roundw
          case rel => exact ⟨k + 1, by omega, by go_num, HO', HB⟩
          case measure => simp [intOf]; omega
        · clear hsn hp l1
          go_wp2
          go_roundw
          case rel => exact ⟨k + 1, by omega, by go_num, HO', HB⟩
          case measure => simp [intOf]; omega
    · have e : m.take k = m := List.take_of_length_le (by omega)
      rw [e] at HO
      obtain ⟨A5, c5, rfl, hc', hi⟩ := Ints.of_own HO.out
      have HI := Lib.hid hi
      have HC6 := Lib.hid (rising_right HRE.out HFR.out HML.out hl1000 HL2.out (HMR.out.below HB.out HMR.out.lt))
      have HBB := Lib.hid (HB4.out.trans (HB.out.mono HB4.out.size))
      clear e hi HO hc'
      go_wp2_with (go_at_call 28; (with_reducible refine HC6.out.mono ?_); rintro e w6 ⟨A6, c6, zs, rfl, hi6, hs6, hb6⟩; have HB6 := Lib.hid (HBB.out.trans (hb6.mono HBB.out.size)); have HI6 := Lib.hid hi6; have HS6 := Lib.hid hs6; have HI5' := Lib.hid ((HI.out.later hb6).now); clear hi6 hs6 hb6)
      go_ret2
      refine ⟨A5, c5, idxFrom (lone st.1) 0 m, A6, c6, zs, rfl, HI5'.out, HI6.out, ?_, ?_, HB6.out⟩
      · rw [← HM.out, ← HBN.out]; exact lone_set HRE.out
      · rw [← HM.out, ← HBN.out]; exact HS6.out
end Go.Proofs.Ytopjfnkcmdifhaa
