/- The walks of match.Hall, match.Cover and match.Right. -/
import Derived.Test.YtopjfnkcmdifhaaRising
import Derived.Test.YtopjfnkcmdifhaaMostW
namespace Go.Proofs.Ytopjfnkcmdifhaa
set_option linter.unusedVariables false
set_option linter.unusedSimpArgs false
open Go.RowKit Kuhn

/-- A rising row of just these numbers. -/
def IsSet (ys : List Int) (P : Int → Prop) : Prop := ys.Pairwise (· < ·) ∧ ∀ n, n ∈ ys ↔ P n
/-- The left ones that are come to from some, by the matches m. -/
def LeftOf (l : List (List Int)) (m fr : List Int) (n : Int) : Prop := ∃ i : Nat, n = i ∧ Come (rowF l) (ofM m) (fun i => (i : Int) ∈ fr) i
/-- The right ones that are come to. -/
def RightOf (l : List (List Int)) (m fr : List Int) (n : Int) : Prop := ∃ u, Come (rowF l) (ofM m) (fun i => (i : Int) ∈ fr) u ∧ n ∈ rowF l u

theorem mem_bareFrom (xs : List Int) : ∀ i n, n ∈ bareFrom i xs ↔ ∃ j : Nat, n = ((i + j : Nat) : Int) ∧ ∃ x, xs[j]? = some x ∧ x < 0 := by
  induction xs with
  | nil => intro i n; simp [bareFrom]
  | cons x xs ih =>
    intro i n
    simp only [bareFrom]
    constructor
    · intro h
      have h' : (x < 0 ∧ n = (i : Int)) ∨ n ∈ bareFrom (i + 1) xs := by
        split at h
        · rcases List.mem_cons.1 h with q | q
          · exact .inl ⟨by assumption, q⟩
          · exact .inr q
        · exact .inr h
      rcases h' with ⟨h1, rfl⟩ | h'
      · exact ⟨0, by simp, x, by simp, h1⟩
      · obtain ⟨j, e, y, hy, hy0⟩ := (ih (i + 1) n).1 h'
        exact ⟨j + 1, by rw [e]; omega, y, by simpa using hy, hy0⟩
    · rintro ⟨j, e, y, hy, hy0⟩
      cases j with
      | zero =>
        simp at hy
        subst hy
        rw [if_pos hy0]
        exact List.mem_cons.2 (.inl (by simpa using e))
      | succ j =>
        have := (ih (i + 1) n).2 ⟨j, by rw [e]; omega, y, by simpa using hy, hy0⟩
        split
        · exact .tail _ this
        · exact this
theorem mem_bare (m : List Int) (n : Int) : n ∈ bareFrom 0 m ↔ ∃ j : Nat, n = j ∧ ∃ x, m[j]? = some x ∧ x < 0 := by
  rw [mem_bareFrom]; simp

theorem rows_l {near : List (List Int)} {right : Int} {l : List (List Int)} (hll : l = near.map (rowOf right)) (A : Option Addr) (c : Nat) (w : World) (hR : RowsAt w.heap.size w A near) (hn : near.length ≤ 1000) (hl : ∀ r ∈ near, r.length ≤ 1000) :
    Calls Try.prog 24 #[.slice A near.length c, .int .i64 right] w fun e w' => ∃ A1, e = .returned (.slice A1 l.length l.length) ∧ RowsAt w'.heap.size w' A1 l ∧ Below w.heap.size w w' := by
  refine (rows_any near right A c w hR hn hl).mono ?_
  rintro e w' ⟨g, rfl, h1, h2⟩
  subst hll
  exact ⟨_, by simp, h1, h2⟩
theorem rowOf_le (right : Int) (r : List Int) : (rowOf right r).length ≤ r.length := by
  have h2 := Lib.compact_length_le (sorted (mayRow right r))
  have h3 := mayRow_le right r r.length
  rw [List.take_length] at h3
  have h4 : (sorted (mayRow right r)).length = (mayRow right r).length := by simp [sorted]
  unfold rowOf
  omega
theorem rows_le {near : List (List Int)} {right : Int} {l : List (List Int)} (hll : l = near.map (rowOf right)) (hl : ∀ r ∈ near, r.length ≤ 1000) (i : Nat) : (l.getD i []).length ≤ 1000 := by
  rw [hll, List.getD_eq_getElem?_getD, List.getElem?_map]
  cases he : near[i]? with
  | none => simp
  | some r =>
    have h1 := hl r (List.mem_of_getElem? he)
    have h2 := rowOf_le right r
    simp only [Option.map_some, Option.getD_some]
    omega
theorem most_l {near : List (List Int)} {right : Int} {l : List (List Int)} (hll : l = near.map (rowOf right)) (A : Option Addr) (c : Nat) (w : World) (hR : RowsAt w.heap.size w A near) (hn : near.length ≤ 1000) (hl : ∀ r ∈ near, r.length ≤ 1000) :
    Calls Try.prog 12 #[.slice A near.length c, .int .i64 right] w fun e w' => ∃ A1 c1, e = .returned (.slice A1 (mostOf l).length c1) ∧ IntsAt w'.heap.size w' A1 (mostOf l) ∧ Below w.heap.size w w' := by
  refine (Most_any near right A c w hR hn hl).mono ?_
  rintro e w' ⟨v, rfl, ⟨A1, c1, rfl, hc, hi⟩, hb⟩
  subst hll
  exact ⟨A1, c1, rfl, hi, hb⟩
theorem mostOf_length (l : List (List Int)) : (mostOf l).length = l.length := greedy_length _ _ _ _ _

theorem IntsAt.take {B : Nat} {w : World} {A : Option Addr} {xs : List Int} (h : IntsAt B w A xs) (n : Nat) : IntsAt B w A (xs.take n) := by
  intro i hi
  have hi' : i < xs.length := by rw [List.length_take] at hi; omega
  obtain ⟨ad, e, hb, hc⟩ := h i hi'
  exact ⟨ad, e, hb, by rw [hc]; simp⟩

theorem reached_lens {l : List (List Int)} {m fr : List Int} {st : List Int × List Int} (h : Reached (rowF l) (ofM m) fr fr.length st) (hfr : ∀ u ∈ fr, ∃ i : Nat, u = i ∧ i < l.length) (hm : m.length = l.length) : st.1.length ≤ l.length := by
  have : ∀ u ∈ st.1, u ∈ (List.range l.length).map (fun k : Nat => (k : Int)) := by
    intro u hu
    obtain ⟨i, rfl, hi⟩ := h.soundL u hu
    refine List.mem_map.2 ⟨i, List.mem_range.2 ?_, rfl⟩
    cases hi with
    | start _ hi =>
      obtain ⟨j, e, hj⟩ := hfr _ hi
      omega
    | step u k n _ _ hk =>
      have := (ofM_some hk).1
      omega
  simpa using nodup_le h.nodup this

theorem flat_le {l : List (List Int)} (hl2 : ∀ i, (l.getD i []).length ≤ 1000) : ∀ n, ((List.range n).flatMap (rowF l)).length ≤ n * 1000 := by
  intro n
  induction n with
  | zero => simp
  | succ n ih =>
    rw [List.range_succ, List.flatMap_append, List.length_append]
    have : ((List.flatMap (rowF l) [n])).length ≤ 1000 := by simpa [rowF] using hl2 n
    omega
theorem Come.lt {l : List (List Int)} {m fr : List Int} (hfr : ∀ u ∈ fr, ∃ i : Nat, u = i ∧ i < l.length) (hm : m.length = l.length) {i : Nat} (h : Come (rowF l) (ofM m) (fun i => (i : Int) ∈ fr) i) : i < l.length := by
  cases h with
  | start _ hi =>
    obtain ⟨j, e, hj⟩ := hfr _ hi
    omega
  | step u k n _ _ hk =>
    have := (ofM_some hk).1
    omega

/-- rising at what reach has left: the left ones. -/
theorem rising_left {l : List (List Int)} {m fr : List Int} {st : List Int × List Int} {ml : Nat} {w : World} (h : Reached (rowF l) (ofM m) fr fr.length st) (hfr : ∀ u ∈ fr, ∃ i : Nat, u = i ∧ i < l.length) (hm : m.length = l.length) (hl : l.length ≤ 1000)
    (hml : MapV w ml (setF fun n => decide (n ∈ st.1))) : Calls Try.prog 28 #[.map (some ml)] w fun e w' => ∃ A c ys, e = .returned (.slice A ys.length c) ∧ IntsAt w'.heap.size w' A ys ∧ IsSet ys (LeftOf l m fr) ∧ Below w.heap.size w w' := by
  refine (rising_any w hml st.1 (fun _ h => h) (by have := reached_lens h hfr hm; omega)).mono ?_
  rintro e w' ⟨A, c, ys, rfl, h1, h2, h3, h4⟩
  refine ⟨A, c, ys, rfl, h1, ⟨h2, fun n => (h3 n).trans ?_⟩, h4⟩
  constructor
  · intro hn
    obtain ⟨i, rfl, hi⟩ := h.soundL n hn
    exact ⟨i, rfl, hi⟩
  · rintro ⟨i, rfl, hi⟩
    exact (h.memL i).2 hi
theorem rising_right {l : List (List Int)} {m fr : List Int} {st : List Int × List Int} {mr : Nat} {w : World} (h : Reached (rowF l) (ofM m) fr fr.length st) (hfr : ∀ u ∈ fr, ∃ i : Nat, u = i ∧ i < l.length) (hm : m.length = l.length) (hl : l.length ≤ 1000) (hl2 : ∀ i, (l.getD i []).length ≤ 1000)
    (hmr : MapV w mr (setF fun n => decide (n ∈ st.2))) : Calls Try.prog 28 #[.map (some mr)] w fun e w' => ∃ A c ys, e = .returned (.slice A ys.length c) ∧ IntsAt w'.heap.size w' A ys ∧ IsSet ys (RightOf l m fr) ∧ Below w.heap.size w w' := by
  refine (rising_any w hmr ((List.range l.length).flatMap (rowF l)) (fun n hn => ?_) (by have := flat_le hl2 l.length; have : l.length * 1000 ≤ 1000 * 1000 := Nat.mul_le_mul_right _ hl; omega)).mono ?_
  · obtain ⟨u, hu, hn⟩ := (h.memR n).1 hn
    exact List.mem_flatMap.2 ⟨u, List.mem_range.2 (Come.lt hfr hm hu), hn⟩
  · rintro e w' ⟨A, c, ys, rfl, h1, h2, h3, h4⟩
    exact ⟨A, c, ys, rfl, h1, ⟨h2, fun n => (h3 n).trans (h.memR n)⟩, h4⟩

def HallPost (l : List (List Int)) (w : World) (e : Ending) (w' : World) : Prop :=
  (bareFrom 0 (mostOf l) = [] ∧ e = .returned (.tuple #[.slice none 0 0, .slice none 0 0, .bool false]) ∧ Below w.heap.size w w') ∨
  ∃ b bs A1 c1 ys A2 c2 zs, bareFrom 0 (mostOf l) = b :: bs ∧ e = .returned (.tuple #[.slice A1 ys.length c1, .slice A2 zs.length c2, .bool true]) ∧ IntsAt w'.heap.size w' A1 ys ∧ IntsAt w'.heap.size w' A2 zs ∧
    IsSet ys (LeftOf l (mostOf l) [b]) ∧ IsSet zs (RightOf l (mostOf l) [b]) ∧ Below w.heap.size w w'

theorem bare_one {B : Nat} {A : Option Addr} (c : Nat) (m : List Int) (w : World) (h : IntsAt B w A m) (hb : m.length ≤ 1000000) {b : Int} {bs : List Int} (e : bareFrom 0 m = b :: bs) :
    Calls Try.prog 26 #[.slice A m.length c] w fun e w' => ∃ A' c', e = .returned (.slice A' (bs.length + 1) c') ∧ 1 ≤ c' ∧ IntsAt w'.heap.size w' A' [b] ∧ Below w.heap.size w w' := by
  refine (bare_any c m w h hb).mono ?_
  rintro r w' ⟨A', c', rfl, h1, h2, h3⟩
  rw [e] at h1 h2
  refine ⟨A', c', by rw [e]; rfl, by simp only [List.length_cons] at h1; omega, h2.take 1, h3⟩

theorem reach_one {l : List (List Int)} {A A1 A2 : Option Addr} {c c1 c2 : Nat} {m : List Int} {b : Int} (w : World) (hR : RowsAt w.heap.size w A l) (hm : IntsAt w.heap.size w A1 m) (hf : IntsAt w.heap.size w A2 [b])
    (hl : l.length ≤ 1000) (hl2 : ∀ i, (l.getD i []).length ≤ 1000) (hml : m.length = l.length) (hfr : ∀ u ∈ [b], ∃ i : Nat, u = i ∧ i < l.length) :
    Calls Try.prog 27 #[.slice A l.length c, .slice A1 m.length c1, .slice A2 1 c2] w (ReachPost l (ofM m) [b] w) :=
  reach_any w hR hm hf hl hl2 hml (by simp) hfr

set_option maxHeartbeats 4000000 in
theorem Hall_any (near : List (List Int)) (right : Int) (A : Option Addr) (c : Nat) (w : World) (hR : RowsAt w.heap.size w A near) (hn : near.length ≤ 1000) (hl : ∀ r ∈ near, r.length ≤ 1000) :
    Calls Try.prog 13 #[.slice A near.length c, .int .i64 right] w (HallPost (near.map (rowOf right)) w) := by
  obtain ⟨l, hll⟩ : ∃ l, l = near.map (rowOf right) := ⟨_, rfl⟩
  have hl1000 : l.length ≤ 1000 := by rw [hll]; simpa using hn
  have HL2 := Lib.hid (rows_le hll hl)
  have HR := Lib.hid hR
  have HLL := Lib.hid hll
  have HL := Lib.hid hl
  have HC1 := Lib.hid (rows_l hll A c w hR hn hl)
  rw [← hll]
  obtain ⟨m, hm⟩ : ∃ m, m = mostOf l := ⟨_, rfl⟩
  have hml : m.length = l.length := by rw [hm]; exact mostOf_length l
  have hm1000 : m.length ≤ 1000 := by omega
  have HM := Lib.hid hm
  have HML := Lib.hid hml
  clear hR hll hl hm hml
  cases hb : bareFrom 0 m with
  | nil =>
    have HBN := Lib.hid hb
    clear hb
    go_enter Try.func13, Try.ntmps13
    go_wp2_with (first
      | (go_at_call 24; refine HC1.out.mono ?_; rintro e w1 ⟨A1, rfl, hR1, hb1⟩; have HR1 := Lib.hid hR1; have HB1 := Lib.hid hb1; have HC2 := Lib.hid (most_l HLL.out A c w1 (HR.out.later hb1).now hn HL.out); rw [← HM.out] at HC2; clear hR1 hb1)
      | (go_at_call 12; refine HC2.out.mono ?_; rintro e w2 ⟨A2, c2, rfl, hi2, hb2⟩; have HI2 := Lib.hid hi2; have HB2 := Lib.hid (HB1.out.trans (hb2.mono HB1.out.size)); have HC3 := Lib.hid (bare_any c2 m w2 hi2 (by omega)); rw [HBN.out] at HC3; clear hi2 hb2)
      | (go_at_call 26; refine HC3.out.mono ?_; rintro e w3 ⟨A3, c3, rfl, _, hi3, hb3⟩; have HB3 := Lib.hid (HB2.out.trans (hb3.mono HB2.out.size)); clear hi3 hb3))
    go_ret3
    exact .inl ⟨by rw [← HM.out]; exact HBN.out, rfl, HB3.out⟩
  | cons b bs =>
    have hbb : b ∈ bareFrom 0 m := by rw [hb]; exact .head _
    obtain ⟨i, hi, x, hx, hx0⟩ := (mem_bare m b).1 hbb
    have HFR : Hid (∀ u ∈ [b], ∃ i : Nat, u = i ∧ i < l.length) := by
      intro u hu
      rw [List.mem_singleton.1 hu]
      exact ⟨i, hi, by have := (List.getElem?_eq_some_iff.1 hx).1; have := HML.out; omega⟩
    have HBN := Lib.hid hb
    clear hb hbb hi hx hx0
    go_enter Try.func13, Try.ntmps13
    go_wp2_with (first
      | (go_at_call 24; refine HC1.out.mono ?_; rintro e w1 ⟨A1, rfl, hR1, hb1⟩; have HR1 := Lib.hid hR1; have HB1 := Lib.hid hb1; have HC2 := Lib.hid (most_l HLL.out A c w1 (HR.out.later hb1).now hn HL.out); rw [← HM.out] at HC2; clear hR1 hb1)
      | (go_at_call 12; refine HC2.out.mono ?_; rintro e w2 ⟨A2, c2, rfl, hi2, hb2⟩; have HI2 := Lib.hid hi2; have HR2 := Lib.hid (HR1.out.later hb2); have HB2 := Lib.hid (HB1.out.trans (hb2.mono HB1.out.size)); have HC3 := Lib.hid (bare_one c2 m w2 hi2 (by omega) HBN.out); clear hi2 hb2)
      | (go_at_call 26; refine HC3.out.mono ?_; rintro e w3 ⟨A3, c3, rfl, hc3, hi3, hb3⟩; have HB3 := Lib.hid (HB2.out.trans (hb3.mono HB2.out.size)); have HC4 := Lib.hid (reach_one (c := l.length) (c1 := c2) (c2 := c3) w3 (HR2.out.later hb3).now (HI2.out.later hb3).now hi3 hl1000 HL2.out HML.out HFR.out); clear hi3 hb3)
      | (go_at_call 27; refine HC4.out.mono ?_; rintro e w4 ⟨ml, mr, st, rfl, hml, hmr, hre, hb4⟩; have HB4 := Lib.hid (HB3.out.trans (hb4.mono HB3.out.size)); have HRE := Lib.hid hre; have HMR := Lib.hid hmr; have HC5 := Lib.hid (rising_left hre HFR.out HML.out hl1000 hml); clear hml hmr hre hb4)
      | (go_at_call 28; (with_reducible refine HC5.out.mono ?_); rintro e w5 ⟨A5, c5, ys, rfl, hi5, hs5, hb5⟩; have HB5 := Lib.hid (HB4.out.trans (hb5.mono HB4.out.size)); have HI5 := Lib.hid hi5; have HS5 := Lib.hid hs5; have HC6 := Lib.hid (rising_right HRE.out HFR.out HML.out hl1000 HL2.out (HMR.out.below hb5 HMR.out.lt)); clear hi5 hs5 hb5)
      | (go_at_call 28; (with_reducible refine HC6.out.mono ?_); rintro e w6 ⟨A6, c6, zs, rfl, hi6, hs6, hb6⟩; have HB6 := Lib.hid (HB5.out.trans (hb6.mono HB5.out.size)); have HI6 := Lib.hid hi6; have HS6 := Lib.hid hs6; have HI5' := Lib.hid ((HI5.out.later hb6).now); clear hi6 hs6 hb6))
    go_ret3
    refine .inr ⟨b, bs, A5, c5, ys, A6, c6, zs, by rw [← HM.out]; exact HBN.out, rfl, HI5'.out, HI6.out, ?_, ?_, HB6.out⟩
    · rw [← HM.out]; exact HS5.out
    · rw [← HM.out]; exact HS6.out
end Go.Proofs.Ytopjfnkcmdifhaa
