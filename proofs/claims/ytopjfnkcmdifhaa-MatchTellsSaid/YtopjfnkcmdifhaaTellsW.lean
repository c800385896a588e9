/- The walk of the law MatchTells. -/
import Derived.Test.YtopjfnkcmdifhaaRefHallW
import Derived.Test.YtopjfnkcmdifhaaMostLaw
namespace Go.Proofs.Ytopjfnkcmdifhaa
set_option linter.unusedVariables false
set_option linter.unusedSimpArgs false
open Go.RowKit Kuhn

def HallIs (l : List (List Int)) (ys zs : List Int) (b : Bool) : Prop :=
  (bareFrom 0 (mostOf l) = [] ∧ ys = [] ∧ zs = [] ∧ b = false) ∨ ∃ b0 bs, bareFrom 0 (mostOf l) = b0 :: bs ∧ IsSet ys (LeftOf l (mostOf l) [b0]) ∧ IsSet zs (RightOf l (mostOf l) [b0]) ∧ b = true
theorem set_unique {xs ys : List Int} {P : Int → Prop} (h1 : IsSet xs P) (h2 : IsSet ys P) : xs = ys := rising_unique h1.1 h2.1 (fun n => (h1.2 n).trans (h2.2 n).symm)
theorem HallIs.unique {l : List (List Int)} {ys zs ys' zs' : List Int} {b b' : Bool} (h : HallIs l ys zs b) (h' : HallIs l ys' zs' b') : ys' = ys ∧ zs' = zs ∧ b' = b := by
  rcases h with ⟨e, rfl, rfl, rfl⟩ | ⟨b0, bs, e, h1, h2, rfl⟩ <;> rcases h' with ⟨e', rfl, rfl, rfl⟩ | ⟨b0', bs', e', h1', h2', rfl⟩
  · exact ⟨rfl, rfl, rfl⟩
  · rw [e] at e'; cases e'
  · rw [e] at e'; cases e'
  · rw [e] at e'
    cases e'
    exact ⟨set_unique h1' h1, set_unique h2' h2, rfl⟩
def HallPost2 (l : List (List Int)) (w : World) (e : Ending) (w' : World) : Prop :=
  ∃ A1 c1 ys A2 c2 zs b, e = .returned (.tuple #[.slice A1 ys.length c1, .slice A2 zs.length c2, .bool b]) ∧ IntsAt w'.heap.size w' A1 ys ∧ IntsAt w'.heap.size w' A2 zs ∧ HallIs l ys zs b ∧ Below w.heap.size w w'
theorem HallPost.two {l : List (List Int)} {w : World} {e : Ending} {w' : World} (h : HallPost l w e w') : HallPost2 l w e w' := by
  rcases h with ⟨h1, rfl, h2⟩ | ⟨b0, bs, A1, c1, ys, A2, c2, zs, h1, rfl, h3, h4, h5, h6, h7⟩
  · exact ⟨none, 0, [], none, 0, [], false, rfl, IntsAt.nil _ _ _, IntsAt.nil _ _ _, .inl ⟨h1, rfl, rfl, rfl⟩, h2⟩
  · exact ⟨A1, c1, ys, A2, c2, zs, true, rfl, h3, h4, .inr ⟨b0, bs, h1, h5, h6, rfl⟩, h7⟩

theorem left_len {l : List (List Int)} {m fr ys : List Int} (h : IsSet ys (LeftOf l m fr)) (hfr : ∀ u ∈ fr, ∃ i : Nat, u = i ∧ i < l.length) (hm : m.length = l.length) : ys.length ≤ l.length := by
  have h1 : ∀ u ∈ ys, u ∈ (List.range l.length).map (fun k : Nat => (k : Int)) := by
    intro u hu
    obtain ⟨i, rfl, hi⟩ := (h.2 u).1 hu
    exact List.mem_map.2 ⟨i, List.mem_range.2 (Come.lt hfr hm hi), rfl⟩
  simpa using nodup_le (rising_nodup h.1) h1
theorem right_len {l : List (List Int)} {m fr zs U : List Int} (h : IsSet zs (RightOf l m fr)) (hU : ∀ i, ∀ n ∈ rowF l i, n ∈ U) : zs.length ≤ U.length :=
  nodup_le (rising_nodup h.1) (fun n hn => by obtain ⟨u, _, hn⟩ := (h.2 n).1 hn; exact hU u n hn)
theorem bare_fr {l : List (List Int)} {m : List Int} (hm : m.length = l.length) : ∀ u ∈ bareFrom 0 m, ∃ i : Nat, u = i ∧ i < l.length := by
  intro u hu
  obtain ⟨i, hi, x, hx, hx0⟩ := (mem_bare m u).1 hu
  exact ⟨i, hi, by have := (List.getElem?_eq_some_iff.1 hx).1; omega⟩
theorem HallIs.lens {near : List (List Int)} {right : Int} {l : List (List Int)} (hll : l = near.map (rowOf right)) {ys zs : List Int} {b : Bool} (h : HallIs l ys zs b) : ys.length ≤ near.length ∧ zs.length ≤ near.flatten.length := by
  have hml : (mostOf l).length = l.length := mostOf_length l
  have hlen : l.length = near.length := by rw [hll]; simp
  have hU : ∀ i, ∀ n ∈ rowF l i, n ∈ near.flatten := fun i n hn => near_U i n ((mem_rowF hll i n).1 hn).1
  rcases h with ⟨_, rfl, rfl, _⟩ | ⟨b0, bs, e, h1, h2, _⟩
  · simp
  · have hfr : ∀ u ∈ [b0], ∃ i : Nat, u = i ∧ i < l.length := by
      intro u hu
      rw [List.mem_singleton] at hu
      subst hu
      exact bare_fr hml u (by rw [e]; exact .head _)
    exact ⟨by have := left_len h1 hfr hml; omega, right_len h2 hU⟩

def CoverIs (l : List (List Int)) (xs zs : List Int) : Prop :=
  IsSet xs (fun n => ∃ i : Nat, n = i ∧ (∃ x, (mostOf l)[i]? = some x ∧ 0 ≤ x) ∧ ¬ Come (rowF l) (ofM (mostOf l)) (fun i => (i : Int) ∈ bareFrom 0 (mostOf l)) i) ∧ IsSet zs (RightOf l (mostOf l) (bareFrom 0 (mostOf l)))
theorem CoverIs.unique {l : List (List Int)} {xs zs xs' zs' : List Int} (h : CoverIs l xs zs) (h' : CoverIs l xs' zs') : xs' = xs ∧ zs' = zs := ⟨set_unique h'.1 h.1, set_unique h'.2 h.2⟩
theorem CoverIs.lens {near : List (List Int)} {right : Int} {l : List (List Int)} (hll : l = near.map (rowOf right)) {xs zs : List Int} (h : CoverIs l xs zs) : xs.length ≤ near.length ∧ zs.length ≤ near.flatten.length := by
  have hml : (mostOf l).length = l.length := mostOf_length l
  have hlen : l.length = near.length := by rw [hll]; simp
  have hU : ∀ i, ∀ n ∈ rowF l i, n ∈ near.flatten := fun i n hn => near_U i n ((mem_rowF hll i n).1 hn).1
  refine ⟨?_, right_len h.2 hU⟩
  have h1 : ∀ u ∈ xs, u ∈ (List.range l.length).map (fun k : Nat => (k : Int)) := by
    intro u hu
    obtain ⟨i, rfl, ⟨x, hx, _⟩, _⟩ := (h.1.2 u).1 hu
    exact List.mem_map.2 ⟨i, List.mem_range.2 (by have := (List.getElem?_eq_some_iff.1 hx).1; omega), rfl⟩
  have := nodup_le (rising_nodup h.1.1) h1
  simp at this
  omega
def CoverPost2 (l : List (List Int)) (w : World) (e : Ending) (w' : World) : Prop :=
  ∃ A1 c1 xs A2 c2 zs, e = .returned (.tuple #[.slice A1 xs.length c1, .slice A2 zs.length c2]) ∧ IntsAt w'.heap.size w' A1 xs ∧ IntsAt w'.heap.size w' A2 zs ∧ CoverIs l xs zs ∧ Below w.heap.size w w'
theorem CoverPost.two {l : List (List Int)} {w : World} {e : Ending} {w' : World} (h : CoverPost l w e w') : CoverPost2 l w e w' := by
  obtain ⟨A1, c1, xs, A2, c2, zs, h1, h2, h3, h4, h5, h6⟩ := h
  exact ⟨A1, c1, xs, A2, c2, zs, h1, h2, h3, ⟨h4, h5⟩, h6⟩

section
variable {near : List (List Int)} {right : Int} {l : List (List Int)} (hll : l = near.map (rowOf right)) (A : Option Addr) (c : Nat) (w : World) (hR : RowsAt w.heap.size w A near) (hn : near.length ≤ 1000) (hl : ∀ r ∈ near, r.length ≤ 1000) (hUl : near.flatten.length ≤ 1000)
include hll hR hn hl
theorem hall2 : Calls Try.prog 13 #[.slice A near.length c, .int .i64 right] w (HallPost2 l w) := by
  subst hll; exact (Hall_any near right A c w hR hn hl).mono (fun _ _ h => h.two)
theorem cover2 : Calls Try.prog 19 #[.slice A near.length c, .int .i64 right] w (CoverPost2 l w) := by
  subst hll; exact (Cover_any near right A c w hR hn hl).mono (fun _ _ h => h.two)
include hUl
theorem refHall2 : Calls Try.prog 18 #[.slice A near.length c, .int .i64 right] w (HallPost2 l w) := by
  subst hll; exact (refHall_any near right A c w hR hn hl hUl).mono (fun _ _ h => h.two)
theorem refCover2 : Calls Try.prog 20 #[.slice A near.length c, .int .i64 right] w (CoverPost2 l w) := by
  subst hll; exact (refCover_any near right A c w hR hn hl hUl).mono (fun _ _ h => h.two)
end

set_option maxRecDepth 100000 in
set_option maxHeartbeats 800000 in
theorem tells_law (near : List (List Int)) (right : Int) (A : Option Addr) (c : Nat) (w : World) (hR : RowsAt w.heap.size w A near) :
    Calls Try.prog 6 #[.slice A near.length c, .int .i64 right] w fun e w' => e = .returned (.bool true) ∧ Below w.heap.size w w' := by
  have HF := Lib.hid (few_any c near w hR)
  have HR := Lib.hid hR
  clear hR
  cases hb : fewB near with
  | false =>
    rw [hb] at HF
    have HH := Lib.hid (heads_any w)
    clear hb
    go_enter Try.func6, Try.ntmps6
    go_wp2_with (first | (go_at_call 10; refine HF.out.mono ?_; rintro e w' ⟨rfl, rfl⟩) | (go_at_call 11; refine HH.out.mono ?_; rintro e w9 ⟨rfl, hb9⟩; have HB9 := Lib.hid hb9; clear hb9))
    go_ret
    exact ⟨rfl, HB9.out⟩
  | true =>
    rw [hb] at HF
    obtain ⟨hn, hl, hU⟩ := few_all hb
    obtain ⟨l, hll⟩ : ∃ l, l = near.map (rowOf right) := ⟨_, rfl⟩
    have HC1 := Lib.hid (hall2 hll A c w HR.out hn hl)
    have HLL := Lib.hid hll
    have HL := Lib.hid hl
    clear hb hll hl
    go_enter Try.func6, Try.ntmps6
    go_wp2_with (first
      | (go_at_call 10; refine HF.out.mono ?_; rintro e w' ⟨rfl, rfl⟩)
      | (go_at_call 13; refine HC1.out.mono ?_; rintro e w1 ⟨A1, c1, ys, A2, c2, zs, b, rfl, hi1, hi2, hh, hb1⟩; have HB1 := Lib.hid hb1; have HI1 := Lib.hid hi1; have HI2 := Lib.hid hi2; have HH1 := Lib.hid hh; have HC2 := Lib.hid (refHall2 HLL.out A c w1 (HR.out.later hb1).now hn HL.out hU); clear hb1 hi1 hi2 hh)
      | (go_at_call 18; refine HC2.out.mono ?_; rintro e w2 ⟨A3, c3, ys', A4, c4, zs', b', rfl, hi3, hi4, hh, hb2⟩; obtain ⟨rfl, rfl, rfl⟩ := HH1.out.unique hh; have HB2 := Lib.hid (HB1.out.trans (hb2.mono HB1.out.size)); have HI3 := Lib.hid hi3; have HI4 := Lib.hid hi4; have HJ1 := Lib.hid (HI1.out.later hb2).now; have HJ2 := Lib.hid (HI2.out.later hb2).now; have HC3 := Lib.hid (cover2 HLL.out A c w2 (HR.out.later HB2.out).now hn HL.out); clear hb2 hi3 hi4 hh HI1 HI2)
      | (go_at_call 19; refine HC3.out.mono ?_; rintro e w3 ⟨A5, c5, us, A6, c6, vs, rfl, hi5, hi6, hh, hb3⟩; have HB3 := Lib.hid (HB2.out.trans (hb3.mono HB2.out.size)); have HI5 := Lib.hid hi5; have HI6 := Lib.hid hi6; have HH3 := Lib.hid hh; have HK1 := Lib.hid (HJ1.out.later hb3).now; have HK2 := Lib.hid (HJ2.out.later hb3).now; have HK3 := Lib.hid (HI3.out.later hb3).now; have HK4 := Lib.hid (HI4.out.later hb3).now; have HC4 := Lib.hid (refCover2 HLL.out A c w3 (HR.out.later HB3.out).now hn HL.out hU); clear hb3 hi5 hi6 hh HJ1 HJ2 HI3 HI4)
      | (go_at_call 20; refine HC4.out.mono ?_; rintro e w4 ⟨A7, c7, us', A8, c8, vs', rfl, hi7, hi8, hh, hb4⟩; obtain ⟨rfl, rfl⟩ := HH3.out.unique hh; have HB4 := Lib.hid (HB3.out.trans (hb4.mono HB3.out.size)); have HI7 := Lib.hid hi7; have HI8 := Lib.hid hi8; have HM5 := Lib.hid (HI5.out.later hb4).now; have HM6 := Lib.hid (HI6.out.later hb4).now; have HM1 := Lib.hid (HK1.out.later hb4).now; have HM2 := Lib.hid (HK2.out.later hb4).now; have HM3 := Lib.hid (HK3.out.later hb4).now; have HM4 := Lib.hid (HK4.out.later hb4).now
         obtain ⟨hle1, hle2⟩ := HH1.out.lens HLL.out
         obtain ⟨hle3, hle4⟩ := HH3.out.lens HLL.out
         have HS1 := Lib.hid (same_near (q := true) c1 c3 w4 HM1.out HM3.out rfl rfl (by omega) (decide_eq_true rfl)); clear hb4 hi7 hi8 hh HI5 HI6 HK1 HK2 HK3 HK4)
      | (go_at_call 16; with_reducible refine HS4.out.mono ?_; rintro e w8 ⟨rfl, hb8⟩; have HB8 := Lib.hid (HB7.out.trans (hb8.mono HB7.out.size)); have HH := Lib.hid (heads_any w8); clear hb8)
      | (go_at_call 16; with_reducible refine HS3.out.mono ?_; rintro e w7 ⟨rfl, hb7⟩; have HB7 := Lib.hid (HB6.out.trans (hb7.mono HB6.out.size)); have HS4 := Lib.hid (same_near (q := true) c6 c8 w7 (((HM6.out.later HB567.out).later hb7)) (((HI8.out.later HB567.out).later hb7)) rfl rfl (by omega) (decide_eq_true rfl)); clear hb7)
      | (go_at_call 16; with_reducible refine HS2.out.mono ?_; rintro e w6 ⟨rfl, hb6⟩; have HB6 := Lib.hid (HB5.out.trans (hb6.mono HB5.out.size)); have HB567 := Lib.hid (HB45.out.trans (hb6.mono HB45.out.size)); have HS3 := Lib.hid (same_near (q := true) c5 c7 w6 (HM5.out.later HB567.out) (HI7.out.later HB567.out) rfl rfl (by omega) (decide_eq_true rfl)); clear hb6)
      | (go_at_call 16; with_reducible refine HS1.out.mono ?_; rintro e w5 ⟨rfl, hb5⟩; have HB5 := Lib.hid (HB4.out.trans (hb5.mono HB4.out.size)); have HB45 := Lib.hid hb5; have HS2 := Lib.hid (same_near (q := true) c2 c4 w5 (HM2.out.later hb5) (HM4.out.later hb5) rfl rfl (by omega) (decide_eq_true rfl)); clear hb5)
      | (go_at_call 11; refine HH.out.mono ?_; rintro e w9 ⟨rfl, hb9⟩; have HB9 := Lib.hid (HB8.out.trans (hb9.mono HB8.out.size)); clear hb9))
    go_ret
    exact ⟨rfl, HB9.out⟩
end Go.Proofs.Ytopjfnkcmdifhaa
