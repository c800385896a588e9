/- What the reference's Shorten answers (of the printed set PShorten). -/
import Derived.Test.YthnjjonjhenifaaShortW
import Derived.Test.YthnjjonjhenifaaPShortenAt1
import Derived.Test.YthnjjonjhenifaaPShortenx5
namespace Go.Proofs.Ythnjjonjhenifaa.PShorten
set_option linter.unusedVariables false
set_option linter.unusedSimpArgs false
open Go.RowKit Go.Proofs.YthnjjonjhenifaaW.PrintWords Go.Proofs.YthnjjonjhenifaaW.PrintLast Go.Proofs.YthnjjonjhenifaaW.PrintMore

theorem others_at {c : List Int} (hn : c.Nodup) {i : Nat} (hi : i < c.length) : othersP c c[i] = c.take i ++ c.drop (i + 1) := by
  have h0 : c.take i ++ c[i] :: c.drop (i + 1) = c := by rw [← List.drop_eq_getElem_cons hi, List.take_append_drop]
  have hn' := hn
  rw [← h0, List.nodup_append] at hn'
  obtain ⟨_, h2, h3⟩ := hn'
  have h4 := List.nodup_cons.1 h2
  unfold othersP
  have e : c.filter (fun y => decide (y ≠ c[i])) = (c.take i ++ c[i] :: c.drop (i + 1)).filter (fun y => decide (y ≠ c[i])) := by rw [h0]
  rw [e, List.filter_append, List.filter_cons_of_neg (by simp)]
  congr 1
  · rw [List.filter_eq_self]
    intro y hy
    have := h3 y hy c[i] (List.mem_cons_self ..)
    simpa using this
  · rw [List.filter_eq_self]
    intro y hy
    have : y ≠ c[i] := fun q => h4.1 (q ▸ hy)
    simpa using this
theorem low1 {n : Nat} (h : n ≤ 1000000) : wrap64 ((n : Int) - 1) = (n : Int) - 1 := by unfold wrap64; omega
theorem all_l {ms : List Mk} {c rest : List Int} {i : Nat} {R : List Int} (hi : i < c.length) (hc : c.length ≤ 1000) (hr : rest.length ≤ 1000) : ∀ d j (b : Bool), j + d = rest.length →
    Ev (fun k => horariumref36_Shorten.l0 k (tS ms) (if (b && (rest.drop j).all fun x => decide (x ∈ c)) = true then othersP c c[i] else c) ((i : Int) - 1)) R → Ev (fun k => horariumref36_Shorten.l1 k (tS ms) c (i : Int) rest b (j : Int)) R
  | 0, j, b, e, h => by
    rw [List.drop_of_length_le (by omega), List.all_nil, Bool.and_true] at h
    cases b with
    | true =>
      rw [if_pos rfl] at h
      refine Ev.step (f := fun k => (horariumref36_others.f k c c[i]).bind fun t => horariumref36_Shorten.l0 k (tS ms) t ((i : Int) - 1)) (fun k => ?_) (Ev.bind (f := fun k t => horariumref36_Shorten.l0 k (tS ms) t ((i : Int) - 1)) (others_ev c c[i] (by omega)) h)
      simp only [horariumref36_Shorten.l1]
      rw [if_neg (by omega), if_pos trivial, if_pos (by omega), if_pos (by omega), rd_at hi, low1 (by omega)]
    | false =>
      rw [if_neg (by decide)] at h
      refine Ev.step (f := fun k => horariumref36_Shorten.l0 k (tS ms) c ((i : Int) - 1)) (fun k => ?_) h
      simp only [horariumref36_Shorten.l1]
      rw [if_neg (by omega), if_neg (by decide), low1 (by omega)]
  | d + 1, j, b, e, h => by
    have hj : j < rest.length := by omega
    rw [drop_at hj, List.all_cons] at h
    cases b with
    | true =>
      rw [Bool.true_and] at h
      refine Ev.step (f := fun k => (horariumref27_Has.f k c rest[j]).bind fun t => horariumref36_Shorten.l1 k (tS ms) c (i : Int) rest t ((j + 1 : Nat) : Int)) (fun k => ?_) (Ev.bind (f := fun k t => horariumref36_Shorten.l1 k (tS ms) c (i : Int) rest t ((j + 1 : Nat) : Int)) (has_ev c rest[j] (by omega)) (all_l hi hc hr d (j + 1) _ (by omega) h))
      simp only [horariumref36_Shorten.l1]
      rw [if_pos (by omega), if_pos trivial, if_pos (by omega), rd_at hj, up1 (by omega)]
    | false =>
      refine Ev.step (f := fun k => horariumref36_Shorten.l1 k (tS ms) c (i : Int) rest false ((j + 1 : Nat) : Int)) (fun k => ?_) (all_l hi hc hr d (j + 1) false (by omega) (by simpa using h))
      simp only [horariumref36_Shorten.l1]
      rw [if_pos (by omega), if_neg (by decide), up1 (by omega)]
theorem within_all {why c : List Int} {but : Int} : (othersP why but).all (fun x => decide (x ∈ c)) = withinB why but c := by
  unfold othersP withinB
  rw [Bool.eq_iff_iff, List.all_eq_true, List.all_eq_true]
  constructor
  · intro q x hx
    by_cases e : x = but
    · simp [e]
    · have := q x (List.mem_filter.2 ⟨hx, by simpa using e⟩)
      simp at this
      simp [this]
  · intro q x hx
    obtain ⟨h1, h2⟩ := List.mem_filter.1 hx
    have e : ¬ x = but := by simpa using h2
    have := q x h1
    simpa [e] using this
theorem short_l {ms : List Mk} (hz : Sized ms) : ∀ (n : Nat) (c : List Int), Fal ms c → n ≤ c.length → Ev (fun k => horariumref36_Shorten.l0 k (tS ms) c ((n : Int) - 1)) (shortTo ms n c)
  | 0, c, h, hn => by
    refine Ev.step (f := fun _ => some c) (fun k => ?_) (Ev.now _)
    simp only [horariumref36_Shorten.l0]
    rw [if_neg (by omega)]
  | n + 1, c, h, hn => by
    have hi : n < c.length := by omega
    have hc := h.len
    have hz1 := hz.1
    have hL := tS_len ms
    obtain ⟨p, hp, e1, e2, _⟩ := h.pos (List.getElem_mem hi)
    have hat := at_ev hz1 h (List.getElem_mem hi)
    rw [e1] at hat
    have hst : shortStep ms c n = if (!decide ((atM ms p).why = []) && withinB (atM ms p).why (atM ms p).lit c) = true then othersP c c[n] else c := by
      unfold shortStep
      simp only
      have hg : c.getD n 0 = c[n] := by rw [List.getD_eq_getElem?_getD, List.getElem?_eq_getElem hi]; rfl
      rw [hg, e1, Int.toNat_natCast]
      by_cases q : (atM ms p).why = []
      · rw [if_neg (fun h => h.1 q), if_neg (by simp [q])]
      · by_cases q2 : withinB (atM ms p).why (atM ms p).lit c = true
        · rw [if_pos ⟨q, q2⟩, if_pos (by simp [q, q2]), others_at (asc_nodup h.asc) hi]
        · rw [if_neg (fun h => q2 h.2), if_neg (by simp [q2])]
    have ih := short_l hz n (shortStep ms c n) (h.sub step_sub) (step_len hi)
    have e0 : ((n + 1 : Nat) : Int) - 1 = (n : Int) := by omega
    rw [e0]
    show Ev _ (shortTo ms n (shortStep ms c n))
    generalize shortTo ms n (shortStep ms c n) = R at ih ⊢
    rw [hst] at ih
    refine Ev.step (f := fun k => (horariumref36_at.f k (tS ms) (neg c[n])).bind fun t => if 0 ≤ t then (if t < ((tS ms).length : Int) then (if (((rd_T37 (tS ms) t).f2).length : Int) = 0 then horariumref36_Shorten.l0 k (tS ms) c ((n : Int) - 1) else (horariumref36_others.f k (rd_T37 (tS ms) t).f2 (rd_T37 (tS ms) t).f0).bind fun t2 => horariumref36_Shorten.l1 k (tS ms) c (n : Int) t2 true 0) else none) else none) (fun k => ?_) ?_
    · simp only [horariumref36_Shorten.l0]
      rw [if_pos (by omega), if_pos (by omega), if_pos (by omega), rd_at hi, low1 (by omega)]
      rfl
    · refine Ev.bind (f := fun k t => if 0 ≤ t then (if t < ((tS ms).length : Int) then (if (((rd_T37 (tS ms) t).f2).length : Int) = 0 then horariumref36_Shorten.l0 k (tS ms) c ((n : Int) - 1) else (horariumref36_others.f k (rd_T37 (tS ms) t).f2 (rd_T37 (tS ms) t).f0).bind fun t2 => horariumref36_Shorten.l1 k (tS ms) c (n : Int) t2 true 0) else none) else none) hat ?_
      by_cases q : (atM ms p).why = []
      · rw [if_neg (by simp [q])] at ih
        refine Ev.congr (fun k => ?_) ih
        rw [if_pos (by omega), if_pos (by omega), rdm hp, if_pos (show (((toS (atM ms p)).f2).length : Int) = 0 by show ((atM ms p).why.length : Int) = 0; rw [q]; rfl)]
      · rw [decide_eq_false q, Bool.not_false, Bool.true_and, ← within_all] at ih
        refine Ev.congr (f := fun k => (horariumref36_others.f k (atM ms p).why (atM ms p).lit).bind fun t2 => horariumref36_Shorten.l1 k (tS ms) c (n : Int) t2 true 0) (fun k => ?_) ?_
        · have : (atM ms p).why.length ≠ 0 := fun e => q (List.length_eq_zero_iff.1 e)
          rw [if_pos (by omega), if_pos (by omega), rdm hp, if_neg (show ¬ (((toS (atM ms p)).f2).length : Int) = 0 by show ¬ ((atM ms p).why.length : Int) = 0; omega)]
          rfl
        · have hw := hz.2 p hp
          have ho := others_len (xs := (atM ms p).why) (x := (atM ms p).lit)
          refine Ev.bind (f := fun k t2 => horariumref36_Shorten.l1 k (tS ms) c (n : Int) t2 true 0) (others_ev _ _ (by omega)) ?_
          exact all_l hi (by omega) (by omega) _ 0 true (Nat.zero_add _) ih
theorem short_ev {ms : List Mk} (hz : Sized ms) {cl : List Int} (hc : cl.length ≤ 1000) (hr : ∀ x ∈ cl, R64 x) : Ev (fun k => horariumref36_Shorten.f k (tS ms) cl) (shortP ms cl) := by
  have hs := sort_len cl
  refine Ev.congr (f := fun k => (horariumref27_Sort.f k cl).bind fun t => (horariumref36_False.f k (tS ms) t).bind fun t2 => if t2 = true then horariumref36_Shorten.l0 k (tS ms) t (wrap64 ((t.length : Int) - 1)) else some t) (fun k => rfl) ?_
  refine Ev.bind (f := fun k t => (horariumref36_False.f k (tS ms) t).bind fun t2 => if t2 = true then horariumref36_Shorten.l0 k (tS ms) t (wrap64 ((t.length : Int) - 1)) else some t) (sort_ev cl (by omega)) ?_
  refine Ev.bind (f := fun k t2 => if t2 = true then horariumref36_Shorten.l0 k (tS ms) (litSort cl) (wrap64 (((litSort cl).length : Int) - 1)) else some (litSort cl)) (false_ev hz (by omega)) ?_
  have hfs : falseB ms (litSort cl) = falseB ms cl := by
    unfold falseB
    rw [sort_sorted (sort_asc cl) (fun q => (sort_mem.1 q).2 rfl)]
  rw [hfs]
  unfold shortP
  cases q : falseB ms cl with
  | false => exact Ev.congr (f := fun _ => some (litSort cl)) (fun k => if_neg (by decide)) (Ev.now _)
  | true =>
    rw [if_pos rfl]
    refine Ev.congr (fun k => ?_) (short_l hz (litSort cl).length (litSort cl) (fal_of hr q) (Nat.le_refl _))
    rw [if_pos rfl, low1 (by omega)]
theorem short_ref {B : Nat} {A A2 : Option Addr} {ms : List Mk} {cl : List Int} {n : Nat} (c c2 : Nat) (w : World) (hM : MarksAt B w A ms) (hI : IntsAt B w A2 cl) (hz : Sized ms) (k1 : ms.length ≤ c) (hn : cl.length = n) (hn1 : n ≤ 1000) (k2 : n ≤ c2) (hr : ∀ x ∈ cl, R64 x) :
    Calls Try.prog 31 #[.slice A ms.length c, .slice A2 n c2] w (ShortPost ms cl w) := by
  subst hn
  obtain ⟨k, hk⟩ := (short_ev (cl := cl) hz hn1 hr).rounds
  have := horariumref36_Shorten.calls k A c (tS ms) A2 c2 cl (shortP ms cl) w (marks_C hM hz.1 hz.2) (by rw [tS_len]; exact k1) (int_C hI (by omega)) k2 hk
  rw [tS_len] at this
  refine this.mono ?_
  rintro e w' ⟨v, rfl, hR, hb⟩
  obtain ⟨Ar, cr, rfl, _, hi⟩ := int_R hR
  exact ⟨Ar, cr, rfl, hi, hb⟩
end Go.Proofs.Ythnjjonjhenifaa.PShorten
