/- What the reference's Back and Learn answer (of the printed set PLearnTells), and its contracts in my words. -/
import Derived.Test.YthnjjonjhenifaaPLearnTellsAt
import Derived.Test.YthnjjonjhenifaaPLearnTellsRes
import Derived.Test.YthnjjonjhenifaaPLearnTellsx7
namespace Go.Proofs.Ythnjjonjhenifaa.PLearnTells
set_option linter.unusedVariables false
set_option linter.unusedSimpArgs false
open Go.RowKit Go.Proofs.YthnjjonjhenifaaW.PrintWords Go.Proofs.YthnjjonjhenifaaW.PrintLast Go.Proofs.YthnjjonjhenifaaW.PrintMore

theorem back_l {ms : List Mk} (hl : ms.length ≤ 1000) {c : List Int} (h : Fal ms c) (last : Int) : ∀ d i (b : Int), i + d = c.length → Ev (fun k => horariumref36_Back.l0 k (tS ms) c b last (i : Int)) ((c.drop i).foldl (backStep ms last) b)
  | 0, i, b, e => by
    refine Ev.step (f := fun _ => some b) (fun k => ?_) ?_
    · simp only [horariumref36_Back.l0]
      rw [if_neg (by omega)]
    · refine ev_eq (Ev.now _) ?_
      rw [List.drop_of_length_le (by omega)]
      rfl
  | d + 1, i, b, e => by
    have hi : i < c.length := by omega
    have hc := h.len
    have hL := tS_len ms
    obtain ⟨p, hp, e1, e2, _⟩ := h.pos (List.getElem_mem hi)
    have hat := at_ev hl h (List.getElem_mem hi)
    rw [e1] at hat
    refine Ev.step (f := fun k => (horariumref36_at.f k (tS ms) (neg c[i])).bind fun t => if t = last then horariumref36_Back.l0 k (tS ms) c b last ((i + 1 : Nat) : Int) else if 0 ≤ t then (if t < ((tS ms).length : Int) then horariumref36_Back.l0 k (tS ms) c (mx b (rd_T37 (tS ms) t).f1) last ((i + 1 : Nat) : Int) else none) else none) (fun k => ?_) ?_
    · simp only [horariumref36_Back.l0]
      rw [if_pos (by omega), if_pos (by omega), rd_at hi, up1 (by omega)]
      rfl
    · refine Ev.bind (f := fun k t => if t = last then horariumref36_Back.l0 k (tS ms) c b last ((i + 1 : Nat) : Int) else if 0 ≤ t then (if t < ((tS ms).length : Int) then horariumref36_Back.l0 k (tS ms) c (mx b (rd_T37 (tS ms) t).f1) last ((i + 1 : Nat) : Int) else none) else none) hat ?_
      rw [drop_at hi, List.foldl_cons]
      have hs : backStep ms last b c[i] = if (p : Int) = last then b else mx b (atM ms p).lev := by
        unfold backStep
        rw [e1, mx_max]
        unfold levAt
        rw [Int.toNat_natCast]
      rw [hs]
      by_cases q : (p : Int) = last
      · rw [if_pos q]
        exact Ev.congr (fun k => if_pos q) (back_l hl h last d (i + 1) b (by omega))
      · rw [if_neg q]
        refine Ev.congr (fun k => ?_) (back_l hl h last d (i + 1) _ (by omega))
        rw [if_neg q, if_pos (by omega), if_pos (by omega), rdm hp]
        rfl
theorem false_sort {ms : List Mk} {cl : List Int} : falseB ms (litSort cl) = falseB ms cl := by
  unfold falseB
  rw [sort_sorted (sort_asc cl) (fun q => (sort_mem.1 q).2 rfl)]
theorem back_ev {ms : List Mk} (hz : Sized ms) {cl : List Int} (hc : cl.length ≤ 1000) (hr : ∀ x ∈ cl, R64 x) : Ev (fun k => horariumref36_Back.f k (tS ms) cl) (backOf ms cl) := by
  refine Ev.congr (f := fun k => (horariumref27_Sort.f k cl).bind fun t => (horariumref36_False.f k (tS ms) t).bind fun t2 => if t2 = true then (horariumref36_Latest.f k (tS ms) t).bind fun t3 => horariumref36_Back.l0 k (tS ms) t 0 t3 0 else some 0) (fun k => rfl) ?_
  refine Ev.bind (f := fun k t => (horariumref36_False.f k (tS ms) t).bind fun t2 => if t2 = true then (horariumref36_Latest.f k (tS ms) t).bind fun t3 => horariumref36_Back.l0 k (tS ms) t 0 t3 0 else some 0) (sort_ev cl (by omega)) ?_
  refine Ev.bind (f := fun k t2 => if t2 = true then (horariumref36_Latest.f k (tS ms) (litSort cl)).bind fun t3 => horariumref36_Back.l0 k (tS ms) (litSort cl) 0 t3 0 else some 0) (false_ev hz (Nat.le_trans (sort_len cl) hc)) ?_
  rw [false_sort]
  unfold backOf
  cases q : falseB ms cl with
  | false => exact Ev.congr (f := fun _ => some 0) (fun k => if_neg (by decide)) (Ev.now _)
  | true =>
    rw [if_pos rfl]
    have h := fal_of hr q
    refine Ev.congr (f := fun k => (horariumref36_Latest.f k (tS ms) (litSort cl)).bind fun t3 => horariumref36_Back.l0 k (tS ms) (litSort cl) 0 t3 0) (fun k => if_pos rfl) ?_
    exact Ev.bind (f := fun k t3 => horariumref36_Back.l0 k (tS ms) (litSort cl) 0 t3 0) (latest_ev hz.1 h) (back_l hz.1 h _ (litSort cl).length 0 0 (by omega))
theorem backOf_fal {ms : List Mk} {c : List Int} (h : Fal ms c) : backOf ms c = backP ms c := by
  unfold backOf
  rw [if_pos h.false, h.sorted]
theorem learn_stop {ms : List Mk} (hz : Sized ms) {c : List Int} (h : Fal ms c) (k0 : Int) : Ev (fun k => horariumref36_Learn.j1 k (tS ms) c k0 false) (c, backP ms c, 0) := by
  refine Ev.step (f := fun k => (horariumref36_Back.f k (tS ms) c).bind fun t => some (c, t, 0)) (fun k => ?_) ?_
  · simp only [horariumref36_Learn.j1]
    rw [if_neg (by decide)]
  · have hc := h.len
    have hz1 := hz.1
    have hb := back_ev hz (cl := c) (by omega) h.r64
    rw [backOf_fal h] at hb
    exact Ev.bind (f := fun k t => some (c, t, 0)) hb (Ev.now _)
theorem learn_l {ms : List Mk} (hz : Sized ms) (hm : MsOk ms) : ∀ (f : Nat) (c r : List Int), Fal ms c → learnP ms f c = some r → Ev (fun k => horariumref36_Learn.l0 k (tS ms) c (latestP ms c)) (r, backP ms r, 0)
  | 0, c, r, h, e => by cases e
  | f + 1, c, r, h, e => by
    have hL := tS_len ms
    have hz1 := hz.1
    have hc := h.len
    unfold learnP at e
    by_cases q0 : latestP ms c < 0
    · have hs : stopB ms c = true := by unfold stopB; rw [decide_eq_true q0]; rfl
      rw [if_pos hs] at e
      cases e
      refine Ev.step (f := fun k => horariumref36_Learn.j1 k (tS ms) c (latestP ms c) false) (fun k => ?_) (learn_stop hz h _)
      simp only [horariumref36_Learn.l0]
      rw [if_neg (by omega)]
    obtain ⟨p, hp, ep⟩ : ∃ p : Nat, p < ms.length ∧ latestP ms c = p := ⟨(latestP ms c).toNat, by have := latest_lt h; omega, by omega⟩
    have hlev : levAt ms (latestP ms c) = (atM ms p).lev := by unfold levAt; rw [ep, Int.toNat_natCast]
    have hge : 0 ≤ (atM ms p).lev := by
      have := lev_nonneg h.right hp
      unfold levAt at this
      rwa [Int.toNat_natCast] at this
    obtain ⟨hon1, hon⟩ := on_more h q0
    by_cases q1 : (atM ms p).lev = 0
    · have hs : stopB ms c = true := by unfold stopB; rw [hlev, decide_eq_true q1]; simp
      rw [if_pos hs] at e
      cases e
      refine Ev.step (f := fun k => horariumref36_Learn.j1 k (tS ms) c (latestP ms c) false) (fun k => ?_) (learn_stop hz h _)
      simp only [horariumref36_Learn.l0]
      rw [ep, if_pos (by omega), if_pos (by omega), if_pos (by omega), rdm hp, if_neg (show ¬ (toS (atM ms p)).f1 > 0 by show ¬ (atM ms p).lev > 0; omega)]
    have hon' := on_ev hz1 h (atM ms p).lev
    have hq := hon (by omega)
    rw [hlev] at hq
    refine Ev.step (f := fun k => (horariumref36_On.f k (tS ms) c (atM ms p).lev).bind fun t => horariumref36_Learn.j1 k (tS ms) c (latestP ms c) (decide (t > 1))) (fun k => ?_) ?_
    · simp only [horariumref36_Learn.l0]
      rw [ep, if_pos (by omega), if_pos (by omega), if_pos (by omega), rdm hp, if_pos (show (toS (atM ms p)).f1 > 0 by show (atM ms p).lev > 0; omega)]
      rfl
    refine Ev.bind (f := fun k t => horariumref36_Learn.j1 k (tS ms) c (latestP ms c) (decide (t > 1))) hon' ?_
    by_cases q2 : backP ms c < (atM ms p).lev
    · have hs : stopB ms c = true := by unfold stopB; rw [hlev, decide_eq_true q2]; simp
      rw [if_pos hs] at e
      cases e
      rw [decide_eq_false (by have := mt hq.1 (by simpa using q2); omega)]
      exact learn_stop hz h _
    · have hs : stopB ms c = false := by unfold stopB; rw [hlev, decide_eq_false q0, decide_eq_false q1, decide_eq_false q2]; rfl
      rw [if_neg (by rw [hs]; decide)] at e
      rw [decide_eq_true (by have := hq.2 q2; omega)]
      obtain ⟨p', hp', ep', hin, hne, hres, _⟩ := step_at hm h hs
      have : p' = p := by omega
      subst this
      obtain ⟨hf, hlt⟩ := step_fal hm h hs
      have hlm : lastMk ms c = atM ms p' := by unfold lastMk; rw [ep, Int.toNat_natCast]
      have hst : resR c (atM ms p').why (neg (atM ms p').lit) = (stepP ms c, true) := by
        unfold resR stepP
        rw [if_pos hres, hlm]
      have hrv := res_ev c (atM ms p').why (neg (atM ms p').lit) (by omega) (by have := hz.2 p' hp; omega)
      rw [hst] at hrv
      refine Ev.step (f := fun k => (horariumref36_Resolve.f k c (atM ms p').why (neg (atM ms p').lit)).bind fun bt => (horariumref36_Latest.f k (tS ms) bt.1).bind fun t => horariumref36_Learn.l0 k (tS ms) bt.1 t) (fun k => ?_) ?_
      · simp only [horariumref36_Learn.j1]
        rw [if_pos trivial, ep, if_pos (by omega), if_pos (by omega), rdm hp]
        rfl
      · refine Ev.bind (f := fun k bt => (horariumref36_Latest.f k (tS ms) bt.1).bind fun t => horariumref36_Learn.l0 k (tS ms) bt.1 t) hrv ?_
        refine Ev.bind (f := fun k t => horariumref36_Learn.l0 k (tS ms) (stepP ms c) t) (latest_ev hz1 hf) ?_
        exact learn_l hz hm f (stepP ms c) r hf e
def learnT (ms : List Mk) (cl : List Int) (r : List Int) : List Int × Int × Int := if falseB ms cl = true then (r, backP ms r, 0) else ([], 0, 2)
theorem learn_ev {ms : List Mk} (hz : Sized ms) (hm : MsOk ms) {cl r : List Int} (hc : cl.length ≤ 1000) (hr : ∀ x ∈ cl, R64 x) (hl : falseB ms cl = true → learnP ms (ms.length + 2) (litSort cl) = some r) : Ev (fun k => horariumref36_Learn.f k (tS ms) cl) (learnT ms cl r) := by
  refine Ev.congr (f := fun k => (horariumref36_False.f k (tS ms) cl).bind fun t => if t = true then (horariumref27_Sort.f k cl).bind fun t2 => (horariumref36_Latest.f k (tS ms) t2).bind fun t3 => horariumref36_Learn.l0 k (tS ms) t2 t3 else some (([] : List Int), 0, 2)) (fun k => rfl) ?_
  refine Ev.bind (f := fun k t => if t = true then (horariumref27_Sort.f k cl).bind fun t2 => (horariumref36_Latest.f k (tS ms) t2).bind fun t3 => horariumref36_Learn.l0 k (tS ms) t2 t3 else some (([] : List Int), 0, 2)) (false_ev hz hc) ?_
  unfold learnT
  cases q : falseB ms cl with
  | false => exact Ev.congr (f := fun _ => some (([] : List Int), 0, 2)) (fun k => if_neg (by decide)) (Ev.now _)
  | true =>
    rw [if_pos rfl]
    have h := fal_of hr q
    refine Ev.congr (f := fun k => (horariumref27_Sort.f k cl).bind fun t2 => (horariumref36_Latest.f k (tS ms) t2).bind fun t3 => horariumref36_Learn.l0 k (tS ms) t2 t3) (fun k => if_pos rfl) ?_
    refine Ev.bind (f := fun k t2 => (horariumref36_Latest.f k (tS ms) t2).bind fun t3 => horariumref36_Learn.l0 k (tS ms) t2 t3) (sort_ev cl (by omega)) ?_
    refine Ev.bind (f := fun k t3 => horariumref36_Learn.l0 k (tS ms) (litSort cl) t3) (latest_ev hz.1 h) ?_
    exact learn_l hz hm _ _ r h (hl q)
section
variable {B : Nat} {A A2 : Option Addr} {ms : List Mk} {cl : List Int} {n : Nat}
theorem right_ref (c : Nat) (w : World) (hM : MarksAt B w A ms) (hz : Sized ms) (k1 : ms.length ≤ c) :
    Calls Try.prog 27 #[.slice A ms.length c] w fun e w' => e = .returned (.bool (rightB ms)) ∧ Below w.heap.size w w' := by
  obtain ⟨k, hk⟩ := (right_ev hz).rounds
  have := horariumref36_Right.calls k A c (tS ms) (rightB ms) w (marks_C hM hz.1 hz.2) (by rw [tS_len]; exact k1) hk
  rw [tS_len] at this
  exact this
theorem false_ref (c c2 : Nat) (w : World) (hM : MarksAt B w A ms) (hI : IntsAt B w A2 cl) (hz : Sized ms) (k1 : ms.length ≤ c) (hn : cl.length = n) (hn1 : n ≤ 1000) (k2 : n ≤ c2) :
    Calls Try.prog 15 #[.slice A ms.length c, .slice A2 n c2] w fun e w' => e = .returned (.bool (falseB ms cl)) ∧ Below w.heap.size w w' := by
  subst hn
  obtain ⟨k, hk⟩ := (false_ev (cl := cl) hz hn1).rounds
  have := horariumref36_False.calls k A c (tS ms) A2 c2 cl (falseB ms cl) w (marks_C hM hz.1 hz.2) (by rw [tS_len]; exact k1) (int_C hI (by omega)) k2 hk
  rw [tS_len] at this
  exact this
theorem back_ref (c c2 : Nat) (w : World) (hM : MarksAt B w A ms) (hI : IntsAt B w A2 cl) (hz : Sized ms) (k1 : ms.length ≤ c) (hn : cl.length = n) (hn1 : n ≤ 1000) (k2 : n ≤ c2) (hr : ∀ x ∈ cl, R64 x) :
    Calls Try.prog 29 #[.slice A ms.length c, .slice A2 n c2] w fun e w' => e = .returned (.int .i64 (backOf ms cl)) ∧ Below w.heap.size w w' := by
  subst hn
  obtain ⟨k, hk⟩ := (back_ev (cl := cl) hz hn1 hr).rounds
  have := horariumref36_Back.calls k A c (tS ms) A2 c2 cl (backOf ms cl) w (marks_C hM hz.1 hz.2) (by rw [tS_len]; exact k1) (int_C hI (by omega)) k2 hk
  rw [tS_len] at this
  exact this
theorem learn_ref {r : List Int} (c c2 : Nat) (w : World) (hM : MarksAt B w A ms) (hI : IntsAt B w A2 cl) (hz : Sized ms) (hm : MsOk ms) (k1 : ms.length ≤ c) (hn : cl.length = n) (hn1 : n ≤ 1000) (k2 : n ≤ c2) (hr : ∀ x ∈ cl, R64 x) (hl : falseB ms cl = true → learnP ms (ms.length + 2) (litSort cl) = some r) :
    Calls Try.prog 26 #[.slice A ms.length c, .slice A2 n c2] w fun e w' => ∃ Ar cr, e = .returned (.tuple #[.slice Ar (learnT ms cl r).1.length cr, .int .i64 (learnT ms cl r).2.1, .int .i64 (learnT ms cl r).2.2]) ∧ IntsAt w'.heap.size w' Ar (learnT ms cl r).1 ∧ Below w.heap.size w w' := by
  subst hn
  obtain ⟨k, hk⟩ := (learn_ev (cl := cl) hz hm hn1 hr hl).rounds
  have := horariumref36_Learn.calls k A c (tS ms) A2 c2 cl (learnT ms cl r).1 (learnT ms cl r).2.1 (learnT ms cl r).2.2 w (marks_C hM hz.1 hz.2) (by rw [tS_len]; exact k1) (int_C hI (by omega)) k2 hk
  rw [tS_len] at this
  refine this.mono ?_
  rintro e w' ⟨v, rfl, hR, hb⟩
  obtain ⟨Ar, cr, rfl, _, hi⟩ := int_R hR
  exact ⟨Ar, cr, rfl, hi, hb⟩
end
end Go.Proofs.Ythnjjonjhenifaa.PLearnTells
