/- What the reference's Right and False answer (of the printed set PLearnFollows). -/
import Derived.Test.YthnjjonjhenifaaPLearnFollowsRow
import Derived.Test.YthnjjonjhenifaaPLearnFollowsx5
import Derived.Test.YthnjjonjhenifaaPLearnFollowsx6
import Derived.Test.YthnjjonjhenifaaKdInt
import Derived.Test.YthnjjonjhenifaaWalks
namespace Go.Proofs.Ythnjjonjhenifaa.PLearnFollows
set_option linter.unusedVariables false
set_option linter.unusedSimpArgs false
open Go.RowKit Go.Proofs.YthnjjonjhenifaaW.PrintWords Go.Proofs.YthnjjonjhenifaaW.PrintLast Go.Proofs.YthnjjonjhenifaaW.PrintMore

def toS (m : Mk) : S37 := ⟨m.lit, m.lev, m.why⟩
def tS (ms : List Mk) : List S37 := ms.map toS
theorem tS_len (ms : List Mk) : (tS ms).length = ms.length := List.length_map _
theorem rdm {ms : List Mk} {i : Nat} (h : i < ms.length) : rd_T37 (tS ms) (i : Int) = toS (atM ms i) := by
  unfold rd_T37 tS
  rw [Int.toNat_natCast, List.getD_eq_getElem?_getD, List.getElem?_map, List.getElem?_eq_getElem h, atM_eq h]
  rfl
theorem marks_C {B : Nat} {w : World} {A : Option Addr} {ms : List Mk} (h : MarksAt B w A ms) (hl : ms.length ≤ 1000) (hw : ∀ i, i < ms.length → (atM ms i).why.length ≤ 1000) : Kd.C k37 w A (tS ms).length (tS ms) := by
  refine ⟨rfl, by rw [tS_len]; omega, fun h0 => ?_⟩
  rw [tS_len] at h0
  obtain ⟨ad, _, _, e, _⟩ := h 0 h0
  refine ⟨ad, e, fun j p hp => ?_⟩
  obtain ⟨hj, hp⟩ := List.getElem?_eq_some_iff.1 hp
  rw [tS_len] at hj
  have hp' : p = toS (atM ms j) := by
    rw [← hp, atM_eq hj]
    simp [tS]
  subst hp'
  obtain ⟨ad', A', c', e', _, h1, h2, h3, hlc, hi⟩ := h j hj
  rw [e] at e'
  cases e'
  refine ⟨[.int .i64 (atM ms j).lit, .int .i64 (atM ms j).lev, .slice A' (atM ms j).why.length c'], rfl, k37_mk w (toS (atM ms j)) hlc (int_C hi (show (atM ms j).why.length ≤ 1000000 from Nat.le_trans (hw j hj) (by decide))), fun i u hu => ?_⟩
  show w.cell? (ad.add (j * 3 + i)) = some u
  match i, hu with
  | 0, hu => cases hu; exact h1
  | 1, hu => cases hu; rw [add_field _ _ 1 (by omega)]; exact h2
  | 2, hu => cases hu; rw [add_field _ _ 2 (by omega)]; exact h3
  | i + 3, hu => simp at hu

def followsR (ahead : List Int) (m : Mk) : Bool := decide (litSort m.why = m.why) && (decide (m.lit ∈ m.why) && turnedP (othersP m.why m.lit) ahead)
theorem followsR_eq {ahead : List Int} {m : Mk} (h : MIN ∉ ahead) : followsR ahead m = followsB ahead m := by
  unfold followsR followsB
  rw [← Bool.and_assoc]
  congr 1
  unfold turnedP othersP
  rw [Bool.eq_iff_iff, List.all_eq_true, List.all_eq_true]
  constructor
  · intro q x hx
    by_cases e : x = m.lit
    · simp [e]
    · have := q x (List.mem_filter.2 ⟨hx, by simpa using e⟩)
      simp only [Bool.and_eq_true, decide_eq_true_eq] at this
      simp [this.2]
  · intro q x hx
    obtain ⟨h1, h2⟩ := List.mem_filter.1 hx
    have e : ¬ x = m.lit := by simpa using h2
    have := q x h1
    simp only [Bool.or_eq_true, decide_eq_true_eq] at this
    have hx := this.resolve_left e
    have hm : x ≠ MIN := fun e1 => h (by rw [← neg_min, ← e1]; exact hx)
    simp [hm, hx]
theorem why_ev (m : Mk) (ahead : List Int) (hw : m.why.length ≤ 1000) (ha : ahead.length ≤ 1000) : Ev (fun k => horariumref36_why.f k m.lit m.lev m.why ahead) (followsR ahead m) := by
  refine Ev.congr (f := fun k => (horariumref27_Sort.f k m.why).bind fun t => (horariumref27_Same.f k t m.why).bind fun t2 => if t2 = true then (horariumref27_Has.f k m.why m.lit).bind fun t3 => if t3 = true then (horariumref36_others.f k m.why m.lit).bind fun t4 => (horariumref36_turned.f k t4 ahead).bind fun t5 => some t5 else some false else some false) (fun k => rfl) ?_
  refine Ev.bind (f := fun k t => (horariumref27_Same.f k t m.why).bind fun t2 => if t2 = true then (horariumref27_Has.f k m.why m.lit).bind fun t3 => if t3 = true then (horariumref36_others.f k m.why m.lit).bind fun t4 => (horariumref36_turned.f k t4 ahead).bind fun t5 => some t5 else some false else some false) (sort_ev m.why (by omega)) ?_
  refine Ev.bind (f := fun k t2 => if t2 = true then (horariumref27_Has.f k m.why m.lit).bind fun t3 => if t3 = true then (horariumref36_others.f k m.why m.lit).bind fun t4 => (horariumref36_turned.f k t4 ahead).bind fun t5 => some t5 else some false else some false) (same_ev (litSort m.why) m.why (by have := sort_len m.why; omega)) ?_
  unfold followsR
  by_cases q : litSort m.why = m.why
  · rw [decide_eq_true q, Bool.true_and]
    refine Ev.congr (f := fun k => (horariumref27_Has.f k m.why m.lit).bind fun t3 => if t3 = true then (horariumref36_others.f k m.why m.lit).bind fun t4 => (horariumref36_turned.f k t4 ahead).bind fun t5 => some t5 else some false) (fun k => if_pos rfl) ?_
    refine Ev.bind (f := fun k t3 => if t3 = true then (horariumref36_others.f k m.why m.lit).bind fun t4 => (horariumref36_turned.f k t4 ahead).bind fun t5 => some t5 else some false) (has_ev m.why m.lit (by omega)) ?_
    by_cases q2 : m.lit ∈ m.why
    · rw [decide_eq_true q2, Bool.true_and]
      refine Ev.congr (f := fun k => (horariumref36_others.f k m.why m.lit).bind fun t4 => (horariumref36_turned.f k t4 ahead).bind fun t5 => some t5) (fun k => if_pos rfl) ?_
      refine Ev.bind (f := fun k t4 => (horariumref36_turned.f k t4 ahead).bind fun t5 => some t5) (others_ev m.why m.lit (by omega)) ?_
      exact Ev.bind (f := fun k t5 => some t5) (turned_ev _ ahead (by have := others_len (xs := m.why) (x := m.lit); omega) (by omega)) (Ev.now _)
    · rw [decide_eq_false q2, Bool.false_and]
      exact Ev.congr (f := fun _ => some false) (fun k => if_neg (by decide)) (Ev.now _)
  · rw [decide_eq_false q, Bool.false_and]
    exact Ev.congr (f := fun _ => some false) (fun k => if_neg (by decide)) (Ev.now _)

section
variable {ms : List Mk} {i : Nat} {R : Bool} {ahead : List Int}
theorem j4_ev (hi : i < ms.length) (hl : ms.length ≤ 1000) (hw : (atM ms i).why.length ≤ 1000) (ha : ahead.length ≤ 1000) (b : Bool) (h : Ev (fun k => horariumref36_Right.l0 k (tS ms) (ahead ++ [(atM ms i).lit]) ((i + 1 : Nat) : Int)) R) :
    Ev (fun k => horariumref36_Right.j4 k (tS ms) ahead (i : Int) b (atM ms i).lit (atM ms i).lev (atM ms i).why) (!b && ((decide ((atM ms i).why = []) || followsR ahead (atM ms i)) && R)) := by
  cases b with
  | true =>
    refine Ev.step (f := fun _ => some false) (fun k => ?_) (Ev.now _)
    simp only [horariumref36_Right.j4]
    rw [if_pos trivial]
  | false =>
    rw [Bool.not_false, Bool.true_and]
    by_cases q : (atM ms i).why = []
    · rw [decide_eq_true q, Bool.true_or, Bool.true_and]
      refine Ev.step (f := fun k => horariumref36_Right.l0 k (tS ms) (ahead ++ [(atM ms i).lit]) ((i + 1 : Nat) : Int)) (fun k => ?_) h
      simp only [horariumref36_Right.j4]
      rw [if_neg (by decide), if_neg (by rw [q]; decide), if_pos (by omega), up1 (by omega)]
    · rw [decide_eq_false q, Bool.false_or]
      have hp : 0 < (atM ms i).why.length := List.length_pos_iff.2 q
      refine Ev.step (f := fun k => (horariumref36_why.f k (atM ms i).lit (atM ms i).lev (atM ms i).why ahead).bind fun t => if t = true then horariumref36_Right.l0 k (tS ms) (ahead ++ [(atM ms i).lit]) ((i + 1 : Nat) : Int) else some false) (fun k => ?_) ?_
      · simp only [horariumref36_Right.j4]
        rw [if_neg (by decide), if_pos (by omega)]
        simp only [if_pos (show ahead.length < 17592186044416 by omega), up1 (show i ≤ 1000000 by omega)]
      · refine Ev.bind (f := fun k t => if t = true then horariumref36_Right.l0 k (tS ms) (ahead ++ [(atM ms i).lit]) ((i + 1 : Nat) : Int) else some false) (why_ev (atM ms i) ahead hw ha) ?_
        cases followsR ahead (atM ms i) with
        | true => exact Ev.congr (fun k => if_pos rfl) h
        | false => exact Ev.congr (f := fun _ => some false) (fun k => if_neg (by decide)) (Ev.now _)
def okB (ahead : List Int) (m : Mk) (b first : Bool) : Bool := !b && (!(decide (0 < m.lev) && (first != decide (m.why = []))) && (decide (m.why = []) || followsR ahead m))
theorem len0 {xs : List Int} : ((xs.length : Int) == 0) = decide (xs = []) := by
  cases xs with
  | nil => rfl
  | cons x xs =>
    rw [decide_eq_false (by simp), beq_eq_false_iff_ne]
    rw [List.length_cons]
    omega
theorem j3_ev (hi : i < ms.length) (hl : ms.length ≤ 1000) (hw : (atM ms i).why.length ≤ 1000) (ha : ahead.length ≤ 1000) (b : Bool) (h : Ev (fun k => horariumref36_Right.l0 k (tS ms) (ahead ++ [(atM ms i).lit]) ((i + 1 : Nat) : Int)) R) :
    Ev (fun k => horariumref36_Right.j3 k (tS ms) ahead (i : Int) b (atM ms i).lit (atM ms i).lev (atM ms i).why) (okB ahead (atM ms i) false b && R) := by
  by_cases q : 0 < (atM ms i).lev
  · refine ev_eq (Ev.step (f := fun k => horariumref36_Right.j4 k (tS ms) ahead (i : Int) (b != decide ((atM ms i).why = [])) (atM ms i).lit (atM ms i).lev (atM ms i).why) (fun k => ?_) (j4_ev hi hl hw ha _ h)) ?_
    · simp only [horariumref36_Right.j3]
      rw [if_pos q, len0]
    · unfold okB
      rw [decide_eq_true q, Bool.true_and, Bool.not_false, Bool.true_and, Bool.and_assoc]
  · refine ev_eq (Ev.step (f := fun k => horariumref36_Right.j4 k (tS ms) ahead (i : Int) false (atM ms i).lit (atM ms i).lev (atM ms i).why) (fun k => ?_) (j4_ev hi hl hw ha _ h)) ?_
    · simp only [horariumref36_Right.j3]
      rw [if_neg q]
    · unfold okB
      rw [decide_eq_false q]
      rfl
/-- Is it the first of its level? -/
def firstB (ms : List Mk) (i : Nat) : Bool := decide (i = 0) || ((atM ms (i - 1)).lev != (atM ms i).lev)
theorem down1 {i : Nat} (h : 0 < i) (h2 : i ≤ 1000000) : wrap64 ((i : Int) - 1) = ((i - 1 : Nat) : Int) := by unfold wrap64; omega
theorem j2_ev (hi : i < ms.length) (hl : ms.length ≤ 1000) (hw : (atM ms i).why.length ≤ 1000) (ha : ahead.length ≤ 1000) (b : Bool) (h : Ev (fun k => horariumref36_Right.l0 k (tS ms) (ahead ++ [(atM ms i).lit]) ((i + 1 : Nat) : Int)) R) :
    Ev (fun k => horariumref36_Right.j2 k (tS ms) ahead (i : Int) b (atM ms i).lit (atM ms i).lev (atM ms i).why) (okB ahead (atM ms i) b (firstB ms i) && R) := by
  cases b with
  | true =>
    refine Ev.step (f := fun _ => some false) (fun k => ?_) (Ev.now _)
    simp only [horariumref36_Right.j2]
    rw [if_pos trivial]
  | false =>
    refine Ev.step (f := fun k => horariumref36_Right.j3 k (tS ms) ahead (i : Int) (firstB ms i) (atM ms i).lit (atM ms i).lev (atM ms i).why) (fun k => ?_) (j3_ev hi hl hw ha _ h)
    simp only [horariumref36_Right.j2]
    rw [if_neg (by decide)]
    have hL := tS_len ms
    by_cases q : i = 0
    · rw [if_pos (by omega)]
      unfold firstB
      rw [decide_eq_true q, Bool.true_or]
    · rw [if_neg (by omega), down1 (by omega) (by omega), if_pos (by omega), if_pos (by omega), rdm (by omega)]
      unfold firstB
      rw [decide_eq_false q, Bool.false_or]
      rfl
def lowB (ms : List Mk) (i : Nat) : Bool := decide ((atM ms i).lev < 0) || (decide (0 < i) && decide ((atM ms i).lev < (atM ms (i - 1)).lev))
theorem j1_ev (hi : i < ms.length) (hl : ms.length ≤ 1000) (hw : (atM ms i).why.length ≤ 1000) (ha : ahead.length ≤ 1000) (b : Bool) (h : Ev (fun k => horariumref36_Right.l0 k (tS ms) (ahead ++ [(atM ms i).lit]) ((i + 1 : Nat) : Int)) R) :
    Ev (fun k => horariumref36_Right.j1 k (tS ms) ahead (i : Int) b (atM ms i).lit (atM ms i).lev (atM ms i).why) (okB ahead (atM ms i) (b || lowB ms i) (firstB ms i) && R) := by
  cases b with
  | true =>
    refine Ev.step (f := fun _ => some false) (fun k => ?_) (Ev.now _)
    simp only [horariumref36_Right.j1]
    rw [if_pos trivial]
  | false =>
    rw [Bool.false_or]
    refine Ev.step (f := fun k => horariumref36_Right.j2 k (tS ms) ahead (i : Int) (lowB ms i) (atM ms i).lit (atM ms i).lev (atM ms i).why) (fun k => ?_) (j2_ev hi hl hw ha _ h)
    simp only [horariumref36_Right.j1]
    rw [if_neg (by decide)]
    have hL := tS_len ms
    unfold lowB
    by_cases q : (atM ms i).lev < 0
    · rw [if_pos q, decide_eq_true q, Bool.true_or]
    · rw [if_neg q, decide_eq_false q, Bool.false_or]
      by_cases q2 : 0 < i
      · rw [if_pos (by omega), down1 (by omega) (by omega), if_pos (by omega), if_pos (by omega), rdm (by omega), decide_eq_true q2, Bool.true_and]
        rfl
      · rw [if_neg (by omega), decide_eq_false q2, Bool.false_and]
end
theorem ok_same {ms : List Mk} {i : Nat} (hi : i < ms.length) (hr : rightN ms i = true) :
    okB (litsOf (ms.take i)) (atM ms i) ((decide ((atM ms i).lit = 0) || (decide ((atM ms i).lit = MIN) || (decide ((atM ms i).lit ∈ litsOf (ms.take i)) || decide (neg (atM ms i).lit ∈ litsOf (ms.take i))))) || lowB ms i) (firstB ms i) = okAt ms i := by
  have hm := right_nomin_take (Nat.le_of_lt hi) hr
  have hlev : i = 0 ∨ (0 < i ∧ lastLev ms i = (atM ms (i - 1)).lev ∧ 0 ≤ (atM ms (i - 1)).lev) := by
    cases i with
    | zero => exact .inl rfl
    | succ j =>
      refine .inr ⟨by omega, rfl, ?_⟩
      have : ∀ j', j' ≤ j → 0 ≤ (atM ms j').lev := by
        intro j'
        induction j' with
        | zero =>
          intro _
          have := (ok_at (show 0 < ms.length by omega) (List.all_eq_true.1 hr 0 (List.mem_range.2 (by omega)))).lev
          exact this
        | succ n ih =>
          intro hn
          have h1 := ih (by omega)
          have := (ok_at (show n + 1 < ms.length by omega) (List.all_eq_true.1 hr (n + 1) (List.mem_range.2 (by omega)))).lev
          have h2 : lastLev ms (n + 1) = (atM ms n).lev := rfl
          omega
      exact this j (Nat.le_refl _)
  have hlow : lowB ms i = !decide (lastLev ms i ≤ (atM ms i).lev) := by
    unfold lowB
    rcases hlev with rfl | ⟨h1, h2, h3⟩
    · rw [show lastLev ms 0 = 0 from rfl, Bool.eq_iff_iff]
      simp
    · rw [h2, Bool.eq_iff_iff]
      simp only [Bool.or_eq_true, Bool.and_eq_true, decide_eq_true_eq, Bool.not_eq_true', decide_eq_false_iff_not]
      omega
  unfold okB okAt
  simp only
  rw [followsR_eq hm, hlow]
  by_cases q : lastLev ms i ≤ (atM ms i).lev
  · rw [decide_eq_true q]
    have hf : (decide (0 < (atM ms i).lev) && (firstB ms i != decide ((atM ms i).why = []))) = (decide (0 < (atM ms i).lev) && (decide (lastLev ms i < (atM ms i).lev) != decide ((atM ms i).why = []))) := by
      by_cases q2 : 0 < (atM ms i).lev
      · congr 2
        unfold firstB
        rcases hlev with rfl | ⟨h1, h2, h3⟩
        · rw [show lastLev ms 0 = 0 from rfl, decide_eq_true q2]
          rfl
        · rw [decide_eq_false (by omega), Bool.false_or, h2, Bool.eq_iff_iff]
          simp only [bne_iff_ne, decide_eq_true_eq]
          omega
      · rw [decide_eq_false q2]
        rfl
    rw [hf]
    by_cases a1 : (atM ms i).lit = 0
    · simp [a1]
    by_cases a2 : (atM ms i).lit = MIN
    · simp [a2]
    by_cases a3 : (atM ms i).lit ∈ litsOf (ms.take i)
    · simp [a3]
    by_cases a4 : neg (atM ms i).lit ∈ litsOf (ms.take i)
    · simp [a4]
    simp [a1, a2, a3, a4]
  · rw [decide_eq_false q]
    simp
theorem lits_snoc {ms : List Mk} {i : Nat} (hi : i < ms.length) : litsOf (ms.take i) ++ [(atM ms i).lit] = litsOf (ms.take (i + 1)) := by
  unfold litsOf
  rw [List.take_succ_eq_append_getElem hi, List.map_append, atM_eq hi]
  rfl
theorem toS_f0 (m : Mk) : (toS m).f0 = m.lit := rfl
theorem toS_f1 (m : Mk) : (toS m).f1 = m.lev := rfl
theorem toS_f2 (m : Mk) : (toS m).f2 = m.why := rfl
theorem right_l {ms : List Mk} (hl : ms.length ≤ 1000) (hw : ∀ i, i < ms.length → (atM ms i).why.length ≤ 1000) : ∀ d i, i + d = ms.length → ∃ R, Ev (fun k => horariumref36_Right.l0 k (tS ms) (litsOf (ms.take i)) (i : Int)) R ∧ (rightN ms i = true → R = rightB ms)
  | 0, i, e => by
    have hL := tS_len ms
    refine ⟨true, Ev.step (f := fun _ => some true) (fun k => ?_) (Ev.now _), fun hr => ?_⟩
    · simp only [horariumref36_Right.l0]
      rw [if_neg (by omega)]
    · have : i = ms.length := by omega
      subst this
      exact hr.symm
  | d + 1, i, e => by
    have hi : i < ms.length := by omega
    have hL := tS_len ms
    have ha : (litsOf (ms.take i)).length ≤ 1000 := by unfold litsOf; rw [List.length_map, List.length_take]; omega
    obtain ⟨R, h, hR⟩ := right_l hl hw d (i + 1) (by omega)
    rw [← lits_snoc hi] at h
    refine ⟨okB (litsOf (ms.take i)) (atM ms i) ((decide ((atM ms i).lit = 0) || (decide ((atM ms i).lit = MIN) || (decide ((atM ms i).lit ∈ litsOf (ms.take i)) || decide (neg (atM ms i).lit ∈ litsOf (ms.take i))))) || lowB ms i) (firstB ms i) && R, ?_, fun hr => ?_⟩
    · have J (b : Bool) := j1_ev hi hl (hw i hi) ha b h
      have HH (x : Int) := has_ev (litsOf (ms.take i)) x (by omega)
      generalize litsOf (ms.take i) = ahead at J HH
      by_cases a1 : (atM ms i).lit = 0
      · rw [decide_eq_true a1, Bool.true_or]
        refine Ev.step (f := fun k => horariumref36_Right.j1 k (tS ms) ahead (i : Int) true (atM ms i).lit (atM ms i).lev (atM ms i).why) (fun k => ?_) (J true)
        simp only [horariumref36_Right.l0]
        rw [if_pos (by omega), if_pos (by omega), rdm hi]
        rw [if_pos (show (toS (atM ms i)).f0 = 0 from a1)]
        try rfl
      rw [decide_eq_false a1, Bool.false_or]
      by_cases a2 : (atM ms i).lit = MIN
      · rw [decide_eq_true a2, Bool.true_or]
        refine Ev.step (f := fun k => horariumref36_Right.j1 k (tS ms) ahead (i : Int) true (atM ms i).lit (atM ms i).lev (atM ms i).why) (fun k => ?_) (J true)
        simp only [horariumref36_Right.l0]
        rw [if_pos (by omega), if_pos (by omega), rdm hi]
        rw [if_neg (show ¬ (toS (atM ms i)).f0 = 0 from a1), if_pos (show (toS (atM ms i)).f0 = -9223372036854775808 from a2)]
        try rfl
      rw [decide_eq_false a2, Bool.false_or]
      refine Ev.step (f := fun k => (horariumref27_Has.f k ahead (atM ms i).lit).bind fun t => if t = true then horariumref36_Right.j1 k (tS ms) ahead (i : Int) true (atM ms i).lit (atM ms i).lev (atM ms i).why else (horariumref27_Has.f k ahead (neg (atM ms i).lit)).bind fun t => horariumref36_Right.j1 k (tS ms) ahead (i : Int) t (atM ms i).lit (atM ms i).lev (atM ms i).why) (fun k => ?_) ?_
      · simp only [horariumref36_Right.l0]
        rw [if_pos (by omega), if_pos (by omega), rdm hi]
        rw [if_neg (show ¬ (toS (atM ms i)).f0 = 0 from a1), if_neg (show ¬ (toS (atM ms i)).f0 = -9223372036854775808 from a2)]
        try rfl
      refine Ev.bind (f := fun k t => if t = true then horariumref36_Right.j1 k (tS ms) ahead (i : Int) true (atM ms i).lit (atM ms i).lev (atM ms i).why else (horariumref27_Has.f k ahead (neg (atM ms i).lit)).bind fun t => horariumref36_Right.j1 k (tS ms) ahead (i : Int) t (atM ms i).lit (atM ms i).lev (atM ms i).why) (HH _) ?_
      by_cases a3 : (atM ms i).lit ∈ ahead
      · rw [decide_eq_true a3, Bool.true_or]
        exact Ev.congr (fun k => if_pos rfl) (J true)
      · rw [decide_eq_false a3, Bool.false_or]
        refine Ev.congr (f := fun k => (horariumref27_Has.f k ahead (neg (atM ms i).lit)).bind fun t => horariumref36_Right.j1 k (tS ms) ahead (i : Int) t (atM ms i).lit (atM ms i).lev (atM ms i).why) (fun k => if_neg (by decide)) ?_
        exact Ev.bind (f := fun k t => horariumref36_Right.j1 k (tS ms) ahead (i : Int) t (atM ms i).lit (atM ms i).lev (atM ms i).why) (HH _) (J _)
    · rw [ok_same hi hr]
      cases q : okAt ms i with
      | true => rw [Bool.true_and]; exact hR (all_range hr q)
      | false =>
        rw [Bool.false_and]
        exact (all_range_no hi q).symm
theorem right_ev {ms : List Mk} (hz : Sized ms) : Ev (fun k => horariumref36_Right.f k (tS ms)) (rightB ms) := by
  obtain ⟨R, h, hR⟩ := right_l hz.1 hz.2 ms.length 0 (by omega)
  rw [← hR rfl]
  exact h
theorem lits_l {ms : List Mk} (hl : ms.length ≤ 1000) : ∀ d i, i + d = ms.length → Ev (fun k => horariumref36_Lits.l0 k (tS ms) (litsOf (ms.take i)) (i : Int)) (litsOf ms)
  | 0, i, e => by
    have hL := tS_len ms
    refine Ev.step (f := fun _ => some (litsOf (ms.take i))) (fun k => ?_) ?_
    · simp only [horariumref36_Lits.l0]
      rw [if_neg (by omega)]
    · refine ev_eq (Ev.now _) ?_
      rw [List.take_of_length_le (by omega)]
  | d + 1, i, e => by
    have hi : i < ms.length := by omega
    have hL := tS_len ms
    have ha : (litsOf (ms.take i)).length ≤ 1000 := by unfold litsOf; rw [List.length_map, List.length_take]; omega
    refine Ev.step (f := fun k => horariumref36_Lits.l0 k (tS ms) (litsOf (ms.take (i + 1))) ((i + 1 : Nat) : Int)) (fun k => ?_) (lits_l hl d (i + 1) (by omega))
    simp only [horariumref36_Lits.l0]
    rw [if_pos (by omega), if_pos (by omega), if_pos (by omega), rdm hi, up1 (by omega), toS_f0, lits_snoc hi]
theorem lits_ev {ms : List Mk} (hl : ms.length ≤ 1000) : Ev (fun k => horariumref36_Lits.f k (tS ms)) (litsOf ms) := lits_l hl ms.length 0 (by omega)
theorem turned_lits {ms : List Mk} {cl : List Int} (hr : rightB ms = true) : turnedP cl (litsOf ms) = cl.all fun x => decide (neg x ∈ litsOf ms) := by
  unfold turnedP
  rw [Bool.eq_iff_iff, List.all_eq_true, List.all_eq_true]
  constructor
  · intro q x hx
    have := q x hx
    simp only [Bool.and_eq_true] at this
    exact this.2
  · intro q x hx
    have h1 := q x hx
    have hm : x ≠ MIN := fun e => right_nomin hr (by rw [← neg_min, ← e]; simpa using h1)
    simp only [Bool.and_eq_true]
    exact ⟨by simpa using hm, h1⟩
theorem false_ev {ms : List Mk} {cl : List Int} (hz : Sized ms) (hc : cl.length ≤ 1000) : Ev (fun k => horariumref36_False.f k (tS ms) cl) (falseB ms cl) := by
  refine Ev.congr (f := fun k => (horariumref36_Right.f k (tS ms)).bind fun t => if t = true then (horariumref27_Sort.f k cl).bind fun t1 => (horariumref36_Lits.f k (tS ms)).bind fun t2 => (horariumref36_turned.f k t1 t2).bind fun t3 => some t3 else some false) (fun k => rfl) ?_
  refine Ev.bind (f := fun k t => if t = true then (horariumref27_Sort.f k cl).bind fun t1 => (horariumref36_Lits.f k (tS ms)).bind fun t2 => (horariumref36_turned.f k t1 t2).bind fun t3 => some t3 else some false) (right_ev hz) ?_
  unfold falseB
  cases q : rightB ms with
  | false => exact Ev.congr (f := fun _ => some false) (fun k => if_neg (by decide)) (Ev.now _)
  | true =>
    rw [Bool.true_and, ← turned_lits q]
    refine Ev.congr (f := fun k => (horariumref27_Sort.f k cl).bind fun t1 => (horariumref36_Lits.f k (tS ms)).bind fun t2 => (horariumref36_turned.f k t1 t2).bind fun t3 => some t3) (fun k => if_pos rfl) ?_
    refine Ev.bind (f := fun k t1 => (horariumref36_Lits.f k (tS ms)).bind fun t2 => (horariumref36_turned.f k t1 t2).bind fun t3 => some t3) (sort_ev cl (by omega)) ?_
    refine Ev.bind (f := fun k t2 => (horariumref36_turned.f k (litSort cl) t2).bind fun t3 => some t3) (lits_ev hz.1) ?_
    have hL : (litsOf ms).length = ms.length := List.length_map _
    have hz1 := hz.1
    exact Ev.bind (f := fun k t3 => some t3) (turned_ev _ _ (by have := sort_len cl; omega) (by omega)) (Ev.now _)
end Go.Proofs.Ythnjjonjhenifaa.PLearnFollows
