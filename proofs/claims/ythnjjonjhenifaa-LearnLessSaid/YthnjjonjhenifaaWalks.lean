/- LearnP, MarkW, FollowsW, RightW, FalseW, ResolveW, LearnW, HeadsP, Heads. -/
import Derived.Test.YthnjjonjhenifaaBase
import Derived.Laws.CopyOwn
import Derived.Deep.LoopGhost
/- What is learnt: marks, the place that made a literal false, the level to go back to, resolving: in plain words. -/
namespace Go.Proofs.Ythnjjonjhenifaa
set_option linter.unusedVariables false
set_option linter.unusedSimpArgs false
open Go.RowKit

structure Mk where
  lit : Int
  lev : Int
  why : List Int
def mk0 : Mk := ⟨0, 0, []⟩
def MIN : Int := -9223372036854775808
def R64 (x : Int) : Prop := -9223372036854775808 ≤ x ∧ x ≤ 9223372036854775807
def neg (x : Int) : Int := wrap64 (-x)
theorem neg_of {x : Int} (h : R64 x) (hm : x ≠ MIN) : neg x = -x := by
  unfold neg wrap64
  unfold MIN at hm
  obtain ⟨h1, h2⟩ := h
  omega
theorem neg_min : neg MIN = MIN := by unfold neg wrap64 MIN; omega
theorem neg_0 : neg 0 = 0 := by unfold neg wrap64; omega
theorem neg_r64 {x : Int} : R64 (neg x) := by unfold neg wrap64 R64; omega
theorem neg_ne {x : Int} (h : R64 x) (hm : x ≠ MIN) : neg x ≠ MIN := by
  rw [neg_of h hm]
  unfold MIN at *
  obtain ⟨h1, h2⟩ := h
  omega
theorem neg_neg {x : Int} (h : R64 x) : neg (neg x) = x := by
  by_cases hm : x = MIN
  · rw [hm, neg_min, neg_min]
  · rw [neg_of neg_r64 (neg_ne h hm), neg_of h hm]
    omega
theorem neg_inj {x y : Int} (hx : R64 x) (hy : R64 y) (h : neg x = neg y) : x = y := by rw [← neg_neg hx, h, neg_neg hy]
theorem neg_min_iff {x : Int} (h : R64 x) : neg x = MIN ↔ x = MIN := ⟨fun e => by rw [← neg_neg h, e, neg_min], fun e => by rw [e, neg_min]⟩
theorem neg_zero_iff {x : Int} (h : R64 x) : neg x = 0 ↔ x = 0 := by
  constructor
  · intro e
    rw [← neg_neg h, e, neg_0]
  · rintro rfl
    exact neg_0

def litsOf (ms : List Mk) : List Int := ms.map Mk.lit
def atM (ms : List Mk) (i : Nat) : Mk := ms.getD i mk0
theorem atM_eq {ms : List Mk} {i : Nat} (h : i < ms.length) : atM ms i = ms[i] := by unfold atM; simp [List.getD_eq_getElem?_getD, List.getElem?_eq_getElem h]
theorem mem_lits {ms : List Mk} {n : Int} : n ∈ litsOf ms ↔ ∃ i, i < ms.length ∧ (atM ms i).lit = n := by
  unfold litsOf
  rw [List.mem_map]
  constructor
  · rintro ⟨m, hm, rfl⟩
    obtain ⟨i, hi, rfl⟩ := List.mem_iff_getElem.1 hm
    exact ⟨i, hi, by rw [atM_eq hi]⟩
  · rintro ⟨i, hi, rfl⟩
    exact ⟨ms[i], List.getElem_mem hi, by rw [atM_eq hi]⟩
theorem mem_lits_take {ms : List Mk} {n : Int} {k : Nat} (hk : k ≤ ms.length) : n ∈ litsOf (ms.take k) ↔ ∃ i, i < k ∧ (atM ms i).lit = n := by
  rw [mem_lits]
  constructor
  · rintro ⟨i, hi, h⟩
    rw [List.length_take] at hi
    refine ⟨i, by omega, ?_⟩
    rw [← h, atM_eq (ms := ms.take k) (by rw [List.length_take]; omega), atM_eq (ms := ms) (show i < ms.length by omega)]
    simp
  · rintro ⟨i, hi, h⟩
    refine ⟨i, by rw [List.length_take]; omega, ?_⟩
    rw [← h, atM_eq (ms := ms.take k) (by rw [List.length_take]; omega), atM_eq (ms := ms) (show i < ms.length by omega)]
    simp

/-- The level of the mark ahead of the k-th. -/
def lastLev (ms : List Mk) : Nat → Int
  | 0 => 0
  | k + 1 => (atM ms k).lev
def followsB (prev : List Int) (m : Mk) : Bool := decide (litSort m.why = m.why) && decide (m.lit ∈ m.why) && m.why.all fun x => decide (x = m.lit) || decide (neg x ∈ prev)
/-- May the k-th mark be, behind the ones ahead of it? -/
def okAt (ms : List Mk) (k : Nat) : Bool :=
  let m := atM ms k
  decide (m.lit ≠ 0) && decide (m.lit ≠ MIN) && decide (m.lit ∉ litsOf (ms.take k)) && decide (neg m.lit ∉ litsOf (ms.take k)) && decide (lastLev ms k ≤ m.lev) &&
    !(decide (0 < m.lev) && (decide (lastLev ms k < m.lev) != decide (m.why = []))) && (decide (m.why = []) || followsB (litsOf (ms.take k)) m)
def rightN (ms : List Mk) (k : Nat) : Bool := (List.range k).all (okAt ms)
def rightB (ms : List Mk) : Bool := rightN ms ms.length
theorem all_range {f : Nat → Bool} {k : Nat} (h1 : (List.range k).all f = true) (h2 : f k = true) : (List.range (k + 1)).all f = true := by
  rw [List.range_succ, List.all_append, h1]
  simp [h2]
theorem all_range_no {f : Nat → Bool} {n k : Nat} (h : k < n) (h2 : f k = false) : (List.range n).all f = false := by
  rw [Bool.eq_false_iff]
  intro q
  rw [List.all_eq_true.1 q k (List.mem_range.2 h)] at h2
  cases h2

structure OkAt (ms : List Mk) (k : Nat) : Prop where
  nz : (atM ms k).lit ≠ 0
  nm : (atM ms k).lit ≠ MIN
  new : ∀ i, i < k → (atM ms i).lit ≠ (atM ms k).lit
  opp : ∀ i, i < k → (atM ms i).lit ≠ neg (atM ms k).lit
  lev : lastLev ms k ≤ (atM ms k).lev
  first : 0 < (atM ms k).lev → (lastLev ms k < (atM ms k).lev ↔ (atM ms k).why = [])
  sort : (atM ms k).why ≠ [] → litSort (atM ms k).why = (atM ms k).why
  own : (atM ms k).why ≠ [] → (atM ms k).lit ∈ (atM ms k).why
  ahead : (atM ms k).why ≠ [] → ∀ x ∈ (atM ms k).why, x ≠ (atM ms k).lit → ∃ i, i < k ∧ (atM ms i).lit = neg x
theorem ok_at {ms : List Mk} {k : Nat} (hk : k < ms.length) (h : okAt ms k = true) : OkAt ms k := by
  unfold okAt at h
  simp only [Bool.and_eq_true, Bool.or_eq_true, Bool.not_eq_true', decide_eq_true_eq] at h
  obtain ⟨⟨⟨⟨⟨⟨h1, h2⟩, h3⟩, h4⟩, h5⟩, h6⟩, h7⟩ := h
  rw [mem_lits_take (by omega)] at h3 h4
  have hw : (atM ms k).why ≠ [] → followsB (litsOf (ms.take k)) (atM ms k) = true := fun hne => h7.resolve_left hne
  refine ⟨h1, h2, fun i hi e => h3 ⟨i, hi, e⟩, fun i hi e => h4 ⟨i, hi, e⟩, h5, fun hl => ?_, fun hne => ?_, fun hne => ?_, fun hne x hx hxl => ?_⟩
  · rw [decide_eq_true hl, Bool.true_and] at h6
    have : decide (lastLev ms k < (atM ms k).lev) = decide ((atM ms k).why = []) := by simpa using h6
    exact decide_eq_decide.1 this
  · have := hw hne
    unfold followsB at this
    simp only [Bool.and_eq_true, decide_eq_true_eq] at this
    exact this.1.1
  · have := hw hne
    unfold followsB at this
    simp only [Bool.and_eq_true, decide_eq_true_eq] at this
    exact this.1.2
  · have := hw hne
    unfold followsB at this
    simp only [Bool.and_eq_true, decide_eq_true_eq] at this
    have h8 := List.all_eq_true.1 this.2 x hx
    simp only [Bool.or_eq_true, decide_eq_true_eq] at h8
    exact (mem_lits_take (by omega)).1 (h8.resolve_left hxl)
theorem right_at {ms : List Mk} (h : rightB ms = true) {k : Nat} (hk : k < ms.length) : OkAt ms k := ok_at hk (List.all_eq_true.1 h k (List.mem_range.2 hk))
theorem right_lit {ms : List Mk} (h : rightB ms = true) {i j : Nat} (hi : i < ms.length) (hj : j < ms.length) (e : (atM ms i).lit = (atM ms j).lit) : i = j := by
  rcases Nat.lt_trichotomy i j with q | q | q
  · exact absurd e ((right_at h hj).new i q)
  · exact q
  · exact absurd e.symm ((right_at h hi).new j q)
theorem right_nomin {ms : List Mk} (h : rightB ms = true) : MIN ∉ litsOf ms := by
  rw [mem_lits]
  rintro ⟨i, hi, e⟩
  exact (right_at h hi).nm e
theorem right_nomin_take {ms : List Mk} {k : Nat} (hk : k ≤ ms.length) (h : rightN ms k = true) : MIN ∉ litsOf (ms.take k) := by
  rw [mem_lits_take hk]
  rintro ⟨i, hi, e⟩
  exact (ok_at (show i < ms.length by omega) (List.all_eq_true.1 h i (List.mem_range.2 hi))).nm e
theorem right_mono {ms : List Mk} (h : rightB ms = true) : ∀ {j : Nat}, j < ms.length → 0 ≤ (atM ms j).lev ∧ ∀ i, i ≤ j → (atM ms i).lev ≤ (atM ms j).lev
  | 0, hj => by
    have := (right_at h hj).lev
    exact ⟨this, fun i hi => by rw [show i = 0 by omega]; exact Int.le_refl _⟩
  | j + 1, hj => by
    obtain ⟨h1, h2⟩ := right_mono h (show j < ms.length by omega)
    have h3 := (right_at h hj).lev
    have h4 : lastLev ms (j + 1) = (atM ms j).lev := rfl
    rw [h4] at h3
    refine ⟨by omega, fun i hi => ?_⟩
    by_cases e : i = j + 1
    · rw [e]; exact Int.le_refl _
    · have := h2 i (by omega); omega

/-! ### Places -/
def placeF (ms : List Mk) : Nat → Int → Option Int
  | 0, _ => none
  | k + 1, n => if n = (atM ms k).lit then some (k : Int) else placeF ms k n
theorem place_some {ms : List Mk} : ∀ {k : Nat} {n v : Int}, placeF ms k n = some v → ∃ i : Nat, i < k ∧ v = i ∧ (atM ms i).lit = n
  | 0, n, v, h => by cases h
  | k + 1, n, v, h => by
    unfold placeF at h
    split at h
    · rename_i e
      cases h
      exact ⟨k, by omega, rfl, e.symm⟩
    · obtain ⟨i, h1, h2, h3⟩ := place_some h
      exact ⟨i, by omega, h2, h3⟩
theorem place_none {ms : List Mk} : ∀ {k : Nat} {n : Int}, placeF ms k n = none ↔ ∀ i, i < k → (atM ms i).lit ≠ n
  | 0, n => ⟨fun _ i hi => by omega, fun _ => rfl⟩
  | k + 1, n => by
    unfold placeF
    split
    · rename_i e
      refine ⟨fun h => (by cases h), fun h => absurd e.symm (h k (by omega))⟩
    · rename_i e
      rw [place_none]
      refine ⟨fun h i hi => ?_, fun h i hi => h i (by omega)⟩
      by_cases hik : i = k
      · subst hik; exact fun q => e q.symm
      · exact h i (by omega)
theorem place_has {ms : List Mk} {n : Int} : (placeF ms ms.length n).isSome = decide (n ∈ litsOf ms) := by
  rw [Bool.eq_iff_iff, decide_eq_true_eq, mem_lits]
  cases h : placeF ms ms.length n with
  | none =>
    rw [place_none] at h
    refine ⟨fun q => (by cases q), fun ⟨i, hi, e⟩ => absurd e (h i hi)⟩
  | some v =>
    obtain ⟨i, h1, _, h3⟩ := place_some h
    exact ⟨fun _ => ⟨i, h1, h3⟩, fun _ => rfl⟩
/-- The place of the mark that makes a literal false. -/
def posI (ms : List Mk) (x : Int) : Int := (placeF ms ms.length (neg x)).getD 0
theorem pos_at {ms : List Mk} {x : Int} (h : neg x ∈ litsOf ms) : ∃ i : Nat, i < ms.length ∧ posI ms x = i ∧ (atM ms i).lit = neg x := by
  unfold posI
  cases hp : placeF ms ms.length (neg x) with
  | none =>
    rw [place_none] at hp
    obtain ⟨i, hi, e⟩ := mem_lits.1 h
    exact absurd e (hp i hi)
  | some v =>
    obtain ⟨i, h1, rfl, h3⟩ := place_some hp
    exact ⟨i, h1, rfl, h3⟩
theorem pos_of {ms : List Mk} (hr : rightB ms = true) {x : Int} {i : Nat} (hi : i < ms.length) (e : (atM ms i).lit = neg x) : posI ms x = i := by
  obtain ⟨j, hj, h1, h2⟩ := pos_at (mem_lits.2 ⟨i, hi, e⟩)
  rw [h1, right_lit hr hj hi (h2.trans e.symm)]
def levAt (ms : List Mk) (p : Int) : Int := (atM ms p.toNat).lev

/-! ### False clauses -/
def falseB (ms : List Mk) (cl : List Int) : Bool := rightB ms && (litSort cl).all fun x => decide (neg x ∈ litsOf ms)
/-- A sorted clause, all of it false. -/
structure Fal (ms : List Mk) (c : List Int) : Prop where
  right : rightB ms = true
  asc : Asc c
  nz : (0 : Int) ∉ c
  r64 : ∀ x ∈ c, R64 x
  out : ∀ x ∈ c, neg x ∈ litsOf ms
theorem fal_of {ms : List Mk} {cl : List Int} (hr : ∀ x ∈ cl, R64 x) (h : falseB ms cl = true) : Fal ms (litSort cl) := by
  unfold falseB at h
  rw [Bool.and_eq_true] at h
  refine ⟨h.1, sort_asc _, fun q => (sort_mem.1 q).2 rfl, fun x hx => hr x (sort_mem.1 hx).1, fun x hx => ?_⟩
  simpa using List.all_eq_true.1 h.2 x hx
theorem Fal.sorted {ms : List Mk} {c : List Int} (h : Fal ms c) : litSort c = c := sort_sorted h.asc h.nz
theorem Fal.false {ms : List Mk} {c : List Int} (h : Fal ms c) : falseB ms c = true := by
  unfold falseB
  rw [h.right, h.sorted, Bool.true_and, List.all_eq_true]
  exact fun x hx => decide_eq_true (h.out x hx)
theorem Fal.pos {ms : List Mk} {c : List Int} (h : Fal ms c) {x : Int} (hx : x ∈ c) : ∃ i : Nat, i < ms.length ∧ posI ms x = i ∧ (atM ms i).lit = neg x ∧ x = neg (atM ms i).lit := by
  obtain ⟨i, h1, h2, h3⟩ := pos_at (h.out x hx)
  exact ⟨i, h1, h2, h3, by rw [h3, neg_neg (h.r64 x hx)]⟩
theorem Fal.inj {ms : List Mk} {c : List Int} (h : Fal ms c) {x y : Int} (hx : x ∈ c) (hy : y ∈ c) (e : posI ms x = posI ms y) : x = y := by
  obtain ⟨i, _, h1, _, h2⟩ := h.pos hx
  obtain ⟨j, _, h3, _, h4⟩ := h.pos hy
  have : i = j := by omega
  rw [h2, h4, this]
theorem Fal.nomin {ms : List Mk} {c : List Int} (h : Fal ms c) {x : Int} (hx : x ∈ c) : x ≠ MIN := by
  intro e
  have := h.out x hx
  rw [e, neg_min] at this
  exact right_nomin h.right this

/-! ### The latest literal, and the level to go back to -/
def latestP (ms : List Mk) (c : List Int) : Int := c.foldl (fun b x => max b (posI ms x)) (-1)
def backStep (ms : List Mk) (last : Int) (b x : Int) : Int := if posI ms x = last then b else max b (levAt ms (posI ms x))
def backP (ms : List Mk) (c : List Int) : Int := c.foldl (backStep ms (latestP ms c)) 0
theorem foldl_snoc {α β : Type} {f : β → α → β} {b : β} {xs : List α} {k : Nat} (hk : k < xs.length) : (xs.take (k + 1)).foldl f b = f ((xs.take k).foldl f b) xs[k] := by
  rw [List.take_succ_eq_append_getElem hk, List.foldl_append]
  rfl
theorem fold_max (f : Int → Int) : ∀ (c : List Int) (b : Int), b ≤ c.foldl (fun b x => max b (f x)) b ∧ (∀ x ∈ c, f x ≤ c.foldl (fun b x => max b (f x)) b) ∧ (c.foldl (fun b x => max b (f x)) b = b ∨ ∃ x ∈ c, f x = c.foldl (fun b x => max b (f x)) b)
  | [], b => ⟨Int.le_refl _, fun x hx => (by cases hx), .inl rfl⟩
  | y :: c, b => by
    obtain ⟨h1, h2, h3⟩ := fold_max f c (max b (f y))
    refine ⟨by rw [List.foldl_cons]; omega, fun x hx => ?_, ?_⟩
    · rw [List.foldl_cons]
      rcases List.mem_cons.1 hx with rfl | hx
      · omega
      · exact h2 x hx
    · rw [List.foldl_cons]
      rcases h3 with h3 | ⟨x, hx, h3⟩
      · rw [h3]
        by_cases q : b ≤ f y
        · exact .inr ⟨y, .head _, by omega⟩
        · exact .inl (by omega)
      · exact .inr ⟨x, .tail _ hx, h3⟩
theorem latest_ge {ms : List Mk} {c : List Int} {x : Int} (hx : x ∈ c) : posI ms x ≤ latestP ms c := (fold_max (posI ms) c (-1)).2.1 x hx
theorem latest_nil {ms : List Mk} : latestP ms [] = -1 := rfl
theorem pos_nonneg {ms : List Mk} {c : List Int} (h : Fal ms c) {x : Int} (hx : x ∈ c) : 0 ≤ posI ms x := by
  obtain ⟨i, _, h1, _⟩ := h.pos hx
  omega
theorem latest_mem {ms : List Mk} {c : List Int} (h : Fal ms c) (hc : c ≠ []) : ∃ x ∈ c, posI ms x = latestP ms c := by
  rcases (fold_max (posI ms) c (-1)).2.2 with q | q
  · obtain ⟨x, hx⟩ := List.exists_mem_of_ne_nil c hc
    have h1 := latest_ge (ms := ms) hx
    have h2 := pos_nonneg h hx
    unfold latestP at h1
    omega
  · exact q
theorem latest_neg {ms : List Mk} {c : List Int} (h : Fal ms c) : latestP ms c < 0 ↔ c = [] := by
  constructor
  · intro q
    apply Classical.byContradiction
    intro hc
    obtain ⟨x, hx, e⟩ := latest_mem h hc
    have := pos_nonneg h hx
    omega
  · rintro rfl
    rw [latest_nil]
    omega
theorem back_fold (ms : List Mk) (last : Int) : ∀ (c : List Int) (b : Int), b ≤ c.foldl (backStep ms last) b ∧ (∀ x ∈ c, posI ms x ≠ last → levAt ms (posI ms x) ≤ c.foldl (backStep ms last) b) ∧ (c.foldl (backStep ms last) b = b ∨ ∃ x ∈ c, posI ms x ≠ last ∧ levAt ms (posI ms x) = c.foldl (backStep ms last) b)
  | [], b => ⟨Int.le_refl _, fun x hx => (by cases hx), .inl rfl⟩
  | y :: c, b => by
    obtain ⟨h1, h2, h3⟩ := back_fold ms last c (backStep ms last b y)
    have hs : b ≤ backStep ms last b y := by unfold backStep; split <;> omega
    refine ⟨by rw [List.foldl_cons]; omega, fun x hx hne => ?_, ?_⟩
    · rw [List.foldl_cons]
      rcases List.mem_cons.1 hx with rfl | hx
      · have : levAt ms (posI ms x) ≤ backStep ms last b x := by unfold backStep; rw [if_neg hne]; omega
        omega
      · exact h2 x hx hne
    · rw [List.foldl_cons]
      rcases h3 with h3 | ⟨x, hx, h3, h4⟩
      · rw [h3]
        unfold backStep
        split
        · exact .inl rfl
        · rename_i hne
          by_cases q : b ≤ levAt ms (posI ms y)
          · exact .inr ⟨y, .head _, hne, by omega⟩
          · exact .inl (by omega)
      · exact .inr ⟨x, .tail _ hx, h3, h4⟩
theorem back_nonneg {ms : List Mk} {c : List Int} : 0 ≤ backP ms c := (back_fold ms (latestP ms c) c 0).1
theorem back_ge {ms : List Mk} {c : List Int} {x : Int} (hx : x ∈ c) (hne : posI ms x ≠ latestP ms c) : levAt ms (posI ms x) ≤ backP ms c := (back_fold ms (latestP ms c) c 0).2.1 x hx hne
theorem back_mem {ms : List Mk} {c : List Int} : backP ms c = 0 ∨ ∃ x ∈ c, posI ms x ≠ latestP ms c ∧ levAt ms (posI ms x) = backP ms c := (back_fold ms (latestP ms c) c 0).2.2
theorem lev_mono {ms : List Mk} (h : rightB ms = true) {i j : Nat} (hij : i ≤ j) (hj : j < ms.length) : levAt ms i ≤ levAt ms j := by
  unfold levAt
  rw [Int.toNat_natCast, Int.toNat_natCast]
  exact (right_mono h hj).2 i hij
theorem lev_nonneg {ms : List Mk} (h : rightB ms = true) {j : Nat} (hj : j < ms.length) : 0 ≤ levAt ms j := by
  unfold levAt
  rw [Int.toNat_natCast]
  exact (right_mono h hj).1

/-! ### Resolving -/
def resOk (a b : List Int) (l : Int) : Bool := decide (l ≠ 0) && decide (l ≠ MIN) && decide (l ∈ a) && decide (neg l ∈ b)
def resP (a b : List Int) (l : Int) : List Int := litSort (a.filter (fun x => decide (x ≠ l)) ++ b.filter (fun x => decide (x ≠ neg l)))
theorem res_mem {a b : List Int} {l n : Int} : n ∈ resP a b l ↔ ((n ∈ a ∧ n ≠ l) ∨ (n ∈ b ∧ n ≠ neg l)) ∧ n ≠ 0 := by
  unfold resP
  rw [sort_mem, List.mem_append, List.mem_filter, List.mem_filter]
  simp

/-! ### Learning -/
def stopB (ms : List Mk) (c : List Int) : Bool := decide (latestP ms c < 0) || decide (levAt ms (latestP ms c) = 0) || decide (backP ms c < levAt ms (latestP ms c))
def lastMk (ms : List Mk) (c : List Int) : Mk := atM ms (latestP ms c).toNat
def stepP (ms : List Mk) (c : List Int) : List Int := resP c (lastMk ms c).why (neg (lastMk ms c).lit)
def learnP (ms : List Mk) : Nat → List Int → Option (List Int)
  | 0, _ => none
  | f + 1, c => if stopB ms c = true then some c else learnP ms f (stepP ms c)
structure MsOk (ms : List Mk) : Prop where
  lit : ∀ i, i < ms.length → R64 (atM ms i).lit
  why : ∀ i, i < ms.length → ∀ x ∈ (atM ms i).why, R64 x
/-- What a step finds: the latest literal's mark has a reason. -/
theorem step_at {ms : List Mk} {c : List Int} (hm : MsOk ms) (h : Fal ms c) (hs : stopB ms c = false) :
    ∃ k : Nat, k < ms.length ∧ latestP ms c = k ∧ neg (atM ms k).lit ∈ c ∧ (atM ms k).why ≠ [] ∧ resOk c (atM ms k).why (neg (atM ms k).lit) = true ∧ ∃ y ∈ c, posI ms y < k ∧ levAt ms (posI ms y) = levAt ms k ∧ 0 < levAt ms k := by
  unfold stopB at hs
  simp only [Bool.or_eq_false_iff, decide_eq_false_iff_not] at hs
  obtain ⟨⟨h1, h2⟩, h3⟩ := hs
  have hc : c ≠ [] := fun e => h1 ((latest_neg h).2 e)
  obtain ⟨x, hx, e⟩ := latest_mem h hc
  obtain ⟨k, hk, h4, h5, h6⟩ := h.pos hx
  have hlk : latestP ms c = k := by omega
  rw [hlk] at h2 h3
  have hpos : 0 < levAt ms k := by have := lev_nonneg h.right hk; omega
  rcases back_mem (ms := ms) (c := c) with q | ⟨y, hy, h7, h8⟩
  · omega
  · obtain ⟨j, hj, h9, h10, h11⟩ := h.pos hy
    have hge := latest_ge (ms := ms) hy
    have hjk : j < k := by omega
    have hle := lev_mono h.right (Nat.le_of_lt hjk) hk
    rw [h9] at h8
    have hlev : levAt ms j = levAt ms k := by omega
    have hok := right_at h.right hk
    have hne : (atM ms k).why ≠ [] := by
      have h12 : 0 < (atM ms k).lev := by unfold levAt at hpos; rwa [Int.toNat_natCast] at hpos
      intro e0
      have h13 := (hok.first h12).2 e0
      have h14 : lastLev ms k = (atM ms (k - 1)).lev := by
        obtain ⟨k', rfl⟩ : ∃ k', k = k' + 1 := ⟨k - 1, by omega⟩
        rfl
      have h15 := lev_mono h.right (show j ≤ k - 1 by omega) (show k - 1 < ms.length by omega)
      unfold levAt at hlev h15
      rw [Int.toNat_natCast, Int.toNat_natCast] at hlev h15
      omega
    refine ⟨k, hk, hlk, by rw [← h6]; exact hx, hne, ?_, y, hy, by omega, by rw [h9]; exact hlev, hpos⟩
    unfold resOk
    rw [← h6]
    have hr := h.r64 x hx
    rw [← h5]
    simp only [Bool.and_eq_true, decide_eq_true_eq]
    exact ⟨⟨⟨fun e0 => h.nz (e0 ▸ hx), h.nomin hx⟩, hx⟩, hok.own hne⟩
theorem step_fal {ms : List Mk} {c : List Int} (hm : MsOk ms) (h : Fal ms c) (hs : stopB ms c = false) : Fal ms (stepP ms c) ∧ latestP ms (stepP ms c) < latestP ms c := by
  obtain ⟨k, hk, hlk, hin, hne, hres, _⟩ := step_at hm h hs
  have hlm : lastMk ms c = atM ms k := by unfold lastMk; rw [hlk, Int.toNat_natCast]
  have hok := right_at h.right hk
  have hmem : ∀ n ∈ stepP ms c, (n ∈ c ∧ n ≠ neg (atM ms k).lit) ∨ (n ∈ (atM ms k).why ∧ n ≠ (atM ms k).lit) := by
    intro n hn
    unfold stepP at hn
    rw [hlm, res_mem, neg_neg (hm.lit k hk)] at hn
    exact hn.1
  have hpos : ∀ n ∈ stepP ms c, R64 n ∧ ∃ i : Nat, i < k ∧ (atM ms i).lit = neg n := by
    intro n hn
    rcases hmem n hn with ⟨h1, h2⟩ | ⟨h1, h2⟩
    · obtain ⟨i, hi, h3, h4, h5⟩ := h.pos h1
      have := latest_ge (ms := ms) h1
      refine ⟨h.r64 n h1, i, ?_, h4⟩
      have hik : i ≠ k := fun e => h2 (by rw [← e]; exact h5)
      omega
    · exact ⟨hm.why k hk n h1, hok.ahead hne n h1 h2⟩
  have hf : Fal ms (stepP ms c) := by
    refine ⟨h.right, sort_asc _, fun q => (res_mem.1 q).2 rfl, fun n hn => (hpos n hn).1, fun n hn => ?_⟩
    obtain ⟨_, i, hi, e⟩ := hpos n hn
    exact mem_lits.2 ⟨i, by omega, e⟩
  refine ⟨hf, ?_⟩
  by_cases hc : stepP ms c = []
  · rw [hc, latest_nil, hlk]; omega
  · obtain ⟨x, hx, e⟩ := latest_mem hf hc
    obtain ⟨_, i, hi, e2⟩ := hpos x hx
    have := pos_of h.right (show i < ms.length by omega) e2
    omega
theorem learn_ends {ms : List Mk} (hm : MsOk ms) : ∀ (f : Nat) (c : List Int), Fal ms c → latestP ms c + 1 < f → ∃ r, learnP ms f c = some r
  | 0, c, h, hf => by
    have := (fold_max (posI ms) c (-1)).1
    unfold latestP at hf
    omega
  | f + 1, c, h, hf => by
    unfold learnP
    cases hs : stopB ms c with
    | true => exact ⟨c, rfl⟩
    | false =>
      obtain ⟨h1, h2⟩ := step_fal hm h hs
      have := learn_ends hm f (stepP ms c) h1 (by omega)
      simpa using this
theorem learn_fal {ms : List Mk} (hm : MsOk ms) : ∀ (f : Nat) (c r : List Int), Fal ms c → learnP ms f c = some r → Fal ms r ∧ stopB ms r = true
  | 0, c, r, h, e => by cases e
  | f + 1, c, r, h, e => by
    unfold learnP at e
    cases hs : stopB ms c with
    | true =>
      rw [hs] at e
      cases e
      exact ⟨h, hs⟩
    | false =>
      rw [hs] at e
      exact learn_fal hm f (stepP ms c) r (step_fal hm h hs).1 e
theorem latest_lt {ms : List Mk} {c : List Int} (h : Fal ms c) : latestP ms c < ms.length := by
  by_cases hc : c = []
  · subst hc
    rw [latest_nil]
    omega
  · obtain ⟨x, hx, e⟩ := latest_mem h hc
    obtain ⟨i, hi, h1, _⟩ := h.pos hx
    omega
end Go.Proofs.Ythnjjonjhenifaa

/- Marks, as a world holds them; the walks of few, turned and places. -/
namespace Go.Proofs.Ythnjjonjhenifaa
set_option linter.unusedVariables false
set_option linter.unusedSimpArgs false
open Go.RowKit

/-- The marks behind an address, all in blocks below B. -/
def MarksAt (B : Nat) (w : World) (A : Option Addr) (ms : List Mk) : Prop :=
  ∀ i, i < ms.length → ∃ ad A' c', A = some ad ∧ ad.block < B ∧ w.cell? (ad.add (i * 3)) = some (.int .i64 (atM ms i).lit) ∧
    w.cell? ⟨(ad.add (i * 3)).block, (ad.add (i * 3)).off + 1, none⟩ = some (.int .i64 (atM ms i).lev) ∧
    w.cell? ⟨(ad.add (i * 3)).block, (ad.add (i * 3)).off + 2, none⟩ = some (.slice A' (atM ms i).why.length c') ∧ (atM ms i).why.length ≤ c' ∧ IntsAt B w A' (atM ms i).why
section
variable {B B' : Nat} {w w' : World} {A : Option Addr} {ms : List Mk}
theorem MarksAt.mono (h : MarksAt B w A ms) (hB : B ≤ B') : MarksAt B' w A ms := fun i hi =>
  let ⟨ad, A', c', e, hb, h1, h2, h3, hl, hi'⟩ := h i hi; ⟨ad, A', c', e, Nat.lt_of_lt_of_le hb hB, h1, h2, h3, hl, hi'.mono hB⟩
theorem MarksAt.later (h : MarksAt B w A ms) (hb : Below w.heap.size w w') : MarksAt B w' A ms := fun i hi =>
  let ⟨ad, A', c', e, hb', h1, h2, h3, hl, hi'⟩ := h i hi
  ⟨ad, A', c', e, hb', by rw [← h1]; exact World.cell?_of_block (hb.block _ (cell_lt h1)), by rw [← h2]; exact World.cell?_of_block (hb.block _ (cell_lt h2)), by rw [← h3]; exact World.cell?_of_block (hb.block _ (cell_lt h3)), hl, hi'.later hb⟩
theorem MarksAt.now (h : MarksAt B w A ms) : MarksAt w.heap.size w A ms := fun i hi =>
  let ⟨ad, A', c', e, hb', h1, h2, h3, hl, hi'⟩ := h i hi
  ⟨ad, A', c', e, by have := cell_lt h1; rwa [add_block] at this, h1, h2, h3, hl, hi'.now⟩
end
theorem cell_later {w w' : World} {a : Addr} {v : Value} (h : w.cell? a = some v) (hb : Below w.heap.size w w') : w'.cell? a = some v := (World.cell?_of_block (hb.block _ (cell_lt h))).trans h
theorem cell_one {w : World} {b e : Nat} {v : Value} (h : w.heap[b]? = some (.cells #[v] e (0, 0))) : w.cell? ⟨b, 0, none⟩ = some v := by simp [World.cell?, h]

def fewB (ms : List Mk) (n : Nat) : Bool := decide (ms.length ≤ 24) && decide (n ≤ 24) && ms.all fun m => decide (m.why.length ≤ 24)
theorem all_take {α : Type} {p : α → Bool} {xs : List α} {k : Nat} (hk : k < xs.length) (h : (xs.take k).all p = true) (hx : p xs[k] = true) : (xs.take (k + 1)).all p = true := by
  rw [List.take_succ_eq_append_getElem hk, List.all_append, h]
  simp [hx]
theorem all_fails {α : Type} {p : α → Bool} {xs : List α} {k : Nat} (hk : k < xs.length) (hx : p xs[k] = false) : xs.all p = false := by
  rw [Bool.eq_false_iff]
  intro h
  rw [List.all_eq_true.1 h _ (List.getElem_mem hk)] at hx
  cases hx
theorem few_bounds {ms : List Mk} {n : Nat} (h : fewB ms n = true) : ms.length ≤ 24 ∧ n ≤ 24 ∧ ∀ i, i < ms.length → (atM ms i).why.length ≤ 24 := by
  unfold fewB at h
  rw [Bool.and_eq_true, Bool.and_eq_true, decide_eq_true_eq, decide_eq_true_eq] at h
  refine ⟨h.1.1, h.1.2, fun i hi => ?_⟩
  rw [atM_eq hi]
  simpa using List.all_eq_true.1 h.2 _ (List.getElem_mem hi)

set_option maxHeartbeats 400000 in
theorem few_any {B : Nat} {A A2 : Option Addr} {ms : List Mk} {n : Nat} {q : Bool} (c c2 : Nat) (w : World) (hM : MarksAt B w A ms) (hq : fewB ms n = q) :
    Calls Try.prog 10 #[.slice A ms.length c, .slice A2 n c2] w fun e w' => e = .returned (.bool q) ∧ w = w' := by
  have HM := Lib.hid hM
  have HQ := Lib.hid hq
  clear hM hq
  by_cases h1 : ms.length ≤ 24
  · by_cases h2 : n ≤ 24
    · have h1' : ¬ (24 : Int) < (ms.length : Int) := by omega
      have h2' : ¬ (24 : Int) < (n : Int) := by omega
      have HQ2 : Hid ((ms.all fun m => decide (m.why.length ≤ 24)) = q) := by show _ = _; rw [← HQ.out]; unfold fewB; rw [decide_eq_true h1, decide_eq_true h2]; rfl
      go_enter Try.func10, Try.ntmps10
      go_wp2
      go_loop [5] (fun i => ∃ k : Nat, k ≤ ms.length ∧ i = .int .i64 (k : Nat) ∧ Hid ((ms.take k).all (fun m => decide (m.why.length ≤ 24)) = true)) (fun i => ms.length - (intOf i).toNat)
      case atStart => exact ⟨0, Nat.zero_le _, rfl, by show _ = _; simp⟩
      case round =>
        obtain ⟨k, hk, rfl, HA⟩ := hrel
        by_cases hlt : k < ms.length
        · obtain ⟨ad, A', c', rfl, _, _, _, h3, _, _⟩ := HM.out k hlt
          have HE := Lib.hid (atM_eq hlt)
          obtain ⟨y, hy⟩ : ∃ y, y = (atM ms k).why := ⟨_, rfl⟩
          rw [← hy] at h3
          have HY := Lib.hid hy
          clear hy
          by_cases h24 : y.length ≤ 24
          · have h24' : ¬ (24 : Int) < (y.length : Int) := by omega
            have HA' : Hid ((ms.take (k + 1)).all (fun m => decide (m.why.length ≤ 24)) = true) := all_take hlt HA.out (by rw [← HE.out, ← HY.out]; exact decide_eq_true h24)
            go_wp2
            go_round
            case rel => exact ⟨k + 1, by omega, by go_num, HA'⟩
            case measure => simp [intOf]; omega
          · have h24' : (24 : Int) < (y.length : Int) := by omega
            have HF : Hid (q = false) := by
              show _ = _
              rw [← HQ2.out]
              exact all_fails hlt (by rw [← HE.out, ← HY.out]; exact decide_eq_false h24)
            go_wp2
            go_ret
            exact ⟨ret_bool HF.out.symm, rfl⟩
        · have HT : Hid (q = true) := by
            show _ = _
            rw [← HQ2.out]
            have := HA.out
            rwa [List.take_of_length_le (by omega)] at this
          go_wp2
          go_ret
          exact ⟨ret_bool HT.out.symm, rfl⟩
    · have h1' : ¬ (24 : Int) < (ms.length : Int) := by omega
      have h2' : (24 : Int) < (n : Int) := by omega
      have HF : Hid (q = false) := by show _ = _; rw [← HQ.out]; unfold fewB; rw [decide_eq_false h2, Bool.and_false]; rfl
      go_enter Try.func10, Try.ntmps10
      go_wp2
      go_ret
      exact ⟨ret_bool HF.out.symm, rfl⟩
  · have h1' : (24 : Int) < (ms.length : Int) := by omega
    have HF : Hid (q = false) := by show _ = _; rw [← HQ.out]; unfold fewB; rw [decide_eq_false h1]; rfl
    go_enter Try.func10, Try.ntmps10
    go_wp2
    go_ret
    exact ⟨ret_bool HF.out.symm, rfl⟩

/-- The other literals, turned. -/
def turnP (why : List Int) (but : Int) : List Int := (why.filter fun x => decide (x ≠ but)).map neg
theorem turn_snoc {why : List Int} {but : Int} {k : Nat} (hk : k < why.length) : turnP (why.take (k + 1)) but = if why[k] = but then turnP (why.take k) but else turnP (why.take k) but ++ [neg why[k]] := by
  unfold turnP
  rw [List.take_succ_eq_append_getElem hk, List.filter_append, List.map_append]
  by_cases h : why[k] = but
  · simp [h]
  · simp [h]
set_option maxHeartbeats 400000 in
theorem turned_any {B : Nat} {A : Option Addr} {why : List Int} {n : Nat} (but : Int) (c : Nat) (w : World) (hI : IntsAt B w A why) (hn : why.length = n) (hb : n ≤ 1000000) :
    Calls Try.prog 60 #[.slice A n c, .int .i64 but] w fun e w' => ∃ A' c', e = .returned (.slice A' (turnP why but).length c') ∧ IntsAt w'.heap.size w' A' (turnP why but) ∧ Below w.heap.size w w' := by
  subst hn
  have HI := Lib.hid hI.now
  clear hI
  go_enter Try.func60, Try.ntmps60
  go_wp2
  have HO0 : Hid (w.ownsRow w.heap.size 3 1 (.slice none 0 0) (turnP (why.take 0) but).length (ints (turnP (why.take 0) but))) := by
    show World.ownsRow _ _ _ _ _ _ _
    simpa [turnP, ints] using World.ownsRow_nil w w.heap.size 3 1
  go_loopw [5, 10] (fun o i wr => ∃ (k : Nat) (vo : Value) (wk : World), vo = o ∧ wk = wr ∧ k ≤ why.length ∧ i = .int .i64 (k : Nat) ∧ Hid (wk.ownsRow w.heap.size 3 1 vo (turnP (why.take k) but).length (ints (turnP (why.take k) but))) ∧ Hid (Below w.heap.size w wk)) (fun _ i _ => why.length - (intOf i).toNat)
  case atStart => exact ⟨0, _, _, rfl, rfl, Nat.zero_le _, rfl, HO0, Below.refl _ _⟩
  case round =>
    clear HO0
    obtain ⟨k, vo, wk, rfl, rfl, hk, rfl, HO, HB⟩ := hrel
    by_cases hlt : k < why.length
    · obtain ⟨ad, rfl, hx⟩ := (HI.out.later HB.out).cell k hlt
      have HS := Lib.hid (turn_snoc (but := but) hlt)
      obtain ⟨x, hxe⟩ : ∃ x, x = why[k] := ⟨_, rfl⟩
      rw [← hxe] at hx HS
      obtain ⟨T, hT⟩ : ∃ T, T = turnP (why.take k) but := ⟨_, rfl⟩
      rw [← hT] at HO HS
      have hTl : T.length ≤ 1000000 := by
        rw [hT]
        unfold turnP
        rw [List.length_map]
        have := List.length_filter_le (fun x => decide (x ≠ but)) (why.take k)
        rw [List.length_take] at this
        omega
      clear hxe hT
      by_cases he : x = but
      · have hne : (x != but) = false := by simp [he]
        have HO' : Hid (wk.ownsRow w.heap.size 3 1 vo (turnP (why.take (k + 1)) but).length (ints (turnP (why.take (k + 1)) but))) := by show World.ownsRow _ _ _ _ _ _ _; rw [HS.out, if_pos he]; exact HO.out
        clear he
        go_wp2
        go_roundw
        case rel => exact ⟨k + 1, _, _, rfl, rfl, by omega, by go_num, HO', HB⟩
        case measure => simp [intOf]; omega
      · have hne : (x != but) = true := by simp [he]
        obtain ⟨g1, cap1, w1, hap, hown, hgr⟩ := app_ints (ty := 23) Try.underlying23 info_int HO.out (wrap64 (-x)) (by omega) HB.out.size
        have HAP := Lib.hid hap
        have HO' : Hid (w1.ownsRow w.heap.size 3 1 (.slice (some ⟨g1, 0, none⟩) (T.length + 1) cap1) (turnP (why.take (k + 1)) but).length (ints (turnP (why.take (k + 1)) but))) := by show World.ownsRow _ _ _ _ _ _ _; rw [HS.out, if_neg he]; exact hown
        have HB' := Lib.hid (below_grown HB.out hgr HB.out.size (own_ge HO.out))
        clear he hap hown hgr
        go_wp2_with (at_builtin; refine wpList_append_run rfl _ _ 23 rfl rfl rfl HAP.out ?_)
        go_roundw
        case rel => exact ⟨k + 1, _, _, rfl, rfl, by omega, by go_num, HO', HB'⟩
        case measure => simp [intOf]; omega
    · have hf := HO.out
      rw [List.take_of_length_le (show why.length ≤ k by omega)] at hf
      obtain ⟨Ao, co, rfl⟩ := own_slice hf
      obtain ⟨A9, c9, e9, _, hi9⟩ := Ints.of_own hf
      cases e9
      have HI9 := Lib.hid hi9
      clear hf hi9 HO
      go_wp2
      go_ret
      exact ⟨Ao, co, rfl, HI9.out, HB.out⟩

/-! ### Places -/
def mapF (g : Int → Option Int) : Int → Option Value := fun k => (g k).map (.int .i64)
theorem look_map {w : World} {b : Nat} {g : Int → Option Int} (h : MapV w b (mapF g)) (n : Int) : (Instr.lookup 47 (.map (some b)) (.int .i64 n) true).run Try.prog w = .ok (.tuple #[.int .i64 ((g n).getD 0), .bool (g n).isSome]) w := by
  have := h.run_lookup Try.underlying47 Try.underlying3 (z := .int .i64 0) (by kernel_rfl) n true
  rw [this]
  unfold mapF
  cases g n <;> rfl
theorem look_map1 {w : World} {b : Nat} {g : Int → Option Int} (h : MapV w b (mapF g)) (n : Int) : (Instr.lookup 47 (.map (some b)) (.int .i64 n) false).run Try.prog w = .ok (.int .i64 ((g n).getD 0)) w := by
  have := h.run_lookup Try.underlying47 Try.underlying3 (z := .int .i64 0) (by kernel_rfl) n false
  rw [this]
  unfold mapF
  cases g n <;> rfl
theorem upd_place {ms : List Mk} {k : Nat} : upd (mapF (placeF ms k)) (atM ms k).lit (some (.int .i64 (k : Nat))) = mapF (placeF ms (k + 1)) := by
  funext n
  unfold upd mapF
  rw [placeF]
  split <;> rfl
theorem made_map (w : World) (ms : List Mk) : MapV (w.alloc (.map #[] 0)) w.heap.size (mapF (placeF ms 0)) := MapV.made w
def PlacePost (ms : List Mk) (w : World) (e : Ending) (w' : World) : Prop := ∃ m, e = .returned (.map (some m)) ∧ w.heap.size ≤ m ∧ MapV w' m (mapF (placeF ms ms.length)) ∧ Below w.heap.size w w'
set_option maxHeartbeats 600000 in
theorem places_any {A : Option Addr} {ms : List Mk} (c : Nat) (w : World) (hM : MarksAt w.heap.size w A ms) (hl : ms.length ≤ 1000000) : Calls Try.prog 33 #[.slice A ms.length c] w (PlacePost ms w) := by
  have HM := Lib.hid hM
  have hmm := @run_makeMap Try.prog
  have HV0 : Hid (MapV (w.alloc (.map #[] 0)) w.heap.size (mapF (placeF ms 0))) := made_map w ms
  have HB0 : Hid (Below w.heap.size w (w.alloc (.map #[] 0))) := alloc_below _ _
  clear hM
  go_enter Try.func33, Try.ntmps33
  go_wp2
  go_loopw [9] (fun i wr => ∃ (k : Nat) (wk : World), wk = wr ∧ k ≤ ms.length ∧ i = .int .i64 (k : Nat) ∧ Hid (MapV wk w.heap.size (mapF (placeF ms k))) ∧ Hid (Below w.heap.size w wk)) (fun i _ => ms.length - (intOf i).toNat)
  case atStart => exact ⟨0, _, rfl, Nat.zero_le _, rfl, HV0, HB0⟩
  case round =>
    clear HV0 HB0
    obtain ⟨k, wk, rfl, hk, rfl, HV, HB⟩ := hrel
    by_cases hlt : k < ms.length
    · obtain ⟨ad, A', c', rfl, _, h1, h2, h3, _, _⟩ := (HM.out.later HB.out) k hlt
      have HU := Lib.hid (upd_place (ms := ms) (k := k))
      obtain ⟨x, hx⟩ : ∃ x, x = (atM ms k).lit := ⟨_, rfl⟩
      obtain ⟨y, hy⟩ : ∃ y, y = (atM ms k).lev := ⟨_, rfl⟩
      obtain ⟨z, hz⟩ : ∃ z, z = (atM ms k).why := ⟨_, rfl⟩
      rw [← hx] at h1 HU
      rw [← hy] at h2
      rw [← hz] at h3
      clear hx hy hz
      have hv1 := HV.out.alloc (.cells #[.int .i64 x, .int .i64 y, .slice A' z.length c'] 37)
      obtain ⟨w2, hr2, hm2, hg2, _⟩ := hv1.run_update Try.underlying47 Try.underlying3 x (.int .i64 (k : Nat))
      rw [HU.out] at hm2
      have HM2 := Lib.hid hm2
      have hb1 := HB.out.alloc HB.out.size (.cells #[.int .i64 x, .int .i64 y, .slice A' z.length c'] 37)
      have HB2 := Lib.hid (below_grown hb1 hg2 hb1.size (fun q e => by cases e; exact Nat.le_refl _))
      clear hv1 hm2 hg2 hb1
      go_wp2
      go_roundw
      case rel => exact ⟨k + 1, _, rfl, by omega, by go_num, HM2, HB2⟩
      case measure => simp [intOf]; omega
    · have HE : Hid (MapV wk w.heap.size (mapF (placeF ms ms.length))) := by
        have := HV.out
        rwa [show k = ms.length by omega] at this
      go_wp2
      go_ret
      exact ⟨_, rfl, Nat.le_refl _, HE.out, HB.out⟩
end Go.Proofs.Ythnjjonjhenifaa

/- The walk of follows: is a mark's reason one, by what is marked ahead? -/
namespace Go.Proofs.Ythnjjonjhenifaa
set_option linter.unusedVariables false
set_option linter.unusedSimpArgs false
open Go.RowKit

def followG (g : Int → Option Int) (x : Int) (why : List Int) : Bool := decide (litSort why = why) && decide (x ∈ why) && why.all fun y => decide (y = x) || (g (neg y)).isSome
theorem own_ints {w : World} {base : Nat} {A : Option Addr} {n c : Nat} {xs : List Int} (h : w.ownsRow base 3 1 (.slice A n c) xs.length (ints xs)) : IntsAt w.heap.size w A xs := by
  obtain ⟨A9, c9, e, _, hi⟩ := Ints.of_own h
  cases e
  exact hi
theorem all_turn {g : Int → Option Int} {x : Int} {why : List Int} : (turnP why x).all (fun n => (g n).isSome) = why.all fun y => decide (y = x) || (g (neg y)).isSome := by
  unfold turnP
  rw [List.all_map, Bool.eq_iff_iff, List.all_eq_true, List.all_eq_true]
  constructor
  · intro h y hy
    by_cases e : y = x
    · rw [decide_eq_true e]; rfl
    · have := h y (List.mem_filter.2 ⟨hy, by simpa using e⟩)
      simpa [e] using this
  · intro h y hy
    obtain ⟨h1, h2⟩ := List.mem_filter.1 hy
    have h3 := h y h1
    have e : ¬ y = x := by simpa using h2
    rw [decide_eq_false e, Bool.false_or] at h3
    exact h3
def followWords0 (w : World) (A : Option Addr) (n c : Nat) (x : Int) (why : List Int) : List Word := [.is (.pointer (some ⟨w.heap.size, 2, none⟩)), .is (.slice A n c), intsW ((litSort why)), .is (.pointer (some ⟨w.heap.size, 2, none⟩)), .is (.slice A n c), .is (.bool false), .is (.bool true), .is (.bool true), .is (undef), .is (undef), .is (undef), .is (undef), .is (undef), .is (undef), .is (.bool true)]
def followWords1 (w : World) (A : Option Addr) (n c : Nat) (x : Int) (why : List Int) (q : Bool) : List Word := [.is (.pointer (some ⟨w.heap.size, 2, none⟩)), .is (.slice A n c), intsW ((litSort why)), .is (.pointer (some ⟨w.heap.size, 2, none⟩)), .is (.slice A n c), .is (.bool true), .is (.bool false), .is (.bool false), .is (.pointer (some ⟨w.heap.size, 2, none⟩)), .is (.slice A n c), .is (.pointer (some ⟨w.heap.size, 0, none⟩)), .is (.int .i64 x), .is (.bool q), .is (.bool (!q)), .is (.bool (!q))]

set_option maxRecDepth 100000 in
set_option maxHeartbeats 1000000 in
theorem follows_any {A : Option Addr} {why : List Int} {n m : Nat} {g : Int → Option Int} {r : Bool} (x y : Int) (c : Nat) (w : World) (hI : IntsAt w.heap.size w A why) (hn : why.length = n) (hn24 : n ≤ 1000000) (hV : MapV w m (mapF g)) (hr : followG g x why = r) :
    Calls Try.prog 36 #[.agg #[.int .i64 x, .int .i64 y, .slice A n c], .map (some m)] w fun e w' => e = .returned (.bool r) ∧ Below w.heap.size w w' := by
  obtain ⟨W, hWW⟩ : ∃ W, W = w.alloc (.cells #[.int .i64 x, .int .i64 y, .slice A n c] 37) := ⟨_, rfl⟩
  have hb0 : Below w.heap.size w W := by rw [hWW]; exact alloc_below _ _
  have HB0 := Lib.hid hb0
  have HNE := Lib.hid hn
  have HR := Lib.hid hr
  have hblk : W.heap[w.heap.size]? = some (.cells #[.int .i64 x, .int .i64 y, .slice A n c] 37 (0, 0)) := by rw [hWW]; exact alloc_at _ _
  have hmlt := hV.lt
  have HV : Hid (∀ w1, Below W.heap.size W w1 → MapV w1 m (mapF g)) := fun w1 hb => (hV.below hb0 hmlt).below hb (Nat.lt_of_lt_of_le hmlt hb0.size)
  have HW : Hid (∀ w1, Below W.heap.size W w1 → w1.cell? ⟨w.heap.size, 0, none⟩ = some (.int .i64 x) ∧ w1.cell? ⟨w.heap.size, 1, none⟩ = some (.int .i64 y) ∧ w1.cell? ⟨w.heap.size, 2, none⟩ = some (.slice A n c) ∧ IntsAt w1.heap.size w1 A why) := fun w1 hb => by
    have h := (hb.block _ (Array.getElem?_eq_some_iff.1 hblk).1).trans hblk
    refine ⟨?_, ?_, ?_, ((hI.later hb0).later hb).now⟩ <;> (unfold World.cell?; rw [h]; rfl)
  obtain ⟨q, hq⟩ : ∃ q, q = decide (x ∈ why) := ⟨_, rfl⟩
  have HK : Hid (∀ w1, IntsAt w1.heap.size w1 A why → Calls Try.prog 44 #[.slice A n c, .int .i64 x] w1 fun e w' => e = .returned (.bool q) ∧ w1 = w') := fun w1 h => by
    have := contains_at (c := c) h (by omega) x
    rw [hn] at this
    refine this.mono ?_
    rintro e w' ⟨h1, h2⟩
    exact ⟨by rw [h1, hq]; simp, h2⟩
  have HQ := Lib.hid hq
  cases hb : decide (litSort why = why) with
  | false =>
    have HBQ := Lib.hid hb
    have HF : Hid (r = false) := by show _ = _; rw [← HR.out]; unfold followG; rw [hb]; rfl
    clear hI hn hr hV hb hq hblk hmlt hb0
    subst hWW
    go_enter Try.func36, Try.ntmps36
    go_wp2
    refine region_words (followWords0 w A n c x why) (by kernel_rfl) (by kernel_rfl) ?_ ?_
    · refine ⟨?_, ?_, ?_, ?_, ?_, ?_, ?_, ?_, ?_, ?_, ?_, ?_, ?_, ?_, ?_, trivial⟩
      · intro a w1 hb hs hd hf hj
        have h2 : a.tmps.getD 2 undef = .pointer (some ⟨w.heap.size, 0, none⟩) := hf 2 (by decide)
        refine st_still (wanted_none rfl) (u := .pointer (some ⟨w.heap.size, 2, none⟩)) ?_ rfl
        simp [execOp, Act.eval, h2, go_sem, -Array.getD_eq_getD_getElem?]
      · intro a w1 hb hs hd hf hj
        have h9 : a.tmps.getD 9 undef = .pointer (some ⟨w.heap.size, 2, none⟩) := hj 0 (by kernel_rfl)
        have hbw := hb
        obtain ⟨k0, k1, k2, k3⟩ := HW.out w1 hbw
        refine st_still (wanted_none rfl) (u := .slice A n c) ?_ rfl
        simp [execOp, Act.eval, h9, k2, go_sem, -Array.getD_eq_getD_getElem?]
      · intro a w1 hb hs hd hf hj
        have h10 : a.tmps.getD 10 undef = .slice A n c := hj 1 (by kernel_rfl)
        have hbw := hb
        obtain ⟨k0, k1, k2, k3⟩ := HW.out w1 hbw
        refine st_call (wanted_none rfl) (f := 32) (args := #[.slice A n c]) ?_ ((litSort_any c w1 k3 HNE.out hn24).mono (fun e w2 ⟨A9, c9, h1, h2, h3⟩ => ⟨_, h1, ⟨A9, c9, rfl, own_ints h2⟩, h3⟩))
        simp [execOp, Act.eval, resolve, h10, go_sem, -Array.getD_eq_getD_getElem?]
      · intro a w1 hb hs hd hf hj
        have h2 : a.tmps.getD 2 undef = .pointer (some ⟨w.heap.size, 0, none⟩) := hf 2 (by decide)
        refine st_still (wanted_none rfl) (u := .pointer (some ⟨w.heap.size, 2, none⟩)) ?_ rfl
        simp [execOp, Act.eval, h2, go_sem, -Array.getD_eq_getD_getElem?]
      · intro a w1 hb hs hd hf hj
        have h12 : a.tmps.getD 12 undef = .pointer (some ⟨w.heap.size, 2, none⟩) := hj 3 (by kernel_rfl)
        have hbw := hb
        obtain ⟨k0, k1, k2, k3⟩ := HW.out w1 hbw
        refine st_still (wanted_none rfl) (u := .slice A n c) ?_ rfl
        simp [execOp, Act.eval, h12, k2, go_sem, -Array.getD_eq_getD_getElem?]
      · intro a w1 hb hs hd hf hj
        obtain ⟨A11, c11, h11, i11⟩ : ∃ A c, a.tmps.getD 11 undef = .slice A (litSort why).length c ∧ IntsAt w1.heap.size w1 A (litSort why) := hj 2 (by kernel_rfl)
        have h13 : a.tmps.getD 13 undef = .slice A n c := hj 4 (by kernel_rfl)
        have hbw := hb
        obtain ⟨k0, k1, k2, k3⟩ := HW.out w1 hbw
        refine st_call (wanted_none rfl) (f := 59) (args := #[.slice A11 (litSort why).length c11, .slice A n c]) ?_ ((equal_any c11 c w1 i11 k3 rfl HNE.out (Nat.le_trans (sort_len why) (by rw [HNE.out]; exact hn24)) hn24 HBQ.out).mono (fun e w2 ⟨h1, h2⟩ => ⟨_, h1, rfl, h2⟩))
        simp [execOp, Act.eval, resolve, h11, h13, go_sem, -Array.getD_eq_getD_getElem?]
      · intro a w1 hb hs hd hf hj
        have h14 : a.tmps.getD 14 undef = .bool false := hj 5 (by kernel_rfl)
        refine st_still (wanted_none rfl) (u := .bool true) ?_ rfl
        simp [execOp, Act.eval, h14, go_sem, -Array.getD_eq_getD_getElem?]
      · intro a w1 hb hs hd hf hj
        have h15 : a.tmps.getD 15 undef = .bool true := hj 6 (by kernel_rfl)
        refine st_still (wanted_none rfl) (u := .bool true) ?_ rfl
        simp [execOp, Act.eval, h15, go_sem, -Array.getD_eq_getD_getElem?]
      · intro a w1 hb hs hd hf hj
        have hg : a.tmps.getD 16 undef = .bool true := hj 7 (by kernel_rfl)
        exact step_skip (wanted_false rfl rfl hg (by decide)) ⟨rfl, Below.refl _ _⟩
      · intro a w1 hb hs hd hf hj
        have hg : a.tmps.getD 16 undef = .bool true := hj 7 (by kernel_rfl)
        exact step_skip (wanted_false rfl rfl hg (by decide)) ⟨rfl, Below.refl _ _⟩
      · intro a w1 hb hs hd hf hj
        have hg : a.tmps.getD 16 undef = .bool true := hj 7 (by kernel_rfl)
        exact step_skip (wanted_false rfl rfl hg (by decide)) ⟨rfl, Below.refl _ _⟩
      · intro a w1 hb hs hd hf hj
        have hg : a.tmps.getD 16 undef = .bool true := hj 7 (by kernel_rfl)
        exact step_skip (wanted_false rfl rfl hg (by decide)) ⟨rfl, Below.refl _ _⟩
      · intro a w1 hb hs hd hf hj
        have hg : a.tmps.getD 16 undef = .bool true := hj 7 (by kernel_rfl)
        exact step_skip (wanted_false rfl rfl hg (by decide)) ⟨rfl, Below.refl _ _⟩
      · intro a w1 hb hs hd hf hj
        have hg : a.tmps.getD 16 undef = .bool true := hj 7 (by kernel_rfl)
        exact step_skip (wanted_false rfl rfl hg (by decide)) ⟨rfl, Below.refl _ _⟩
      · intro a w1 hb hs hd hf hj
        have h16 : a.tmps.getD 16 undef = .bool true := hj 7 (by kernel_rfl)
        have h22 : a.tmps.getD 22 undef = undef := hj 13 (by kernel_rfl)
        refine st_still (wanted_none rfl) (u := .bool true) ?_ rfl
        simp [execOp, Act.eval, h16, h22, go_sem, -Array.getD_eq_getD_getElem?]
    · intro a w1 hb hs hd hf hj
      have h23 : a.tmps.getD 23 undef = .bool true := hj 14 (by decide)
      have HB1 := Lib.hid (HB0.out.trans (hb.mono HB0.out.size))
      have ha := act_slots [9, 10, 11, 12, 13, 14, 15, 16, 17, 18, 19, 20, 21, 22, 23] (by kernel_rfl) hs hd hf
      simp only [fillIn, Nat.zero_add, Nat.reduceAdd, List.contains_cons, List.contains_nil, Nat.reduceBEq, Bool.or_false, Bool.or_true, Bool.false_eq_true, if_true, if_false, ite_true, ite_false] at ha
      generalize a.tmps.getD 9 undef = u9 at ha
      generalize a.tmps.getD 10 undef = u10 at ha
      generalize a.tmps.getD 11 undef = u11 at ha
      generalize a.tmps.getD 12 undef = u12 at ha
      generalize a.tmps.getD 13 undef = u13 at ha
      generalize a.tmps.getD 14 undef = u14 at ha
      generalize a.tmps.getD 15 undef = u15 at ha
      generalize a.tmps.getD 16 undef = u16 at ha
      generalize a.tmps.getD 17 undef = u17 at ha
      generalize a.tmps.getD 18 undef = u18 at ha
      generalize a.tmps.getD 19 undef = u19 at ha
      generalize a.tmps.getD 20 undef = u20 at ha
      generalize a.tmps.getD 21 undef = u21 at ha
      generalize a.tmps.getD 22 undef = u22 at ha
      rw [h23] at ha
      clear hs hd hf hj h23 hb
      subst ha
      go_wp2
      go_ret
      exact ⟨ret_bool HF.out.symm, HB1.out⟩
  | true =>
    have HBQ := Lib.hid hb
    have HR2 : Hid ((q && (turnP why x).all (fun n => (g n).isSome)) = r) := by show _ = _; rw [← HR.out, all_turn]; unfold followG; rw [hb, hq, Bool.true_and]
    clear hI hn hr hV hb hq hblk hmlt hb0
    subst hWW
    go_enter Try.func36, Try.ntmps36
    go_wp2
    refine region_words (followWords1 w A n c x why q) (by kernel_rfl) (by kernel_rfl) ?_ ?_
    · refine ⟨?_, ?_, ?_, ?_, ?_, ?_, ?_, ?_, ?_, ?_, ?_, ?_, ?_, ?_, ?_, trivial⟩
      · intro a w1 hb hs hd hf hj
        have h2 : a.tmps.getD 2 undef = .pointer (some ⟨w.heap.size, 0, none⟩) := hf 2 (by decide)
        refine st_still (wanted_none rfl) (u := .pointer (some ⟨w.heap.size, 2, none⟩)) ?_ rfl
        simp [execOp, Act.eval, h2, go_sem, -Array.getD_eq_getD_getElem?]
      · intro a w1 hb hs hd hf hj
        have h9 : a.tmps.getD 9 undef = .pointer (some ⟨w.heap.size, 2, none⟩) := hj 0 (by kernel_rfl)
        have hbw := hb
        obtain ⟨k0, k1, k2, k3⟩ := HW.out w1 hbw
        refine st_still (wanted_none rfl) (u := .slice A n c) ?_ rfl
        simp [execOp, Act.eval, h9, k2, go_sem, -Array.getD_eq_getD_getElem?]
      · intro a w1 hb hs hd hf hj
        have h10 : a.tmps.getD 10 undef = .slice A n c := hj 1 (by kernel_rfl)
        have hbw := hb
        obtain ⟨k0, k1, k2, k3⟩ := HW.out w1 hbw
        refine st_call (wanted_none rfl) (f := 32) (args := #[.slice A n c]) ?_ ((litSort_any c w1 k3 HNE.out hn24).mono (fun e w2 ⟨A9, c9, h1, h2, h3⟩ => ⟨_, h1, ⟨A9, c9, rfl, own_ints h2⟩, h3⟩))
        simp [execOp, Act.eval, resolve, h10, go_sem, -Array.getD_eq_getD_getElem?]
      · intro a w1 hb hs hd hf hj
        have h2 : a.tmps.getD 2 undef = .pointer (some ⟨w.heap.size, 0, none⟩) := hf 2 (by decide)
        refine st_still (wanted_none rfl) (u := .pointer (some ⟨w.heap.size, 2, none⟩)) ?_ rfl
        simp [execOp, Act.eval, h2, go_sem, -Array.getD_eq_getD_getElem?]
      · intro a w1 hb hs hd hf hj
        have h12 : a.tmps.getD 12 undef = .pointer (some ⟨w.heap.size, 2, none⟩) := hj 3 (by kernel_rfl)
        have hbw := hb
        obtain ⟨k0, k1, k2, k3⟩ := HW.out w1 hbw
        refine st_still (wanted_none rfl) (u := .slice A n c) ?_ rfl
        simp [execOp, Act.eval, h12, k2, go_sem, -Array.getD_eq_getD_getElem?]
      · intro a w1 hb hs hd hf hj
        obtain ⟨A11, c11, h11, i11⟩ : ∃ A c, a.tmps.getD 11 undef = .slice A (litSort why).length c ∧ IntsAt w1.heap.size w1 A (litSort why) := hj 2 (by kernel_rfl)
        have h13 : a.tmps.getD 13 undef = .slice A n c := hj 4 (by kernel_rfl)
        have hbw := hb
        obtain ⟨k0, k1, k2, k3⟩ := HW.out w1 hbw
        refine st_call (wanted_none rfl) (f := 59) (args := #[.slice A11 (litSort why).length c11, .slice A n c]) ?_ ((equal_any c11 c w1 i11 k3 rfl HNE.out (Nat.le_trans (sort_len why) (by rw [HNE.out]; exact hn24)) hn24 HBQ.out).mono (fun e w2 ⟨h1, h2⟩ => ⟨_, h1, rfl, h2⟩))
        simp [execOp, Act.eval, resolve, h11, h13, go_sem, -Array.getD_eq_getD_getElem?]
      · intro a w1 hb hs hd hf hj
        have h14 : a.tmps.getD 14 undef = .bool true := hj 5 (by kernel_rfl)
        refine st_still (wanted_none rfl) (u := .bool false) ?_ rfl
        simp [execOp, Act.eval, h14, go_sem, -Array.getD_eq_getD_getElem?]
      · intro a w1 hb hs hd hf hj
        have h15 : a.tmps.getD 15 undef = .bool false := hj 6 (by kernel_rfl)
        refine st_still (wanted_none rfl) (u := .bool false) ?_ rfl
        simp [execOp, Act.eval, h15, go_sem, -Array.getD_eq_getD_getElem?]
      · intro a w1 hb hs hd hf hj
        have hg : a.tmps.getD 16 undef = .bool false := hj 7 (by kernel_rfl)
        have h2 : a.tmps.getD 2 undef = .pointer (some ⟨w.heap.size, 0, none⟩) := hf 2 (by decide)
        refine st_still (wanted_true rfl rfl hg) (u := .pointer (some ⟨w.heap.size, 2, none⟩)) ?_ rfl
        simp [execOp, Act.eval, h2, go_sem, -Array.getD_eq_getD_getElem?]
      · intro a w1 hb hs hd hf hj
        have hg : a.tmps.getD 16 undef = .bool false := hj 7 (by kernel_rfl)
        have h17 : a.tmps.getD 17 undef = .pointer (some ⟨w.heap.size, 2, none⟩) := hj 8 (by kernel_rfl)
        have hbw := hb
        obtain ⟨k0, k1, k2, k3⟩ := HW.out w1 hbw
        refine st_still (wanted_true rfl rfl hg) (u := .slice A n c) ?_ rfl
        simp [execOp, Act.eval, h17, k2, go_sem, -Array.getD_eq_getD_getElem?]
      · intro a w1 hb hs hd hf hj
        have hg : a.tmps.getD 16 undef = .bool false := hj 7 (by kernel_rfl)
        have h2 : a.tmps.getD 2 undef = .pointer (some ⟨w.heap.size, 0, none⟩) := hf 2 (by decide)
        refine st_still (wanted_true rfl rfl hg) (u := .pointer (some ⟨w.heap.size, 0, none⟩)) ?_ rfl
        simp [execOp, Act.eval, h2, go_sem, -Array.getD_eq_getD_getElem?]
      · intro a w1 hb hs hd hf hj
        have hg : a.tmps.getD 16 undef = .bool false := hj 7 (by kernel_rfl)
        have h19 : a.tmps.getD 19 undef = .pointer (some ⟨w.heap.size, 0, none⟩) := hj 10 (by kernel_rfl)
        have hbw := hb
        obtain ⟨k0, k1, k2, k3⟩ := HW.out w1 hbw
        refine st_still (wanted_true rfl rfl hg) (u := .int .i64 x) ?_ rfl
        simp [execOp, Act.eval, h19, k0, go_sem, -Array.getD_eq_getD_getElem?]
      · intro a w1 hb hs hd hf hj
        have hg : a.tmps.getD 16 undef = .bool false := hj 7 (by kernel_rfl)
        have h18 : a.tmps.getD 18 undef = .slice A n c := hj 9 (by kernel_rfl)
        have h20 : a.tmps.getD 20 undef = .int .i64 x := hj 11 (by kernel_rfl)
        have hbw := hb
        obtain ⟨k0, k1, k2, k3⟩ := HW.out w1 hbw
        refine st_call (wanted_true rfl rfl hg) (f := 44) (args := #[.slice A n c, .int .i64 x]) ?_ ((HK.out w1 k3).mono (fun e w2 ⟨h1, h2⟩ => ⟨_, h1, rfl, by rw [← h2]; exact Below.refl _ _⟩))
        simp [execOp, Act.eval, resolve, h18, h20, go_sem, -Array.getD_eq_getD_getElem?]
      · intro a w1 hb hs hd hf hj
        have hg : a.tmps.getD 16 undef = .bool false := hj 7 (by kernel_rfl)
        have h21 : a.tmps.getD 21 undef = .bool q := hj 12 (by kernel_rfl)
        refine st_still (wanted_true rfl rfl hg) (u := .bool (!q)) ?_ rfl
        simp [execOp, Act.eval, h21, go_sem, -Array.getD_eq_getD_getElem?]
      · intro a w1 hb hs hd hf hj
        have h16 : a.tmps.getD 16 undef = .bool false := hj 7 (by kernel_rfl)
        have h22 : a.tmps.getD 22 undef = .bool (!q) := hj 13 (by kernel_rfl)
        refine st_still (wanted_none rfl) (u := .bool (!q)) ?_ rfl
        simp [execOp, Act.eval, h16, h22, go_sem, -Array.getD_eq_getD_getElem?]
    · intro a w1 hb hs hd hf hj
      have h23 : a.tmps.getD 23 undef = .bool (!q) := hj 14 (by decide)
      have HB1 := Lib.hid (HB0.out.trans (hb.mono HB0.out.size))
      obtain ⟨k0, k1, k2, k3⟩ := HW.out w1 hb
      have HV1 := Lib.hid (HV.out w1 hb)
      have ha := act_slots [9, 10, 11, 12, 13, 14, 15, 16, 17, 18, 19, 20, 21, 22, 23] (by kernel_rfl) hs hd hf
      simp only [fillIn, Nat.zero_add, Nat.reduceAdd, List.contains_cons, List.contains_nil, Nat.reduceBEq, Bool.or_false, Bool.or_true, Bool.false_eq_true, if_true, if_false, ite_true, ite_false] at ha
      generalize a.tmps.getD 9 undef = u9 at ha
      generalize a.tmps.getD 10 undef = u10 at ha
      generalize a.tmps.getD 11 undef = u11 at ha
      generalize a.tmps.getD 12 undef = u12 at ha
      generalize a.tmps.getD 13 undef = u13 at ha
      generalize a.tmps.getD 14 undef = u14 at ha
      generalize a.tmps.getD 15 undef = u15 at ha
      generalize a.tmps.getD 16 undef = u16 at ha
      generalize a.tmps.getD 17 undef = u17 at ha
      generalize a.tmps.getD 18 undef = u18 at ha
      generalize a.tmps.getD 19 undef = u19 at ha
      generalize a.tmps.getD 20 undef = u20 at ha
      generalize a.tmps.getD 21 undef = u21 at ha
      generalize a.tmps.getD 22 undef = u22 at ha
      rw [h23] at ha
      clear hs hd hf hj h23 hb
      subst ha
      cases q with
      | false =>
        have HF : Hid (r = false) := by show _ = _; rw [← HR2.out]; rfl
        clear k0 k1 k2 k3
        go_wp2
        go_ret
        exact ⟨ret_bool HF.out.symm, HB1.out⟩
      | true =>
        have HR3 : Hid ((turnP why x).all (fun n => (g n).isSome) = r) := HR2.out
        have HT := Lib.hid (turned_any x c w1 k3 HNE.out hn24)
        clear k3
        go_wp2_with (go_at_call 60; refine HT.out.mono ?_; rintro e w2 ⟨A2, c2, rfl, hi2, hb2⟩
                     have HI2 := Lib.hid hi2
                     have HB2 := Lib.hid (HB1.out.trans (hb2.mono HB1.out.size))
                     have HV2 := Lib.hid (HV1.out.below hb2 HV1.out.lt)
                     clear hi2 hb2)
        have HTL : Hid ((turnP why x).length ≤ 1000000) := by
          show _ ≤ _
          unfold turnP
          rw [List.length_map]
          exact Nat.le_trans (List.length_filter_le _ _) (by rw [HNE.out]; exact hn24)
        obtain ⟨T, hT⟩ : ∃ T, T = turnP why x := ⟨_, rfl⟩
        rw [← hT] at HI2 HTL HR3 ⊢
        have hTl := HTL.out
        clear hT k0 k1 k2
        go_loop [30] (fun i => ∃ k : Nat, k ≤ T.length ∧ i = .int .i64 (k : Nat) ∧ Hid ((T.take k).all (fun n => (g n).isSome) = true)) (fun i => T.length - (intOf i).toNat)
        case atStart => exact ⟨0, Nat.zero_le _, rfl, by show _ = _; simp⟩
        case round =>
          obtain ⟨k, hk, rfl, HA⟩ := hrel
          by_cases hlt : k < T.length
          · obtain ⟨ad, rfl, hx⟩ := HI2.out.cell k hlt
            obtain ⟨z, hz⟩ : ∃ z, z = T[k] := ⟨_, rfl⟩
            rw [← hz] at hx
            have HZ := Lib.hid hz
            have l1 := look_map HV2.out z
            clear hz
            cases hg : (g z).isSome with
            | true =>
              have HA' : Hid ((T.take (k + 1)).all (fun n => (g n).isSome) = true) := all_take hlt HA.out (by rw [← HZ.out]; exact hg)
              rw [hg] at l1
              clear hg
              go_wp2
              go_round
              case rel => exact ⟨k + 1, by omega, by go_num, HA'⟩
              case measure => simp [intOf]; omega
            | false =>
              have HF : Hid (r = false) := by
                show _ = _
                rw [← HR3.out]
                exact all_fails hlt (by rw [← HZ.out]; exact hg)
              rw [hg] at l1
              clear hg
              go_wp2
              go_ret
              exact ⟨ret_bool HF.out.symm, HB2.out⟩
          · have HTT : Hid (r = true) := by
              show _ = _
              rw [← HR3.out]
              have := HA.out
              rwa [List.take_of_length_le (by omega)] at this
            go_wp2
            go_ret
            exact ⟨ret_bool HTT.out.symm, HB2.out⟩
end Go.Proofs.Ythnjjonjhenifaa

/- The walk of learn.Right: may a row of marks be? -/
namespace Go.Proofs.Ythnjjonjhenifaa
set_option linter.unusedVariables false
set_option linter.unusedSimpArgs false
open Go.RowKit

theorem place_take {ms : List Mk} {k : Nat} (hk : k ≤ ms.length) {n : Int} : (placeF ms k n).isSome = decide (n ∈ litsOf (ms.take k)) := by
  rw [Bool.eq_iff_iff, decide_eq_true_eq, mem_lits_take hk]
  cases h : placeF ms k n with
  | none =>
    rw [place_none] at h
    exact ⟨fun q => (by cases q), fun ⟨i, hi, e⟩ => absurd e (h i hi)⟩
  | some v =>
    obtain ⟨i, h1, _, h3⟩ := place_some h
    exact ⟨fun _ => ⟨i, h1, h3⟩, fun _ => rfl⟩
theorem follow_same {ms : List Mk} {k : Nat} (hk : k ≤ ms.length) (m : Mk) : followG (placeF ms k) m.lit m.why = followsB (litsOf (ms.take k)) m := by
  unfold followG followsB
  congr 1
  rw [Bool.eq_iff_iff, List.all_eq_true, List.all_eq_true]
  refine forall_congr' fun y => forall_congr' fun _ => ?_
  rw [place_take hk]
theorem ok_false {ms : List Mk} {k : Nat} (hk : k < ms.length) (h : OkAt ms k → False) : okAt ms k = false := by
  cases e : okAt ms k with
  | false => rfl
  | true => exact (h (ok_at hk e)).elim
theorem ok_follow {ms : List Mk} {k : Nat} (hne : (atM ms k).why ≠ []) (hf : followsB (litsOf (ms.take k)) (atM ms k) = false) : okAt ms k = false := by
  unfold okAt
  simp only
  rw [decide_eq_false hne, hf]
  simp
theorem ok_of {ms : List Mk} {k : Nat} (hk : k ≤ ms.length) (h1 : (atM ms k).lit ≠ 0) (h2 : (atM ms k).lit ≠ MIN) (h3 : (placeF ms k (atM ms k).lit).isSome = false) (h4 : (placeF ms k (neg (atM ms k).lit)).isSome = false) (h5 : lastLev ms k ≤ (atM ms k).lev)
    (h6 : 0 < (atM ms k).lev → (lastLev ms k < (atM ms k).lev ↔ (atM ms k).why = [])) (h7 : (atM ms k).why = [] ∨ followsB (litsOf (ms.take k)) (atM ms k) = true) : okAt ms k = true := by
  rw [place_take hk, decide_eq_false_iff_not] at h3 h4
  unfold okAt
  simp only [Bool.and_eq_true, Bool.or_eq_true, Bool.not_eq_true', decide_eq_true_eq]
  refine ⟨⟨⟨⟨⟨⟨h1, h2⟩, h3⟩, h4⟩, h5⟩, ?_⟩, h7⟩
  by_cases h : 0 < (atM ms k).lev
  · have e : decide (lastLev ms k < (atM ms k).lev) = decide ((atM ms k).why = []) := decide_eq_decide.2 (h6 h)
    rw [decide_eq_true h, Bool.true_and, e]
    simp
  · rw [decide_eq_false h]
    rfl

theorem box3 {wk w5 : World} {u v t : Value} (hb : Below (wk.alloc (.cells #[u, v, t] 37)).heap.size (wk.alloc (.cells #[u, v, t] 37)) w5) : w5.cell? ⟨wk.heap.size, 0, none⟩ = some u ∧ w5.cell? ⟨wk.heap.size, 1, none⟩ = some v ∧ w5.cell? ⟨wk.heap.size, 2, none⟩ = some t := by
  have hblk := alloc_at wk (.cells #[u, v, t] 37)
  have h := (hb.block _ (Array.getElem?_eq_some_iff.1 hblk).1).trans hblk
  refine ⟨?_, ?_, ?_⟩ <;> (unfold World.cell?; rw [h]; rfl)

set_option maxRecDepth 100000 in
set_option maxHeartbeats 4000000 in
theorem right_any {A : Option Addr} {ms : List Mk} {r : Bool} (c : Nat) (w : World) (hM : MarksAt w.heap.size w A ms) (hl : ms.length ≤ 1000000) (hwl : ∀ i, i < ms.length → (atM ms i).why.length ≤ 1000000) (hr : rightB ms = r) :
    Calls Try.prog 13 #[.slice A ms.length c] w fun e w' => e = .returned (.bool r) ∧ Below w.heap.size w w' := by
  have HM := Lib.hid hM
  have HWL := Lib.hid hwl
  have HR := Lib.hid hr
  have hmm := @run_makeMap Try.prog
  have HV0 : Hid (MapV (w.alloc (.map #[] 0)) w.heap.size (mapF (placeF ms 0))) := made_map w ms
  have HB0 : Hid (Below w.heap.size w (w.alloc (.map #[] 0))) := alloc_below _ _
  have HN0 : Hid (rightN ms 0 = true) := by show _ = _; rfl
  clear hM hwl hr
  go_enter Try.func13, Try.ntmps13
  go_wp2
  go_loopw [4, 15] (fun l i wr => ∃ (k : Nat) (wk : World), wk = wr ∧ k ≤ ms.length ∧ i = .int .i64 (k : Nat) ∧ l = .int .i64 (lastLev ms k) ∧ Hid (rightN ms k = true) ∧ Hid (MapV wk w.heap.size (mapF (placeF ms k))) ∧ Hid (Below w.heap.size w wk)) (fun _ i _ => ms.length - (intOf i).toNat)
  case atStart => exact ⟨0, _, rfl, Nat.zero_le _, rfl, rfl, HN0, HV0, HB0⟩
  case round =>
    clear HV0 HB0 HN0
    obtain ⟨k, wk, rfl, hk, rfl, rfl, HN, HV, HB⟩ := hrel
    by_cases hlt : k < ms.length
    · obtain ⟨ad, A', c', rfl, _, h1, h2, h3, _, hi3⟩ := (HM.out.later HB.out) k hlt
      have HU := Lib.hid (upd_place (ms := ms) (k := k))
      have hzl := HWL.out k hlt
      have HFS := Lib.hid (follow_same (Nat.le_of_lt hlt) (atM ms k))
      have HEX : Hid (okAt ms k = false → r = false) := fun h => by rw [← HR.out]; exact all_range_no hlt h
      have HOF := Lib.hid (fun h => (ok_false hlt h : okAt ms k = false))
      have HOW := Lib.hid (fun h1 h2 => (ok_follow h1 h2 : okAt ms k = false))
      have HOK := Lib.hid (ok_of (ms := ms) (k := k) (Nat.le_of_lt hlt))
      have HP3 := Lib.hid (fun h : (placeF ms k (atM ms k).lit).isSome = true => (by rw [place_take (Nat.le_of_lt hlt), decide_eq_true_eq, mem_lits_take (Nat.le_of_lt hlt)] at h; exact h : ∃ i, i < k ∧ (atM ms i).lit = (atM ms k).lit))
      have HP4 := Lib.hid (fun h : (placeF ms k (neg (atM ms k).lit)).isSome = true => (by rw [place_take (Nat.le_of_lt hlt), decide_eq_true_eq, mem_lits_take (Nat.le_of_lt hlt)] at h; exact h : ∃ i, i < k ∧ (atM ms i).lit = neg (atM ms k).lit))
      have HNZ : Hid (OkAt ms k → (atM ms k).lit ≠ 0) := OkAt.nz
      have HNM : Hid (OkAt ms k → (atM ms k).lit ≠ MIN) := OkAt.nm
      have HLV : Hid (OkAt ms k → lastLev ms k ≤ (atM ms k).lev) := OkAt.lev
      have HFI : Hid (OkAt ms k → 0 < (atM ms k).lev → (lastLev ms k < (atM ms k).lev ↔ (atM ms k).why = [])) := OkAt.first
      have HN3 : Hid (OkAt ms k → ∀ i, i < k → (atM ms i).lit ≠ (atM ms k).lit) := OkAt.new
      have HN4 : Hid (OkAt ms k → ∀ i, i < k → (atM ms i).lit ≠ neg (atM ms k).lit) := OkAt.opp
      have HNL : Hid (lastLev ms (k + 1) = (atM ms k).lev) := rfl
      obtain ⟨m, hm⟩ : ∃ m, m = atM ms k := ⟨_, rfl⟩
      rw [← hm] at h1 h2 h3 hi3 HU hzl HFS HOW HOK HP3 HP4 HNZ HNM HLV HFI HN3 HN4 HNL
      clear hm
      obtain ⟨x, y, z⟩ := m
      simp only at h1 h2 h3 hi3 HU hzl HFS HOW HOK HP3 HP4 HNZ HNM HLV HFI HN3 HN4 HNL
      obtain ⟨L, hL⟩ : ∃ L, L = lastLev ms k := ⟨_, rfl⟩
      rw [← hL] at HOK HLV HFI ⊢
      obtain ⟨p1, hp1⟩ : ∃ p1, p1 = placeF ms k x := ⟨_, rfl⟩
      obtain ⟨p2, hp2⟩ : ∃ p2, p2 = placeF ms k (neg x) := ⟨_, rfl⟩
      rw [← hp1] at HOK HP3
      rw [← hp2] at HOK HP4
      have hb1 : Below w.heap.size w (wk.alloc (.cells #[.int .i64 x, .int .i64 y, .slice A' z.length c'] 37)) := HB.out.alloc HB.out.size _
      have HB1 := Lib.hid hb1
      have hv1 := HV.out.alloc (.cells #[.int .i64 x, .int .i64 y, .slice A' z.length c'] 37)
      have HV1 := Lib.hid hv1
      have HI1 := Lib.hid ((hi3.later (alloc_below wk (.cells #[.int .i64 x, .int .i64 y, .slice A' z.length c'] 37))).now)
      have l1 := look_map hv1 x
      have l2 := look_map hv1 (wrap64 (-x))
      rw [← hp1] at l1
      rw [show placeF ms k (wrap64 (-x)) = p2 from hp2.symm] at l2
      clear hp1 hp2 hL hb1 hv1 hi3
      by_cases hx0 : x = 0
      · have hxb : (x == 0) = true := by simpa using hx0
        have HF : Hid (r = false) := HEX.out (HOF.out fun h => HNZ.out h hx0)
        clear hx0
        go_wp2
        all_goals
          go_ret
          exact ⟨ret_bool HF.out.symm, HB1.out⟩
      · have hxb : (x == 0) = false := by simpa using hx0
        have HX0 := Lib.hid hx0
        clear hx0
        by_cases hxm : x = MIN
        · have hxb2 : (x == -9223372036854775808) = true := by rw [beq_iff_eq]; exact hxm
          have HF : Hid (r = false) := HEX.out (HOF.out fun h => HNM.out h hxm)
          clear hxm
          go_wp2
          all_goals
            go_ret
            exact ⟨ret_bool HF.out.symm, HB1.out⟩
        · have hxb2 : (x == -9223372036854775808) = false := by rw [beq_eq_false_iff_ne]; exact hxm
          have HXM := Lib.hid hxm
          clear hxm
          cases hs1 : p1.isSome with
          | true =>
            obtain ⟨i, hi, e⟩ := HP3.out hs1
            have HF : Hid (r = false) := HEX.out (HOF.out fun h => HN3.out h i hi e)
            rw [hs1] at l1
            clear hs1 hi e
            go_wp2
            all_goals
              go_ret
              exact ⟨ret_bool HF.out.symm, HB1.out⟩
          | false =>
            rw [hs1] at l1
            have HS1 := Lib.hid hs1
            clear hs1
            cases hs2 : p2.isSome with
            | true =>
              obtain ⟨i, hi, e⟩ := HP4.out hs2
              have HF : Hid (r = false) := HEX.out (HOF.out fun h => HN4.out h i hi e)
              rw [hs2] at l2
              clear hs2 hi e
              go_wp2
              all_goals
                go_ret
                exact ⟨ret_bool HF.out.symm, HB1.out⟩
            | false =>
              rw [hs2] at l2
              have HS2 := Lib.hid hs2
              clear hs2
              by_cases hyl : y < L
              · have HF : Hid (r = false) := HEX.out (HOF.out fun h => by have := HLV.out h; omega)
                go_wp2
                all_goals
                  go_ret
                  exact ⟨ret_bool HF.out.symm, HB1.out⟩
              · obtain ⟨w2, hr2, hm2, hg2, _⟩ := HV1.out.run_update Try.underlying47 Try.underlying3 x (.int .i64 (k : Nat))
                rw [HU.out] at hm2
                have HM2 := Lib.hid hm2
                have HB2 := Lib.hid (below_grown HB1.out hg2 HB1.out.size (fun q e => by cases e; exact Nat.le_refl _))
                clear hm2 hg2
                by_cases hz : z = []
                · have hz1 : ((z.length : Int) == 0) = true := by rw [hz]; rfl
                  have hz2 : ¬ (0 : Int) < (z.length : Int) := by rw [hz]; simp
                  have hz3 : decide (0 < z.length) = false := by rw [hz]; rfl
                  have HZ := Lib.hid hz
                  clear hz
                  by_cases hy0 : 0 < y
                  · by_cases hly : L < y
                    · have hd : decide (L < y) = true := decide_eq_true hly
                      have HN' : Hid (rightN ms (k + 1) = true) := all_range HN.out (HOK.out HX0.out HXM.out HS1.out HS2.out (by omega) (fun _ => ⟨fun _ => HZ.out, fun _ => hly⟩) (.inl HZ.out))
                      go_wp2
                      all_goals
                        go_roundw
                        case rel => exact ⟨k + 1, _, rfl, by omega, by go_num, by rw [HNL.out], HN', HM2, HB2⟩
                        case measure => simp [intOf]; omega
                    · have hd : decide (L < y) = false := decide_eq_false hly
                      have HF : Hid (r = false) := HEX.out (HOF.out fun h => hly ((HFI.out h hy0).2 HZ.out))
                      go_wp2
                      all_goals
                        go_ret
                        exact ⟨ret_bool HF.out.symm, HB1.out⟩
                  · have HN' : Hid (rightN ms (k + 1) = true) := all_range HN.out (HOK.out HX0.out HXM.out HS1.out HS2.out (by omega) (fun q => absurd q hy0) (.inl HZ.out))
                    go_wp2
                    all_goals
                      go_roundw
                      case rel => exact ⟨k + 1, _, rfl, by omega, by go_num, by rw [HNL.out], HN', HM2, HB2⟩
                      case measure => simp [intOf]; omega
                · have hzp : 0 < z.length := List.length_pos_iff.2 hz
                  have hz1 : ((z.length : Int) == 0) = false := by rw [beq_eq_false_iff_ne]; omega
                  have hz2 : (0 : Int) < (z.length : Int) := by omega
                  have hz3 : decide (0 < z.length) = true := decide_eq_true hzp
                  have HZ := Lib.hid hz
                  clear hz
                  by_cases hbad : 0 < y ∧ L < y
                  · obtain ⟨hy0, hly⟩ := hbad
                    have hd : decide (L < y) = true := decide_eq_true hly
                    have HF : Hid (r = false) := HEX.out (HOF.out fun h => HZ.out ((HFI.out h hy0).1 hly))
                    clear hr2
                    go_wp2
                    all_goals
                      go_ret
                      exact ⟨ret_bool HF.out.symm, HB1.out⟩
                  · have hFI : 0 < y → (L < y ↔ z = []) := fun q => ⟨fun q2 => absurd ⟨q, q2⟩ hbad, fun q2 => absurd q2 HZ.out⟩
                    have HFI2 := Lib.hid hFI
                    obtain ⟨t, ht⟩ : ∃ t, t = followG (placeF ms k) x z := ⟨_, rfl⟩
                    have HC := Lib.hid (follows_any x y c' _ HI1.out rfl hzl HV1.out ht.symm)
                    have HTF : Hid (t = followsB (litsOf (ms.take k)) ⟨x, y, z⟩) := by show _ = _; rw [ht]; exact HFS.out
                    clear ht hFI hr2
                    cases t with
                    | false =>
                      have HF : Hid (r = false) := HEX.out (HOW.out HZ.out HTF.out.symm)
                      by_cases hy0 : 0 < y
                      · have hly : ¬ L < y := fun q => hbad ⟨hy0, q⟩
                        have hd : decide (L < y) = false := decide_eq_false hly
                        clear hbad
                        go_wp2_with (go_at_call 36; refine HC.out.mono ?_; rintro e w5 ⟨rfl, hb5⟩; have HB5 := Lib.hid (HB1.out.trans (hb5.mono HB1.out.size)); clear hb5)
                        go_ret
                        exact ⟨ret_bool HF.out.symm, HB5.out⟩
                      · clear hbad
                        go_wp2_with (go_at_call 36; refine HC.out.mono ?_; rintro e w5 ⟨rfl, hb5⟩; have HB5 := Lib.hid (HB1.out.trans (hb5.mono HB1.out.size)); clear hb5)
                        all_goals
                          go_ret
                          exact ⟨ret_bool HF.out.symm, HB5.out⟩
                    | true =>
                      have HN' : Hid (rightN ms (k + 1) = true) := all_range HN.out (HOK.out HX0.out HXM.out HS1.out HS2.out (by omega) HFI2.out (.inr HTF.out.symm))
                      by_cases hy0 : 0 < y
                      · have hly : ¬ L < y := fun q => hbad ⟨hy0, q⟩
                        have hd : decide (L < y) = false := decide_eq_false hly
                        clear hbad
                        go_wp2_with (go_at_call 36; refine HC.out.mono ?_; rintro e w5 ⟨rfl, hb5⟩; have HB5 := Lib.hid (HB1.out.trans (hb5.mono HB1.out.size)); have hv5 := HV1.out.below hb5 HV1.out.lt; obtain ⟨w6, hr6, hm6, hg6, _⟩ := hv5.run_update Try.underlying47 Try.underlying3 x (.int .i64 (k : Nat)); rw [HU.out] at hm6; have HM6 := Lib.hid hm6; have HB6 := Lib.hid (below_grown HB5.out hg6 HB5.out.size (fun q e => by cases e; exact Nat.le_refl _)); have hbx5 := box3 (hb5.mono (Nat.le_refl _)); obtain ⟨k0, k1, k2⟩ := hbx5; clear hb5 hv5 hm6 hg6)
                        go_roundw
                        case rel => exact ⟨k + 1, _, rfl, by omega, by go_num, by rw [HNL.out], HN', HM6, HB6⟩
                        case measure => simp [intOf]; omega
                      · clear hbad
                        go_wp2_with (go_at_call 36; refine HC.out.mono ?_; rintro e w5 ⟨rfl, hb5⟩; have HB5 := Lib.hid (HB1.out.trans (hb5.mono HB1.out.size)); have hv5 := HV1.out.below hb5 HV1.out.lt; obtain ⟨w6, hr6, hm6, hg6, _⟩ := hv5.run_update Try.underlying47 Try.underlying3 x (.int .i64 (k : Nat)); rw [HU.out] at hm6; have HM6 := Lib.hid hm6; have HB6 := Lib.hid (below_grown HB5.out hg6 HB5.out.size (fun q e => by cases e; exact Nat.le_refl _)); have hbx5 := box3 (hb5.mono (Nat.le_refl _)); obtain ⟨k0, k1, k2⟩ := hbx5; clear hb5 hv5 hm6 hg6)
                        all_goals
                          go_roundw
                          case rel => exact ⟨k + 1, _, rfl, by omega, by go_num, by rw [HNL.out], HN', HM6, HB6⟩
                          case measure => simp [intOf]; omega
    · have HT : Hid (r = true) := by
        show _ = _
        rw [← HR.out]
        have := HN.out
        rwa [show k = ms.length by omega] at this
      go_wp2
      go_ret
      exact ⟨ret_bool HT.out.symm, HB.out⟩
end Go.Proofs.Ythnjjonjhenifaa

/- The walks of learn.False, latest, back and Back. -/
namespace Go.Proofs.Ythnjjonjhenifaa
set_option linter.unusedVariables false
set_option linter.unusedSimpArgs false
open Go.RowKit

/-- Marks of a workable size. -/
def Sized (ms : List Mk) : Prop := ms.length ≤ 1000 ∧ ∀ i, i < ms.length → (atM ms i).why.length ≤ 1000

set_option maxRecDepth 100000 in
set_option maxHeartbeats 600000 in
theorem false_any {A A2 : Option Addr} {ms : List Mk} {cl : List Int} {n : Nat} {r : Bool} (c c2 : Nat) (w : World) (hM : MarksAt w.heap.size w A ms) (hI : IntsAt w.heap.size w A2 cl) (hz : Sized ms) (hn : cl.length = n) (hn1 : n ≤ 1000) (hr : falseB ms cl = r) :
    Calls Try.prog 14 #[.slice A ms.length c, .slice A2 n c2] w fun e w' => e = .returned (.bool r) ∧ Below w.heap.size w w' := by
  have HM := Lib.hid hM
  have HI := Lib.hid hI
  have HC (q : Bool) (hq : rightB ms = q) := right_any c w hM (by have := hz.1; omega) (fun i hi => by have := hz.2 i hi; omega) hq
  cases hb : rightB ms with
  | false =>
    have HC1 := Lib.hid (HC false hb)
    have HF : Hid (r = false) := by show _ = _; rw [← hr]; unfold falseB; rw [hb]; rfl
    clear HC hb hr hM hI hn
    go_enter Try.func14, Try.ntmps14
    go_wp2_with (go_at_call 13; refine HC1.out.mono ?_; rintro e w1 ⟨rfl, hb1⟩; have HB1 := Lib.hid hb1; clear hb1)
    go_ret
    exact ⟨ret_bool HF.out.symm, HB1.out⟩
  | true =>
    have HC1 := Lib.hid (HC true hb)
    have HR : Hid ((litSort cl).all (fun x => (placeF ms ms.length (neg x)).isSome) = r) := by
      show _ = _
      rw [← hr]
      unfold falseB
      rw [hb, Bool.true_and]
      congr 1
      funext x
      exact place_has
    have HZ := Lib.hid hz
    have HN := Lib.hid hn
    clear HC hb hr hM hI hn
    go_enter Try.func14, Try.ntmps14
    go_wp2_with (first
      | (go_at_call 13; refine HC1.out.mono ?_; rintro e w1 ⟨rfl, hb1⟩; have HB1 := Lib.hid hb1; have HP := Lib.hid (places_any c w1 ((HM.out.later hb1).mono hb1.size) (Nat.le_trans HZ.out.1 (by decide))); clear hb1)
      | (go_at_call 33; refine HP.out.mono ?_; rintro e w2 ⟨m, rfl, hmw, hmv, hb2⟩; have HV2 := Lib.hid hmv; have HB2 := Lib.hid (HB1.out.trans (hb2.mono HB1.out.size)); have HS := Lib.hid (litSort_any c2 w2 (HI.out.later HB2.out) HN.out (Nat.le_trans hn1 (by decide))); clear hmv hb2 hmw)
      | (go_at_call 32; refine HS.out.mono ?_; rintro e w3 ⟨A3, c3, rfl, ho3, hb3⟩; have HB3 := Lib.hid (HB2.out.trans (hb3.mono HB2.out.size)); have HI3 := Lib.hid (own_ints ho3); have HV3 := Lib.hid (HV2.out.below hb3 HV2.out.lt); clear ho3 hb3))
    have HTL : Hid ((litSort cl).length ≤ 1000000) := Nat.le_trans (sort_len cl) (by have := HN.out; omega)
    obtain ⟨T, hT⟩ : ∃ T, T = litSort cl := ⟨_, rfl⟩
    rw [← hT] at HI3 HR HTL ⊢
    have hTl := HTL.out
    clear hT
    go_loop [18] (fun i => ∃ k : Nat, k ≤ T.length ∧ i = .int .i64 (k : Nat) ∧ Hid ((T.take k).all (fun x => (placeF ms ms.length (neg x)).isSome) = true)) (fun i => T.length - (intOf i).toNat)
    case atStart => exact ⟨0, Nat.zero_le _, rfl, by show _ = _; simp⟩
    case round =>
      obtain ⟨k, hk, rfl, HA⟩ := hrel
      by_cases hlt : k < T.length
      · obtain ⟨ad, rfl, hx⟩ := HI3.out.cell k hlt
        obtain ⟨z, hz⟩ : ∃ z, z = T[k] := ⟨_, rfl⟩
        rw [← hz] at hx
        have HZ := Lib.hid hz
        have l1 := look_map HV3.out (wrap64 (-z))
        clear hz
        cases hg : (placeF ms ms.length (wrap64 (-z))).isSome with
        | true =>
          have HA' : Hid ((T.take (k + 1)).all (fun x => (placeF ms ms.length (neg x)).isSome) = true) := all_take hlt HA.out (by rw [← HZ.out]; exact hg)
          rw [hg] at l1
          clear hg
          go_wp2
          go_round
          case rel => exact ⟨k + 1, by omega, by go_num, HA'⟩
          case measure => simp [intOf]; omega
        | false =>
          have HF : Hid (r = false) := by
            show _ = _
            rw [← HR.out]
            exact all_fails hlt (by rw [← HZ.out]; exact hg)
          rw [hg] at l1
          clear hg
          go_wp2
          go_ret
          exact ⟨ret_bool HF.out.symm, HB3.out⟩
      · have HTT : Hid (r = true) := by
          show _ = _
          rw [← HR.out]
          have := HA.out
          rwa [List.take_of_length_le (by omega)] at this
        go_wp2
        go_ret
        exact ⟨ret_bool HTT.out.symm, HB3.out⟩

theorem latest_snoc {ms : List Mk} {c : List Int} {k : Nat} (hk : k < c.length) : latestP ms (c.take (k + 1)) = max (latestP ms (c.take k)) (posI ms c[k]) := foldl_snoc hk
set_option maxHeartbeats 400000 in
theorem latest_any {B m : Nat} {A : Option Addr} {ms : List Mk} {cl : List Int} {n : Nat} (c : Nat) (w : World) (hV : MapV w m (mapF (placeF ms ms.length))) (hI : IntsAt B w A cl) (hn : cl.length = n) (hn1 : n ≤ 1000) :
    Calls Try.prog 34 #[.map (some m), .slice A n c] w fun e w' => e = .returned (.int .i64 (latestP ms cl)) ∧ w = w' := by
  subst hn
  have HV := Lib.hid hV
  have HI := Lib.hid hI
  clear hV hI
  go_enter Try.func34, Try.ntmps34
  go_wp2
  go_loop [5, 10] (fun b i => ∃ k : Nat, k ≤ cl.length ∧ i = .int .i64 (k : Nat) ∧ b = .int .i64 (latestP ms (cl.take k))) (fun _ i => cl.length - (intOf i).toNat)
  case atStart => exact ⟨0, Nat.zero_le _, rfl, rfl⟩
  case round =>
    obtain ⟨k, hk, rfl, rfl⟩ := hrel
    by_cases hlt : k < cl.length
    · obtain ⟨ad, rfl, hx⟩ := HI.out.cell k hlt
      have HS := Lib.hid (latest_snoc (ms := ms) hlt)
      obtain ⟨z, hz⟩ : ∃ z, z = cl[k] := ⟨_, rfl⟩
      rw [← hz] at hx HS
      have l1 := look_map1 HV.out (wrap64 (-z))
      obtain ⟨p, hp⟩ : ∃ p, p = (placeF ms ms.length (wrap64 (-z))).getD 0 := ⟨_, rfl⟩
      rw [← hp] at l1
      have hp2 : p = posI ms z := hp
      rw [← hp2] at HS
      obtain ⟨L, hL⟩ : ∃ L, L = latestP ms (cl.take k) := ⟨_, rfl⟩
      rw [← hL] at HS ⊢
      clear hz hp hp2 hL
      go_wp2
      go_round
      case rel => exact ⟨k + 1, by omega, by go_num, by rw [HS.out]⟩
      case measure => simp [intOf]; omega
    · have HE : Hid (cl.take k = cl) := List.take_of_length_le (by omega)
      go_wp2
      go_ret
      exact ⟨ret_int (by rw [HE.out]), rfl⟩

theorem fold_back_snoc {ms : List Mk} {c : List Int} {last : Int} {k : Nat} (hk : k < c.length) : (c.take (k + 1)).foldl (backStep ms last) 0 = backStep ms last ((c.take k).foldl (backStep ms last) 0) c[k] := foldl_snoc hk
set_option maxHeartbeats 600000 in
theorem back_any {A A2 : Option Addr} {ms : List Mk} {cl : List Int} {n : Nat} (c c2 : Nat) (w : World) (hM : MarksAt w.heap.size w A ms) (hI : IntsAt w.heap.size w A2 cl) (hz : Sized ms) (hn : cl.length = n) (hn1 : n ≤ 1000) (hpos : ∀ x ∈ cl, ∃ i : Nat, i < ms.length ∧ posI ms x = i) :
    Calls Try.prog 35 #[.slice A ms.length c, .slice A2 n c2] w fun e w' => e = .returned (.int .i64 (backP ms cl)) ∧ Below w.heap.size w w' := by
  subst hn
  have HM := Lib.hid hM
  have HI := Lib.hid hI
  have HP := Lib.hid (places_any c w hM (Nat.le_trans hz.1 (by decide)))
  have HPO := Lib.hid hpos
  have hml := hz.1
  clear hM hI hpos hz
  go_enter Try.func35, Try.ntmps35
  go_wp2_with (first
    | (go_at_call 33; refine HP.out.mono ?_; rintro e w2 ⟨m, rfl, hmw, hmv, hb2⟩; have HV2 := Lib.hid hmv; have HB2 := Lib.hid hb2; have HL := Lib.hid (latest_any c2 w2 hmv (HI.out.later hb2) rfl hn1); clear hmv hb2 hmw)
    | (go_at_call 34; refine HL.out.mono ?_; rintro e w3 ⟨rfl, rfl⟩))
  have HE : Hid (backP ms cl = cl.foldl (backStep ms (latestP ms cl)) 0) := rfl
  obtain ⟨L, hL⟩ : ∃ L, L = latestP ms cl := ⟨_, rfl⟩
  rw [← hL] at HE ⊢
  clear hL
  go_loop [7, 17] (fun b i => ∃ k : Nat, k ≤ cl.length ∧ i = .int .i64 (k : Nat) ∧ b = .int .i64 ((cl.take k).foldl (backStep ms L) 0)) (fun _ i => cl.length - (intOf i).toNat)
  case atStart => exact ⟨0, Nat.zero_le _, rfl, rfl⟩
  case round =>
    obtain ⟨k, hk, rfl, rfl⟩ := hrel
    by_cases hlt : k < cl.length
    · obtain ⟨ad, rfl, hx⟩ := (HI.out.later HB2.out).cell k hlt
      have HS := Lib.hid (fold_back_snoc (ms := ms) (last := L) hlt)
      obtain ⟨i, hi, hpi⟩ := HPO.out _ (List.getElem_mem hlt)
      obtain ⟨z, hz⟩ : ∃ z, z = cl[k] := ⟨_, rfl⟩
      rw [← hz] at hx HS hpi
      have l1 := look_map1 HV2.out (wrap64 (-z))
      have hp : (placeF ms ms.length (wrap64 (-z))).getD 0 = (i : Int) := hpi
      rw [hp] at l1
      have HPI := Lib.hid hpi
      obtain ⟨ad2, A', c', rfl, _, h1, h2, h3, _, _⟩ := (HM.out.later HB2.out) i hi
      have HLV : Hid (levAt ms (i : Int) = (atM ms i).lev) := by show _ = _; unfold levAt; rw [Int.toNat_natCast]
      obtain ⟨y, hy⟩ : ∃ y, y = (atM ms i).lev := ⟨_, rfl⟩
      rw [← hy] at h2 HLV
      obtain ⟨b, hb⟩ : ∃ b, b = (cl.take k).foldl (backStep ms L) 0 := ⟨_, rfl⟩
      rw [← hb] at HS ⊢
      clear hz hp hpi hy hb
      by_cases he : (i : Int) = L
      · have heb : ((i : Int) != L) = false := by simpa using he
        have HS' : Hid ((cl.take (k + 1)).foldl (backStep ms L) 0 = b) := by show _ = _; rw [HS.out]; unfold backStep; rw [HPI.out, if_pos he]
        clear he
        go_wp2
        go_round
        case rel => exact ⟨k + 1, by omega, by go_num, by rw [HS'.out]⟩
        case measure => simp [intOf]; omega
      · have heb : ((i : Int) != L) = true := by simpa using he
        have HS' : Hid ((cl.take (k + 1)).foldl (backStep ms L) 0 = max b y) := by show _ = _; rw [HS.out]; unfold backStep; rw [HPI.out, if_neg he, HLV.out]
        clear he
        go_wp2
        go_round
        case rel => exact ⟨k + 1, by omega, by go_num, by rw [HS'.out]⟩
        case measure => simp [intOf]; omega
    · have HT : Hid (cl.take k = cl) := List.take_of_length_le (by omega)
      go_wp2
      go_ret
      exact ⟨ret_int (by rw [HE.out, HT.out]), HB2.out⟩
end Go.Proofs.Ythnjjonjhenifaa

/- The walk of learn.Resolve. -/
namespace Go.Proofs.Ythnjjonjhenifaa
set_option linter.unusedVariables false
set_option linter.unusedSimpArgs false
open Go.RowKit

theorem contains_near {B : Nat} {w : World} {A : Option Addr} {xs : List Int} {n : Nat} {q : Bool} (c : Nat) (x : Int) (h : IntsAt B w A xs) (hn : xs.length = n) (hb : n ≤ 1000000) (hq : decide (x ∈ xs) = q) :
    Calls Try.prog 44 #[.slice A n c, .int .i64 x] w fun r w' => r = .returned (.bool q) ∧ w = w' := by
  subst hn hq
  refine (contains_at (c := c) h (by omega) x).mono ?_
  rintro e w' ⟨h1, h2⟩
  exact ⟨by rw [h1]; simp, h2⟩

def resF (n : Nat) (l : Int) (i : Nat) (x : Int) : Int := if i < n then (if x = l then 0 else x) else (if x = neg l then 0 else x)
def resZ (n : Nat) (l : Int) (Z : List Int) (k : Nat) : List Int := Z.mapIdx fun i x => if i < k then resF n l i x else x
theorem resZ_len {n : Nat} {l : Int} {Z : List Int} {k : Nat} : (resZ n l Z k).length = Z.length := by simp [resZ]
theorem resZ_0 {n : Nat} {l : Int} {Z : List Int} : resZ n l Z 0 = Z := by
  apply List.ext_getElem?
  intro i
  simp [resZ]
theorem resZ_at {n : Nat} {l : Int} {Z : List Int} {k : Nat} (hk : k < Z.length) : (resZ n l Z k)[k]? = some Z[k] := by
  simp [resZ, hk]
theorem resZ_set {n : Nat} {l : Int} {Z : List Int} {k : Nat} (hk : k < Z.length) : (resZ n l Z k).set k (resF n l k Z[k]) = resZ n l Z (k + 1) := by
  apply List.ext_getElem?
  intro i
  rw [List.getElem?_set]
  by_cases h : k = i
  · subst h
    simp [resZ, hk]
  · rw [if_neg h]
    simp only [resZ, List.getElem?_mapIdx]
    cases Z[i]? with
    | none => rfl
    | some x =>
      simp only [Option.map_some]
      by_cases h2 : i < k
      · rw [if_pos h2, if_pos (by omega)]
      · rw [if_neg h2, if_neg (by omega)]
theorem resZ_same {n : Nat} {l : Int} {Z : List Int} {k : Nat} (hk : k < Z.length) (h : resF n l k Z[k] = Z[k]) : resZ n l Z k = resZ n l Z (k + 1) := by
  rw [← resZ_set hk, h]
  apply List.ext_getElem?
  intro i
  rw [List.getElem?_set]
  by_cases h2 : k = i
  · subst h2
    rw [if_pos rfl, if_pos (by rw [resZ_len]; exact hk), resZ_at hk]
  · rw [if_neg h2]
theorem resZ_res {a b : List Int} {l : Int} (hl : l ≠ 0) : litSort (resZ a.length l (a ++ b) (a ++ b).length) = resP a b l := by
  refine sort_of (sort_asc _) (fun n => ?_)
  rw [sort_mem]
  have e : n ∈ resZ a.length l (a ++ b) (a ++ b).length ↔ ∃ i, ∃ h : i < (a ++ b).length, resF a.length l i (a ++ b)[i] = n := by
    rw [List.mem_iff_getElem]
    constructor
    · rintro ⟨i, hi, h⟩
      rw [resZ_len] at hi
      refine ⟨i, hi, ?_⟩
      rw [← h]
      simp only [resZ, List.getElem_mapIdx]
      rw [if_pos hi]
    · rintro ⟨i, hi, h⟩
      refine ⟨i, by rw [resZ_len]; exact hi, ?_⟩
      rw [← h]
      simp only [resZ, List.getElem_mapIdx]
      rw [if_pos hi]
  rw [e]
  simp only [List.mem_append, List.mem_filter]
  constructor
  · rintro ⟨⟨i, hi, h⟩, h0⟩
    refine ⟨?_, h0⟩
    unfold resF at h
    by_cases hia : i < a.length
    · rw [if_pos hia, List.getElem_append_left hia] at h
      by_cases hx : a[i] = l
      · rw [if_pos hx] at h; exact absurd h.symm h0
      · rw [if_neg hx] at h
        exact .inl ⟨by rw [← h]; exact List.getElem_mem hia, by rw [← h]; simpa using hx⟩
    · have hib : i - a.length < b.length := by rw [List.length_append] at hi; omega
      rw [if_neg hia, List.getElem_append_right (by omega)] at h
      by_cases hx : b[i - a.length] = neg l
      · rw [if_pos hx] at h; exact absurd h.symm h0
      · rw [if_neg hx] at h
        exact .inr ⟨by rw [← h]; exact List.getElem_mem hib, by rw [← h]; simpa using hx⟩
  · rintro ⟨h | h, h0⟩
    · obtain ⟨h1, h2⟩ := h
      obtain ⟨i, hi, h3⟩ := List.mem_iff_getElem.1 h1
      refine ⟨⟨i, by rw [List.length_append]; omega, ?_⟩, h0⟩
      unfold resF
      rw [if_pos hi, List.getElem_append_left hi, h3, if_neg (by simpa using h2)]
    · obtain ⟨h1, h2⟩ := h
      obtain ⟨i, hi, h3⟩ := List.mem_iff_getElem.1 h1
      refine ⟨⟨a.length + i, by rw [List.length_append]; omega, ?_⟩, h0⟩
      unfold resF
      rw [if_neg (by omega), List.getElem_append_right (by omega)]
      simp only [Nat.add_sub_cancel_left]
      rw [h3, if_neg (by simpa using h2)]
theorem splice_head (xs : List Int) (m : Nat) : splice (ints (List.replicate (xs.length + m) 0)) 0 (ints xs) = ints (xs ++ List.replicate m 0) := by
  unfold splice ints
  simp
theorem splice_tail (xs ys : List Int) : splice (ints (xs ++ List.replicate ys.length 0)) xs.length (ints ys) = ints (xs ++ ys) := by
  unfold splice ints
  simp
theorem block_cell {w : World} {g : Nat} {xs : List Int} (h : w.heap[g]? = some (.cells (ints xs).toArray 3 (0, 0))) {i : Nat} {x : Int} (hi : xs[i]? = some x) : w.cell? ⟨g, i, none⟩ = some (.int .i64 x) ∧ w.frozen? ⟨g, i, none⟩ = false := by
  constructor
  · simp [World.cell?, h, ints, hi]
  · simp [World.frozen?, h]
theorem block_set {w : World} {g : Nat} {xs : List Int} (h : w.heap[g]? = some (.cells (ints xs).toArray 3 (0, 0))) {i : Nat} {x : Int} (hi : i < xs.length) : (w.setCell ⟨g, i, none⟩ (.int .i64 x)).heap[g]? = some (.cells (ints (xs.set i x)).toArray 3 (0, 0)) := by
  simp [World.setCell, Array.getElem?_modify, h, ints, List.map_set]
theorem block_ints {w : World} {g : Nat} {xs : List Int} (h : w.heap[g]? = some (.cells (ints xs).toArray 3 (0, 0))) : IntsAt w.heap.size w (some ⟨g, 0, none⟩) xs := by
  intro i hi
  refine ⟨_, rfl, (Array.getElem?_eq_some_iff.1 h).1, ?_⟩
  rw [add_free, Nat.zero_add]
  exact (block_cell h (List.getElem?_eq_getElem hi)).1
theorem own_block {w : World} {base g n : Nat} {xs : List Int} (h : w.ownsRow base 3 1 (.slice (some ⟨g, 0, none⟩) n n) n (ints xs)) (hx : xs.length = n) : w.heap[g]? = some (.cells (ints xs).toArray 3 (0, 0)) := by
  rcases h.2 with ⟨q, _⟩ | ⟨g', cap, cur, e, _, hb, _, _, hs, ht⟩
  · cases q
  · cases e
    have : cur = (ints xs).toArray := by
      apply Array.ext'
      rw [← ht, List.take_of_length_le (by simp [hs])]
    rw [hb, this]

theorem res_parts {a b : List Int} {l : Int} (h : resOk a b l = true) : l ≠ 0 ∧ l ≠ MIN ∧ l ∈ a ∧ neg l ∈ b := by
  unfold resOk at h
  simp only [Bool.and_eq_true, decide_eq_true_eq] at h
  exact ⟨h.1.1.1, h.1.1.2, h.1.2, h.2⟩
set_option maxHeartbeats 600000 in
theorem res_no {B : Nat} {A1 A2 : Option Addr} {a b : List Int} {n m : Nat} (l : Int) (c1 c2 : Nat) (w : World) (h1 : IntsAt B w A1 a) (h2 : IntsAt B w A2 b) (hn : a.length = n) (hm : b.length = m) (hn1 : n ≤ 10000) (hm1 : m ≤ 10000) (hr : resOk a b l = false) :
    Calls Try.prog 22 #[.slice A1 n c1, .slice A2 m c2, .int .i64 l] w fun e w' => e = .returned (.tuple #[.slice none 0 0, .bool false]) ∧ Below w.heap.size w w' := by
  by_cases hl0 : l = 0
  · have hb : (l == 0) = true := by simpa using hl0
    clear hl0 h1 h2 hr hn hm
    go_enter Try.func22, Try.ntmps22
    go_wp2
    go_ret2
    exact ⟨rfl, Below.refl _ _⟩
  · have hb : (l == 0) = false := by simpa using hl0
    by_cases hlm : l = MIN
    · have hb2 : (l == -9223372036854775808) = true := by rw [beq_iff_eq]; exact hlm
      clear hl0 hlm h1 h2 hr hn hm
      go_enter Try.func22, Try.ntmps22
      go_wp2
      go_ret2
      exact ⟨rfl, Below.refl _ _⟩
    · have hb2 : (l == -9223372036854775808) = false := by rw [beq_eq_false_iff_ne]; exact hlm
      by_cases hla : l ∈ a
      · have hlb : ¬ neg l ∈ b := by
          intro q
          unfold resOk at hr
          rw [decide_eq_true hl0, decide_eq_true hlm, decide_eq_true hla, decide_eq_true q] at hr
          cases hr
        have HC1 := Lib.hid (contains_near c1 l h1 hn (by omega) (decide_eq_true hla))
        have HC2 := Lib.hid (contains_near c2 (wrap64 (-l)) h2 hm (by omega) (decide_eq_false hlb))
        clear hl0 hlm h1 h2 hr hn hm hla hlb
        go_enter Try.func22, Try.ntmps22
        go_wp2_with (go_at_call 44; first
          | ((with_reducible refine HC1.out.mono ?_); rintro e w' ⟨rfl, rfl⟩)
          | ((with_reducible refine HC2.out.mono ?_); rintro e w' ⟨rfl, rfl⟩))
        go_ret2
        exact ⟨rfl, Below.refl _ _⟩
      · have HC1 := Lib.hid (contains_near c1 l h1 hn (by omega) (decide_eq_false hla))
        clear hl0 hlm h1 h2 hr hn hm hla
        go_enter Try.func22, Try.ntmps22
        go_wp2_with (go_at_call 44; refine HC1.out.mono ?_; rintro e w' ⟨rfl, rfl⟩)
        go_ret2
        exact ⟨rfl, Below.refl _ _⟩
theorem copy_run {B g off dLen dCap sCap : Nat} {w : World} {A : Option Addr} {zs xs : List Int} (hb : w.heap[g]? = some (.cells (ints zs).toArray 3 (0, 0))) (hI : IntsAt B w A xs) (hx : 0 < xs.length) (hle : xs.length ≤ dLen) (hfit : off + xs.length ≤ zs.length) :
    ∃ w2, (Builtin.copy_ #[23, 23] 3 #[.slice (some ⟨g, off, none⟩) dLen dCap, .slice A xs.length sCap]).run Try.prog w = .ok (.int .i64 (xs.length : Nat)) w2 ∧ w2.heap[g]? = some (.cells (splice (ints zs) off (ints xs)).toArray 3 (0, 0)) ∧ Below g w w2 := by
  obtain ⟨ad, rfl, _⟩ := hI 0 hx
  have hl : (ints xs).length = xs.length := by simp [ints]
  have hz : (ints zs).length = zs.length := by simp [ints]
  have hrun := run_copy_row (P := Try.prog) w 23 23 3 3 g off dLen dCap ad xs.length sCap (ints zs).toArray 3 (ints xs) Try.underlying23 (by kernel_rfl) hb (by rw [hl]; exact (Nat.min_eq_left hle).symm)
    (by intro j v hj
        rw [ints, List.getElem?_map] at hj
        cases hy : xs[j]? with
        | none => rw [hy] at hj; cases hj
        | some y =>
          rw [hy] at hj
          cases hj
          obtain ⟨hl, rfl⟩ := List.getElem?_eq_some_iff.1 hy
          obtain ⟨ad', e, _, hc⟩ := hI j hl
          cases e
          exact hc) (by simpa [ints] using hfit) (by intro v hv; obtain ⟨n, _, rfl⟩ := List.mem_map.1 hv; rfl)
  have e : goInt ((ints xs).length : Nat) = .int .i64 (xs.length : Nat) := by rw [hl]; rfl
  rw [e] at hrun
  refine ⟨_, hrun, ?_, below_setRow (Below.refl g w) (Nat.le_refl _) _⟩
  simpa [splice] using setRow_heap w g _ _ 3 _ hb
def ResPost (B : Nat) (rs : List Int) (w : World) (e : Ending) (w' : World) : Prop :=
  ∃ A c, e = .returned (.tuple #[.slice A rs.length c, .bool true]) ∧ w'.ownsRow B 3 1 (.slice A rs.length c) rs.length (ints rs) ∧ Below w.heap.size w w'
set_option maxRecDepth 100000 in
set_option maxHeartbeats 1000000 in
theorem res_yes {A1 A2 : Option Addr} {a b : List Int} {n m : Nat} (l : Int) (c1 c2 : Nat) (w : World) (h1 : IntsAt w.heap.size w A1 a) (h2 : IntsAt w.heap.size w A2 b) (hn : a.length = n) (hm : b.length = m) (hn1 : n ≤ 10000) (hm1 : m ≤ 10000) (hr : resOk a b l = true) :
    Calls Try.prog 22 #[.slice A1 n c1, .slice A2 m c2, .int .i64 l] w (ResPost w.heap.size (resP a b l) w) := by
  obtain ⟨hl0, hlm, hla, hlb⟩ := res_parts hr
  have hb : (l == 0) = false := by simpa using hl0
  have hb2 : (l == -9223372036854775808) = false := by rw [beq_eq_false_iff_ne]; exact hlm
  have HC1 := Lib.hid (contains_near c1 l h1 hn (by omega) (decide_eq_true hla))
  have HC2 := Lib.hid (contains_near c2 (wrap64 (-l)) h2 hm (by omega) (decide_eq_true hlb))
  have hn0 : 0 < n := by rw [← hn]; exact List.length_pos_of_mem hla
  have hm0 : 0 < m := by rw [← hm]; exact List.length_pos_of_mem hlb
  have HRES := Lib.hid (resZ_res (a := a) (b := b) hl0)
  have HI1 := Lib.hid h1
  have HI2 := Lib.hid h2
  have HN := Lib.hid hn
  have HMM := Lib.hid hm
  obtain ⟨w1, hmk, hown1, hg1⟩ := make_full (P := Try.prog) (t := 23) (n := n + m) (base := w.heap.size) (w := w) Try.underlying23 info_int rfl (by omega) (by omega) (Nat.le_refl _)
  rw [Int.natCast_add] at hmk
  have hblk1 : w1.heap[w.heap.size]? = some (.cells (ints (List.replicate (a.length + m) 0)).toArray 3 (0, 0)) := by
    rw [hn]
    exact own_block (by simpa [ints] using hown1) (by simp)
  have hb1 := below_grown (Below.refl w.heap.size w) hg1 (Nat.le_refl _) (fun q e => by cases e)
  obtain ⟨w2, hcp2, hblk2, hb2'⟩ := copy_run (off := 0) (dLen := n + m) (dCap := n + m) (sCap := c1) hblk1 (h1.below hb1) (by omega) (by omega) (by rw [List.length_replicate]; omega)
  rw [splice_head] at hblk2
  have hb2 := hb1.trans hb2'
  obtain ⟨w3, hcp3, hblk3, hb3'⟩ := copy_run (off := n) (dLen := m) (dCap := m) (sCap := c2) hblk2 (h2.below hb2) (by omega) (by omega) (by rw [List.length_append, List.length_replicate]; omega)
  have hb3 := hb2.trans hb3'
  have hblk4 : w3.heap[w.heap.size]? = some (.cells (ints (resZ n l (a ++ b) 0)).toArray 3 (0, 0)) := by
    rw [hblk3, resZ_0, ← hn, ← hm, splice_tail]
  rw [hn] at hcp2
  rw [hm] at hcp3
  have HBK := Lib.hid hblk4
  have HB := Lib.hid hb3
  clear hl0 hlm h1 h2 hr hla hlb hown1 hg1 hblk1 hb1 hblk2 hb2' hb2 hblk3 hb3' hb3 hblk4
  have hZl : (a ++ b).length = n + m := by rw [List.length_append, hn, hm]
  have HZL := Lib.hid hZl
  obtain ⟨Z, hZ⟩ : ∃ Z, Z = a ++ b := ⟨_, rfl⟩
  rw [← hZ] at HBK HRES HZL
  clear hn hm hZl hZ
  go_enter Try.func22, Try.ntmps22
  go_wp2_with (first
    | (go_at_call 44; first
        | ((with_reducible refine HC1.out.mono ?_); rintro e w' ⟨rfl, rfl⟩)
        | ((with_reducible refine HC2.out.mono ?_); rintro e w' ⟨rfl, rfl⟩)))
  have hnm : Z.length = n + m := HZL.out
  clear hnm
  go_loopw [47] (fun i wr => ∃ (k : Nat) (wk : World), wk = wr ∧ k ≤ n + m ∧ i = .int .i64 (k : Nat) ∧ Hid (wk.heap[w.heap.size]? = some (.cells (ints (resZ n l Z k)).toArray 3 (0, 0))) ∧ Hid (Below w.heap.size w wk)) (fun i _ => n + m - (intOf i).toNat)
  case atStart => exact ⟨0, _, rfl, Nat.zero_le _, rfl, HBK, HB⟩
  case round =>
    clear HBK HB
    obtain ⟨k, wk, rfl, hk, rfl, HBK, HB⟩ := hrel
    by_cases hlt : k < n + m
    · have hkz : k < Z.length := by have := HZL.out; omega
      have HSE : Hid ((resZ n l Z k).set k (resF n l k Z[k]) = resZ n l Z (k + 1)) := resZ_set hkz
      have HSA := Lib.hid (fun h => (resZ_same (n := n) (l := l) hkz h : resZ n l Z k = resZ n l Z (k + 1)))
      obtain ⟨hc, hf⟩ := block_cell HBK.out (resZ_at hkz)
      have HLN : Hid (k < (resZ n l Z k).length) := by show _ < _; rw [resZ_len]; exact hkz
      obtain ⟨x, hx⟩ : ∃ x, x = Z[k] := ⟨_, rfl⟩
      rw [← hx] at hc HSE HSA
      clear hx hkz
      by_cases hkn : k < n
      · have hkn' : (k : Int) < (n : Int) := by omega
        by_cases hxl : x = l
        · have hbx : (x == l) = true := by simpa using hxl
          have HBK' : Hid ((wk.setCell ⟨w.heap.size, k, none⟩ (.int .i64 0)).heap[w.heap.size]? = some (.cells (ints (resZ n l Z (k + 1))).toArray 3 (0, 0))) := by
            show _ = _
            have h0 : resF n l k x = 0 := by unfold resF; rw [if_pos hkn, if_pos hxl]
            have h9 := HSE.out
            rw [h0] at h9
            rw [← h9]
            exact block_set HBK.out HLN.out
          have HB' : Hid (Below w.heap.size w (wk.setCell ⟨w.heap.size, k, none⟩ (.int .i64 0))) := HB.out.setCell (Nat.le_refl _) _
          clear hxl
          go_wp2
          go_roundw
          case rel => exact ⟨k + 1, _, rfl, by omega, by go_num, HBK', HB'⟩
          case measure => simp [intOf]; omega
        · have hbx : (x == l) = false := by simpa using hxl
          have HBK' : Hid (wk.heap[w.heap.size]? = some (.cells (ints (resZ n l Z (k + 1))).toArray 3 (0, 0))) := by
            show _ = _
            rw [← HSA.out (by unfold resF; rw [if_pos hkn, if_neg hxl])]
            exact HBK.out
          clear hxl
          go_wp2
          go_roundw
          case rel => exact ⟨k + 1, _, rfl, by omega, by go_num, HBK', HB⟩
          case measure => simp [intOf]; omega
      · have hkn' : ¬ (k : Int) < (n : Int) := by omega
        by_cases hxl : x = neg l
        · have hbx : (x == wrap64 (-l)) = true := by rw [beq_iff_eq]; exact hxl
          have HBK' : Hid ((wk.setCell ⟨w.heap.size, k, none⟩ (.int .i64 0)).heap[w.heap.size]? = some (.cells (ints (resZ n l Z (k + 1))).toArray 3 (0, 0))) := by
            show _ = _
            have h0 : resF n l k x = 0 := by unfold resF; rw [if_neg hkn, if_pos hxl]
            have h9 := HSE.out
            rw [h0] at h9
            rw [← h9]
            exact block_set HBK.out HLN.out
          have HB' : Hid (Below w.heap.size w (wk.setCell ⟨w.heap.size, k, none⟩ (.int .i64 0))) := HB.out.setCell (Nat.le_refl _) _
          clear hxl
          go_wp2
          go_roundw
          case rel => exact ⟨k + 1, _, rfl, by omega, by go_num, HBK', HB'⟩
          case measure => simp [intOf]; omega
        · have hbx : (x == wrap64 (-l)) = false := by rw [beq_eq_false_iff_ne]; exact hxl
          have HBK' : Hid (wk.heap[w.heap.size]? = some (.cells (ints (resZ n l Z (k + 1))).toArray 3 (0, 0))) := by
            show _ = _
            rw [← HSA.out (by unfold resF; rw [if_neg hkn, if_neg hxl])]
            exact HBK.out
          clear hxl
          go_wp2
          go_roundw
          case rel => exact ⟨k + 1, _, rfl, by omega, by go_num, HBK', HB⟩
          case measure => simp [intOf]; omega
    · have hbk := HBK.out
      rw [show k = Z.length by have := HZL.out; omega] at hbk
      have hi := block_ints hbk
      have HS := Lib.hid (litSort_any (n := n + m) (n + m) wk hi (by rw [resZ_len]; exact HZL.out) (by omega))
      have HE : Hid (litSort (resZ n l Z Z.length) = resP a b l) := by
        show _ = _
        have := HRES.out
        rwa [HN.out] at this
      clear hbk hi
      go_wp2_with (go_at_call 32; refine HS.out.mono ?_; rintro e w5 ⟨A5, c5, rfl, ho5, hb5⟩; have HO5 := Lib.hid ho5; have HB5 := Lib.hid hb5; clear ho5 hb5)
      go_ret2
      refine ⟨A5, c5, congrArg (fun zs : List Int => Ending.returned (.tuple #[.slice A5 zs.length c5, .bool true])) HE.out, ?_, HB.out.trans (HB5.out.mono HB.out.size)⟩
      have := HO5.out
      rw [HE.out] at this
      exact own_base this HB.out.size
end Go.Proofs.Ythnjjonjhenifaa

/- The walks of learn.Back and learn.Learn. -/
namespace Go.Proofs.Ythnjjonjhenifaa
set_option linter.unusedVariables false
set_option linter.unusedSimpArgs false
open Go.RowKit

/-- Ints behind a slice, its cap no less than they are. -/
structure CapI (w : World) (A : Option Addr) (c : Nat) (xs : List Int) : Prop where
  at_ : IntsAt w.heap.size w A xs
  cap : xs.length ≤ c
theorem CapI.next {w w' : World} {A : Option Addr} {c : Nat} {xs : List Int} (h : CapI w A c xs) (hb : Below w.heap.size w w') : CapI w' A c xs := ⟨(h.at_.later hb).mono hb.size, h.cap⟩
theorem own_cap {w : World} {base : Nat} {A : Option Addr} {n c : Nat} {xs : List Int} (h : w.ownsRow base 3 1 (.slice A n c) xs.length (ints xs)) : CapI w A c xs := by
  obtain ⟨A9, c9, e, h9, hi⟩ := Ints.of_own h
  cases e
  exact ⟨hi, h9⟩
def tupW (R : List Int) : Word := .such (fun v w => ∃ A c, v = .tuple #[.slice A R.length c, .bool true] ∧ CapI w A c R) (fun v w w' h hb => let ⟨A, c, e, hi⟩ := h; ⟨A, c, e, hi.next hb⟩)
def capW (R : List Int) : Word := .such (fun v w => ∃ A c, v = .slice A R.length c ∧ CapI w A c R) (fun v w w' h hb => let ⟨A, c, e, hi⟩ := h; ⟨A, c, e, hi.next hb⟩)
def resWords (ad : Addr) (ms : List Mk) (c k : Nat) (Ac : Option Addr) (n cap : Nat) (Aw : Option Addr) (m cw : Nat) (x : Int) (R : List Int) : List Word := [.is (.slice Ac n cap), .is (.slice (some ad) ms.length c), .is (.int .i64 (k : Nat)), .is (.pointer (some (ad.add (k * 3)))), .is (.pointer (some ⟨(ad.add (k * 3)).block, (ad.add (k * 3)).off + 2, none⟩)), .is (.slice Aw m cw), .is (.slice (some ad) ms.length c), .is (.int .i64 (k : Nat)), .is (.pointer (some (ad.add (k * 3)))), .is (.pointer (some (ad.add (k * 3)))), .is (.int .i64 x), .is (.int .i64 (wrap64 (-x))), tupW R, tupW R, capW (R), .is (.bool true), capW (R)]
def stopA (L : Int) : List Word := [.is (.int .i64 L), .is (.bool true), .is (.bool true), .is (undef), .is (undef), .is (undef), .is (undef), .is (undef), .is (undef), .is (.bool true), .is (.bool true), .is (undef), .is (undef), .is (undef), .is (undef), .is (undef), .is (undef), .is (undef), .is (undef), .is (undef), .is (.bool true)]
def stopBW (ad : Addr) (ms : List Mk) (c k : Nat) (y : Int) : List Word := [.is (.int .i64 (k : Nat)), .is (.bool false), .is (.bool false), .is (.slice (some ad) ms.length c), .is (.int .i64 (k : Nat)), .is (.pointer (some (ad.add (k * 3)))), .is (.pointer (some ⟨(ad.add (k * 3)).block, (ad.add (k * 3)).off + 1, none⟩)), .is (.int .i64 y), .is (.bool true), .is (.bool true), .is (.bool true), .is (undef), .is (undef), .is (undef), .is (undef), .is (undef), .is (undef), .is (undef), .is (undef), .is (undef), .is (.bool true)]
def stopC (ad : Addr) (ms : List Mk) (c k : Nat) (y : Int) (A2 : Option Addr) (n c2 : Nat) (b : Int) (q : Bool) : List Word := [.is (.int .i64 (k : Nat)), .is (.bool false), .is (.bool false), .is (.slice (some ad) ms.length c), .is (.int .i64 (k : Nat)), .is (.pointer (some (ad.add (k * 3)))), .is (.pointer (some ⟨(ad.add (k * 3)).block, (ad.add (k * 3)).off + 1, none⟩)), .is (.int .i64 y), .is (.bool false), .is (.bool false), .is (.bool false), .is (.slice (some ad) ms.length c), .is (.slice A2 n c2), .is (.int .i64 b), .is (.slice (some ad) ms.length c), .is (.int .i64 (k : Nat)), .is (.pointer (some (ad.add (k * 3)))), .is (.pointer (some ⟨(ad.add (k * 3)).block, (ad.add (k * 3)).off + 1, none⟩)), .is (.int .i64 y), .is (.bool q), .is (.bool q)]

theorem Fal.len {ms : List Mk} {c : List Int} (h : Fal ms c) : c.length ≤ ms.length := by
  have := card_le (fun x y => neg x = y) c (litsOf ms) (asc_nodup h.asc) (fun x hx => ⟨neg x, h.out x hx, rfl⟩) (fun x hx y hy z h1 h2 => neg_inj (h.r64 x hx) (h.r64 y hy) (h1.trans h2.symm))
  unfold litsOf at this
  rwa [List.length_map] at this
theorem Fal.spot {ms : List Mk} {c : List Int} (h : Fal ms c) : ∀ x ∈ c, ∃ i : Nat, i < ms.length ∧ posI ms x = i := fun x hx =>
  let ⟨i, h1, h2, _⟩ := h.pos hx; ⟨i, h1, h2⟩
theorem marks_len {B : Nat} {w : World} {A : Option Addr} {ms : List Mk} (h : MarksAt B w A ms) {k : Nat} (hk : k < ms.length) : ∃ ad, A = some ad := let ⟨ad, _, _, e, _⟩ := h k hk; ⟨ad, e⟩

def backOf (ms : List Mk) (cl : List Int) : Int := if falseB ms cl = true then backP ms (litSort cl) else 0
set_option maxHeartbeats 400000 in
theorem backFn_any {A A2 : Option Addr} {ms : List Mk} {cl : List Int} {n : Nat} (c c2 : Nat) (w : World) (hM : MarksAt w.heap.size w A ms) (hI : IntsAt w.heap.size w A2 cl) (hz : Sized ms) (hn : cl.length = n) (hn1 : n ≤ 1000) (hr : ∀ x ∈ cl, R64 x) :
    Calls Try.prog 28 #[.slice A ms.length c, .slice A2 n c2] w fun e w' => e = .returned (.int .i64 (backOf ms cl)) ∧ Below w.heap.size w w' := by
  have HC (q : Bool) (hq : falseB ms cl = q) := false_any c c2 w hM hI hz hn hn1 hq
  cases hb : falseB ms cl with
  | false =>
    have HC1 := Lib.hid (HC false hb)
    have HE : Hid (backOf ms cl = 0) := by show _ = _; unfold backOf; rw [hb]; rfl
    clear HC hb hM hI hr hn
    go_enter Try.func28, Try.ntmps28
    go_wp2_with (go_at_call 14; refine HC1.out.mono ?_; rintro e w1 ⟨rfl, hb1⟩; have HB1 := Lib.hid hb1; clear hb1)
    go_ret
    exact ⟨ret_int HE.out.symm, HB1.out⟩
  | true =>
    have HC1 := Lib.hid (HC true hb)
    have HE : Hid (backOf ms cl = backP ms (litSort cl)) := by show _ = _; unfold backOf; rw [if_pos hb]
    have HF := Lib.hid (fal_of hr hb)
    have HM := Lib.hid hM
    have HI := Lib.hid hI
    have HN := Lib.hid hn
    have HZ := Lib.hid hz
    clear HC hb hM hI hr hn
    go_enter Try.func28, Try.ntmps28
    go_wp2_with (first
      | (go_at_call 14; refine HC1.out.mono ?_; rintro e w1 ⟨rfl, hb1⟩; have HB1 := Lib.hid hb1; have HS := Lib.hid (litSort_any c2 w1 (HI.out.later hb1) HN.out (Nat.le_trans hn1 (by decide))); clear hb1)
      | (go_at_call 32; refine HS.out.mono ?_; rintro e w3 ⟨A3, c3, rfl, ho3, hb3⟩; have HB3 := Lib.hid (HB1.out.trans (hb3.mono HB1.out.size)); have HX := Lib.hid (back_any c c3 w3 ((HM.out.later HB3.out).mono HB3.out.size) (own_ints ho3) HZ.out rfl (Nat.le_trans (sort_len cl) (by rw [HN.out]; exact hn1)) HF.out.spot); clear ho3 hb3)
      | (go_at_call 35; refine HX.out.mono ?_; rintro e w4 ⟨rfl, hb4⟩; have HB4 := Lib.hid (HB3.out.trans (hb4.mono HB3.out.size)); clear hb4))
    go_ret
    exact ⟨ret_int HE.out.symm, HB4.out⟩

def LearnPost (ms : List Mk) (cl : List Int) (w : World) (e : Ending) (w' : World) : Prop :=
  ∃ r A c, learnP ms (ms.length + 2) (litSort cl) = some r ∧ Fal ms r ∧ stopB ms r = true ∧ e = .returned (.tuple #[.slice A r.length c, .int .i64 (backP ms r), .int .i64 0]) ∧ CapI w' A c r ∧ Below w.heap.size w w'
set_option maxHeartbeats 400000 in
theorem learn_no {A A2 : Option Addr} {ms : List Mk} {cl : List Int} {n : Nat} (c c2 : Nat) (w : World) (hM : MarksAt w.heap.size w A ms) (hI : IntsAt w.heap.size w A2 cl) (hz : Sized ms) (hn : cl.length = n) (hn1 : n ≤ 1000) (hf : falseB ms cl = false) :
    Calls Try.prog 12 #[.slice A ms.length c, .slice A2 n c2] w fun e w' => e = .returned (.tuple #[.slice none 0 0, .int .i64 0, .int .i64 2]) ∧ Below w.heap.size w w' := by
  have HC1 := Lib.hid (false_any c c2 w hM hI hz hn hn1 hf)
  clear hM hI hn hf
  go_enter Try.func12, Try.ntmps12
  go_wp2_with (go_at_call 14; refine HC1.out.mono ?_; rintro e w1 ⟨rfl, hb1⟩; have HB1 := Lib.hid hb1; clear hb1)
  go_ret3
  exact ⟨rfl, HB1.out⟩

set_option maxRecDepth 100000 in
set_option maxHeartbeats 2000000 in
theorem learn_yes {A A2 : Option Addr} {ms : List Mk} {cl : List Int} {n : Nat} (c c2 : Nat) (w : World) (hM : MarksAt w.heap.size w A ms) (hI : IntsAt w.heap.size w A2 cl) (hz : Sized ms) (hn : cl.length = n) (hn1 : n ≤ 1000) (hms : MsOk ms) (hr : ∀ x ∈ cl, R64 x) (hf : falseB ms cl = true) :
    Calls Try.prog 12 #[.slice A ms.length c, .slice A2 n c2] w (LearnPost ms cl w) := by
  have HC1 := Lib.hid (false_any c c2 w hM hI hz hn hn1 hf)
  have hfal := fal_of hr hf
  obtain ⟨r, hl⟩ := learn_ends hms (ms.length + 2) _ hfal (by have := latest_lt hfal; omega)
  obtain ⟨hfr, hsr⟩ := learn_fal hms _ _ _ hfal hl
  have HLP := Lib.hid hl
  have HFR := Lib.hid hfr
  have HSR := Lib.hid hsr
  have HFAL := Lib.hid hfal
  have HMS := Lib.hid hms
  have HM := Lib.hid hM
  have HI := Lib.hid hI
  have HN := Lib.hid hn
  have HZ := Lib.hid hz
  have hml := hz.1
  have HL0 : Hid (learnP ms (ms.length + 2) (litSort cl) = some r) := hl
  clear hM hI hn hf hms hr hfal hl hfr hsr hz
  go_enter Try.func12, Try.ntmps12
  go_wp2_with (first
    | (go_at_call 14; refine HC1.out.mono ?_; rintro e w1 ⟨rfl, hb1⟩; have HB1 := Lib.hid hb1; have HS := Lib.hid (litSort_any c2 w1 (HI.out.later hb1) HN.out (Nat.le_trans hn1 (by decide))); clear hb1)
    | (go_at_call 32; refine HS.out.mono ?_; rintro e w2 ⟨A3, c3, rfl, ho3, hb3⟩; have HB2 := Lib.hid (HB1.out.trans (hb3.mono HB1.out.size)); have HI2 := Lib.hid (own_cap ho3); have HP := Lib.hid (places_any c w2 ((HM.out.later HB2.out).mono HB2.out.size) (Nat.le_trans hml (by decide))); clear ho3 hb3)
    | (go_at_call 33; refine HP.out.mono ?_; rintro e w3 ⟨m, rfl, hmw, hmv, hb4⟩; have HV3 := Lib.hid hmv; have HB3 := Lib.hid (HB2.out.trans (hb4.mono HB2.out.size)); have HI3 := Lib.hid (HI2.out.next hb4); clear hmv hb4 hmw))
  go_loopg [7] (ms.length + 2) (fun f v wr => ∃ (cc : List Int) (Ac : Option Addr) (cap : Nat) (wk : World), wk = wr ∧ v = .slice Ac cc.length cap ∧ Hid (learnP ms f cc = some r) ∧ Hid (Fal ms cc) ∧ Hid (CapI wk Ac cap cc) ∧ Hid (MapV wk m (mapF (placeF ms ms.length))) ∧ Hid (Below w.heap.size w wk))
  case atStart => exact ⟨_, _, _, _, rfl, rfl, HL0, HFAL, HI3, HV3, HB3⟩
  case round =>
    clear HL0 HFAL HI3 HV3 HB3
    obtain ⟨cc, Ac, cap, wk, rfl, rfl, HLP2, HFA, HIK, HV, HB⟩ := hrel
    have HIC := Lib.hid HIK.out.at_
    have HCAP := Lib.hid HIK.out.cap
    clear HIK
    obtain ⟨f, rfl⟩ : ∃ f', gk = f' + 1 := by
      cases gk with
      | zero => exact absurd HLP2.out (by unfold learnP; simp)
      | succ f => exact ⟨f, rfl⟩
    have hcl := Nat.le_trans HFA.out.len hml
    have HSTEP : Hid (learnP ms (f + 1) cc = some r) := HLP2.out
    have HLA := Lib.hid (latest_any cap wk HV.out HIC.out rfl hcl)
    have HMK : Hid (∀ w1, Below wk.heap.size wk w1 → MarksAt w1.heap.size w1 A ms) := fun w1 hb => ((HM.out.later HB.out).later hb).now
    have HBK : Hid (∀ w1, Below wk.heap.size wk w1 → Calls Try.prog 35 #[.slice A ms.length c, .slice Ac cc.length cap] w1 fun e w' => e = .returned (.int .i64 (backP ms cc)) ∧ Below w1.heap.size w1 w') := fun w1 hb => back_any c cap w1 (HMK.out w1 hb) ((HIC.out.later hb).now) HZ.out rfl hcl HFA.out.spot
    have HLT := Lib.hid (latest_lt HFA.out)
    have HSB : Hid (stopB ms cc = (decide (latestP ms cc < 0) || decide (levAt ms (latestP ms cc) = 0) || decide (backP ms cc < levAt ms (latestP ms cc)))) := rfl
    have HSTA := Lib.hid (fun h => (step_at HMS.out HFA.out h : ∃ k : Nat, k < ms.length ∧ latestP ms cc = k ∧ neg (atM ms k).lit ∈ cc ∧ (atM ms k).why ≠ [] ∧ resOk cc (atM ms k).why (neg (atM ms k).lit) = true ∧ ∃ y ∈ cc, posI ms y < k ∧ levAt ms (posI ms y) = levAt ms k ∧ 0 < levAt ms k))
    obtain ⟨b, hb⟩ : ∃ b, b = backP ms cc := ⟨_, rfl⟩
    rw [← hb] at HBK HSB
    obtain ⟨L, hL⟩ : ∃ L, L = latestP ms cc := ⟨_, rfl⟩
    rw [← hL] at HLA HLT HSB HSTA
    have HBE := Lib.hid hb
    have HLE := Lib.hid hL
    clear hb hL
    by_cases hL0 : L < 0
    · have HST : Hid (stopB ms cc = true) := by show _ = _; rw [HSB.out, decide_eq_true hL0]; rfl
      have HEND : Hid (cc = r) := by
        have := HSTEP.out
        unfold learnP at this
        rw [if_pos HST.out] at this
        exact Option.some.inj this
      have hL : L < 0 := hL0
      clear hL0
      go_wp2_with (go_at_call 34; refine HLA.out.mono ?_; rintro e w' ⟨rfl, rfl⟩)
      refine region_words (stopA L) (by kernel_rfl) (by kernel_rfl) ?_ ?_
      · refine ⟨?_, ?_, ?_, ?_, ?_, ?_, ?_, ?_, ?_, ?_, ?_, ?_, ?_, ?_, ?_, ?_, ?_, ?_, ?_, ?_, ?_, trivial⟩
        · intro a w1 hb hs hd hf hj
          have h9 : a.tmps.getD 9 undef = .int .i64 L := hf 9 (by decide)
          refine st_still (wanted_none rfl) (u := .int .i64 L) ?_ rfl
          simp [execOp, Act.eval, h9, go_sem, -Array.getD_eq_getD_getElem?]
        · intro a w1 hb hs hd hf hj
          have h21 : a.tmps.getD 21 undef = .int .i64 L := hj 0 (by kernel_rfl)
          refine st_still (wanted_none rfl) (u := .bool true) ?_ rfl
          simp [execOp, Act.eval, h21, hL, go_sem, -Array.getD_eq_getD_getElem?]
        · intro a w1 hb hs hd hf hj
          have h22 : a.tmps.getD 22 undef = .bool true := hj 1 (by kernel_rfl)
          refine st_still (wanted_none rfl) (u := .bool true) ?_ rfl
          simp [execOp, Act.eval, h22, go_sem, -Array.getD_eq_getD_getElem?]
        · intro a w1 hb hs hd hf hj
          have hg : a.tmps.getD 23 undef = .bool true := hj 2 (by kernel_rfl)
          exact step_skip (wanted_false rfl rfl hg (by decide)) ⟨rfl, Below.refl _ _⟩
        · intro a w1 hb hs hd hf hj
          have hg : a.tmps.getD 23 undef = .bool true := hj 2 (by kernel_rfl)
          exact step_skip (wanted_false rfl rfl hg (by decide)) ⟨rfl, Below.refl _ _⟩
        · intro a w1 hb hs hd hf hj
          have hg : a.tmps.getD 23 undef = .bool true := hj 2 (by kernel_rfl)
          exact step_skip (wanted_false rfl rfl hg (by decide)) ⟨rfl, Below.refl _ _⟩
        · intro a w1 hb hs hd hf hj
          have hg : a.tmps.getD 23 undef = .bool true := hj 2 (by kernel_rfl)
          exact step_skip (wanted_false rfl rfl hg (by decide)) ⟨rfl, Below.refl _ _⟩
        · intro a w1 hb hs hd hf hj
          have hg : a.tmps.getD 23 undef = .bool true := hj 2 (by kernel_rfl)
          exact step_skip (wanted_false rfl rfl hg (by decide)) ⟨rfl, Below.refl _ _⟩
        · intro a w1 hb hs hd hf hj
          have hg : a.tmps.getD 23 undef = .bool true := hj 2 (by kernel_rfl)
          exact step_skip (wanted_false rfl rfl hg (by decide)) ⟨rfl, Below.refl _ _⟩
        · intro a w1 hb hs hd hf hj
          have h23 : a.tmps.getD 23 undef = .bool true := hj 2 (by kernel_rfl)
          have h29 : a.tmps.getD 29 undef = undef := hj 8 (by kernel_rfl)
          refine st_still (wanted_none rfl) (u := .bool true) ?_ rfl
          simp [execOp, Act.eval, h23, h29, go_sem, -Array.getD_eq_getD_getElem?]
        · intro a w1 hb hs hd hf hj
          have h30 : a.tmps.getD 30 undef = .bool true := hj 9 (by kernel_rfl)
          refine st_still (wanted_none rfl) (u := .bool true) ?_ rfl
          simp [execOp, Act.eval, h30, go_sem, -Array.getD_eq_getD_getElem?]
        · intro a w1 hb hs hd hf hj
          have hg : a.tmps.getD 31 undef = .bool true := hj 10 (by kernel_rfl)
          exact step_skip (wanted_false rfl rfl hg (by decide)) ⟨rfl, Below.refl _ _⟩
        · intro a w1 hb hs hd hf hj
          have hg : a.tmps.getD 31 undef = .bool true := hj 10 (by kernel_rfl)
          exact step_skip (wanted_false rfl rfl hg (by decide)) ⟨rfl, Below.refl _ _⟩
        · intro a w1 hb hs hd hf hj
          have hg : a.tmps.getD 31 undef = .bool true := hj 10 (by kernel_rfl)
          exact step_skip (wanted_false rfl rfl hg (by decide)) ⟨rfl, Below.refl _ _⟩
        · intro a w1 hb hs hd hf hj
          have hg : a.tmps.getD 31 undef = .bool true := hj 10 (by kernel_rfl)
          exact step_skip (wanted_false rfl rfl hg (by decide)) ⟨rfl, Below.refl _ _⟩
        · intro a w1 hb hs hd hf hj
          have hg : a.tmps.getD 31 undef = .bool true := hj 10 (by kernel_rfl)
          exact step_skip (wanted_false rfl rfl hg (by decide)) ⟨rfl, Below.refl _ _⟩
        · intro a w1 hb hs hd hf hj
          have hg : a.tmps.getD 31 undef = .bool true := hj 10 (by kernel_rfl)
          exact step_skip (wanted_false rfl rfl hg (by decide)) ⟨rfl, Below.refl _ _⟩
        · intro a w1 hb hs hd hf hj
          have hg : a.tmps.getD 31 undef = .bool true := hj 10 (by kernel_rfl)
          exact step_skip (wanted_false rfl rfl hg (by decide)) ⟨rfl, Below.refl _ _⟩
        · intro a w1 hb hs hd hf hj
          have hg : a.tmps.getD 31 undef = .bool true := hj 10 (by kernel_rfl)
          exact step_skip (wanted_false rfl rfl hg (by decide)) ⟨rfl, Below.refl _ _⟩
        · intro a w1 hb hs hd hf hj
          have hg : a.tmps.getD 31 undef = .bool true := hj 10 (by kernel_rfl)
          exact step_skip (wanted_false rfl rfl hg (by decide)) ⟨rfl, Below.refl _ _⟩
        · intro a w1 hb hs hd hf hj
          have h31 : a.tmps.getD 31 undef = .bool true := hj 10 (by kernel_rfl)
          have h40 : a.tmps.getD 40 undef = undef := hj 19 (by kernel_rfl)
          refine st_still (wanted_none rfl) (u := .bool true) ?_ rfl
          simp [execOp, Act.eval, h31, h40, go_sem, -Array.getD_eq_getD_getElem?]
      · intro a w1 hb hs hd hf hj
        have h41 : a.tmps.getD 41 undef = .bool true := hj 20 (by decide)
        have HC9 := Lib.hid (HBK.out w1 hb)
        have HB9 := Lib.hid (HB.out.trans (hb.mono HB.out.size))
        have HI9 := Lib.hid ((HIC.out.later hb).now)
        have ha := act_slots [21, 22, 23, 24, 25, 26, 27, 28, 29, 30, 31, 32, 33, 34, 35, 36, 37, 38, 39, 40, 41] (by kernel_rfl) hs hd hf
        simp only [fillIn, Nat.zero_add, Nat.reduceAdd, List.contains_cons, List.contains_nil, Nat.reduceBEq, Bool.or_false, Bool.or_true, Bool.false_eq_true, if_true, if_false, ite_true, ite_false] at ha
        generalize a.tmps.getD 21 undef = u21 at ha
        generalize a.tmps.getD 22 undef = u22 at ha
        generalize a.tmps.getD 23 undef = u23 at ha
        generalize a.tmps.getD 24 undef = u24 at ha
        generalize a.tmps.getD 25 undef = u25 at ha
        generalize a.tmps.getD 26 undef = u26 at ha
        generalize a.tmps.getD 27 undef = u27 at ha
        generalize a.tmps.getD 28 undef = u28 at ha
        generalize a.tmps.getD 29 undef = u29 at ha
        generalize a.tmps.getD 30 undef = u30 at ha
        generalize a.tmps.getD 31 undef = u31 at ha
        generalize a.tmps.getD 32 undef = u32 at ha
        generalize a.tmps.getD 33 undef = u33 at ha
        generalize a.tmps.getD 34 undef = u34 at ha
        generalize a.tmps.getD 35 undef = u35 at ha
        generalize a.tmps.getD 36 undef = u36 at ha
        generalize a.tmps.getD 37 undef = u37 at ha
        generalize a.tmps.getD 38 undef = u38 at ha
        generalize a.tmps.getD 39 undef = u39 at ha
        generalize a.tmps.getD 40 undef = u40 at ha
        rw [h41] at ha
        clear hs hd hf hj h41 hb
        subst ha
        go_wp2_with (go_at_call 35; refine HC9.out.mono ?_; rintro e w9 ⟨rfl, hb9⟩; have HB10 := Lib.hid (HB9.out.trans (hb9.mono HB9.out.size)); have HI10 := Lib.hid ((HI9.out.later hb9).mono hb9.size); clear hb9)
        go_ret3
        have he := HEND.out
        subst he
        exact ⟨cc, Ac, cap, HLP.out, HFR.out, HSR.out, by rw [HBE.out]; rfl, ⟨HI10.out, HCAP.out⟩, HB10.out⟩
    · obtain ⟨k, rfl⟩ : ∃ k : Nat, L = k := ⟨L.toNat, by omega⟩
      have hkm : k < ms.length := by have := HLT.out; omega
      have HMKK : Hid (MarksAt wk.heap.size wk A ms) := HMK.out wk (Below.refl _ _)
      obtain ⟨ad, Aw, cw, rfl, _, hm1, hm2, hm3, hwl, hiw⟩ := HMKK.out k hkm
      have HLV : Hid (levAt ms (k : Int) = (atM ms k).lev) := by show _ = _; unfold levAt; rw [Int.toNat_natCast]
      obtain ⟨y, hy⟩ : ∃ y, y = (atM ms k).lev := ⟨_, rfl⟩
      rw [← hy] at hm2 HLV
      have HW : Hid (∀ w1, Below wk.heap.size wk w1 → w1.cell? ⟨(ad.add (k * 3)).block, (ad.add (k * 3)).off + 1, none⟩ = some (.int .i64 y) ∧ True) := fun w1 hb => ⟨cell_later hm2 hb, trivial⟩
      clear hy hm2
      by_cases hy0 : y = 0
      · have hy : (y == 0) = true := by simpa using hy0
        have HST : Hid (stopB ms cc = true) := by show _ = _; rw [HSB.out, HLV.out, decide_eq_true hy0, Bool.or_true]; rfl
        have HEND : Hid (cc = r) := by
          have := HSTEP.out
          unfold learnP at this
          rw [if_pos HST.out] at this
          exact Option.some.inj this
        clear hy0 hm1 hm3 hwl hiw hL0
        go_wp2_with (go_at_call 34; refine HLA.out.mono ?_; rintro e w' ⟨rfl, rfl⟩)
        refine region_words (stopBW ad ms c k y) (by kernel_rfl) (by kernel_rfl) ?_ ?_
        · refine ⟨?_, ?_, ?_, ?_, ?_, ?_, ?_, ?_, ?_, ?_, ?_, ?_, ?_, ?_, ?_, ?_, ?_, ?_, ?_, ?_, ?_, trivial⟩
          · intro a w1 hb hs hd hf hj
            have h9 : a.tmps.getD 9 undef = .int .i64 (k : Nat) := hf 9 (by decide)
            refine st_still (wanted_none rfl) (u := .int .i64 (k : Nat)) ?_ rfl
            simp [execOp, Act.eval, h9, go_sem, -Array.getD_eq_getD_getElem?]
          · intro a w1 hb hs hd hf hj
            have h21 : a.tmps.getD 21 undef = .int .i64 (k : Nat) := hj 0 (by kernel_rfl)
            refine st_still (wanted_none rfl) (u := .bool false) ?_ rfl
            simp [execOp, Act.eval, h21, go_sem, -Array.getD_eq_getD_getElem?]
          · intro a w1 hb hs hd hf hj
            have h22 : a.tmps.getD 22 undef = .bool false := hj 1 (by kernel_rfl)
            refine st_still (wanted_none rfl) (u := .bool false) ?_ rfl
            simp [execOp, Act.eval, h22, go_sem, -Array.getD_eq_getD_getElem?]
          · intro a w1 hb hs hd hf hj
            have hg : a.tmps.getD 23 undef = .bool false := hj 2 (by kernel_rfl)
            have h0 : a.tmps.getD 0 undef = .slice (some ad) ms.length c := hf 0 (by decide)
            refine st_still (wanted_true rfl rfl hg) (u := .slice (some ad) ms.length c) ?_ rfl
            simp [execOp, Act.eval, h0, go_sem, -Array.getD_eq_getD_getElem?]
          · intro a w1 hb hs hd hf hj
            have hg : a.tmps.getD 23 undef = .bool false := hj 2 (by kernel_rfl)
            have h9 : a.tmps.getD 9 undef = .int .i64 (k : Nat) := hf 9 (by decide)
            refine st_still (wanted_true rfl rfl hg) (u := .int .i64 (k : Nat)) ?_ rfl
            simp [execOp, Act.eval, h9, go_sem, -Array.getD_eq_getD_getElem?]
          · intro a w1 hb hs hd hf hj
            have hg : a.tmps.getD 23 undef = .bool false := hj 2 (by kernel_rfl)
            have h24 : a.tmps.getD 24 undef = .slice (some ad) ms.length c := hj 3 (by kernel_rfl)
            have h25 : a.tmps.getD 25 undef = .int .i64 (k : Nat) := hj 4 (by kernel_rfl)
            refine st_still (wanted_true rfl rfl hg) (u := .pointer (some (ad.add (k * 3)))) ?_ rfl
            simp [execOp, Act.eval, h24, h25, hkm, go_sem, -Array.getD_eq_getD_getElem?]
          · intro a w1 hb hs hd hf hj
            have hg : a.tmps.getD 23 undef = .bool false := hj 2 (by kernel_rfl)
            have h26 : a.tmps.getD 26 undef = .pointer (some (ad.add (k * 3))) := hj 5 (by kernel_rfl)
            refine st_still (wanted_true rfl rfl hg) (u := .pointer (some ⟨(ad.add (k * 3)).block, (ad.add (k * 3)).off + 1, none⟩)) ?_ rfl
            simp [execOp, Act.eval, h26, go_sem, -Array.getD_eq_getD_getElem?]
          · intro a w1 hb hs hd hf hj
            have hg : a.tmps.getD 23 undef = .bool false := hj 2 (by kernel_rfl)
            have h27 : a.tmps.getD 27 undef = .pointer (some ⟨(ad.add (k * 3)).block, (ad.add (k * 3)).off + 1, none⟩) := hj 6 (by kernel_rfl)
            obtain ⟨k0, k1⟩ := HW.out w1 hb
            refine st_still (wanted_true rfl rfl hg) (u := .int .i64 y) ?_ rfl
            simp [execOp, Act.eval, h27, k0, go_sem, -Array.getD_eq_getD_getElem?]
          · intro a w1 hb hs hd hf hj
            have hg : a.tmps.getD 23 undef = .bool false := hj 2 (by kernel_rfl)
            have h28 : a.tmps.getD 28 undef = .int .i64 y := hj 7 (by kernel_rfl)
            refine st_still (wanted_true rfl rfl hg) (u := .bool true) ?_ rfl
            simp [execOp, Act.eval, h28, hy, go_sem, -Array.getD_eq_getD_getElem?]
          · intro a w1 hb hs hd hf hj
            have h23 : a.tmps.getD 23 undef = .bool false := hj 2 (by kernel_rfl)
            have h29 : a.tmps.getD 29 undef = .bool true := hj 8 (by kernel_rfl)
            refine st_still (wanted_none rfl) (u := .bool true) ?_ rfl
            simp [execOp, Act.eval, h23, h29, go_sem, -Array.getD_eq_getD_getElem?]
          · intro a w1 hb hs hd hf hj
            have h30 : a.tmps.getD 30 undef = .bool true := hj 9 (by kernel_rfl)
            refine st_still (wanted_none rfl) (u := .bool true) ?_ rfl
            simp [execOp, Act.eval, h30, go_sem, -Array.getD_eq_getD_getElem?]
          · intro a w1 hb hs hd hf hj
            have hg : a.tmps.getD 31 undef = .bool true := hj 10 (by kernel_rfl)
            exact step_skip (wanted_false rfl rfl hg (by decide)) ⟨rfl, Below.refl _ _⟩
          · intro a w1 hb hs hd hf hj
            have hg : a.tmps.getD 31 undef = .bool true := hj 10 (by kernel_rfl)
            exact step_skip (wanted_false rfl rfl hg (by decide)) ⟨rfl, Below.refl _ _⟩
          · intro a w1 hb hs hd hf hj
            have hg : a.tmps.getD 31 undef = .bool true := hj 10 (by kernel_rfl)
            exact step_skip (wanted_false rfl rfl hg (by decide)) ⟨rfl, Below.refl _ _⟩
          · intro a w1 hb hs hd hf hj
            have hg : a.tmps.getD 31 undef = .bool true := hj 10 (by kernel_rfl)
            exact step_skip (wanted_false rfl rfl hg (by decide)) ⟨rfl, Below.refl _ _⟩
          · intro a w1 hb hs hd hf hj
            have hg : a.tmps.getD 31 undef = .bool true := hj 10 (by kernel_rfl)
            exact step_skip (wanted_false rfl rfl hg (by decide)) ⟨rfl, Below.refl _ _⟩
          · intro a w1 hb hs hd hf hj
            have hg : a.tmps.getD 31 undef = .bool true := hj 10 (by kernel_rfl)
            exact step_skip (wanted_false rfl rfl hg (by decide)) ⟨rfl, Below.refl _ _⟩
          · intro a w1 hb hs hd hf hj
            have hg : a.tmps.getD 31 undef = .bool true := hj 10 (by kernel_rfl)
            exact step_skip (wanted_false rfl rfl hg (by decide)) ⟨rfl, Below.refl _ _⟩
          · intro a w1 hb hs hd hf hj
            have hg : a.tmps.getD 31 undef = .bool true := hj 10 (by kernel_rfl)
            exact step_skip (wanted_false rfl rfl hg (by decide)) ⟨rfl, Below.refl _ _⟩
          · intro a w1 hb hs hd hf hj
            have hg : a.tmps.getD 31 undef = .bool true := hj 10 (by kernel_rfl)
            exact step_skip (wanted_false rfl rfl hg (by decide)) ⟨rfl, Below.refl _ _⟩
          · intro a w1 hb hs hd hf hj
            have h31 : a.tmps.getD 31 undef = .bool true := hj 10 (by kernel_rfl)
            have h40 : a.tmps.getD 40 undef = undef := hj 19 (by kernel_rfl)
            refine st_still (wanted_none rfl) (u := .bool true) ?_ rfl
            simp [execOp, Act.eval, h31, h40, go_sem, -Array.getD_eq_getD_getElem?]
        · intro a w1 hb hs hd hf hj
          have h41 : a.tmps.getD 41 undef = .bool true := hj 20 (by decide)
          have HC9 := Lib.hid (HBK.out w1 hb)
          have HB9 := Lib.hid (HB.out.trans (hb.mono HB.out.size))
          have HI9 := Lib.hid ((HIC.out.later hb).now)
          have ha := act_slots [21, 22, 23, 24, 25, 26, 27, 28, 29, 30, 31, 32, 33, 34, 35, 36, 37, 38, 39, 40, 41] (by kernel_rfl) hs hd hf
          simp only [fillIn, Nat.zero_add, Nat.reduceAdd, List.contains_cons, List.contains_nil, Nat.reduceBEq, Bool.or_false, Bool.or_true, Bool.false_eq_true, if_true, if_false, ite_true, ite_false] at ha
          generalize a.tmps.getD 21 undef = u21 at ha
          generalize a.tmps.getD 22 undef = u22 at ha
          generalize a.tmps.getD 23 undef = u23 at ha
          generalize a.tmps.getD 24 undef = u24 at ha
          generalize a.tmps.getD 25 undef = u25 at ha
          generalize a.tmps.getD 26 undef = u26 at ha
          generalize a.tmps.getD 27 undef = u27 at ha
          generalize a.tmps.getD 28 undef = u28 at ha
          generalize a.tmps.getD 29 undef = u29 at ha
          generalize a.tmps.getD 30 undef = u30 at ha
          generalize a.tmps.getD 31 undef = u31 at ha
          generalize a.tmps.getD 32 undef = u32 at ha
          generalize a.tmps.getD 33 undef = u33 at ha
          generalize a.tmps.getD 34 undef = u34 at ha
          generalize a.tmps.getD 35 undef = u35 at ha
          generalize a.tmps.getD 36 undef = u36 at ha
          generalize a.tmps.getD 37 undef = u37 at ha
          generalize a.tmps.getD 38 undef = u38 at ha
          generalize a.tmps.getD 39 undef = u39 at ha
          generalize a.tmps.getD 40 undef = u40 at ha
          rw [h41] at ha
          clear hs hd hf hj h41 hb
          subst ha
          go_wp2_with (go_at_call 35; refine HC9.out.mono ?_; rintro e w9 ⟨rfl, hb9⟩; have HB10 := Lib.hid (HB9.out.trans (hb9.mono HB9.out.size)); have HI10 := Lib.hid ((HI9.out.later hb9).mono hb9.size); clear hb9)
          go_ret3
          have he := HEND.out
          subst he
          exact ⟨cc, Ac, cap, HLP.out, HFR.out, HSR.out, by rw [HBE.out]; rfl, ⟨HI10.out, HCAP.out⟩, HB10.out⟩
      · have hy : (y == 0) = false := by simpa using hy0
        obtain ⟨q, hq⟩ : ∃ q, decide (b < y) = q := ⟨_, rfl⟩
        have HST : Hid (stopB ms cc = q) := by show _ = _; rw [HSB.out, HLV.out, decide_eq_false hy0, hq, decide_eq_false hL0]; rfl
        have HM1 := Lib.hid hm1
        have HM3 := Lib.hid hm3
        have HIW := Lib.hid hiw
        clear hy0 hm1 hm3 hwl hiw hL0
        go_wp2_with (go_at_call 34; refine HLA.out.mono ?_; rintro e w' ⟨rfl, rfl⟩)
        refine region_words (stopC ad ms c k y Ac cc.length cap b q) (by kernel_rfl) (by kernel_rfl) ?_ ?_
        · refine ⟨?_, ?_, ?_, ?_, ?_, ?_, ?_, ?_, ?_, ?_, ?_, ?_, ?_, ?_, ?_, ?_, ?_, ?_, ?_, ?_, ?_, trivial⟩
          · intro a w1 hb hs hd hf hj
            have h9 : a.tmps.getD 9 undef = .int .i64 (k : Nat) := hf 9 (by decide)
            refine st_still (wanted_none rfl) (u := .int .i64 (k : Nat)) ?_ rfl
            simp [execOp, Act.eval, h9, go_sem, -Array.getD_eq_getD_getElem?]
          · intro a w1 hb hs hd hf hj
            have h21 : a.tmps.getD 21 undef = .int .i64 (k : Nat) := hj 0 (by kernel_rfl)
            refine st_still (wanted_none rfl) (u := .bool false) ?_ rfl
            simp [execOp, Act.eval, h21, go_sem, -Array.getD_eq_getD_getElem?]
          · intro a w1 hb hs hd hf hj
            have h22 : a.tmps.getD 22 undef = .bool false := hj 1 (by kernel_rfl)
            refine st_still (wanted_none rfl) (u := .bool false) ?_ rfl
            simp [execOp, Act.eval, h22, go_sem, -Array.getD_eq_getD_getElem?]
          · intro a w1 hb hs hd hf hj
            have hg : a.tmps.getD 23 undef = .bool false := hj 2 (by kernel_rfl)
            have h0 : a.tmps.getD 0 undef = .slice (some ad) ms.length c := hf 0 (by decide)
            refine st_still (wanted_true rfl rfl hg) (u := .slice (some ad) ms.length c) ?_ rfl
            simp [execOp, Act.eval, h0, go_sem, -Array.getD_eq_getD_getElem?]
          · intro a w1 hb hs hd hf hj
            have hg : a.tmps.getD 23 undef = .bool false := hj 2 (by kernel_rfl)
            have h9 : a.tmps.getD 9 undef = .int .i64 (k : Nat) := hf 9 (by decide)
            refine st_still (wanted_true rfl rfl hg) (u := .int .i64 (k : Nat)) ?_ rfl
            simp [execOp, Act.eval, h9, go_sem, -Array.getD_eq_getD_getElem?]
          · intro a w1 hb hs hd hf hj
            have hg : a.tmps.getD 23 undef = .bool false := hj 2 (by kernel_rfl)
            have h24 : a.tmps.getD 24 undef = .slice (some ad) ms.length c := hj 3 (by kernel_rfl)
            have h25 : a.tmps.getD 25 undef = .int .i64 (k : Nat) := hj 4 (by kernel_rfl)
            refine st_still (wanted_true rfl rfl hg) (u := .pointer (some (ad.add (k * 3)))) ?_ rfl
            simp [execOp, Act.eval, h24, h25, hkm, go_sem, -Array.getD_eq_getD_getElem?]
          · intro a w1 hb hs hd hf hj
            have hg : a.tmps.getD 23 undef = .bool false := hj 2 (by kernel_rfl)
            have h26 : a.tmps.getD 26 undef = .pointer (some (ad.add (k * 3))) := hj 5 (by kernel_rfl)
            refine st_still (wanted_true rfl rfl hg) (u := .pointer (some ⟨(ad.add (k * 3)).block, (ad.add (k * 3)).off + 1, none⟩)) ?_ rfl
            simp [execOp, Act.eval, h26, go_sem, -Array.getD_eq_getD_getElem?]
          · intro a w1 hb hs hd hf hj
            have hg : a.tmps.getD 23 undef = .bool false := hj 2 (by kernel_rfl)
            have h27 : a.tmps.getD 27 undef = .pointer (some ⟨(ad.add (k * 3)).block, (ad.add (k * 3)).off + 1, none⟩) := hj 6 (by kernel_rfl)
            obtain ⟨k0, k1⟩ := HW.out w1 hb
            refine st_still (wanted_true rfl rfl hg) (u := .int .i64 y) ?_ rfl
            simp [execOp, Act.eval, h27, k0, go_sem, -Array.getD_eq_getD_getElem?]
          · intro a w1 hb hs hd hf hj
            have hg : a.tmps.getD 23 undef = .bool false := hj 2 (by kernel_rfl)
            have h28 : a.tmps.getD 28 undef = .int .i64 y := hj 7 (by kernel_rfl)
            refine st_still (wanted_true rfl rfl hg) (u := .bool false) ?_ rfl
            simp [execOp, Act.eval, h28, hy, go_sem, -Array.getD_eq_getD_getElem?]
          · intro a w1 hb hs hd hf hj
            have h23 : a.tmps.getD 23 undef = .bool false := hj 2 (by kernel_rfl)
            have h29 : a.tmps.getD 29 undef = .bool false := hj 8 (by kernel_rfl)
            refine st_still (wanted_none rfl) (u := .bool false) ?_ rfl
            simp [execOp, Act.eval, h23, h29, go_sem, -Array.getD_eq_getD_getElem?]
          · intro a w1 hb hs hd hf hj
            have h30 : a.tmps.getD 30 undef = .bool false := hj 9 (by kernel_rfl)
            refine st_still (wanted_none rfl) (u := .bool false) ?_ rfl
            simp [execOp, Act.eval, h30, go_sem, -Array.getD_eq_getD_getElem?]
          · intro a w1 hb hs hd hf hj
            have hg : a.tmps.getD 31 undef = .bool false := hj 10 (by kernel_rfl)
            have h0 : a.tmps.getD 0 undef = .slice (some ad) ms.length c := hf 0 (by decide)
            refine st_still (wanted_true rfl rfl hg) (u := .slice (some ad) ms.length c) ?_ rfl
            simp [execOp, Act.eval, h0, go_sem, -Array.getD_eq_getD_getElem?]
          · intro a w1 hb hs hd hf hj
            have hg : a.tmps.getD 31 undef = .bool false := hj 10 (by kernel_rfl)
            have h7 : a.tmps.getD 7 undef = .slice Ac cc.length cap := hf 7 (by decide)
            refine st_still (wanted_true rfl rfl hg) (u := .slice Ac cc.length cap) ?_ rfl
            simp [execOp, Act.eval, h7, go_sem, -Array.getD_eq_getD_getElem?]
          · intro a w1 hb hs hd hf hj
            have hg : a.tmps.getD 31 undef = .bool false := hj 10 (by kernel_rfl)
            have h32 : a.tmps.getD 32 undef = .slice (some ad) ms.length c := hj 11 (by kernel_rfl)
            have h33 : a.tmps.getD 33 undef = .slice Ac cc.length cap := hj 12 (by kernel_rfl)
            refine st_call (wanted_true rfl rfl hg) (f := 35) (args := #[.slice (some ad) ms.length c, .slice Ac cc.length cap]) ?_ ((HBK.out w1 hb).mono (fun e w2 ⟨h1, h2⟩ => ⟨_, h1, rfl, h2⟩))
            simp [execOp, Act.eval, resolve, h32, h33, go_sem, -Array.getD_eq_getD_getElem?]
          · intro a w1 hb hs hd hf hj
            have hg : a.tmps.getD 31 undef = .bool false := hj 10 (by kernel_rfl)
            have h0 : a.tmps.getD 0 undef = .slice (some ad) ms.length c := hf 0 (by decide)
            refine st_still (wanted_true rfl rfl hg) (u := .slice (some ad) ms.length c) ?_ rfl
            simp [execOp, Act.eval, h0, go_sem, -Array.getD_eq_getD_getElem?]
          · intro a w1 hb hs hd hf hj
            have hg : a.tmps.getD 31 undef = .bool false := hj 10 (by kernel_rfl)
            have h9 : a.tmps.getD 9 undef = .int .i64 (k : Nat) := hf 9 (by decide)
            refine st_still (wanted_true rfl rfl hg) (u := .int .i64 (k : Nat)) ?_ rfl
            simp [execOp, Act.eval, h9, go_sem, -Array.getD_eq_getD_getElem?]
          · intro a w1 hb hs hd hf hj
            have hg : a.tmps.getD 31 undef = .bool false := hj 10 (by kernel_rfl)
            have h35 : a.tmps.getD 35 undef = .slice (some ad) ms.length c := hj 14 (by kernel_rfl)
            have h36 : a.tmps.getD 36 undef = .int .i64 (k : Nat) := hj 15 (by kernel_rfl)
            refine st_still (wanted_true rfl rfl hg) (u := .pointer (some (ad.add (k * 3)))) ?_ rfl
            simp [execOp, Act.eval, h35, h36, hkm, go_sem, -Array.getD_eq_getD_getElem?]
          · intro a w1 hb hs hd hf hj
            have hg : a.tmps.getD 31 undef = .bool false := hj 10 (by kernel_rfl)
            have h37 : a.tmps.getD 37 undef = .pointer (some (ad.add (k * 3))) := hj 16 (by kernel_rfl)
            refine st_still (wanted_true rfl rfl hg) (u := .pointer (some ⟨(ad.add (k * 3)).block, (ad.add (k * 3)).off + 1, none⟩)) ?_ rfl
            simp [execOp, Act.eval, h37, go_sem, -Array.getD_eq_getD_getElem?]
          · intro a w1 hb hs hd hf hj
            have hg : a.tmps.getD 31 undef = .bool false := hj 10 (by kernel_rfl)
            have h38 : a.tmps.getD 38 undef = .pointer (some ⟨(ad.add (k * 3)).block, (ad.add (k * 3)).off + 1, none⟩) := hj 17 (by kernel_rfl)
            obtain ⟨k0, k1⟩ := HW.out w1 hb
            refine st_still (wanted_true rfl rfl hg) (u := .int .i64 y) ?_ rfl
            simp [execOp, Act.eval, h38, k0, go_sem, -Array.getD_eq_getD_getElem?]
          · intro a w1 hb hs hd hf hj
            have hg : a.tmps.getD 31 undef = .bool false := hj 10 (by kernel_rfl)
            have h34 : a.tmps.getD 34 undef = .int .i64 b := hj 13 (by kernel_rfl)
            have h39 : a.tmps.getD 39 undef = .int .i64 y := hj 18 (by kernel_rfl)
            refine st_still (wanted_true rfl rfl hg) (u := .bool q) ?_ rfl
            simp [execOp, Act.eval, h34, h39, hq, go_sem, -Array.getD_eq_getD_getElem?]
          · intro a w1 hb hs hd hf hj
            have h31 : a.tmps.getD 31 undef = .bool false := hj 10 (by kernel_rfl)
            have h40 : a.tmps.getD 40 undef = .bool q := hj 19 (by kernel_rfl)
            refine st_still (wanted_none rfl) (u := .bool q) ?_ rfl
            simp [execOp, Act.eval, h31, h40, go_sem, -Array.getD_eq_getD_getElem?]
        · intro a wb hb hs hd hf hj
          have h41 : a.tmps.getD 41 undef = .bool q := hj 20 (by decide)
          have HC9 := Lib.hid (HBK.out wb hb)
          have HB9 := Lib.hid (HB.out.trans (hb.mono HB.out.size))
          have HI9 := Lib.hid ((HIC.out.later hb).now)
          have HB1 := Lib.hid hb
          have ha := act_slots [21, 22, 23, 24, 25, 26, 27, 28, 29, 30, 31, 32, 33, 34, 35, 36, 37, 38, 39, 40, 41] (by kernel_rfl) hs hd hf
          simp only [fillIn, Nat.zero_add, Nat.reduceAdd, List.contains_cons, List.contains_nil, Nat.reduceBEq, Bool.or_false, Bool.or_true, Bool.false_eq_true, if_true, if_false, ite_true, ite_false] at ha
          generalize a.tmps.getD 21 undef = u21 at ha
          generalize a.tmps.getD 22 undef = u22 at ha
          generalize a.tmps.getD 23 undef = u23 at ha
          generalize a.tmps.getD 24 undef = u24 at ha
          generalize a.tmps.getD 25 undef = u25 at ha
          generalize a.tmps.getD 26 undef = u26 at ha
          generalize a.tmps.getD 27 undef = u27 at ha
          generalize a.tmps.getD 28 undef = u28 at ha
          generalize a.tmps.getD 29 undef = u29 at ha
          generalize a.tmps.getD 30 undef = u30 at ha
          generalize a.tmps.getD 31 undef = u31 at ha
          generalize a.tmps.getD 32 undef = u32 at ha
          generalize a.tmps.getD 33 undef = u33 at ha
          generalize a.tmps.getD 34 undef = u34 at ha
          generalize a.tmps.getD 35 undef = u35 at ha
          generalize a.tmps.getD 36 undef = u36 at ha
          generalize a.tmps.getD 37 undef = u37 at ha
          generalize a.tmps.getD 38 undef = u38 at ha
          generalize a.tmps.getD 39 undef = u39 at ha
          generalize a.tmps.getD 40 undef = u40 at ha
          rw [h41] at ha
          clear hs hd hf hj h41 hb
          subst ha
          clear hq
          cases q with
          | true =>
            have HEND : Hid (cc = r) := by
              have := HSTEP.out
              unfold learnP at this
              rw [if_pos HST.out] at this
              exact Option.some.inj this
            go_wp2_with (go_at_call 35; refine HC9.out.mono ?_; rintro e w9 ⟨rfl, hb9⟩; have HB10 := Lib.hid (HB9.out.trans (hb9.mono HB9.out.size)); have HI10 := Lib.hid ((HI9.out.later hb9).mono hb9.size); clear hb9)
            go_ret3
            have he := HEND.out
            subst he
            exact ⟨cc, Ac, cap, HLP.out, HFR.out, HSR.out, by rw [HBE.out]; rfl, ⟨HI10.out, HCAP.out⟩, HB10.out⟩
          | false =>
            obtain ⟨k2, hk2, hlk2, hin2, hne2, hres2, _⟩ := HSTA.out HST.out
            have hkk : k2 = k := by omega
            subst hkk
            have HNX : Hid (learnP ms f (stepP ms cc) = some r) := by
              show _ = _
              have := HSTEP.out
              unfold learnP at this
              rw [HST.out] at this
              simpa using this
            have HFX := Lib.hid (step_fal HMS.out HFA.out HST.out).1
            have HSE : Hid (stepP ms cc = resP cc (atM ms k2).why (neg (atM ms k2).lit)) := by show _ = _; unfold stepP lastMk; rw [← HLE.out, Int.toNat_natCast]
            have hwl := HZ.out.2 k2 hk2
            obtain ⟨x, hx⟩ : ∃ x, x = (atM ms k2).lit := ⟨_, rfl⟩
            obtain ⟨z, hz⟩ : ∃ z, z = (atM ms k2).why := ⟨_, rfl⟩
            rw [← hx] at HM1 hres2 HSE
            rw [← hz] at HM3 HIW hwl hres2 HSE
            have HQ1 : Hid (∀ w1, Below wb.heap.size wb w1 → w1.cell? (ad.add (k2 * 3)) = some (.int .i64 x) ∧ w1.cell? ⟨(ad.add (k2 * 3)).block, (ad.add (k2 * 3)).off + 2, none⟩ = some (.slice Aw z.length cw)) := fun w1 hb => ⟨cell_later (cell_later HM1.out HB1.out) hb, cell_later (cell_later HM3.out HB1.out) hb⟩
            obtain ⟨R, hR⟩ : ∃ R, R = stepP ms cc := ⟨_, rfl⟩
            rw [← hR] at HNX HFX HSE
            have HRS : Hid (∀ w1, Below wb.heap.size wb w1 → Calls Try.prog 22 #[.slice Ac cc.length cap, .slice Aw z.length cw, .int .i64 (wrap64 (-x))] w1 (ResPost w1.heap.size R w1)) := fun w1 hb => by
              rw [HSE.out]
              exact res_yes (wrap64 (-x)) cap cw w1 ((HI9.out.later hb).mono hb.size) ((((HIW.out.later HB1.out).now).later hb).mono hb.size) rfl rfl (Nat.le_trans hcl (by decide)) (Nat.le_trans hwl (by decide)) hres2
            have HVB := Lib.hid (HV.out.below HB1.out HV.out.lt)
            clear hx hz hin2 hne2 hres2 hwl hR hlk2
            have hkm := hk2
            go_wp2
            refine region_words2 (resWords ad ms c k2 Ac cc.length cap Aw z.length cw x R) (by kernel_rfl) (by kernel_rfl) ?_ ?_
            · refine ⟨?_, ?_, ?_, ?_, ?_, ?_, ?_, ?_, ?_, ?_, ?_, ?_, ?_, ?_, ?_, ?_, ?_, trivial⟩
              · intro a w1 hb hs hd hf hj
                have h7 : a.tmps.getD 7 undef = .slice Ac cc.length cap := hf 7 (by kernel_rfl)
                refine st_still (wanted_none rfl) (u := .slice Ac cc.length cap) ?_ rfl
                simp [execOp, Act.eval, h7, go_sem, -Array.getD_eq_getD_getElem?]
              · intro a w1 hb hs hd hf hj
                have h0 : a.tmps.getD 0 undef = .slice (some ad) ms.length c := hf 0 (by kernel_rfl)
                refine st_still (wanted_none rfl) (u := .slice (some ad) ms.length c) ?_ rfl
                simp [execOp, Act.eval, h0, go_sem, -Array.getD_eq_getD_getElem?]
              · intro a w1 hb hs hd hf hj
                have h9 : a.tmps.getD 9 undef = .int .i64 (k2 : Nat) := hf 9 (by kernel_rfl)
                refine st_still (wanted_none rfl) (u := .int .i64 (k2 : Nat)) ?_ rfl
                simp [execOp, Act.eval, h9, go_sem, -Array.getD_eq_getD_getElem?]
              · intro a w1 hb hs hd hf hj
                have h48 : a.tmps.getD 48 undef = .slice (some ad) ms.length c := hj 1 (by kernel_rfl)
                have h49 : a.tmps.getD 49 undef = .int .i64 (k2 : Nat) := hj 2 (by kernel_rfl)
                refine st_still (wanted_none rfl) (u := .pointer (some (ad.add (k2 * 3)))) ?_ rfl
                simp [execOp, Act.eval, h48, h49, hkm, go_sem, -Array.getD_eq_getD_getElem?]
              · intro a w1 hb hs hd hf hj
                have h50 : a.tmps.getD 50 undef = .pointer (some (ad.add (k2 * 3))) := hj 3 (by kernel_rfl)
                refine st_still (wanted_none rfl) (u := .pointer (some ⟨(ad.add (k2 * 3)).block, (ad.add (k2 * 3)).off + 2, none⟩)) ?_ rfl
                simp [execOp, Act.eval, h50, go_sem, -Array.getD_eq_getD_getElem?]
              · intro a w1 hb hs hd hf hj
                have h51 : a.tmps.getD 51 undef = .pointer (some ⟨(ad.add (k2 * 3)).block, (ad.add (k2 * 3)).off + 2, none⟩) := hj 4 (by kernel_rfl)
                obtain ⟨q0, q1⟩ := HQ1.out w1 hb
                refine st_still (wanted_none rfl) (u := .slice Aw z.length cw) ?_ rfl
                simp [execOp, Act.eval, h51, q1, go_sem, -Array.getD_eq_getD_getElem?]
              · intro a w1 hb hs hd hf hj
                have h0 : a.tmps.getD 0 undef = .slice (some ad) ms.length c := hf 0 (by kernel_rfl)
                refine st_still (wanted_none rfl) (u := .slice (some ad) ms.length c) ?_ rfl
                simp [execOp, Act.eval, h0, go_sem, -Array.getD_eq_getD_getElem?]
              · intro a w1 hb hs hd hf hj
                have h9 : a.tmps.getD 9 undef = .int .i64 (k2 : Nat) := hf 9 (by kernel_rfl)
                refine st_still (wanted_none rfl) (u := .int .i64 (k2 : Nat)) ?_ rfl
                simp [execOp, Act.eval, h9, go_sem, -Array.getD_eq_getD_getElem?]
              · intro a w1 hb hs hd hf hj
                have h53 : a.tmps.getD 53 undef = .slice (some ad) ms.length c := hj 6 (by kernel_rfl)
                have h54 : a.tmps.getD 54 undef = .int .i64 (k2 : Nat) := hj 7 (by kernel_rfl)
                refine st_still (wanted_none rfl) (u := .pointer (some (ad.add (k2 * 3)))) ?_ rfl
                simp [execOp, Act.eval, h53, h54, hkm, go_sem, -Array.getD_eq_getD_getElem?]
              · intro a w1 hb hs hd hf hj
                have h55 : a.tmps.getD 55 undef = .pointer (some (ad.add (k2 * 3))) := hj 8 (by kernel_rfl)
                refine st_still (wanted_none rfl) (u := .pointer (some (ad.add (k2 * 3)))) ?_ rfl
                simp [execOp, Act.eval, h55, go_sem, -Array.getD_eq_getD_getElem?]
              · intro a w1 hb hs hd hf hj
                have h56 : a.tmps.getD 56 undef = .pointer (some (ad.add (k2 * 3))) := hj 9 (by kernel_rfl)
                obtain ⟨q0, q1⟩ := HQ1.out w1 hb
                refine st_still (wanted_none rfl) (u := .int .i64 x) ?_ rfl
                simp [execOp, Act.eval, h56, q0, go_sem, -Array.getD_eq_getD_getElem?]
              · intro a w1 hb hs hd hf hj
                have h57 : a.tmps.getD 57 undef = .int .i64 x := hj 10 (by kernel_rfl)
                refine st_still (wanted_none rfl) (u := .int .i64 (wrap64 (-x))) ?_ rfl
                simp [execOp, Act.eval, h57, IntWalk.i64_left, go_sem, -Array.getD_eq_getD_getElem?]
              · intro a w1 hb hs hd hf hj
                have h47 : a.tmps.getD 47 undef = .slice Ac cc.length cap := hj 0 (by kernel_rfl)
                have h52 : a.tmps.getD 52 undef = .slice Aw z.length cw := hj 5 (by kernel_rfl)
                have h58 : a.tmps.getD 58 undef = .int .i64 (wrap64 (-x)) := hj 11 (by kernel_rfl)
                refine st_call (wanted_none rfl) (f := 22) (args := #[.slice Ac cc.length cap, .slice Aw z.length cw, .int .i64 (wrap64 (-x))]) ?_ ((HRS.out w1 hb).mono (fun e w2 ⟨A9, c9, h1, h2, h3⟩ => ⟨_, h1, ⟨A9, c9, rfl, own_cap h2⟩, h3⟩))
                simp [execOp, Act.eval, resolve, h47, h52, h58, go_sem, -Array.getD_eq_getD_getElem?]
              · intro a w1 hb hs hd hf hj
                obtain ⟨A59, c59, h59, i59⟩ : ∃ A c, a.tmps.getD 59 undef = .tuple #[.slice A R.length c, .bool true] ∧ CapI w1 A c R := hj 12 (by kernel_rfl)
                refine st_still (wanted_none rfl) (u := .tuple #[.slice A59 R.length c59, .bool true]) ?_ ⟨_, _, rfl, i59⟩
                simp [execOp, Act.eval, h59, go_sem, -Array.getD_eq_getD_getElem?]
              · intro a w1 hb hs hd hf hj
                obtain ⟨A46, c46, h46, i46⟩ : ∃ A c, a.tmps.getD 46 undef = .tuple #[.slice A R.length c, .bool true] ∧ CapI w1 A c R := hj 13 (by kernel_rfl)
                refine st_still (wanted_none rfl) (u := .slice A46 R.length c46) ?_ ⟨_, _, rfl, i46⟩
                simp [execOp, Act.eval, h46, go_sem, -Array.getD_eq_getD_getElem?]
              · intro a w1 hb hs hd hf hj
                obtain ⟨A46, c46, h46, i46⟩ : ∃ A c, a.tmps.getD 46 undef = .tuple #[.slice A R.length c, .bool true] ∧ CapI w1 A c R := hj 13 (by kernel_rfl)
                refine st_still (wanted_none rfl) (u := .bool true) ?_ rfl
                simp [execOp, Act.eval, h46, go_sem, -Array.getD_eq_getD_getElem?]
              · intro a w1 hb hs hd hf hj
                obtain ⟨A60, c60, h60, i60⟩ : ∃ A c, a.tmps.getD 60 undef = .slice A R.length c ∧ CapI w1 A c R := hj 14 (by kernel_rfl)
                refine st_still (wanted_none rfl) (u := .slice A60 R.length c60) ?_ ⟨_, _, rfl, i60⟩
                simp [execOp, Act.eval, h60, go_sem, -Array.getD_eq_getD_getElem?]
            · intro a w1 hb hs hd hf hj
              obtain ⟨A5, c5, h7, hi5⟩ : ∃ A c, a.tmps.getD 7 undef = .slice A R.length c ∧ CapI w1 A c R := hj 16 (by decide)
              have HI5 := Lib.hid hi5
              have HB5 := Lib.hid (HB9.out.trans (hb.mono HB9.out.size))
              have HV5 := Lib.hid (HVB.out.below hb HVB.out.lt)
              have ha := act_slots [47, 48, 49, 50, 51, 52, 53, 54, 55, 56, 57, 58, 59, 46, 60, 61, 7] (by kernel_rfl) hs hd hf
              simp only [fillIn, Nat.zero_add, Nat.reduceAdd, List.contains_cons, List.contains_nil, Nat.reduceBEq, Bool.or_false, Bool.or_true, Bool.false_eq_true, if_true, if_false, ite_true, ite_false] at ha
              generalize a.tmps.getD 47 undef = u47 at ha
              generalize a.tmps.getD 48 undef = u48 at ha
              generalize a.tmps.getD 49 undef = u49 at ha
              generalize a.tmps.getD 50 undef = u50 at ha
              generalize a.tmps.getD 51 undef = u51 at ha
              generalize a.tmps.getD 52 undef = u52 at ha
              generalize a.tmps.getD 53 undef = u53 at ha
              generalize a.tmps.getD 54 undef = u54 at ha
              generalize a.tmps.getD 55 undef = u55 at ha
              generalize a.tmps.getD 56 undef = u56 at ha
              generalize a.tmps.getD 57 undef = u57 at ha
              generalize a.tmps.getD 58 undef = u58 at ha
              generalize a.tmps.getD 59 undef = u59 at ha
              generalize a.tmps.getD 46 undef = u46 at ha
              generalize a.tmps.getD 60 undef = u60 at ha
              generalize a.tmps.getD 61 undef = u61 at ha
              rw [h7] at ha
              clear hs hd hf hj h7 hb
              subst ha
              clear hi5 hk2 hkm
              go_wp2
              go_roundg f
              case measure => omega
              case rel => exact ⟨_, _, _, _, rfl, rfl, HNX, HFX, HI5, HV5, HB5⟩
end Go.Proofs.Ythnjjonjhenifaa

namespace Go.Proofs.Ythnjjonjhenifaa
set_option linter.unusedVariables false
set_option linter.unusedSimpArgs false
open Go.RowKit
def ms0 : List Mk := [⟨1, 1, []⟩, ⟨2, 1, [-1, 2]⟩]
theorem ms0_right : rightB ms0 = true := by kernel_rfl
theorem ms0_false : falseB ms0 [-1, -2] = true := by kernel_rfl
theorem ms0_false2 : falseB ms0 [-2] = true := by kernel_rfl
theorem ms0_learn : learnP ms0 4 (litSort [-1, -2]) = some [-1] := by kernel_rfl
theorem ms0_back : backP ms0 [-1] = 0 := by kernel_rfl
theorem res0 : resOk [1, 3] [-1, 2] 1 = true ∧ resP [1, 3] [-1, 2] 1 = [2, 3] := ⟨by kernel_rfl, by kernel_rfl⟩
theorem ms0_sized : Sized ms0 := ⟨by decide, fun i hi => by
  have : i < 2 := hi
  match i, this with
  | 0, _ => decide
  | 1, _ => decide⟩
theorem ms0_ok : MsOk ms0 := by
  constructor
  · intro i hi
    have : i < 2 := hi
    match i, this with
    | 0, _ => exact ⟨by decide, by decide⟩
    | 1, _ => exact ⟨by decide, by decide⟩
  · intro i hi
    have : i < 2 := hi
    match i, this with
    | 0, _ => exact fun x hx => by cases hx
    | 1, _ =>
      intro x hx
      rcases List.mem_cons.1 hx with rfl | hx
      · exact ⟨by decide, by decide⟩
      · rw [List.mem_singleton.1 hx]; exact ⟨by decide, by decide⟩
/-- Memory, the example's marks laid. -/
def headW (w : World) : World :=
  (w.alloc (.cells #[.int .i64 (-1), .int .i64 2] 3)).alloc (.cells #[.int .i64 1, .int .i64 1, .slice none 0 0, .int .i64 2, .int .i64 1, .slice (some ⟨w.heap.size, 0, none⟩) 2 2] 37)
theorem headW_below (w : World) : Below w.heap.size w (headW w) := ((Below.refl _ _).alloc (Nat.le_refl _) _).alloc (by simp) _
theorem headW_marks (w : World) : MarksAt (headW w).heap.size (headW w) (some ⟨w.heap.size + 1, 0, none⟩) ms0 := by
  obtain ⟨w1, h1⟩ : ∃ w1, w1 = w.alloc (.cells #[.int .i64 (-1), .int .i64 2] 3) := ⟨_, rfl⟩
  have hi : IntsAt w1.heap.size w1 (some ⟨w.heap.size, 0, none⟩) [-1, 2] := by rw [h1]; exact new_ints w [-1, 2] 3
  have hs : w1.heap.size = w.heap.size + 1 := by rw [h1]; simp
  unfold headW
  rw [← h1, ← hs]
  have hb := alloc_below w1 (.cells #[.int .i64 1, .int .i64 1, .slice none 0 0, .int .i64 2, .int .i64 1, .slice (some ⟨w.heap.size, 0, none⟩) 2 2] 37)
  have h := alloc_at w1 (.cells #[.int .i64 1, .int .i64 1, .slice none 0 0, .int .i64 2, .int .i64 1, .slice (some ⟨w.heap.size, 0, none⟩) 2 2] 37)
  intro i hi2
  have h4 : i < 2 := hi2
  match i, h4 with
  | 0, _ => exact ⟨_, none, 0, rfl, by simp, by rw [add_free]; unfold World.cell?; rw [h]; rfl, by rw [add_free]; unfold World.cell?; rw [h]; rfl, by rw [add_free]; unfold World.cell?; rw [h]; rfl, Nat.le_refl _, fun j hj => by cases hj⟩
  | 1, _ => exact ⟨_, _, 2, rfl, by simp, by rw [add_free]; unfold World.cell?; rw [h]; rfl, by rw [add_free]; unfold World.cell?; rw [h]; rfl, by rw [add_free]; unfold World.cell?; rw [h]; rfl, Nat.le_refl _, (hi.later hb).mono hb.size⟩
end Go.Proofs.Ythnjjonjhenifaa

/- The chapter's example returns true. -/
namespace Go.Proofs.Ythnjjonjhenifaa
set_option linter.unusedVariables false
set_option linter.unusedSimpArgs false
open Go.RowKit
theorem ms0_wl : ∀ i, i < ms0.length → (atM ms0 i).why.length ≤ 1000000 := fun i hi => Nat.le_trans (ms0_sized.2 i hi) (by decide)
theorem cl0_r : ∀ x ∈ ([-1, -2] : List Int), R64 x := fun x hx => by
  simp at hx
  rcases hx with rfl | rfl <;> exact ⟨by decide, by decide⟩
set_option maxRecDepth 100000 in
set_option maxHeartbeats 400000 in
theorem heads_any (w : World) : Calls Try.prog 11 #[] w fun e w' => e = .returned (.bool true) ∧ Below w.heap.size w w' := by
  obtain ⟨W, hW⟩ : ∃ W, W = headW w := ⟨_, rfl⟩
  have HM : Hid (MarksAt W.heap.size W (some ⟨w.heap.size + 1, 0, none⟩) ms0) := by rw [hW]; exact headW_marks w
  have HB := Lib.hid (headW_below w)
  rw [← hW] at HB
  obtain ⟨W1, hW1⟩ : ∃ W1, W1 = W.alloc (.cells #[.int .i64 (-1), .int .i64 (-2)] 3) := ⟨_, rfl⟩
  have HI1 : Hid (IntsAt W1.heap.size W1 (some ⟨w.heap.size + 2, 0, none⟩) [-1, -2]) := by
    have := new_ints W [-1, -2] 3
    have hs : W.heap.size = w.heap.size + 2 := by rw [hW]; unfold headW; simp
    rw [hW1, ← hs]
    exact this
  have HB1 : Hid (Below W.heap.size W W1) := by rw [hW1]; exact alloc_below _ _
  have HL := Lib.hid (learn_yes 2 2 W1 ((HM.out.later HB1.out).mono HB1.out.size) HI1.out ms0_sized rfl (by decide) ms0_ok cl0_r ms0_false)
  unfold headW at hW
  go_enter Try.func11, Try.ntmps11
  go_wp2_with (first
    | (rw [← hW, ← hW1]; clear hW hW1; go_at_call 12; refine HL.out.mono ?_; rintro e w2 ⟨r, Ar, cr, hr1, _, _, rfl, hr2, hb2⟩
       cases (hr1.symm.trans ms0_learn)
       rw [ms0_back]
       have HR2 := Lib.hid hr2.at_
       have HB2 := Lib.hid hb2
       clear hr1 hr2 hb2)
    | (go_at_call 22
       obtain ⟨W4, hW4⟩ : ∃ W4, W4 = (w2.alloc (.cells #[.int .i64 1, .int .i64 3] 3)).alloc (.cells #[.int .i64 (-1), .int .i64 2] 3) := ⟨_, rfl⟩
       rw [← hW4]
       have hs1 : (w2.alloc (.cells #[.int .i64 1, .int .i64 3] 3)).heap.size = w2.heap.size + 1 := by simp
       have hi1 := new_ints w2 [1, 3] 3
       have hi2 := new_ints (w2.alloc (.cells #[.int .i64 1, .int .i64 3] 3)) [-1, 2] 3
       rw [hs1] at hi2
       have ha2 := alloc_below (w2.alloc (.cells #[.int .i64 1, .int .i64 3] 3)) (.cells #[.int .i64 (-1), .int .i64 2] 3)
       have hb4 : Below w2.heap.size w2 W4 := by rw [hW4]; exact (alloc_below _ _).trans (ha2.mono (by rw [hs1]; omega))
       have hi3 := (hi1.later ha2).mono ha2.size
       replace hi2 : IntsAt W4.heap.size W4 (some ⟨w2.heap.size + 1, 0, none⟩) [-1, 2] := by rw [hW4]; exact hi2
       replace hi3 : IntsAt W4.heap.size W4 (some ⟨w2.heap.size, 0, none⟩) [1, 3] := by rw [hW4]; exact hi3
       refine (res_yes 1 2 2 W4 hi3 hi2 rfl rfl (by decide) (by decide) res0.1).mono ?_
       rintro e w5 ⟨As, cs, rfl, hs5, hb5⟩
       rw [res0.2] at hs5 ⊢
       have HR := Lib.hid ((HR2.out.later (hb4.trans (hb5.mono hb4.size))).mono (hb4.trans (hb5.mono hb4.size)).size)
       have HS := Lib.hid (own_ints hs5)
       have HB5 : Hid (∀ w1, Below w5.heap.size w5 w1 → Below W.heap.size W w1) := fun w1 hb => HB1.out.trans ((HB2.out.trans ((hb4.trans ((hb5.trans (hb.mono hb5.size)).mono hb4.size)).mono HB2.out.size)).mono HB1.out.size)
       clear hW4 hs1 hi1 hi2 ha2 hb4 hi3 hs5 hb5)
    | (go_at_call 18
       have ha := alloc_below w8 (.cells #[.int .i64 2, .int .i64 3] 3)
       have hs8 := HS.out.later HB8.out
       refine (same_near (q := true) cs 2 _ ((hs8.later ha).mono (Nat.le_trans HB8.out.size ha.size)) (new_ints w8 [2, 3] 3) rfl rfl (by decide) (by kernel_rfl)).mono ?_
       rintro e w9 ⟨rfl, hb9⟩
       have HB9 := Lib.hid (HB8.out.trans ((ha.trans (hb9.mono ha.size)).mono HB8.out.size))
       clear ha hs8 hb9)
    | (go_at_call 18
       have ha := alloc_below w5 (.cells #[.int .i64 (-1)] 3)
       refine (same_near (q := true) cr 1 _ ((HR.out.later ha).mono ha.size) (new_ints w5 [-1] 3) rfl rfl (by decide) (by kernel_rfl)).mono ?_
       rintro e w6 ⟨rfl, hb6⟩
       have HB6 := Lib.hid (ha.trans (hb6.mono ha.size))
       have HM6 := Lib.hid ((HM.out.later (HB5.out w6 HB6.out)).mono (HB5.out w6 HB6.out).size)
       clear ha hb6)
    | (go_at_call 13
       refine (right_any 2 w6 HM6.out (by decide) ms0_wl ms0_right).mono ?_
       rintro e w7 ⟨rfl, hb7⟩
       have HM7 := Lib.hid ((HM6.out.later hb7).mono hb7.size)
       have HB7 := Lib.hid (HB6.out.trans (hb7.mono HB6.out.size))
       clear hb7)
    | (go_at_call 14
       obtain ⟨W8, hW8⟩ : ∃ W8, W8 = w7.alloc (.cells #[.int .i64 (-2)] 3) := ⟨_, rfl⟩
       rw [← hW8]
       have hi8 : IntsAt W8.heap.size W8 (some ⟨w7.heap.size, 0, none⟩) [-2] := by rw [hW8]; exact new_ints w7 [-2] 3
       have ha : Below w7.heap.size w7 W8 := by rw [hW8]; exact alloc_below _ _
       have HF := Lib.hid (false_any 2 1 W8 ((HM7.out.later ha).mono ha.size) hi8 ms0_sized rfl (by decide) ms0_false2)
       clear hW8 hi8
       refine HF.out.mono ?_
       rintro e w8 ⟨rfl, hb8⟩
       have HB8 := Lib.hid (HB7.out.trans ((ha.trans (hb8.mono ha.size)).mono HB7.out.size))
       clear ha hb8))
  go_ret
  have hB := HB5.out w9 HB9.out
  exact ⟨rfl, HB.out.trans (hB.mono HB.out.size)⟩
end Go.Proofs.Ythnjjonjhenifaa
