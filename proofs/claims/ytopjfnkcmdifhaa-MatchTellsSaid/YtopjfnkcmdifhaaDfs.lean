/- Which left ones, and which right ones, are come to along alternating paths: a search in depth (plain). -/
import Derived.Test.YtopjfnkcmdifhaaKuhn
namespace Go.Proofs.Ytopjfnkcmdifhaa.Kuhn
set_option linter.unusedVariables false
set_option linter.unusedSimpArgs false

def dfsL (rec : List Int × List Int → Nat → Option (List Int × List Int)) (of : Int → Option Nat) : List Int → List Int × List Int → Option (List Int × List Int)
  | [], st => some st
  | n :: ns, st => match of n with
    | none => dfsL rec of ns (st.1, st.2 ++ [n])
    | some k => match rec (st.1, st.2 ++ [n]) k with
      | none => none
      | some st' => dfsL rec of ns st'

def dfs (row : Nat → List Int) (of : Int → Option Nat) : Nat → List Int × List Int → Nat → Option (List Int × List Int)
  | 0, _, _ => none
  | f + 1, st, i => if (i : Int) ∈ st.1 then some st else dfsL (dfs row of f) of (row i) (st.1 ++ [(i : Int)], st.2)

theorem dfsL_step {rec : List Int × List Int → Nat → Option (List Int × List Int)} {of : Int → Option Nat} {n : Int} {ns : List Int} {st : List Int × List Int} :
    dfsL rec of (n :: ns) st = match of n with
    | none => dfsL rec of ns (st.1, st.2 ++ [n])
    | some k => match rec (st.1, st.2 ++ [n]) k with
      | none => none
      | some st' => dfsL rec of ns st' := rfl

/-- Come to along alternating paths. -/
inductive Come (row : Nat → List Int) (of : Int → Option Nat) (from_ : Nat → Prop) : Nat → Prop
  | start (i : Nat) : from_ i → Come row of from_ i
  | step (u k : Nat) (n : Int) : Come row of from_ u → n ∈ row u → of n = some k → Come row of from_ k

/-- All that u leads to is there. -/
def Done (row : Nat → List Int) (of : Int → Option Nat) (st : List Int × List Int) (u : Int) : Prop :=
  ∃ i : Nat, u = i ∧ ∀ n ∈ row i, n ∈ st.2 ∧ ∀ k, of n = some k → (k : Int) ∈ st.1

structure DTells (row : Nat → List Int) (of : Int → Option Nat) (l : List Int) (st st' : List Int × List Int) : Prop where
  subL : ∃ t, st'.1 = st.1 ++ t
  subR : ∀ n ∈ st.2, n ∈ st'.2
  here : ∀ n ∈ l, n ∈ st'.2 ∧ ∀ k, of n = some k → (k : Int) ∈ st'.1
  new : ∀ u ∈ st'.1, u ∉ st.1 → Done row of st' u
  nodup : st.1.Nodup → st'.1.Nodup
  /-- nothing else is come to -/
  sound : ∀ (from_ : Nat → Prop), (∀ n ∈ l, ∃ u, Come row of from_ u ∧ n ∈ row u) → (∀ u ∈ st'.1, u ∉ st.1 → ∃ i : Nat, u = i ∧ Come row of from_ i) ∧ (∀ n ∈ st'.2, n ∉ st.2 → ∃ u, Come row of from_ u ∧ n ∈ row u)

theorem Done.mono {row : Nat → List Int} {of : Int → Option Nat} {st st' : List Int × List Int} {u : Int} (h : Done row of st u) (hL : ∀ x ∈ st.1, x ∈ st'.1) (hR : ∀ x ∈ st.2, x ∈ st'.2) : Done row of st' u := by
  obtain ⟨i, e, hi⟩ := h
  exact ⟨i, e, fun n hn => ⟨hR n (hi n hn).1, fun k hk => hL _ ((hi n hn).2 k hk)⟩⟩

section
variable {row : Nat → List Int} {of : Int → Option Nat}

/-- What one visit tells: as of a list of one left one. -/
structure VTells (row : Nat → List Int) (of : Int → Option Nat) (i : Nat) (st st' : List Int × List Int) : Prop where
  subL : ∃ t, st'.1 = st.1 ++ t
  subR : ∀ n ∈ st.2, n ∈ st'.2
  here : (i : Int) ∈ st'.1
  new : ∀ u ∈ st'.1, u ∉ st.1 → Done row of st' u
  nodup : st.1.Nodup → st'.1.Nodup
  sound : ∀ (from_ : Nat → Prop), Come row of from_ i → (∀ u ∈ st'.1, u ∉ st.1 → ∃ i : Nat, u = i ∧ Come row of from_ i) ∧ (∀ n ∈ st'.2, n ∉ st.2 → ∃ u, Come row of from_ u ∧ n ∈ row u)

theorem dfsL_tells {rec : List Int × List Int → Nat → Option (List Int × List Int)} (hrec : ∀ st k st', rec st k = some st' → VTells row of k st st') :
    ∀ (l : List Int) (st st' : List Int × List Int), dfsL rec of l st = some st' → DTells row of l st st' := by
  intro l
  induction l with
  | nil =>
    intro st st' h
    simp only [dfsL, Option.some.injEq] at h
    subst h
    exact ⟨⟨[], by simp⟩, fun n h => h, by simp, fun u h1 h2 => absurd h1 h2, fun h => h, fun _ _ => ⟨fun u h1 h2 => absurd h1 h2, fun u h1 h2 => absurd h1 h2⟩⟩
  | cons n ns ih =>
    intro st st' h
    rw [dfsL_step] at h
    cases ho : of n with
    | none =>
      rw [ho] at h
      dsimp only at h
      have hT := ih _ _ h
      refine ⟨hT.subL, fun m hm => hT.subR m (List.mem_append_left _ hm), ?_, hT.new, hT.nodup, ?_⟩
      · intro m hm
        rcases List.mem_cons.1 hm with rfl | hm
        · exact ⟨hT.subR m (by simp), fun k hk => by rw [ho] at hk; cases hk⟩
        · exact hT.here m hm
      · intro fr hfr
        obtain ⟨h1, h2⟩ := hT.sound fr (fun m hm => hfr m (.tail _ hm))
        refine ⟨h1, fun m hm hn => ?_⟩
        by_cases e : m = n
        · subst e; exact hfr m (.head _)
        · exact h2 m hm (by simp [hn, e])
    | some k =>
      rw [ho] at h
      dsimp only at h
      cases hr : rec (st.1, st.2 ++ [n]) k with
      | none => rw [hr] at h; cases h
      | some s1 =>
        rw [hr] at h
        dsimp only at h
        have hV := hrec _ _ _ hr
        have hT := ih _ _ h
        obtain ⟨t1, e1⟩ := hV.subL
        obtain ⟨t2, e2⟩ := hT.subL
        simp only at e1
        have hLL : ∀ x ∈ s1.1, x ∈ st'.1 := fun x hx => by rw [e2]; exact List.mem_append_left _ hx
        refine ⟨⟨t1 ++ t2, by rw [e2, e1, List.append_assoc]⟩, fun m hm => hT.subR m (hV.subR m (List.mem_append_left _ hm)), ?_, ?_, fun hn => hT.nodup (hV.nodup hn), ?_⟩
        · intro m hm
          rcases List.mem_cons.1 hm with rfl | hm
          · refine ⟨hT.subR m (hV.subR m (by simp)), fun k' hk' => ?_⟩
            rw [ho] at hk'
            cases hk'
            exact hLL _ hV.here
          · exact hT.here m hm
        · intro u hu hn
          by_cases hs : u ∈ s1.1
          · exact (hV.new u hs hn).mono hLL hT.subR
          · exact hT.new u hu hs
        · intro fr hfr
          obtain ⟨w, hw1, hw2⟩ := hfr n (.head _)
          obtain ⟨a1, a2⟩ := hV.sound fr (.step w k n hw1 hw2 ho)
          obtain ⟨b1, b2⟩ := hT.sound fr (fun m hm => hfr m (.tail _ hm))
          refine ⟨fun u hu hn => ?_, fun m hm hn => ?_⟩
          · by_cases hs : u ∈ s1.1
            · exact a1 u hs hn
            · exact b1 u hu hs
          · by_cases hs : m ∈ s1.2
            · by_cases e : m = n
              · subst e; exact ⟨w, hw1, hw2⟩
              · exact a2 m hs (by simp [hn, e])
            · exact b2 m hm hs

theorem dfs_tells : ∀ (f : Nat) (st : List Int × List Int) (i : Nat) (st' : List Int × List Int), dfs row of f st i = some st' → VTells row of i st st' := by
  intro f
  induction f with
  | zero => intro st i st' h; cases h
  | succ f ih =>
    intro st i st' h
    rw [dfs] at h
    by_cases hi : (i : Int) ∈ st.1
    · rw [if_pos hi] at h
      cases h
      exact ⟨⟨[], by simp⟩, fun n h => h, hi, fun u h1 h2 => absurd h1 h2, fun h => h, fun _ _ => ⟨fun u h1 h2 => absurd h1 h2, fun u h1 h2 => absurd h1 h2⟩⟩
    · rw [if_neg hi] at h
      have hT := dfsL_tells (fun st k st' hr => ih st k st' hr) _ _ _ h
      obtain ⟨t, e⟩ := hT.subL
      simp only at e
      refine ⟨⟨(i : Int) :: t, by rw [e]; simp⟩, hT.subR, by rw [e]; simp, ?_, ?_, ?_⟩
      · intro u hu hn
        by_cases hui : u = i
        · exact ⟨i, hui, hT.here⟩
        · exact hT.new u hu (by simp [hn, hui])
      · intro hn
        refine hT.nodup ?_
        simp only [List.nodup_append, List.nodup_cons, List.not_mem_nil, not_false_eq_true, List.nodup_nil, and_self, true_and, hn]
        intro a ha b hb
        rw [List.mem_singleton.1 hb]
        rintro rfl
        exact hi ha
      · intro fr hfr
        obtain ⟨a1, a2⟩ := hT.sound fr (fun n hn => ⟨i, hfr, hn⟩)
        refine ⟨fun u hu hn => ?_, a2⟩
        by_cases hui : u = i
        · exact ⟨i, hui, hfr⟩
        · exact a1 u hu (by simp [hn, hui])

theorem dfsL_ends {rec : List Int × List Int → Nat → Option (List Int × List Int)} {U : List Int} {m : Nat} (hofU : ∀ n k, of n = some k → (k : Int) ∈ U)
    (htell : ∀ st k st', rec st k = some st' → VTells row of k st st')
    (hrec : ∀ st (k : Nat), (k : Int) ∈ U → (U.filter fun v => !decide (v ∈ st.1)).length < m → ∃ st', rec st k = some st') :
    ∀ (l : List Int) (st : List Int × List Int), (U.filter fun v => !decide (v ∈ st.1)).length < m → ∃ st', dfsL rec of l st = some st' := by
  intro l
  induction l with
  | nil => intro st _; exact ⟨_, rfl⟩
  | cons n ns ih =>
    intro st hm
    rw [dfsL_step]
    cases ho : of n with
    | none => exact ih _ hm
    | some k =>
      dsimp only
      obtain ⟨s1, hr⟩ := hrec (st.1, st.2 ++ [n]) k (hofU n k ho) hm
      rw [hr]
      dsimp only
      obtain ⟨t, e⟩ := (htell _ _ _ hr).subL
      refine ih s1 ?_
      rw [e]
      exact Nat.lt_of_le_of_lt (filter_le st.1 t U) hm

theorem dfs_ends {U : List Int} (hofU : ∀ n k, of n = some k → (k : Int) ∈ U) : ∀ (f : Nat) (st : List Int × List Int) (i : Nat), (i : Int) ∈ U → (U.filter fun v => !decide (v ∈ st.1)).length < f → ∃ st', dfs row of f st i = some st' := by
  intro f
  induction f with
  | zero => intro st i _ h; omega
  | succ f ih =>
    intro st i hi h
    rw [dfs]
    by_cases hc : (i : Int) ∈ st.1
    · rw [if_pos hc]; exact ⟨_, rfl⟩
    · rw [if_neg hc]
      have h1 := filter_lt hi hc []
      rw [List.append_nil] at h1
      exact dfsL_ends hofU (fun st k st' hr => dfs_tells f st k st' hr) ih _ _ (by simp only; omega)
end

/-! Which left one each right one is matched to, out of a row of matches. -/
def ofFrom : Nat → List Int → (Int → Option Nat) → (Int → Option Nat)
  | _, [], f => f
  | i, x :: xs, f => ofFrom (i + 1) xs (if 0 ≤ x then upd f x (some i) else f)
def ofM (m : List Int) : Int → Option Nat := ofFrom 0 m (fun _ => none)
theorem ofFrom_append (xs ys : List Int) : ∀ i f, ofFrom i (xs ++ ys) f = ofFrom (i + xs.length) ys (ofFrom i xs f) := by
  induction xs with
  | nil => intro i f; rfl
  | cons x xs ih =>
    intro i f
    simp only [List.cons_append, ofFrom, ih, List.length_cons]
    rw [show i + 1 + xs.length = i + (xs.length + 1) by omega]
theorem ofM_snoc (m : List Int) (k : Nat) (hk : k < m.length) : ofM (m.take (k + 1)) = if 0 ≤ m[k] then upd (ofM (m.take k)) m[k] (some k) else ofM (m.take k) := by
  unfold ofM
  rw [List.take_succ_eq_append_getElem hk, ofFrom_append]
  have : (m.take k).length = k := by rw [List.length_take]; omega
  rw [this, Nat.zero_add]
  rfl
theorem ofM_spec (m : List Int) : ∀ k, k ≤ m.length → (∀ n i, ofM (m.take k) n = some i → i < k ∧ m[i]? = some n ∧ 0 ≤ n) ∧ (∀ i n, i < k → m[i]? = some n → 0 ≤ n → ∃ j, ofM (m.take k) n = some j ∧ i ≤ j) := by
  intro k
  induction k with
  | zero => intro _; exact ⟨fun n i h => (by simp [ofM, ofFrom] at h), fun i n h => by omega⟩
  | succ k ih =>
    intro hk
    obtain ⟨h1, h2⟩ := ih (by omega)
    rw [ofM_snoc m k (by omega)]
    by_cases h0 : 0 ≤ m[k]
    · rw [if_pos h0]
      constructor
      · intro n i h
        by_cases e : n = m[k]
        · subst e
          rw [upd_same] at h
          cases h
          exact ⟨by omega, by rw [List.getElem?_eq_getElem (by omega)], h0⟩
        · rw [upd_other _ _ e] at h
          obtain ⟨a, b⟩ := h1 n i h
          exact ⟨by omega, b⟩
      · intro i n hi hn hn0
        by_cases e : n = m[k]
        · exact ⟨k, by rw [e]; exact upd_same _ _ _, by omega⟩
        · have hik : i ≠ k := by
            rintro rfl
            rw [List.getElem?_eq_getElem (by omega)] at hn
            exact e (Option.some.inj hn).symm
          obtain ⟨j, a, b⟩ := h2 i n (by omega) hn hn0
          exact ⟨j, by rw [upd_other _ _ e]; exact a, b⟩
    · rw [if_neg h0]
      constructor
      · intro n i h
        obtain ⟨a, b⟩ := h1 n i h
        exact ⟨by omega, b⟩
      · intro i n hi hn hn0
        have hik : i ≠ k := by
          rintro rfl
          rw [List.getElem?_eq_getElem (by omega)] at hn
          have e := Option.some.inj hn
          rw [e] at h0
          exact h0 hn0
        exact h2 i n (by omega) hn hn0
theorem ofM_some {m : List Int} {n : Int} {i : Nat} (h : ofM m n = some i) : i < m.length ∧ m[i]? = some n ∧ 0 ≤ n := by
  have := (ofM_spec m m.length (Nat.le_refl _)).1 n i
  rw [List.take_length] at this
  exact this h
theorem ofM_has {m : List Int} {n : Int} {i : Nat} (h : m[i]? = some n) (h0 : 0 ≤ n) : ∃ j, ofM m n = some j ∧ i ≤ j := by
  have := (ofM_spec m m.length (Nat.le_refl _)).2 i n (List.getElem?_eq_some_iff.1 h).1 h h0
  rw [List.take_length] at this
  exact this

/-- All that is come to from some left ones (as far as these were gone through). -/
structure Reached (row : Nat → List Int) (of : Int → Option Nat) (from_ : List Int) (k : Nat) (st : List Int × List Int) : Prop where
  here : ∀ u ∈ from_.take k, u ∈ st.1
  done : ∀ u ∈ st.1, Done row of st u
  nodup : st.1.Nodup
  soundL : ∀ u ∈ st.1, ∃ i : Nat, u = i ∧ Come row of (fun i => (i : Int) ∈ from_) i
  soundR : ∀ n ∈ st.2, ∃ u, Come row of (fun i => (i : Int) ∈ from_) u ∧ n ∈ row u

theorem Reached.start (row : Nat → List Int) (of : Int → Option Nat) (from_ : List Int) : Reached row of from_ 0 ([], []) := ⟨by simp, by simp, List.nodup_nil, by simp, by simp⟩
theorem Reached.next {row : Nat → List Int} {of : Int → Option Nat} {from_ : List Int} {k i : Nat} {st st' : List Int × List Int} (h : Reached row of from_ k st) (hk : k < from_.length) (hi : from_[k] = (i : Int)) (hv : VTells row of i st st') : Reached row of from_ (k + 1) st' := by
  obtain ⟨t, e⟩ := hv.subL
  have hL : ∀ x ∈ st.1, x ∈ st'.1 := fun x hx => by rw [e]; exact List.mem_append_left _ hx
  have hc : Come row of (fun i => (i : Int) ∈ from_) i := .start i (by rw [← hi]; exact List.getElem_mem hk)
  obtain ⟨s1, s2⟩ := hv.sound _ hc
  refine ⟨?_, ?_, hv.nodup h.nodup, ?_, ?_⟩
  · intro u hu
    rw [List.take_succ_eq_append_getElem hk, List.mem_append, List.mem_singleton] at hu
    rcases hu with hu | rfl
    · exact hL u (h.here u hu)
    · rw [hi]; exact hv.here
  · intro u hu
    by_cases hs : u ∈ st.1
    · exact (h.done u hs).mono hL hv.subR
    · exact hv.new u hu hs
  · intro u hu
    by_cases hs : u ∈ st.1
    · exact h.soundL u hs
    · exact s1 u hu hs
  · intro n hn
    by_cases hs : n ∈ st.2
    · exact h.soundR n hs
    · exact s2 n hn hs

theorem Reached.memL {row : Nat → List Int} {of : Int → Option Nat} {from_ : List Int} {st : List Int × List Int} (h : Reached row of from_ from_.length st) (i : Nat) : (i : Int) ∈ st.1 ↔ Come row of (fun i => (i : Int) ∈ from_) i := by
  constructor
  · intro hu
    obtain ⟨j, e, hj⟩ := h.soundL _ hu
    have : i = j := by omega
    subst this
    exact hj
  · intro hc
    induction hc with
    | start i hi => exact h.here _ (by rw [List.take_length]; exact hi)
    | step u k n hu hn hk ih =>
      obtain ⟨j, e, hj⟩ := h.done _ ih
      have : u = j := by omega
      subst this
      exact (hj n hn).2 k hk
theorem Reached.memR {row : Nat → List Int} {of : Int → Option Nat} {from_ : List Int} {st : List Int × List Int} (h : Reached row of from_ from_.length st) (n : Int) : n ∈ st.2 ↔ ∃ u, Come row of (fun i => (i : Int) ∈ from_) u ∧ n ∈ row u := by
  constructor
  · exact h.soundR n
  · rintro ⟨u, hu, hn⟩
    obtain ⟨j, e, hj⟩ := h.done _ ((h.memL u).2 hu)
    have : u = j := by omega
    subst this
    exact (hj n hn).1
end Go.Proofs.Ytopjfnkcmdifhaa.Kuhn
