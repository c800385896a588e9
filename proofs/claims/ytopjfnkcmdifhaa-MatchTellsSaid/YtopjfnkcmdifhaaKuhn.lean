/- Kuhn's search for an augmenting path, and that the number of left ones that it matches is the greatest: plain lists, no program. -/
namespace Go.Proofs.Ytopjfnkcmdifhaa.Kuhn
set_option linter.unusedVariables false
set_option linter.unusedSimpArgs false

abbrev Path := List (Int × Nat)

def upd {α : Type} (f : Int → α) (k : Int) (v : α) : Int → α := fun j => if j = k then v else f j
theorem upd_same {α : Type} (f : Int → α) (k : Int) (v : α) : upd f k v k = v := by simp [upd]
theorem upd_other {α : Type} (f : Int → α) {k j : Int} (v : α) (h : j ≠ k) : upd f k v j = f j := by simp [upd, h]

def srchL (rec : List Int → Nat → Option (Option Path × List Int)) (ok : Int → Bool) (of : Int → Option Nat) (i : Nat) : List Int → List Int → Option (Option Path × List Int)
  | [], s => some (none, s)
  | n :: ns, s =>
    if ok n = false ∨ n ∈ s then srchL rec ok of i ns s else
    match of n with
    | none => some (some [(n, i)], s ++ [n])
    | some k => match rec (s ++ [n]) k with
      | none => none
      | some (some p, s') => some (some ((n, i) :: p), s')
      | some (none, s') => srchL rec ok of i ns s'

def srch (row : Nat → List Int) (ok : Int → Bool) (of : Int → Option Nat) : Nat → List Int → Nat → Option (Option Path × List Int)
  | 0, _, _ => none
  | f + 1, s, i => srchL (srch row ok of f) ok of i (row i) s

def applyOf (of : Int → Option Nat) : Path → (Int → Option Nat)
  | [] => of
  | (n, i) :: p => upd (applyOf of p) n (some i)

/-- A path from i: its right ones are edges of the left ones that stand beside them; the last one is free; none stands twice. -/
def PathOK (row : Nat → List Int) (ok : Int → Bool) (of : Int → Option Nat) : Nat → Path → Prop
  | _, [] => False
  | i, (n, j) :: p => j = i ∧ n ∈ row i ∧ ok n = true ∧ n ∉ p.map (·.1) ∧
      match of n with
      | none => p = []
      | some k => PathOK row ok of k p

section search
variable {row : Nat → List Int} {ok : Int → Bool} {of : Int → Option Nat}

theorem srchL_step {rec : List Int → Nat → Option (Option Path × List Int)} {i : Nat} {n : Int} {ns s : List Int} :
    srchL rec ok of i (n :: ns) s = if ok n = false ∨ n ∈ s then srchL rec ok of i ns s else
    match of n with
    | none => some (some [(n, i)], s ++ [n])
    | some k => match rec (s ++ [n]) k with
      | none => none
      | some (some p, s') => some (some ((n, i) :: p), s')
      | some (none, s') => srchL rec ok of i ns s' := rfl

/-- What a search that ends tells. -/
def Tells (row : Nat → List Int) (ok : Int → Bool) (of : Int → Option Nat) (i : Nat) (l s : List Int) (r : Option Path × List Int) : Prop :=
  (∃ t, r.2 = s ++ t ∧ ∀ n ∈ t, n ∉ s) ∧
  match r.1 with
  | some p => PathOK row ok of i p ∧ ∀ x ∈ p, x.1 ∉ s ∧ x.1 ∈ r.2
  | none => (∀ n ∈ l, ok n = true → n ∈ r.2) ∧ ∀ n ∈ r.2, n ∉ s → ∃ k, of n = some k ∧ ∀ v ∈ row k, ok v = true → v ∈ r.2

theorem srchL_tells {rec : List Int → Nat → Option (Option Path × List Int)} {i : Nat}
    (hrec : ∀ s k r, rec s k = some r → Tells row ok of k (row k) s r) :
    ∀ (l s : List Int) (r : Option Path × List Int), (∀ n ∈ l, n ∈ row i) → srchL rec ok of i l s = some r → Tells row ok of i l s r := by
  intro l
  induction l with
  | nil =>
    intro s r _ h
    simp only [srchL, Option.some.injEq] at h
    subst h
    exact ⟨⟨[], by simp, by simp⟩, by simp, by simp; intro n h1 h2; exact absurd h1 h2⟩
  | cons n ns ih =>
    intro s r hl h
    rw [srchL_step] at h
    by_cases hc : ok n = false ∨ n ∈ s
    · rw [if_pos hc] at h
      have hT := ih s r (fun m hm => hl m (.tail _ hm)) h
      obtain ⟨⟨t, ht, htn⟩, h2⟩ := hT
      refine ⟨⟨t, ht, htn⟩, ?_⟩
      obtain ⟨r1, r2⟩ := r
      cases r1 with
      | some p => exact h2
      | none =>
        refine ⟨?_, h2.2⟩
        intro m hm hok
        rcases List.mem_cons.1 hm with rfl | hm
        · rcases hc with hc | hc
          · rw [hc] at hok; cases hok
          · exact ht ▸ List.mem_append_left _ hc
        · exact h2.1 m hm hok
    · rw [if_neg hc] at h
      have hokn : ok n = true := by
        cases hq : ok n with
        | true => rfl
        | false => exact absurd (.inl hq) hc
      have hns : n ∉ s := fun q => hc (.inr q)
      cases ho : of n with
      | none =>
        rw [ho] at h
        simp only [Option.some.injEq] at h
        subst h
        refine ⟨⟨[n], rfl, by simpa using hns⟩, ?_, by simpa using hns⟩
        simp only [PathOK, ho]
        exact ⟨trivial, hl n (.head _), hokn, by simp, trivial⟩
      | some k =>
        rw [ho] at h
        dsimp only at h
        cases hr : rec (s ++ [n]) k with
        | none => rw [hr] at h; cases h
        | some r0 =>
          obtain ⟨⟨t, ht, htn⟩, h2⟩ := hrec _ _ _ hr
          obtain ⟨q, s'⟩ := r0
          simp only at ht
          have htn' : ∀ m ∈ t, m ∉ s := fun m hm q => htn m hm (List.mem_append_left _ q)
          cases q with
          | some p =>
            rw [hr] at h
            simp only [Option.some.injEq] at h
            subst h
            refine ⟨⟨[n] ++ t, by simp [ht], ?_⟩, ?_, ?_⟩
            · intro m hm
              rcases List.mem_append.1 hm with hm | hm
              · rw [List.mem_singleton.1 hm]; exact hns
              · exact htn' m hm
            · simp only [PathOK, ho]
              refine ⟨trivial, hl n (.head _), hokn, ?_, h2.1⟩
              intro hm
              obtain ⟨x, hx, e⟩ := List.mem_map.1 hm
              exact (h2.2 x hx).1 (e ▸ List.mem_append_right _ (List.mem_singleton.2 rfl))
            · intro x hx
              rcases List.mem_cons.1 hx with rfl | hx
              · exact ⟨hns, by simp [ht]⟩
              · exact ⟨fun q => (h2.2 x hx).1 (List.mem_append_left _ q), (h2.2 x hx).2⟩
          | none =>
            rw [hr] at h
            simp only at h
            obtain ⟨⟨t2, ht2, htn2⟩, h3⟩ := ih s' r (fun m hm => hl m (.tail _ hm)) h
            refine ⟨⟨[n] ++ t ++ t2, by rw [ht2, ht]; simp, ?_⟩, ?_⟩
            · intro m hm
              rcases List.mem_append.1 hm with hm | hm
              · rcases List.mem_append.1 hm with hm | hm
                · rw [List.mem_singleton.1 hm]; exact hns
                · exact htn' m hm
              · exact fun q => htn2 m hm (by rw [ht]; exact List.mem_append_left _ (List.mem_append_left _ q))
            · obtain ⟨r1, r2⟩ := r
              simp only at ht2
              have hsub : ∀ m ∈ s', m ∈ r2 := fun m hm => ht2 ▸ List.mem_append_left _ hm
              have hn' : n ∈ s' := by rw [ht]; simp
              cases r1 with
              | some p =>
                refine ⟨h3.1, fun x hx => ⟨fun q => (h3.2 x hx).1 (by rw [ht]; exact List.mem_append_left _ (List.mem_append_left _ q)), (h3.2 x hx).2⟩⟩
              | none =>
                refine ⟨?_, ?_⟩
                · intro m hm hok
                  rcases List.mem_cons.1 hm with rfl | hm
                  · exact hsub _ hn'
                  · exact h3.1 m hm hok
                · intro m hm hms
                  by_cases hms' : m ∈ s'
                  · by_cases hmn : m = n
                    · subst hmn
                      exact ⟨k, ho, fun v hv hok => hsub _ (h2.1 v hv hok)⟩
                    · obtain ⟨k', e1, e2⟩ := h2.2 m hms' (fun q => by
                        rcases List.mem_append.1 q with q | q
                        · exact hms q
                        · exact hmn (List.mem_singleton.1 q))
                      exact ⟨k', e1, fun v hv hok => hsub _ (e2 v hv hok)⟩
                  · exact h3.2 m hm hms'

theorem srch_tells : ∀ (f : Nat) (s : List Int) (i : Nat) (r : Option Path × List Int), srch row ok of f s i = some r → Tells row ok of i (row i) s r := by
  intro f
  induction f with
  | zero => intro s i r h; cases h
  | succ f ih =>
    intro s i r h
    exact srchL_tells (fun s k r hr => ih s k r hr) (row i) s r (fun _ h => h) h

theorem filter_le (s t : List Int) : ∀ us : List Int, (us.filter fun v => !decide (v ∈ s ++ t)).length ≤ (us.filter fun v => !decide (v ∈ s)).length := by
  intro us
  induction us with
  | nil => simp
  | cons x xs ihx =>
    by_cases hx : x ∈ s
    · have : x ∈ s ++ t := by simp [hx]
      simp only [List.filter_cons, hx, this, decide_true, Bool.not_true, Bool.false_eq_true, if_false]; exact ihx
    · by_cases hx2 : x ∈ s ++ t
      · simp only [List.filter_cons, hx, hx2, decide_true, decide_false, Bool.not_true, Bool.not_false, Bool.false_eq_true, if_false, if_true, List.length_cons]; omega
      · simp only [List.filter_cons, hx, hx2, decide_false, Bool.not_false, if_true, List.length_cons]; omega

theorem filter_lt {U s : List Int} {n : Int} (hmem : n ∈ U) (hns : n ∉ s) (t : List Int) :
    (U.filter fun v => !decide (v ∈ s ++ [n] ++ t)).length < (U.filter fun v => !decide (v ∈ s)).length := by
  induction U with
  | nil => cases hmem
  | cons u us ihu =>
    by_cases hun : u = n
    · subst hun
      have h1 : u ∈ s ++ [u] ++ t := by simp
      simp only [List.filter_cons, hns, h1, decide_true, decide_false, Bool.not_true, Bool.not_false, Bool.false_eq_true, if_false, if_true, List.length_cons]
      have := filter_le s ([u] ++ t) us
      rw [← List.append_assoc] at this
      omega
    · have hmem' : n ∈ us := by
        rcases List.mem_cons.1 hmem with q | q
        · exact absurd q.symm hun
        · exact q
      have h4 := ihu hmem'
      by_cases hx : u ∈ s
      · have : u ∈ s ++ [n] ++ t := by simp [hx]
        simp only [List.filter_cons, hx, this, decide_true, Bool.not_true, Bool.false_eq_true, if_false]; exact h4
      · by_cases hx2 : u ∈ s ++ [n] ++ t
        · simp only [List.filter_cons, hx, hx2, decide_true, decide_false, Bool.not_true, Bool.not_false, Bool.false_eq_true, if_false, if_true, List.length_cons]; omega
        · simp only [List.filter_cons, hx, hx2, decide_false, Bool.not_false, if_true, List.length_cons]; omega

/-! The search ends. -/
theorem srchL_ends {rec : List Int → Nat → Option (Option Path × List Int)} {i : Nat} {U : List Int} {m : Nat}
    (hrow : ∀ k v, of v = some k → ∀ n ∈ row k, n ∈ U)
    (htell : ∀ s k r, rec s k = some r → Tells row ok of k (row k) s r)
    (hrec : ∀ s k, (∀ n ∈ row k, n ∈ U) → (U.filter fun v => !decide (v ∈ s)).length < m → ∃ r, rec s k = some r) :
    ∀ (l s : List Int), (∀ n ∈ l, n ∈ U) → (U.filter fun v => !decide (v ∈ s)).length < m + 1 → ∃ r, srchL rec ok of i l s = some r := by
  intro l
  induction l with
  | nil => intro s _ _; exact ⟨_, rfl⟩
  | cons n ns ih =>
    intro s hl hm
    rw [srchL_step]
    by_cases hc : ok n = false ∨ n ∈ s
    · rw [if_pos hc]; exact ih s (fun v hv => hl v (.tail _ hv)) hm
    · rw [if_neg hc]
      have hns : n ∉ s := fun q => hc (.inr q)
      cases ho : of n with
      | none => exact ⟨_, rfl⟩
      | some k =>
        have hlt : ∀ t, (U.filter fun v => !decide (v ∈ s ++ [n] ++ t)).length < (U.filter fun v => !decide (v ∈ s)).length := fun t => filter_lt (hl n (.head _)) hns t
        have h0 := hlt []
        rw [List.append_nil] at h0
        obtain ⟨r, hr⟩ := hrec (s ++ [n]) k (hrow k n ho) (by omega)
        dsimp only
        rw [hr]
        obtain ⟨q, s'⟩ := r
        cases q with
        | some p => exact ⟨_, rfl⟩
        | none =>
          obtain ⟨⟨t, ht, _⟩, _⟩ := htell _ _ _ hr
          simp only at ht
          have h5 := hlt t
          rw [← ht] at h5
          exact ih s' (fun v hv => hl v (.tail _ hv)) (by omega)

theorem srch_ends {U : List Int} (hrow : ∀ k v, of v = some k → ∀ n ∈ row k, n ∈ U) : ∀ (f : Nat) (s : List Int) (i : Nat), (∀ n ∈ row i, n ∈ U) →
    (U.filter fun v => !decide (v ∈ s)).length < f → ∃ r, srch row ok of f s i = some r := by
  intro f
  induction f with
  | zero => intro s i _ h; omega
  | succ f ih =>
    intro s i hi h
    exact srchL_ends hrow (srch_tells f) ih (row i) s hi h

/-! What a path does. -/
theorem applyOf_not {p : Path} {v : Int} (h : v ∉ p.map (·.1)) : applyOf of p v = of v := by
  induction p with
  | nil => rfl
  | cons x p ih =>
    obtain ⟨n, i⟩ := x
    simp only [List.map_cons, List.mem_cons, not_or] at h
    rw [applyOf, upd_other _ _ h.1]
    exact ih h.2

theorem path_nodup : ∀ {p : Path} {i : Nat}, PathOK row ok of i p → (p.map (·.1)).Nodup := by
  intro p
  induction p with
  | nil => intro i h; exact h.elim
  | cons x p ih =>
    intro i h
    obtain ⟨n, j⟩ := x
    simp only [PathOK] at h
    obtain ⟨_, _, _, h4, h5⟩ := h
    rw [List.map_cons, List.nodup_cons]
    refine ⟨h4, ?_⟩
    cases ho : of n with
    | none => rw [ho] at h5; dsimp only at h5; subst h5; simp
    | some k => rw [ho] at h5; exact ih h5

theorem applyOf_mem : ∀ {p : Path} {n : Int} {i : Nat}, (p.map (·.1)).Nodup → (n, i) ∈ p → applyOf of p n = some i := by
  intro p
  induction p with
  | nil => intro n i _ h; cases h
  | cons x p ih =>
    intro n i hn h
    obtain ⟨m, j⟩ := x
    rw [List.map_cons, List.nodup_cons] at hn
    rw [applyOf]
    rcases List.mem_cons.1 h with h1 | h1
    · cases h1; exact upd_same _ _ _
    · rw [upd_other]
      · exact ih hn.2 h1
      · intro e
        exact hn.1 (List.mem_map.2 ⟨_, h1, e⟩)

theorem applyOf_iff {p : Path} (hn : (p.map (·.1)).Nodup) (v : Int) (x : Nat) : applyOf of p v = some x ↔ (v, x) ∈ p ∨ (v ∉ p.map (·.1) ∧ of v = some x) := by
  constructor
  · intro h
    by_cases hv : v ∈ p.map (·.1)
    · obtain ⟨⟨v', y⟩, hy, rfl⟩ := List.mem_map.1 hv
      have := applyOf_mem (of := of) hn hy
      dsimp only at h
      rw [this] at h
      cases h
      exact .inl hy
    · exact .inr ⟨hv, by rwa [applyOf_not hv] at h⟩
  · rintro (h | ⟨h1, h2⟩)
    · exact applyOf_mem hn h
    · rw [applyOf_not h1]; exact h2

theorem path_edges : ∀ {p : Path} {i : Nat}, PathOK row ok of i p → ∀ x ∈ p, x.1 ∈ row x.2 ∧ ok x.1 = true := by
  intro p
  induction p with
  | nil => intro i h; exact h.elim
  | cons x p ih =>
    intro i h y hy
    obtain ⟨n, j⟩ := x
    simp only [PathOK] at h
    obtain ⟨rfl, h2, h3, _, h5⟩ := h
    rcases List.mem_cons.1 hy with rfl | hy
    · exact ⟨h2, h3⟩
    · cases ho : of n with
      | none => rw [ho] at h5; dsimp only at h5; subst h5; cases hy
      | some k => rw [ho] at h5; exact ih h5 y hy

theorem path_head : ∀ {p : Path} {i : Nat}, PathOK row ok of i p → ∃ n q, p = (n, i) :: q := by
  intro p i h
  cases p with
  | nil => exact h.elim
  | cons x p =>
    obtain ⟨n, j⟩ := x
    simp only [PathOK] at h
    obtain ⟨rfl, _⟩ := h
    exact ⟨n, p, rfl⟩

theorem lefts_in : ∀ {p : Path} {i : Nat}, PathOK row ok of i p → ∀ n x, (n, x) ∈ p → x = i ∨ ∃ m ∈ p.map (·.1), of m = some x := by
  intro p
  induction p with
  | nil => intro i h; exact h.elim
  | cons y p ih =>
    intro i h n x hx
    obtain ⟨m, j⟩ := y
    simp only [PathOK] at h
    obtain ⟨rfl, _, _, _, h5⟩ := h
    rcases List.mem_cons.1 hx with hx | hx
    · cases hx; exact .inl rfl
    · cases ho : of m with
      | none => rw [ho] at h5; dsimp only at h5; subst h5; cases hx
      | some k =>
        rw [ho] at h5
        rcases ih h5 n x hx with rfl | ⟨m', h1, h2⟩
        · exact .inr ⟨m, by simp, ho⟩
        · exact .inr ⟨m', by simp only [List.map_cons, List.mem_cons]; exact .inr h1, h2⟩

def Inj (of : Int → Option Nat) : Prop := ∀ v v' i, of v = some i → of v' = some i → v = v'

theorem lefts_inj (hi : Inj of) : ∀ {p : Path} {i : Nat}, PathOK row ok of i p → (∀ m ∈ p.map (·.1), of m ≠ some i) → ∀ n n' x, (n, x) ∈ p → (n', x) ∈ p → n = n' := by
  intro p
  induction p with
  | nil => intro i h; exact h.elim
  | cons y p ih =>
    intro i h hne n n' x hx hx'
    obtain ⟨m, j⟩ := y
    simp only [PathOK] at h
    obtain ⟨rfl, _, _, h4, h5⟩ := h
    cases ho : of m with
    | none =>
      rw [ho] at h5; dsimp only at h5; subst h5
      simp only [List.mem_singleton, Prod.mk.injEq] at hx hx'
      exact hx.1.trans hx'.1.symm
    | some k =>
      rw [ho] at h5
      have hk : ∀ m' ∈ p.map (·.1), of m' ≠ some k := fun m' hm' e => h4 (hi m' m k e ho ▸ hm')
      have hout : ∀ n x, (n, x) ∈ p → x ≠ j := by
        rintro n1 x1 hx1 rfl
        rcases lefts_in h5 n1 x1 hx1 with e | ⟨m', h1, h2⟩
        · exact hne m (by simp) (e ▸ ho)
        · exact hne m' (by simp only [List.map_cons, List.mem_cons]; exact .inr h1) h2
      rcases List.mem_cons.1 hx with hy | hy <;> rcases List.mem_cons.1 hx' with hy' | hy'
      · simp only [Prod.mk.injEq] at hy hy'; exact hy.1.trans hy'.1.symm
      · simp only [Prod.mk.injEq] at hy; exact absurd hy.2 (hout _ _ hy')
      · simp only [Prod.mk.injEq] at hy'; exact absurd hy'.2 (hout _ _ hy)
      · exact ih h5 hk n n' x hy hy'

theorem path_next : ∀ {p : Path} {i : Nat}, PathOK row ok of i p → ∀ v x, v ∈ p.map (·.1) → of v = some x → ∃ n, (n, x) ∈ p := by
  intro p
  induction p with
  | nil => intro i h; exact h.elim
  | cons y p ih =>
    intro i h v x hv hx
    obtain ⟨m, j⟩ := y
    simp only [PathOK] at h
    obtain ⟨rfl, _, _, _, h5⟩ := h
    rw [List.map_cons, List.mem_cons] at hv
    rcases hv with rfl | hv
    · rw [hx] at h5
      obtain ⟨n, q, rfl⟩ := path_head h5
      exact ⟨n, by simp⟩
    · cases ho : of m with
      | none => rw [ho] at h5; dsimp only at h5; subst h5; cases hv
      | some k =>
        rw [ho] at h5
        obtain ⟨n, hn⟩ := ih h5 v x hv hx
        exact ⟨n, .tail _ hn⟩

/-- A closed set of right ones: each is matched, and all that its left one may be matched to is in it. -/
def Closed (row : Nat → List Int) (ok : Int → Bool) (of : Int → Option Nat) (B : List Int) : Prop :=
  ∀ v ∈ B, ∃ k, of v = some k ∧ ∀ u ∈ row k, ok u = true → u ∈ B

theorem path_closed {B : List Int} (hB : Closed row ok of B) : ∀ {p : Path} {i : Nat}, PathOK row ok of i p → (∀ u ∈ row i, ok u = true → u ∈ B) → False := by
  intro p
  induction p with
  | nil => intro i h _; exact h
  | cons y p ih =>
    intro i h hr
    obtain ⟨m, j⟩ := y
    simp only [PathOK] at h
    obtain ⟨rfl, h2, h3, _, h5⟩ := h
    obtain ⟨k, ho, hk⟩ := hB m (hr m h2 h3)
    rw [ho] at h5
    exact ih h5 hk

theorem path_avoids {B : List Int} (hB : Closed row ok of B) : ∀ {p : Path} {i : Nat}, PathOK row ok of i p → ∀ v ∈ p.map (·.1), v ∉ B := by
  intro p
  induction p with
  | nil => intro i h; exact h.elim
  | cons y p ih =>
    intro i h v hv hvB
    obtain ⟨m, j⟩ := y
    simp only [PathOK] at h
    obtain ⟨rfl, h2, h3, _, h5⟩ := h
    rw [List.map_cons, List.mem_cons] at hv
    rcases hv with rfl | hv
    · obtain ⟨k, ho, hk⟩ := hB _ hvB
      rw [ho] at h5
      exact path_closed hB h5 hk
    · cases ho : of m with
      | none => rw [ho] at h5; dsimp only at h5; subst h5; cases hv
      | some k => rw [ho] at h5; exact ih h5 v hv hvB
end search

/-! A pigeon-hole. -/
theorem card_le {α β : Type} [DecidableEq β] (R : α → β → Prop) : ∀ (L : List α) (S : List β), L.Nodup → (∀ i ∈ L, ∃ x ∈ S, R i x) →
    (∀ i ∈ L, ∀ j ∈ L, ∀ x, R i x → R j x → i = j) → L.length ≤ S.length := by
  intro L
  induction L with
  | nil => intro S _ _ _; simp
  | cons i L ih =>
    intro S hn ht hi
    rw [List.nodup_cons] at hn
    obtain ⟨x, hx, hR⟩ := ht i (.head _)
    have h := ih (S.erase x) hn.2 (fun j hj => by
      obtain ⟨y, hy, hRy⟩ := ht j (.tail _ hj)
      refine ⟨y, ?_, hRy⟩
      rw [List.mem_erase_of_ne]
      · exact hy
      · rintro rfl
        have := hi i (.head _) j (.tail _ hj) y hR hRy
        subst this
        exact hn.1 hj) (fun a ha b hb y h1 h2 => hi a (.tail _ ha) b (.tail _ hb) y h1 h2)
    have e := List.length_erase_of_mem hx
    have : 0 < S.length := List.length_pos_of_mem hx
    simp only [List.length_cons]
    omega

/-! ### Matchings, told by the right ones -/
/-- g matches left ones from one place on to right ones that may be. -/
structure Valid (row : Nat → List Int) (ok : Int → Bool) (lo hi : Nat) (g : Int → Option Nat) : Prop where
  edge : ∀ v i, g v = some i → lo ≤ i ∧ i < hi ∧ v ∈ row i ∧ ok v = true
  inj : Inj g

/-- There is a matching of so many. -/
def Can (row : Nat → List Int) (ok : Int → Bool) (lo hi c : Nat) : Prop :=
  ∃ g, ∃ S : List Nat, Valid row ok lo hi g ∧ S.Nodup ∧ (∀ i, i ∈ S ↔ ∃ v, g v = some i) ∧ S.length = c

def IsMax (row : Nat → List Int) (ok : Int → Bool) (lo hi c : Nat) : Prop := Can row ok lo hi c ∧ ∀ c', Can row ok lo hi c' → c' ≤ c

theorem IsMax.unique {row row' : Nat → List Int} {ok ok' : Int → Bool} {lo hi c c' : Nat} (h : IsMax row ok lo hi c) (h' : IsMax row' ok' lo hi c')
    (e : ∀ i v, i < hi → ((v ∈ row i ∧ ok v = true) ↔ (v ∈ row' i ∧ ok' v = true))) : c = c' := by
  have t : ∀ {r r' : Nat → List Int} {o o' : Int → Bool} {c : Nat}, (∀ i v, i < hi → ((v ∈ r i ∧ o v = true) ↔ (v ∈ r' i ∧ o' v = true))) → Can r o lo hi c → Can r' o' lo hi c := by
    rintro r r' o o' c e ⟨g, S, hv, h⟩
    refine ⟨g, S, ⟨fun v i hg => ?_, hv.inj⟩, h⟩
    obtain ⟨h1, h2, h3⟩ := hv.edge v i hg
    exact ⟨h1, h2, (e i v h2).1 h3⟩
  have h1 := h'.2 c (t e h.1)
  have h2 := h.2 c' (t (fun i v hi => (e i v hi).symm) h'.1)
  omega

/-! ### The loop's invariant -/
/-- S: the matched ones, F: those that were tried in vain, B: a closed set that holds all that these may be matched to. -/
structure KInv (row : Nat → List Int) (ok : Int → Bool) (lo cur : Nat) (of : Int → Option Nat) (c : Nat) (S F : List Nat) (B : List Int) : Prop where
  valid : Valid row ok lo cur of
  nodup : S.Nodup
  mem : ∀ i, i ∈ S ↔ ∃ v, of v = some i
  size : S.length = c
  part : ∀ i, lo ≤ i → i < cur → i ∈ S ∨ i ∈ F
  fail : ∀ i ∈ F, ∀ u ∈ row i, ok u = true → u ∈ B
  closed : Closed row ok of B

section inv
variable {row : Nat → List Int} {ok : Int → Bool} {lo cur c : Nat} {of : Int → Option Nat} {S F : List Nat} {B : List Int}

theorem KInv.start (row : Nat → List Int) (ok : Int → Bool) (lo : Nat) : KInv row ok lo lo (fun _ => none) 0 [] [] [] where
  valid := ⟨(by intro v i h; cases h), (by intro v v' i h; cases h)⟩
  nodup := List.nodup_nil
  mem := by intro i; simp
  size := rfl
  part := by intro i h1 h2; omega
  fail := by intro i h; cases h
  closed := by intro v h; cases h

theorem KInv.hit (h : KInv row ok lo cur of c S F B) (hlo : lo ≤ cur) {p : Path} (hp : PathOK row ok of cur p) : KInv row ok lo (cur + 1) (applyOf of p) (c + 1) (cur :: S) F B := by
  have hn := path_nodup hp
  have hcur : ∀ v, of v ≠ some cur := fun v e => by have := (h.valid.edge v cur e).2.1; omega
  have hinj := lefts_inj h.valid.inj hp (fun m _ => hcur m)
  have hcs : cur ∉ S := fun q => by obtain ⟨v, hv⟩ := (h.mem cur).1 q; exact hcur v hv
  refine ⟨⟨?_, ?_⟩, List.nodup_cons.2 ⟨hcs, h.nodup⟩, ?_, by simp [h.size], ?_, h.fail, ?_⟩
  · intro v i hv
    rcases (applyOf_iff hn v i).1 hv with hv | ⟨_, hv⟩
    · obtain ⟨h1, h2⟩ := path_edges hp _ hv
      rcases lefts_in hp v i hv with rfl | ⟨m, _, hm⟩
      · exact ⟨hlo, by omega, h1, h2⟩
      · obtain ⟨h3, h4, _⟩ := h.valid.edge m i hm
        exact ⟨h3, by omega, h1, h2⟩
    · obtain ⟨h1, h2, h3⟩ := h.valid.edge v i hv
      exact ⟨h1, by omega, h3⟩
  · intro v v' i hv hv'
    rcases (applyOf_iff hn v i).1 hv with hv | ⟨hv1, hv2⟩ <;> rcases (applyOf_iff hn v' i).1 hv' with hv' | ⟨hv1', hv2'⟩
    · exact hinj v v' i hv hv'
    · rcases lefts_in hp v i hv with rfl | ⟨m, hm1, hm2⟩
      · exact absurd hv2' (hcur v')
      · exact absurd (h.valid.inj m v' i hm2 hv2' ▸ hm1) hv1'
    · rcases lefts_in hp v' i hv' with rfl | ⟨m, hm1, hm2⟩
      · exact absurd hv2 (hcur v)
      · exact absurd (h.valid.inj m v i hm2 hv2 ▸ hm1) hv1
    · exact h.valid.inj v v' i hv2 hv2'
  · intro i
    rw [List.mem_cons]
    constructor
    · rintro (rfl | hi)
      · obtain ⟨n, q, rfl⟩ := path_head hp
        exact ⟨n, applyOf_mem hn (by simp)⟩
      · obtain ⟨v, hv⟩ := (h.mem i).1 hi
        by_cases hvn : v ∈ p.map (·.1)
        · obtain ⟨n, hn2⟩ := path_next hp v i hvn hv
          exact ⟨n, applyOf_mem hn hn2⟩
        · exact ⟨v, by rw [applyOf_not hvn]; exact hv⟩
    · rintro ⟨v, hv⟩
      rcases (applyOf_iff hn v i).1 hv with hv | ⟨_, hv⟩
      · rcases lefts_in hp v i hv with rfl | ⟨m, _, hm⟩
        · exact .inl rfl
        · exact .inr ((h.mem i).2 ⟨m, hm⟩)
      · exact .inr ((h.mem i).2 ⟨v, hv⟩)
  · intro i h1 h2
    by_cases hi : i = cur
    · exact .inl (hi ▸ .head _)
    · rcases h.part i h1 (by omega) with q | q
      · exact .inl (.tail _ q)
      · exact .inr q
  · intro v hv
    obtain ⟨k, hk1, hk2⟩ := h.closed v hv
    exact ⟨k, by rw [applyOf_not (fun q => path_avoids h.closed hp v q hv)]; exact hk1, hk2⟩

theorem KInv.miss (h : KInv row ok lo cur of c S F B) {s : List Int} (ht : Tells row ok of cur (row cur) [] (none, s)) : KInv row ok lo (cur + 1) of c S (cur :: F) (B ++ s) := by
  obtain ⟨_, h1, h2⟩ := ht
  refine ⟨⟨fun v i hv => ?_, h.valid.inj⟩, h.nodup, h.mem, h.size, ?_, ?_, ?_⟩
  · obtain ⟨a, b, d⟩ := h.valid.edge v i hv
    exact ⟨a, by omega, d⟩
  · intro i a b
    by_cases hi : i = cur
    · exact .inr (hi ▸ .head _)
    · rcases h.part i a (by omega) with q | q
      · exact .inl q
      · exact .inr (.tail _ q)
  · intro i hi u hu hok
    rcases List.mem_cons.1 hi with rfl | hi
    · exact List.mem_append_right _ (h1 u hu hok)
    · exact List.mem_append_left _ (h.fail i hi u hu hok)
  · intro v hv
    rcases List.mem_append.1 hv with hv | hv
    · obtain ⟨k, a, b⟩ := h.closed v hv
      exact ⟨k, a, fun u hu hok => List.mem_append_left _ (b u hu hok)⟩
    · obtain ⟨k, a, b⟩ := h2 v hv (by simp)
      exact ⟨k, a, fun u hu hok => List.mem_append_right _ (b u hu hok)⟩

theorem KInv.isMax (h : KInv row ok lo cur of c S F B) : IsMax row ok lo cur c := by
  refine ⟨⟨of, S, h.valid, h.nodup, h.mem, h.size⟩, ?_⟩
  rintro c' ⟨g, S', hv, hn, hm, rfl⟩
  rw [← h.size]
  -- a left one whose edges lie in B is sent to the one that is matched where it is; another one to itself
  refine card_le (fun i x => ((∀ u ∈ row i, ok u = true → u ∈ B) ∧ (∃ v, g v = some i ∧ of v = some x)) ∨ (¬ (∀ u ∈ row i, ok u = true → u ∈ B) ∧ x = i)) S' S hn ?_ ?_
  · intro i hi
    obtain ⟨v, hg⟩ := (hm i).1 hi
    obtain ⟨h1, h2, h3, h4⟩ := hv.edge v i hg
    by_cases hc : ∀ u ∈ row i, ok u = true → u ∈ B
    · obtain ⟨k, hk, _⟩ := h.closed v (hc v h3 h4)
      exact ⟨k, (h.mem k).2 ⟨v, hk⟩, .inl ⟨hc, v, hg, hk⟩⟩
    · rcases h.part i h1 h2 with q | q
      · exact ⟨i, q, .inr ⟨hc, rfl⟩⟩
      · exact absurd (h.fail i q) hc
  · rintro i _ j _ x (⟨a1, v, a2, a3⟩ | ⟨a1, rfl⟩) (⟨b1, v', b2, b3⟩ | ⟨b1, rfl⟩)
    · have := h.valid.inj v v' x a3 b3
      subst this
      rw [a2] at b2
      cases b2
      rfl
    · exfalso
      obtain ⟨_, _, e3, e4⟩ := hv.edge v i a2
      obtain ⟨k, hk1, hk2⟩ := h.closed v (a1 v e3 e4)
      rw [a3] at hk1
      cases hk1
      exact b1 hk2
    · exfalso
      obtain ⟨_, _, e3, e4⟩ := hv.edge v' j b2
      obtain ⟨k, hk1, hk2⟩ := h.closed v' (b1 v' e3 e4)
      rw [b3] at hk1
      cases hk1
      exact a1 hk2
    · rfl
end inv

theorem exists_kinv (row : Nat → List Int) (ok : Int → Bool) (lo : Nat) : ∀ r, ∃ of c S F B, KInv row ok lo (lo + r) of c S F B := by
  intro r
  induction r with
  | zero => exact ⟨_, _, _, _, _, KInv.start row ok lo⟩
  | succ r ih =>
    obtain ⟨of, c, S, F, B, h⟩ := ih
    have hU : ∀ k, k < lo + r + 1 → ∀ n ∈ row k, n ∈ (List.range (lo + r + 1)).flatMap row := fun k hk n hn => List.mem_flatMap.2 ⟨k, List.mem_range.2 hk, hn⟩
    obtain ⟨⟨q, s⟩, hr⟩ := srch_ends (row := row) (ok := ok) (of := of) (U := (List.range (lo + r + 1)).flatMap row) (fun k v hv => hU k (by have := (h.valid.edge v k hv).2.1; omega)) _ [] (lo + r) (hU _ (by omega)) (Nat.lt_succ_self _)
    have ht := srch_tells _ _ _ _ hr
    cases q with
    | some p => exact ⟨_, _, _, _, _, h.hit (by omega) ht.2.1⟩
    | none => exact ⟨_, _, _, _, _, h.miss ht⟩

theorem exists_max (row : Nat → List Int) (ok : Int → Bool) (lo hi : Nat) : ∃ c, IsMax row ok lo hi c := by
  by_cases h : lo ≤ hi
  · obtain ⟨of, c, S, F, B, hk⟩ := exists_kinv row ok lo (hi - lo)
    rw [show lo + (hi - lo) = hi by omega] at hk
    exact ⟨c, hk.isMax⟩
  · refine ⟨0, ⟨fun _ => none, [], ⟨(by intro v i h; cases h), (by intro v v' i h; cases h)⟩, List.nodup_nil, by simp, rfl⟩, ?_⟩
    rintro c ⟨g, S, hv, _, hm, rfl⟩
    cases S with
    | nil => simp
    | cons i S =>
      obtain ⟨v, hg⟩ := (hm i).1 (.head _)
      have := hv.edge v i hg
      omega

/-- How many left ones from lo on, below hi, can be matched at most. -/
noncomputable def mm (row : Nat → List Int) (ok : Int → Bool) (lo hi : Nat) : Nat := Classical.choose (exists_max row ok lo hi)
theorem mm_max (row : Nat → List Int) (ok : Int → Bool) (lo hi : Nat) : IsMax row ok lo hi (mm row ok lo hi) := Classical.choose_spec (exists_max row ok lo hi)
theorem KInv.eq_mm {row : Nat → List Int} {ok : Int → Bool} {lo cur c : Nat} {of : Int → Option Nat} {S F : List Nat} {B : List Int} (h : KInv row ok lo cur of c S F B) : c = mm row ok lo cur :=
  h.isMax.unique (mm_max row ok lo cur) (fun _ _ _ => Iff.rfl)
theorem Can.le {row : Nat → List Int} {ok : Int → Bool} {lo hi c : Nat} (h : Can row ok lo hi c) : c ≤ hi := by
  obtain ⟨g, S, hv, hn, hm, rfl⟩ := h
  have := card_le (fun i x => x = i) S (List.range hi) hn (fun i hi' => ⟨i, by
    obtain ⟨v, hg⟩ := (hm i).1 hi'
    exact List.mem_range.2 (hv.edge v i hg).2.1, rfl⟩) (fun i _ j _ x h1 h2 => h1.symm.trans h2)
  simpa using this
theorem mm_le (row : Nat → List Int) (ok : Int → Bool) (lo hi : Nat) : mm row ok lo hi ≤ hi := (mm_max row ok lo hi).1.le
theorem mm_congr {row row' : Nat → List Int} {ok ok' : Int → Bool} {lo hi : Nat} (e : ∀ i v, i < hi → ((v ∈ row i ∧ ok v = true) ↔ (v ∈ row' i ∧ ok' v = true))) : mm row ok lo hi = mm row' ok' lo hi :=
  (mm_max row ok lo hi).unique (mm_max row' ok' lo hi) e
end Go.Proofs.Ytopjfnkcmdifhaa.Kuhn
