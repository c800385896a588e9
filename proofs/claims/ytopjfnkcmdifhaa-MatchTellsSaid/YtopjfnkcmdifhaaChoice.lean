/- That the chosen row is a greatest matching, and the least one of these (plain). -/
import Derived.Test.YtopjfnkcmdifhaaGreedy
import Derived.Test.YtopjfnkcmdifhaaDfs
namespace Go.Proofs.Ytopjfnkcmdifhaa.Kuhn
set_option linter.unusedVariables false
set_option linter.unusedSimpArgs false

section
variable {row : Nat → List Int} {ok ok' : Int → Bool} {lo hi c : Nat}

theorem Can.lower {lo' : Nat} (h : Can row ok lo hi c) (hl : lo' ≤ lo) : Can row ok lo' hi c := by
  obtain ⟨g, S, hv, r⟩ := h
  exact ⟨g, S, ⟨fun v i hg => let ⟨a, b⟩ := hv.edge v i hg; ⟨Nat.le_trans hl a, b⟩, hv.inj⟩, r⟩

theorem Can.zero (row : Nat → List Int) (ok : Int → Bool) (lo hi : Nat) : Can row ok lo hi 0 :=
  ⟨fun _ => none, [], ⟨(by intro v i h; cases h), (by intro v v' i h; cases h)⟩, List.nodup_nil, by simp, rfl⟩

/-- One more left one, matched to a right one that is free. -/
theorem Can.add {T : List Int} {v : Int} (h : Can row (free (T ++ [v])) (lo + 1) hi c) (hlo : lo < hi) (hv : v ∈ row lo) (hT : v ∉ T) : Can row (free T) lo hi (c + 1) := by
  obtain ⟨g, S, hg, hn, hm, rfl⟩ := h
  have hgv : g v = none := by
    cases e : g v with
    | none => rfl
    | some i => have := (hg.edge v i e).2.2.2; simp [free] at this
  have hlo' : ∀ u, g u ≠ some lo := fun u e => by have := (hg.edge u lo e).1; omega
  refine ⟨upd g v (some lo), lo :: S, ⟨?_, ?_⟩, ?_, ?_, rfl⟩
  · intro u i hu
    by_cases e : u = v
    · subst e
      rw [upd_same] at hu
      cases hu
      exact ⟨Nat.le_refl _, hlo, hv, by simp [free, hT]⟩
    · rw [upd_other _ _ e] at hu
      obtain ⟨a, b, d, f⟩ := hg.edge u i hu
      refine ⟨by omega, b, d, ?_⟩
      simp only [free, Bool.not_eq_true', decide_eq_false_iff_not, List.mem_append, not_or] at f ⊢
      exact f.1
  · intro u u' i hu hu'
    by_cases e : u = v <;> by_cases e' : u' = v
    · rw [e, e']
    · subst e
      rw [upd_same] at hu
      cases hu
      rw [upd_other _ _ e'] at hu'
      exact absurd hu' (hlo' u')
    · subst e'
      rw [upd_same] at hu'
      cases hu'
      rw [upd_other _ _ e] at hu
      exact absurd hu (hlo' u)
    · rw [upd_other _ _ e] at hu
      rw [upd_other _ _ e'] at hu'
      exact hg.inj u u' i hu hu'
  · rw [List.nodup_cons]
    refine ⟨fun q => ?_, hn⟩
    obtain ⟨u, hu⟩ := (hm lo).1 q
    exact hlo' u hu
  · intro i
    rw [List.mem_cons]
    constructor
    · rintro (rfl | q)
      · exact ⟨v, upd_same _ _ _⟩
      · obtain ⟨u, hu⟩ := (hm i).1 q
        refine ⟨u, ?_⟩
        rw [upd_other]
        · exact hu
        · rintro rfl; rw [hgv] at hu; cases hu
    · rintro ⟨u, hu⟩
      by_cases e : u = v
      · subst e
        rw [upd_same] at hu
        cases hu
        exact .inl rfl
      · rw [upd_other _ _ e] at hu
        exact .inr ((hm i).2 ⟨u, hu⟩)

/-- What is left when the first left one is taken away. -/
theorem Can.split {T : List Int} (h : Can row (free T) lo hi c) : Can row (free T) (lo + 1) hi c ∨ ∃ v, v ∈ row lo ∧ v ∉ T ∧ ∃ c', c = c' + 1 ∧ Can row (free (T ++ [v])) (lo + 1) hi c' := by
  obtain ⟨g, S, hg, hn, hm, rfl⟩ := h
  by_cases hl : ∃ v, g v = some lo
  · right
    obtain ⟨v, hv⟩ := hl
    obtain ⟨_, h2, h3, h4⟩ := hg.edge v lo hv
    refine ⟨v, h3, by simpa [free] using h4, (S.erase lo).length, ?_, upd g v none, S.erase lo, ⟨?_, ?_⟩, hn.erase _, ?_, rfl⟩
    · have := List.length_erase_of_mem ((hm lo).2 ⟨v, hv⟩)
      have : 0 < S.length := List.length_pos_of_mem ((hm lo).2 ⟨v, hv⟩)
      omega
    · intro u i hu
      have e : u ≠ v := by rintro rfl; rw [upd_same] at hu; cases hu
      rw [upd_other _ _ e] at hu
      obtain ⟨a, b, d, f⟩ := hg.edge u i hu
      have hi' : i ≠ lo := by rintro rfl; exact e (hg.inj u v _ hu hv)
      refine ⟨by omega, b, d, ?_⟩
      simp only [free, Bool.not_eq_true', decide_eq_false_iff_not, List.mem_append, List.mem_singleton, not_or] at f ⊢
      exact ⟨f, e⟩
    · intro u u' i hu hu'
      have e : u ≠ v := by rintro rfl; rw [upd_same] at hu; cases hu
      have e' : u' ≠ v := by rintro rfl; rw [upd_same] at hu'; cases hu'
      rw [upd_other _ _ e] at hu
      rw [upd_other _ _ e'] at hu'
      exact hg.inj u u' i hu hu'
    · intro i
      rw [hn.mem_erase_iff]
      constructor
      · rintro ⟨hne, hi⟩
        obtain ⟨u, hu⟩ := (hm i).1 hi
        refine ⟨u, ?_⟩
        rw [upd_other]
        · exact hu
        · rintro rfl
          rw [hv] at hu
          cases hu
          exact hne rfl
      · rintro ⟨u, hu⟩
        have e : u ≠ v := by rintro rfl; rw [upd_same] at hu; cases hu
        rw [upd_other _ _ e] at hu
        refine ⟨?_, (hm i).2 ⟨u, hu⟩⟩
        rintro rfl
        exact e (hg.inj u v _ hu hv)
  · left
    refine ⟨g, S, ⟨fun v i hv => ?_, hg.inj⟩, hn, hm, rfl⟩
    obtain ⟨a, b, d⟩ := hg.edge v i hv
    have : i ≠ lo := by rintro rfl; exact hl ⟨v, hv⟩
    exact ⟨by omega, b, d⟩
end

/-- A row of matches of the left ones from i on, to right ones that are not taken. -/
def VM (l : List (List Int)) : Nat → List Int → List Int → Prop
  | _, _, [] => True
  | i, T, x :: xs => (x = -1 ∧ VM l (i + 1) T xs) ∨ (x ∈ rowF l i ∧ x ∉ T ∧ VM l (i + 1) (T ++ [x]) xs)

/-- How many are not below 0. -/
def cnt : List Int → Nat
  | [] => 0
  | x :: xs => (if 0 ≤ x then 1 else 0) + cnt xs

section
variable {l : List (List Int)}

theorem VM.can (hnn : ∀ i v, v ∈ rowF l i → 0 ≤ v) : ∀ (m : List Int) (i : Nat) (T : List Int), VM l i T m → i + m.length = l.length → Can (rowF l) (free T) i l.length (cnt m) := by
  intro m
  induction m with
  | nil => intro i T _ _; exact Can.zero _ _ _ _
  | cons x xs ih =>
    intro i T h hlen
    rw [List.length_cons] at hlen
    rcases h with ⟨rfl, h⟩ | ⟨h1, h2, h⟩
    · have := (ih (i + 1) T h (by omega)).lower (Nat.le_succ i)
      simpa [cnt] using this
    · have := (ih (i + 1) (T ++ [x]) h (by omega)).add (by omega) h1 h2
      have h0 := hnn i x h1
      simp only [cnt, if_pos h0]
      rw [Nat.add_comm]
      exact this

theorem fits_iff {i s : Nat} {T : List Int} {v : Int} : fits l i T s v = true ↔ v ∉ T ∧ mm (rowF l) (free (T ++ [v])) (i + 1) l.length + 1 = s := by
  simp [fits]

theorem greedy_ok (hnn : ∀ i v, v ∈ rowF l i → 0 ≤ v) : ∀ (r i : Nat) (T : List Int) (s : Nat), i + r = l.length → s = mm (rowF l) (free T) i l.length → VM l i T (greedy l r i T s) ∧ cnt (greedy l r i T s) = s := by
  intro r
  induction r with
  | zero =>
    intro i T s hi hs
    refine ⟨trivial, ?_⟩
    have hc := (mm_max (rowF l) (free T) i l.length).1
    rw [← hs] at hc
    obtain ⟨g, S, hg, _, hm, rfl⟩ := hc
    cases S with
    | nil => rfl
    | cons j S =>
      obtain ⟨v, hv⟩ := (hm j).1 (.head _)
      have := hg.edge v j hv
      omega
  | succ r ih =>
    intro i T s hi hs
    have hmax := mm_max (rowF l) (free T) i l.length
    rw [← hs] at hmax
    rw [greedy]
    cases hf : (rowF l i).find? (fits l i T s) with
    | some v =>
      have hv := List.mem_of_find?_eq_some hf
      obtain ⟨h1, h2⟩ := fits_iff.1 (List.find?_some hf)
      obtain ⟨a, b⟩ := ih (i + 1) (T ++ [v]) (s - 1) (by omega) (by omega)
      refine ⟨.inr ⟨hv, h1, a⟩, ?_⟩
      have h0 := hnn i v hv
      simp only [cnt, if_pos h0, b]
      omega
    | none =>
      have hnone := List.find?_eq_none.1 hf
      have hs' : s = mm (rowF l) (free T) (i + 1) l.length := by
        have hm1 := mm_max (rowF l) (free T) (i + 1) l.length
        have hle := hmax.2 _ (hm1.1.lower (Nat.le_succ i))
        rcases hmax.1.split with q | ⟨v, hv, hT, c', e, q⟩
        · have := hm1.2 _ q; omega
        · exfalso
          refine hnone v hv (fits_iff.2 ⟨hT, ?_⟩)
          have hm2 := mm_max (rowF l) (free (T ++ [v])) (i + 1) l.length
          have h3 := hm2.2 _ q
          have h4 := hmax.2 _ (hm2.1.add (by omega) hv hT)
          omega
      obtain ⟨a, b⟩ := ih (i + 1) T s (by omega) hs'
      exact ⟨.inl ⟨rfl, a⟩, by simpa [cnt] using b⟩

/-- a comes ahead of b, or is it: at the first place where they part a's number is one, and the less (-1: no number). -/
def Ahead (a b : List Int) : Prop := a = b ∨ ∃ k, a.take k = b.take k ∧ ∃ x y, a[k]? = some x ∧ b[k]? = some y ∧ x ≠ y ∧ 0 ≤ x ∧ (y < 0 ∨ x < y)

theorem Ahead.cons {a b : List Int} (x : Int) (h : Ahead a b) : Ahead (x :: a) (x :: b) := by
  rcases h with rfl | ⟨k, h1, h2⟩
  · exact .inl rfl
  · exact .inr ⟨k + 1, by simp [h1], by simpa using h2⟩

theorem find_first {p : Int → Bool} : ∀ {xs : List Int} {v x : Int}, xs.Pairwise (· < ·) → xs.find? p = some v → x ∈ xs → p x = true → v ≤ x := by
  intro xs
  induction xs with
  | nil => intro v x _ h; cases h
  | cons y ys ih =>
    intro v x hp h hx hpx
    rw [List.pairwise_cons] at hp
    rw [List.find?_cons] at h
    cases hy : p y with
    | true =>
      rw [hy] at h
      cases h
      rcases List.mem_cons.1 hx with q | q
      · omega
      · have := hp.1 x q; omega
    | false =>
      rw [hy] at h
      rcases List.mem_cons.1 hx with q | q
      · rw [q, hy] at hpx; cases hpx
      · exact ih hp.2 h q hpx

theorem greedy_ahead (hnn : ∀ i v, v ∈ rowF l i → 0 ≤ v) (hsort : ∀ i, (rowF l i).Pairwise (· < ·)) : ∀ (r i : Nat) (T : List Int) (s : Nat), i + r = l.length → s = mm (rowF l) (free T) i l.length →
    ∀ m : List Int, VM l i T m → m.length = r → cnt m = s → Ahead (greedy l r i T s) m := by
  intro r
  induction r with
  | zero =>
    intro i T s _ _ m _ hm _
    rw [List.length_eq_zero_iff.1 hm]
    exact .inl rfl
  | succ r ih =>
    intro i T s hi hs m hv hm hc
    have hmax := mm_max (rowF l) (free T) i l.length
    rw [← hs] at hmax
    cases m with
    | nil => simp at hm
    | cons x xs =>
      rw [List.length_cons] at hm
      rw [greedy]
      have hfit : x ∈ rowF l i → x ∉ T → VM l (i + 1) (T ++ [x]) xs → fits l i T s x = true := by
        intro h1 h2 h3
        have h0 := hnn i x h1
        simp only [cnt, if_pos h0] at hc
        have hm2 := mm_max (rowF l) (free (T ++ [x])) (i + 1) l.length
        have h4 := hm2.2 _ (h3.can hnn xs (i + 1) (T ++ [x]) (by omega))
        have h5 := hmax.2 _ (hm2.1.add (by omega) h1 h2)
        exact fits_iff.2 ⟨h2, by omega⟩
      cases hf : (rowF l i).find? (fits l i T s) with
      | some v =>
        have hvm := List.mem_of_find?_eq_some hf
        obtain ⟨h1, h2⟩ := fits_iff.1 (List.find?_some hf)
        have hv0 := hnn i v hvm
        rcases hv with ⟨rfl, hv⟩ | ⟨a1, a2, a3⟩
        · exact .inr ⟨0, rfl, v, -1, rfl, rfl, by omega, hv0, .inl (by omega)⟩
        · by_cases e : x = v
          · subst e
            refine Ahead.cons x (ih (i + 1) (T ++ [x]) (s - 1) (by omega) (by omega) xs a3 (by omega) ?_)
            simp only [cnt, if_pos hv0] at hc
            omega
          · have := find_first (hsort i) hf a1 (hfit a1 a2 a3)
            exact .inr ⟨0, rfl, v, x, rfl, rfl, fun q => e q.symm, hv0, .inr (by omega)⟩
      | none =>
        have hnone := List.find?_eq_none.1 hf
        rcases hv with ⟨rfl, hv⟩ | ⟨a1, a2, a3⟩
        · have hs' : s = mm (rowF l) (free T) (i + 1) l.length := by
            have hm1 := mm_max (rowF l) (free T) (i + 1) l.length
            have hle := hmax.2 _ (hm1.1.lower (Nat.le_succ i))
            have hge := hm1.2 _ (hv.can hnn xs (i + 1) T (by omega))
            simp [cnt] at hc
            omega
          exact Ahead.cons (-1) (ih (i + 1) T s (by omega) hs' xs hv (by omega) (by simpa [cnt] using hc))
        · exact absurd (hfit a1 a2 a3) (hnone x a1)

theorem mostOf_ok (hnn : ∀ i v, v ∈ rowF l i → 0 ≤ v) : VM l 0 [] (mostOf l) ∧ cnt (mostOf l) = mm (rowF l) (free []) 0 l.length := greedy_ok hnn _ _ _ _ (by omega) rfl
theorem mostOf_max (hnn : ∀ i v, v ∈ rowF l i → 0 ≤ v) {m : List Int} (h : VM l 0 [] m) (hm : m.length = l.length) : cnt m ≤ cnt (mostOf l) := by
  rw [(mostOf_ok hnn).2]
  exact (mm_max _ _ _ _).2 _ (h.can hnn m 0 [] (by omega))
theorem mostOf_ahead (hnn : ∀ i v, v ∈ rowF l i → 0 ≤ v) (hsort : ∀ i, (rowF l i).Pairwise (· < ·)) {m : List Int} (h : VM l 0 [] m) (hm : m.length = l.length) (hc : cnt m = cnt (mostOf l)) : Ahead (mostOf l) m :=
  greedy_ahead hnn hsort _ _ _ _ (by omega) rfl m h hm (by rw [hc]; exact (mostOf_ok hnn).2)
end
end Go.Proofs.Ytopjfnkcmdifhaa.Kuhn
