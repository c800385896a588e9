/- Hall's and König's theorems for the chosen matching (plain). -/
import Derived.Test.YtopjfnkcmdifhaaChoice
namespace Go.Proofs.Ytopjfnkcmdifhaa.Kuhn
set_option linter.unusedVariables false
set_option linter.unusedSimpArgs false

theorem augment {row : Nat → List Int} {ok : Int → Bool} {lo hi : Nat} {of : Int → Option Nat} {S : List Nat} (hv : Valid row ok lo hi of) (hS : S.Nodup) (hm : ∀ i, i ∈ S ↔ ∃ v, of v = some i) {b : Nat} (hb : ∀ v, of v ≠ some b)
    (hlo : lo ≤ b) (hhi : b < hi) {p : Path} (hp : PathOK row ok of b p) : Can row ok lo hi (S.length + 1) := by
  have hn := path_nodup hp
  have hinj := lefts_inj hv.inj hp (fun m _ => hb m)
  have hbs : b ∉ S := fun q => by obtain ⟨v, hv⟩ := (hm b).1 q; exact hb v hv
  refine ⟨applyOf of p, b :: S, ⟨?_, ?_⟩, List.nodup_cons.2 ⟨hbs, hS⟩, ?_, rfl⟩
  · intro v i hv'
    rcases (applyOf_iff hn v i).1 hv' with hv' | ⟨_, hv'⟩
    · obtain ⟨h1, h2⟩ := path_edges hp _ hv'
      rcases lefts_in hp v i hv' with rfl | ⟨m, _, hm'⟩
      · exact ⟨hlo, hhi, h1, h2⟩
      · obtain ⟨h3, h4, _⟩ := hv.edge m i hm'
        exact ⟨h3, h4, h1, h2⟩
    · exact hv.edge v i hv'
  · intro v v' i h1 h2
    rcases (applyOf_iff hn v i).1 h1 with h1 | ⟨a1, a2⟩ <;> rcases (applyOf_iff hn v' i).1 h2 with h2 | ⟨b1, b2⟩
    · exact hinj v v' i h1 h2
    · rcases lefts_in hp v i h1 with rfl | ⟨m, hm1, hm2⟩
      · exact absurd b2 (hb v')
      · exact absurd (hv.inj m v' i hm2 b2 ▸ hm1) b1
    · rcases lefts_in hp v' i h2 with rfl | ⟨m, hm1, hm2⟩
      · exact absurd a2 (hb v)
      · exact absurd (hv.inj m v i hm2 a2 ▸ hm1) a1
    · exact hv.inj v v' i a2 b2
  · intro i
    rw [List.mem_cons]
    constructor
    · rintro (rfl | hi')
      · obtain ⟨n, q, rfl⟩ := path_head hp
        exact ⟨n, applyOf_mem hn (by simp)⟩
      · obtain ⟨v, hv'⟩ := (hm i).1 hi'
        by_cases hvn : v ∈ p.map (·.1)
        · obtain ⟨n, hn2⟩ := path_next hp v i hvn hv'
          exact ⟨n, applyOf_mem hn hn2⟩
        · exact ⟨v, by rw [applyOf_not hvn]; exact hv'⟩
    · rintro ⟨v, hv'⟩
      rcases (applyOf_iff hn v i).1 hv' with hv' | ⟨_, hv'⟩
      · rcases lefts_in hp v i hv' with rfl | ⟨m, _, hm'⟩
        · exact .inl rfl
        · exact .inr ((hm i).2 ⟨m, hm'⟩)
      · exact .inr ((hm i).2 ⟨v, hv'⟩)

section
variable {l : List (List Int)}

theorem vm_get : ∀ {m : List Int} {i : Nat} {T : List Int} {k : Nat} {x : Int}, VM l i T m → m[k]? = some x → x = -1 ∨ (x ∈ rowF l (i + k) ∧ x ∉ T) := by
  intro m
  induction m with
  | nil => intro i T k x _ h; simp at h
  | cons y ys ih =>
    intro i T k x h hk
    cases k with
    | zero =>
      simp at hk
      subst hk
      rcases h with ⟨rfl, _⟩ | ⟨a, b, _⟩
      · exact .inl rfl
      · exact .inr ⟨a, b⟩
    | succ k =>
      simp at hk
      rcases h with ⟨_, h⟩ | ⟨_, _, h⟩
      · rcases ih h hk with q | ⟨a, b⟩
        · exact .inl q
        · exact .inr ⟨by rw [show i + (k + 1) = i + 1 + k by omega]; exact a, b⟩
      · rcases ih h hk with q | ⟨a, b⟩
        · exact .inl q
        · exact .inr ⟨by rw [show i + (k + 1) = i + 1 + k by omega]; exact a, fun q => b (List.mem_append_left _ q)⟩

theorem vm_inj : ∀ {m : List Int} {i : Nat} {T : List Int} {k k' : Nat} {x : Int}, VM l i T m → m[k]? = some x → m[k']? = some x → 0 ≤ x → k = k' := by
  intro m
  induction m with
  | nil => intro i T k k' x _ h; simp at h
  | cons y ys ih =>
    intro i T k k' x h hk hk' h0
    have key : ∀ j : Nat, ys[j]? = some x → y = x → False := by
      intro j hj e
      subst e
      rcases h with ⟨rfl, _⟩ | ⟨_, _, h⟩
      · omega
      · rcases vm_get h hj with q | ⟨_, b⟩
        · omega
        · exact b (by simp)
    cases k with
    | zero =>
      cases k' with
      | zero => rfl
      | succ k' => simp at hk hk'; exact (key k' hk' hk).elim
    | succ k =>
      cases k' with
      | zero => simp at hk hk'; exact (key k hk hk').elim
      | succ k' =>
        simp at hk hk'
        rcases h with ⟨_, h⟩ | ⟨_, _, h⟩
        · rw [ih h hk hk' h0]
        · rw [ih h hk hk' h0]

variable {m : List Int}

theorem ofM_iff (h : VM l 0 [] m) (n : Int) (i : Nat) : ofM m n = some i ↔ m[i]? = some n ∧ 0 ≤ n := by
  constructor
  · intro e; exact (ofM_some e).2
  · rintro ⟨h1, h2⟩
    obtain ⟨j, hj, _⟩ := ofM_has h1 h2
    obtain ⟨_, h3, _⟩ := ofM_some hj
    rw [vm_inj h h1 h3 h2]
    exact hj

theorem ofM_valid (h : VM l 0 [] m) (hm : m.length = l.length) : Valid (rowF l) (free []) 0 l.length (ofM m) := by
  refine ⟨fun v i hv => ?_, fun v v' i hv hv' => ?_⟩
  · obtain ⟨h1, h2, h3⟩ := ofM_some hv
    refine ⟨Nat.zero_le _, by omega, ?_, by simp [free]⟩
    rcases vm_get h h2 with q | ⟨a, _⟩
    · omega
    · simpa using a
  · have h1 := (ofM_some hv).2.1
    have h2 := (ofM_some hv').2.1
    rw [h1] at h2
    cases h2
    rfl

/-- The places of a row that hold a number not below 0. -/
def placesFrom : Nat → List Int → List Nat
  | _, [] => []
  | i, x :: xs => if 0 ≤ x then i :: placesFrom (i + 1) xs else placesFrom (i + 1) xs
theorem places_length : ∀ (xs : List Int) (i : Nat), (placesFrom i xs).length = cnt xs := by
  intro xs
  induction xs with
  | nil => intro i; rfl
  | cons x xs ih =>
    intro i
    simp only [placesFrom, cnt]
    split
    · simp [ih]; omega
    · simp [ih]
theorem mem_places : ∀ (xs : List Int) (i k : Nat), k ∈ placesFrom i xs ↔ ∃ j, k = i + j ∧ ∃ x, xs[j]? = some x ∧ 0 ≤ x := by
  intro xs
  induction xs with
  | nil => intro i k; simp [placesFrom]
  | cons x xs ih =>
    intro i k
    have e : k ∈ placesFrom i (x :: xs) ↔ (0 ≤ x ∧ k = i) ∨ k ∈ placesFrom (i + 1) xs := by
      simp only [placesFrom]
      split
      · rename_i h; simp [h]
      · rename_i h; simp [h]
    rw [e, ih]
    constructor
    · rintro (⟨h, rfl⟩ | ⟨j, rfl, y, hy⟩)
      · exact ⟨0, rfl, x, rfl, h⟩
      · exact ⟨j + 1, by omega, y, by simpa using hy⟩
    · rintro ⟨j, rfl, y, hy, h0⟩
      cases j with
      | zero => simp at hy; subst hy; exact .inl ⟨h0, rfl⟩
      | succ j => exact .inr ⟨j, by omega, y, by simpa using hy, h0⟩
theorem places_nodup : ∀ (xs : List Int) (i : Nat), (placesFrom i xs).Nodup := by
  intro xs
  induction xs with
  | nil => intro i; exact List.nodup_nil
  | cons x xs ih =>
    intro i
    simp only [placesFrom]
    split
    · rw [List.nodup_cons]
      refine ⟨fun q => ?_, ih _⟩
      obtain ⟨j, e, _⟩ := (mem_places xs (i + 1) i).1 q
      omega
    · exact ih _

/-- From an unmatched left one no path leads to a free right one: a closed set holds all that it may be matched to. -/
theorem closed_of_bare (h : VM l 0 [] m) (hm : m.length = l.length) (hc : cnt m = mm (rowF l) (free []) 0 l.length) {b : Nat} {x : Int} (hb : m[b]? = some x) (hx : x < 0) :
    ∃ B, Closed (rowF l) (free []) (ofM m) B ∧ ∀ v ∈ rowF l b, v ∈ B := by
  have hbl : b < l.length := by have := (List.getElem?_eq_some_iff.1 hb).1; omega
  have hU : ∀ i, i < l.length → ∀ n ∈ rowF l i, n ∈ (List.range l.length).flatMap (rowF l) := fun i hi n hn => List.mem_flatMap.2 ⟨i, List.mem_range.2 hi, hn⟩
  obtain ⟨⟨q, s⟩, hr⟩ := srch_ends (row := rowF l) (ok := free []) (of := ofM m) (U := (List.range l.length).flatMap (rowF l)) (fun k v hv => hU k (by have := (ofM_some hv).1; omega)) _ [] b (hU b hbl) (Nat.lt_succ_self _)
  have ht := srch_tells _ _ _ _ hr
  cases q with
  | some p =>
    exfalso
    have hp := ht.2.1
    have hS : ∀ i, i ∈ placesFrom 0 m ↔ ∃ v, ofM m v = some i := by
      intro i
      rw [mem_places]
      constructor
      · rintro ⟨j, e, y, hy, h0⟩
        rw [Nat.zero_add] at e
        subst e
        exact ⟨y, (ofM_iff h y _).2 ⟨hy, h0⟩⟩
      · rintro ⟨v, hv⟩
        obtain ⟨h1, h2⟩ := (ofM_iff h v i).1 hv
        exact ⟨i, by omega, v, h1, h2⟩
    have hcan := augment (ofM_valid h hm) (places_nodup m 0) hS (b := b) (fun v e => by
      obtain ⟨h1, h2⟩ := (ofM_iff h v b).1 e
      rw [hb] at h1
      cases h1
      omega) (Nat.zero_le _) hbl hp
    rw [places_length, hc] at hcan
    have := (mm_max (rowF l) (free []) 0 l.length).2 _ hcan
    omega
  | none =>
    obtain ⟨_, h1, h2⟩ := ht
    refine ⟨s, fun v hv => h2 v hv (by simp), fun v hv => h1 v hv (by simp [free])⟩

/-- What is come to from unmatched left ones is matched. -/
theorem come_matched (h : VM l 0 [] m) (hm : m.length = l.length) (hc : cnt m = mm (rowF l) (free []) 0 l.length) {fr : List Int} (hfr : ∀ u ∈ fr, ∃ b : Nat, u = b ∧ ∃ x, m[b]? = some x ∧ x < 0)
    {u : Nat} (hu : Come (rowF l) (ofM m) (fun i => (i : Int) ∈ fr) u) : ∃ B, Closed (rowF l) (free []) (ofM m) B ∧ ∀ v ∈ rowF l u, v ∈ B := by
  induction hu with
  | start i hi =>
    obtain ⟨b, e, x, hx, hx0⟩ := hfr _ hi
    have : i = b := by omega
    subst this
    exact closed_of_bare h hm hc hx hx0
  | step u k n _ hn hk ih =>
    obtain ⟨B, hB, hu⟩ := ih
    obtain ⟨k', e, hk'⟩ := hB n (hu n hn)
    rw [hk] at e
    cases e
    exact ⟨B, hB, fun v hv => hk' v hv (by simp [free])⟩

/-- Hall: the left ones that are come to from an unmatched one are more than the right ones. -/
theorem hall_more (h : VM l 0 [] m) (hm : m.length = l.length) (hc : cnt m = mm (rowF l) (free []) 0 l.length) {b : Nat} {x : Int} (hb : m[b]? = some x) (hx : x < 0) {ys zs : List Int} (hzn : zs.Nodup)
    (hy : ∀ n, n ∈ ys ↔ ∃ i : Nat, n = i ∧ Come (rowF l) (ofM m) (fun i => (i : Int) ∈ [(b : Int)]) i) (hz : ∀ n, n ∈ zs ↔ ∃ u, Come (rowF l) (ofM m) (fun i => (i : Int) ∈ [(b : Int)]) u ∧ n ∈ rowF l u) : zs.length < ys.length := by
  have hby : (b : Int) ∈ ys := (hy b).2 ⟨b, rfl, .start b (by simp)⟩
  have hle := card_le (fun (n y : Int) => ∃ k : Nat, ofM m n = some k ∧ y = k) zs (ys.erase b) hzn (fun n hn => by
    obtain ⟨u, hu, hnu⟩ := (hz n).1 hn
    obtain ⟨B, hB, hB2⟩ := come_matched h hm hc (fr := [(b : Int)]) (fun u hu => by rw [List.mem_singleton.1 hu]; exact ⟨b, rfl, x, hb, hx⟩) hu
    obtain ⟨k, hk, _⟩ := hB n (hB2 n hnu)
    refine ⟨k, ?_, k, hk, rfl⟩
    rw [List.mem_erase_of_ne]
    · exact (hy k).2 ⟨k, rfl, .step u k n hu hnu hk⟩
    · intro e
      have : k = b := by omega
      subst this
      obtain ⟨h1, h2⟩ := (ofM_iff h n k).1 hk
      rw [hb] at h1
      cases h1
      omega) (fun n _ n' _ y h1 h2 => by
    obtain ⟨k, a1, a2⟩ := h1
    obtain ⟨k', b1, b2⟩ := h2
    have : k = k' := by omega
    subst this
    exact (ofM_valid h hm).inj n n' k a1 b1)
  have := List.length_erase_of_mem hby
  have : 0 < ys.length := List.length_pos_of_mem hby
  omega

/-- König: the left ones that are matched and not come to, with the right ones that are come to, are as many as are matched. -/
theorem cover_count (h : VM l 0 [] m) (hm : m.length = l.length) (hc : cnt m = mm (rowF l) (free []) 0 l.length) {fr : List Int} (hfr : ∀ u, u ∈ fr ↔ ∃ b : Nat, u = b ∧ ∃ x, m[b]? = some x ∧ x < 0)
    {xs zs : List Int} (hxn : xs.Nodup) (hzn : zs.Nodup) (hx : ∀ n, n ∈ xs ↔ ∃ i : Nat, n = i ∧ (∃ x, m[i]? = some x ∧ 0 ≤ x) ∧ ¬ Come (rowF l) (ofM m) (fun i => (i : Int) ∈ fr) i)
    (hz : ∀ n, n ∈ zs ↔ ∃ u, Come (rowF l) (ofM m) (fun i => (i : Int) ∈ fr) u ∧ n ∈ rowF l u) : xs.length + zs.length = cnt m := by
  have hmat : ∀ n ∈ zs, ∃ k, ofM m n = some k ∧ Come (rowF l) (ofM m) (fun i => (i : Int) ∈ fr) k := by
    intro n hn
    obtain ⟨u, hu, hnu⟩ := (hz n).1 hn
    obtain ⟨B, hB, hB2⟩ := come_matched h hm hc (fun u hu => (hfr u).1 hu) hu
    obtain ⟨k, hk, _⟩ := hB n (hB2 n hnu)
    exact ⟨k, hk, .step u k n hu hnu hk⟩
  -- each of the one kind is a matched left one, and another
  have hle : (xs.map .inl ++ zs.map .inr : List (Int ⊕ Int)).length ≤ (placesFrom 0 m).length := by
    refine card_le (fun (a : Int ⊕ Int) (i : Nat) => match a with | .inl n => n = i ∧ n ∈ xs | .inr n => ofM m n = some i ∧ n ∈ zs) _ _ ?_ ?_ ?_
    · rw [List.nodup_append]
      refine ⟨?_, ?_, ?_⟩
      · exact List.Pairwise.map _ (fun a b hab e => hab (by cases e; rfl)) hxn
      · exact List.Pairwise.map _ (fun a b hab e => hab (by cases e; rfl)) hzn
      · intro a ha b hb e
        subst e
        obtain ⟨_, _, e1⟩ := List.mem_map.1 ha
        obtain ⟨_, _, e2⟩ := List.mem_map.1 hb
        rw [← e1] at e2
        cases e2
    · intro a ha
      rcases List.mem_append.1 ha with ha | ha
      · obtain ⟨n, hn, rfl⟩ := List.mem_map.1 ha
        obtain ⟨i, rfl, ⟨x, hx1, hx2⟩, _⟩ := (hx n).1 hn
        exact ⟨i, (mem_places m 0 i).2 ⟨i, by omega, x, hx1, hx2⟩, rfl, hn⟩
      · obtain ⟨n, hn, rfl⟩ := List.mem_map.1 ha
        obtain ⟨k, hk, _⟩ := hmat n hn
        obtain ⟨h1, h2⟩ := (ofM_iff h n k).1 hk
        exact ⟨k, (mem_places m 0 k).2 ⟨k, by omega, n, h1, h2⟩, hk, hn⟩
    · intro a _ b _ i h1 h2
      have cross : ∀ n n', n = (i : Int) → n ∈ xs → ofM m n' = some i → n' ∈ zs → False := by
        intro n n' e hn hk hn'
        obtain ⟨j, e2, _, hnc⟩ := (hx n).1 hn
        have : i = j := by omega
        subst this
        obtain ⟨k', hk', hc'⟩ := hmat n' hn'
        rw [hk] at hk'
        cases hk'
        exact hnc hc'
      cases a with
      | inl n =>
        cases b with
        | inl n' => exact congrArg _ (h1.1.trans h2.1.symm)
        | inr n' => exact (cross n n' h1.1 h1.2 h2.1 h2.2).elim
      | inr n =>
        cases b with
        | inl n' => exact (cross n' n h2.1 h2.2 h1.1 h1.2).elim
        | inr n' => exact congrArg _ ((ofM_valid h hm).inj n n' i h1.1 h2.1)
  have hge : (placesFrom 0 m).length ≤ (xs.map .inl ++ zs.map .inr : List (Int ⊕ Int)).length := by
    refine card_le (fun (i : Nat) (a : Int ⊕ Int) => match a with | .inl n => n = i | .inr n => ofM m n = some i) _ _ (places_nodup m 0) ?_ ?_
    · intro i hi
      obtain ⟨j, e, x, hx1, hx2⟩ := (mem_places m 0 i).1 hi
      have : i = j := by omega
      subst this
      by_cases hcm : Come (rowF l) (ofM m) (fun i => (i : Int) ∈ fr) i
      · refine ⟨.inr x, List.mem_append_right _ (List.mem_map.2 ⟨x, ?_, rfl⟩), (ofM_iff h x i).2 ⟨hx1, hx2⟩⟩
        cases hcm with
        | start _ hs =>
          obtain ⟨b, e, y, hy, hy0⟩ := (hfr _).1 hs
          have : i = b := by omega
          subst this
          rw [hx1] at hy
          cases hy
          omega
        | step u k n hu hnu hk =>
          obtain ⟨h1, h2⟩ := (ofM_iff h n i).1 hk
          rw [hx1] at h1
          cases h1
          exact (hz x).2 ⟨u, hu, hnu⟩
      · exact ⟨.inl i, List.mem_append_left _ (List.mem_map.2 ⟨i, (hx i).2 ⟨i, rfl, ⟨x, hx1, hx2⟩, hcm⟩, rfl⟩), rfl⟩
    · intro i _ j _ a h1 h2
      cases a with
      | inl n => have : (i : Int) = j := h1.symm.trans h2; omega
      | inr n =>
        have a1 : ofM m n = some i := h1
        have a2 : ofM m n = some j := h2
        rw [a1] at a2
        cases a2
        rfl
  rw [places_length] at hle hge
  simp only [List.length_append, List.length_map] at hle hge
  omega
end
end Go.Proofs.Ytopjfnkcmdifhaa.Kuhn
