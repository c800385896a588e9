/- Rows turned, and what lies in memory while they are written; a greater right side. -/
import Derived.Test.YtopjfnkcmdifhaaNoneW
namespace Go.Proofs.Ytopjfnkcmdifhaa
set_option linter.unusedVariables false
set_option linter.unusedSimpArgs false
open Go.RowKit Kuhn

def turnRow (right : Int) (r : List Int) : List Int := r.reverse.flatMap fun n => if 0 ≤ n ∧ n < right then [n, n] else [n]
theorem mem_turn (right : Int) (r : List Int) (n : Int) : n ∈ turnRow right r ↔ n ∈ r := by
  unfold turnRow
  rw [List.mem_flatMap]
  constructor
  · rintro ⟨x, hx, hn⟩
    by_cases h : 0 ≤ x ∧ x < right
    · rw [if_pos h] at hn
      simp at hn
      subst hn
      simpa using hx
    · rw [if_neg h] at hn
      simp at hn
      subst hn
      simpa using hx
  · intro h
    refine ⟨n, by simpa using h, ?_⟩
    by_cases h : 0 ≤ n ∧ n < right
    · rw [if_pos h]; simp
    · rw [if_neg h]; simp
theorem turn_drop (right : Int) (r : List Int) (j : Nat) (hj : j < r.length) : turnRow right (r.drop j) = turnRow right (r.drop (j + 1)) ++ (if 0 ≤ r[j] ∧ r[j] < right then [r[j], r[j]] else [r[j]]) := by
  unfold turnRow
  rw [List.drop_eq_getElem_cons hj, List.reverse_cons, List.flatMap_append]
  simp
theorem turn_le (right : Int) : ∀ (r : List Int), (turnRow right r).length ≤ 2 * r.length := by
  have : ∀ l : List Int, (l.flatMap fun n => if 0 ≤ n ∧ n < right then [n, n] else [n]).length ≤ 2 * l.length := by
    intro l
    induction l with
    | nil => simp
    | cons x xs ih =>
      rw [List.flatMap_cons, List.length_append, List.length_cons]
      by_cases h : 0 ≤ x ∧ x < right
      · rw [if_pos h]; simp; simp at ih; omega
      · rw [if_neg h]; simp; simp at ih; omega
  intro r
  have := this r.reverse
  simpa [turnRow] using this
theorem rowOf_turn (right : Int) (r : List Int) : rowOf right (turnRow right r) = rowOf right r :=
  rising_unique (rowOf_spec right _).1 (rowOf_spec right _).1 fun n => by rw [(rowOf_spec right _).2, (rowOf_spec right _).2, mem_turn]
theorem rows_turn (right : Int) (near : List (List Int)) : (near.map (turnRow right)).map (rowOf right) = near.map (rowOf right) := by
  rw [List.map_map]
  exact List.map_congr_left fun r _ => rowOf_turn right r

theorem VM.mono {l l' : List (List Int)} (h : ∀ i v, v ∈ rowF l i → v ∈ rowF l' i) : ∀ (m : List Int) (i : Nat) (T : List Int), VM l i T m → VM l' i T m := by
  intro m
  induction m with
  | nil => intro i T _; exact trivial
  | cons x xs ih =>
    intro i T hm
    rcases hm with ⟨h1, h2⟩ | ⟨h1, h2, h3⟩
    · exact .inl ⟨h1, ih _ _ h2⟩
    · exact .inr ⟨h _ _ h1, h2, ih _ _ h3⟩
theorem size_mono (near : List (List Int)) (right : Int) : sizeOf (mostOf (near.map (rowOf (right - 1)))) ≤ sizeOf (mostOf (near.map (rowOf right))) := by
  rw [← cnt_size, ← cnt_size]
  refine mostOf_max (rows_nn right near) ?_ (by rw [mostOf_length]; simp)
  refine VM.mono (fun i v h => ?_) _ _ _ (mostOf_ok (rows_nn (right - 1) near)).1
  rw [rowF_map] at h ⊢
  rw [(rowOf_spec _ _).2] at h ⊢
  exact ⟨h.1, h.2.1, by omega⟩

theorem own_one {w : World} {base e size n : Nat} {v : Value} {xs : List Value} (h : w.ownsRow base e size v n xs) : v.oneCell' = true := by
  rcases h.2 with ⟨rfl, _⟩ | ⟨g, cap, cur, rfl, _⟩ <;> rfl
theorem own_apart {w : World} {base base' e e' size size' n n' : Nat} {v v' : Value} {xs xs' : List Value} (h : w.ownsRow base e size v n xs) (h' : w.ownsRow base' e' size' v' n' xs') (he : e ≠ e') : ∀ k, v.ownBlock = some k → some k ≠ v'.ownBlock := by
  intro k hk hk'
  rcases h.2 with ⟨rfl, _⟩ | ⟨g, cap, cur, rfl, _, hb, _⟩
  · cases hk
  · cases hk
    rcases h'.2 with ⟨rfl, _⟩ | ⟨g', cap', cur', rfl, _, hb', _⟩
    · cases hk'
    · cases hk'
      rw [hb] at hb'
      cases hb'
      exact he rfl

/-- k rows are turned. -/
structure TurnSt (near : List (List Int)) (right : Int) (w wr : World) (k : Nat) (v : Value) : Prop where
  own : ∃ vs, vs.length = k ∧ wr.ownsRow w.heap.size 25 1 v k vs ∧ ∀ j (hj : j < near.length), j < k → ∃ r, vs[j]? = some r ∧ wr.ownsRow w.heap.size 3 1 r (turnRow right near[j]).length (ints (turnRow right near[j]))
  below : Below w.heap.size w wr

theorem TurnSt.start (near : List (List Int)) (right : Int) {w wr : World} {v : Value} (h : wr.ownsRow w.heap.size 25 1 v 0 []) (hb : Below w.heap.size w wr) : TurnSt near right w wr 0 v :=
  ⟨⟨[], rfl, h, fun j _ h => by omega⟩, hb⟩

theorem TurnSt.next {near : List (List Int)} {right : Int} {w wr wq : World} {k : Nat} {v r : Value} (h : TurnSt near right w wr k v) (hk : k < near.length) (h12 : near.length ≤ 1000)
    (hr : wq.ownsRow wr.heap.size 3 1 r (turnRow right near[k]).length (ints (turnRow right near[k]))) (hq : Below wr.heap.size wr wq) :
    ∃ g cap w', (Builtin.append_ #[22, 22] 22 #[v, .slice (some ⟨wq.heap.size, 0, none⟩) 1 1]).run Try.prog (wq.alloc (.cells #[r] 25)) = .ok (.slice (some ⟨g, 0, none⟩) (k + 1) cap) w' ∧ TurnSt near right w w' (k + 1) (.slice (some ⟨g, 0, none⟩) (k + 1) cap) := by
  obtain ⟨vs, rfl, hv, hrows⟩ := h.own
  have hv' := own_later hv hq
  have hbs := h.below.size
  obtain ⟨g, cap, w', hrun, hown, hg⟩ := app_one (P := Try.prog) (ty := 22) (x := r) Try.underlying22 info25 rfl hv' (own_one hr) (by omega) (by omega) (by have := hq.size; omega)
  refine ⟨g, cap, w', hrun, ⟨⟨vs ++ [r], by simp, by simpa using hown, ?_⟩, ?_⟩⟩
  · intro j hj hjk
    by_cases e : j = vs.length
    · subst e
      exact ⟨r, by simp, own_move (own_base hr h.below.size) fun k hk => hg.block k (own_lt hr k hk) (own_apart hr hv' (by decide) k hk)⟩
    · obtain ⟨r', h1, h2⟩ := hrows j hj (by omega)
      have h2' := own_later h2 hq
      exact ⟨r', by rw [List.getElem?_append_left (by omega)]; exact h1, own_move h2' fun k hk => hg.block k (own_lt h2' k hk) (own_apart h2' hv' (by decide) k hk)⟩
  · exact below_grown (h.below.trans (hq.mono h.below.size)) hg (by have := hq.size; omega) (own_ge hv')

theorem TurnSt.done {near : List (List Int)} {right : Int} {w wr : World} {v : Value} (h : TurnSt near right w wr near.length v) :
    ∃ A c, v = .slice A near.length c ∧ RowsAt wr.heap.size wr A (near.map (turnRow right)) := by
  obtain ⟨vs, hl, hv, hrows⟩ := h.own
  rcases hv.2 with ⟨rfl, h0⟩ | ⟨g, cap, cur, rfl, hg, hb, hn, hm, hs, ht⟩
  · exact ⟨none, 0, by rw [h0], fun i hi => by simp at hi; omega⟩
  · refine ⟨some ⟨g, 0, none⟩, cap, rfl, fun i hi => ?_⟩
    have hi' : i < near.length := by simpa using hi
    obtain ⟨r, h1, h2⟩ := hrows i hi' hi'
    obtain ⟨A', c', rfl, hc, hia⟩ := Ints.of_own h2
    refine ⟨_, A', c', rfl, (Array.getElem?_eq_some_iff.1 hb).1, ?_, by simpa using hc, by simpa using hia⟩
    have e1 : cur[i]? = some (.slice A' (turnRow right near[i]).length c') := by
      rw [← ht, List.getElem?_take_of_lt (by omega)] at h1
      simpa using h1
    rw [add_free, Nat.zero_add, (cell_row hb e1).1]
    simp
end Go.Proofs.Ytopjfnkcmdifhaa
