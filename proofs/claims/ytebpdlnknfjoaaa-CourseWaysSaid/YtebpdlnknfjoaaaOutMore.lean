/- Rows of ints behind a slice of slices that grows: more of it. -/
import Derived.Test.YtebpdlnknfjoaaaLoadsW
namespace Go.Proofs.Ytebpdlnknfjoaaa
set_option linter.unusedVariables false
set_option linter.unusedSimpArgs false
open Go.RowKit

def Any : Nat → Prop := fun _ => True

section
variable {B B' g : Nat} {w w' : World} {vo v : Value} {outs : List (List Int)} {xs : List Int}
theorem RowIn.grow (h : RowIn Any w v xs) (hb : Below w.heap.size w w') : RowIn Any w' v xs :=
  h.move (fun k cur _ hk => ⟨hb.block k (Array.getElem?_eq_some_iff.1 hk).1, trivial⟩)
theorem OutRows.laid (h : OutRows B Any w vo outs) (hb : Below w.heap.size w w') : OutRows B Any w' vo outs :=
  h.move (fun k hk => let ⟨_, cur, hc⟩ := h.block k hk; hb.block k (Array.getElem?_eq_some_iff.1 hc).1) (fun k cur _ hk => ⟨hb.block k (Array.getElem?_eq_some_iff.1 hk).1, trivial⟩)
theorem OutRows.base (h : OutRows B Any w vo outs) (hB : B' ≤ B) : OutRows B' Any w vo outs :=
  let ⟨hdrs, h1, h2⟩ := h; ⟨hdrs, own_base h1 hB, h2⟩
theorem RowIn.intsAt (h : RowIn Any w v xs) : ∃ A c, v = .slice A xs.length c ∧ xs.length ≤ c ∧ IntsAt w.heap.size w A xs := by
  obtain ⟨g, cap, cur, rfl, _, hg, ht, hl⟩ := h
  refine ⟨some ⟨g, 0, none⟩, cap, rfl, hl, fun j hj => ⟨⟨g, 0, none⟩, rfl, (Array.getElem?_eq_some_iff.1 hg).1, ?_⟩⟩
  have e1 : (cur.toList.take xs.length)[j]? = (ints xs)[j]? := by rw [ht]
  rw [List.getElem?_take_of_lt hj] at e1
  rw [add_free, Nat.zero_add]
  have e2 : (ints xs)[j]? = some (.int .i64 xs[j]) := by simp [ints, hj]
  rw [e2] at e1
  simpa [World.cell?, hg] using e1
theorem RowIn.of_own (h : w.ownsRow B 3 1 v xs.length (ints xs)) (hne : xs ≠ []) : RowIn Any w v xs := by
  rcases h.2 with ⟨_, h0⟩ | ⟨g, cap, cur, rfl, _, hb, hn, _, _, ht⟩
  · exact absurd (List.length_eq_zero_iff.1 h0) hne
  · exact ⟨g, cap, cur, rfl, trivial, hb, by simpa using ht, hn⟩
/-- The i-th row. -/
theorem OutRows.row (h : OutRows B Any w vo outs) (i : Nat) (hi : i < outs.length) : ∃ g cap v, vo = .slice (some ⟨g, 0, none⟩) outs.length cap ∧ w.cell? ((⟨g, 0, none⟩ : Addr).add i) = some v ∧ RowIn Any w v outs[i] := by
  obtain ⟨hdrs, h1, h2⟩ := h
  rcases h1.2 with ⟨rfl, h0⟩ | ⟨g, cap, cur, rfl, _, hb, hn, _, hs, ht⟩
  · omega
  · obtain ⟨v, e, hv⟩ := h2 i hi
    refine ⟨g, cap, v, rfl, ?_, hv⟩
    have e1 : (cur.toList.take (outs.length * 1))[i]? = hdrs[i]? := by rw [ht]
    rw [List.getElem?_take_of_lt (by omega), e] at e1
    rw [add_free, Nat.zero_add]
    simpa [World.cell?, hb] using e1
theorem OutRows.len (h : OutRows B Any w vo outs) : ∃ A c, vo = .slice A outs.length c := let ⟨A, c, e, _⟩ := h.rows; ⟨A, c, e⟩
theorem OutRows.add_at (h : OutRows B Any w vo outs) (hv : RowIn Any w v xs) (hg : w.heap[g]? = some (.cells #[v] 29 (0, 0))) (hlen : outs.length < 1000000000) (hB : B ≤ w.heap.size) :
    ∃ v' w', (Builtin.append_ #[34, 34] 34 #[vo, .slice (some ⟨g, 0, none⟩) 1 1]).run Try.prog w = .ok v' w' ∧ OutRows B Any w' v' (outs ++ [xs]) ∧ w.grownBy w' vo.ownBlock ∧ (v'.ownBlock = vo.ownBlock ∨ v'.ownBlock = some w.heap.size) := by
  have hob := h.block
  obtain ⟨hdrs, hown, hrows⟩ := h
  obtain ⟨i, hi, h1, h2, h3⟩ := info_parts info_ints
  have hone : v.oneCell' = true := by obtain ⟨_, _, _, rfl, _⟩ := hv; rfl
  obtain ⟨v', w', hr, ho, hgr, hz, hat⟩ := run_append_own_at (P := Try.prog) (ty := 34) w B 34 29 i (.slice none 0 0) 1 24 Try.underlying34 hi h1 h2 h3 rfl (by omega) vo outs.length hdrs hown ⟨g, 0, none⟩ 1 1 [v] rfl
    (by intro j u hj
        cases j with
        | zero => simp at hj; subst hj; simp [Addr.add, World.cell?, hg]
        | succ j => simp at hj) (by intro u hu; rw [List.mem_singleton.1 hu]; exact hone) (by unfold maxLen; omega) (by omega) hB
  have mv : ∀ (k : Nat) (cur : Array Value), w.heap[k]? = some (Obj.cells cur 3 (0, 0)) → w'.heap[k]? = w.heap[k]? := fun k cur hk => by
    refine hgr.block k (Array.getElem?_eq_some_iff.1 hk).1 (fun e => ?_)
    obtain ⟨_, cur2, hc⟩ := hob k e.symm
    rw [hk] at hc
    cases hc
  refine ⟨v', w', hr, ⟨hdrs ++ [v], by simpa using ho, fun j hj => ?_⟩, hgr, hat⟩
  have hhl : hdrs.length = outs.length := by have := hown.1; omega
  by_cases hjl : j < outs.length
  · obtain ⟨u, e, hu⟩ := hrows j hjl
    refine ⟨u, by rw [List.getElem?_append_left (by omega)]; exact e, ?_⟩
    rw [List.getElem_append_left hjl]
    exact hu.move (fun k cur hp hk => ⟨mv k cur hk, hp⟩)
  · have hje : j = outs.length := by simp at hj; omega
    subst hje
    refine ⟨v, by rw [List.getElem?_append_right (by omega), hhl]; simp, ?_⟩
    simp only [List.getElem_append_right (Nat.le_refl _), Nat.sub_self, List.getElem_singleton]
    exact hv.move (fun k cur hp hk => ⟨mv k cur hk, hp⟩)
theorem OutRows.add (h : OutRows B Any w vo outs) (hv : RowIn Any w v xs) (hg : w.heap[g]? = some (.cells #[v] 29 (0, 0))) (hlen : outs.length < 1000000000) (hB : B ≤ w.heap.size) :
    ∃ v' w', (Builtin.append_ #[34, 34] 34 #[vo, .slice (some ⟨g, 0, none⟩) 1 1]).run Try.prog w = .ok v' w' ∧ OutRows B Any w' v' (outs ++ [xs]) ∧ w.grownBy w' vo.ownBlock :=
  let ⟨v', w', h1, h2, h3, _⟩ := h.add_at hv hg hlen hB; ⟨v', w', h1, h2, h3⟩
end
end Go.Proofs.Ytebpdlnknfjoaaa
