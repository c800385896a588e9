/- A row of ints appended to a row that the call owns. -/
import Derived.Test.YtebpdlnknfjoaaaOwn
namespace Go.Proofs.Ytebpdlnknfjoaaa
set_option linter.unusedVariables false
set_option linter.unusedSimpArgs false
open Go.RowKit

theorem app_none {P : Program} {t ty e bytes base n c : Nat} {z v : Value} {w : World} {xs : List Value} (ht : P.underlying t = some (.slice e)) (hinfo : (P.info? e).map (fun i => (i.zero, i.size, i.bytes)) = some (some z, 1, bytes))
    (h : w.ownsRow base e 1 v n xs) : (Builtin.append_ #[t, t] ty #[v, .slice none 0 c]).run P w = .ok v w := by
  obtain ⟨i, hi, h1, h2, h3⟩ := info_parts hinfo
  rcases h.2 with ⟨rfl, rfl⟩ | ⟨g, cap, cur, rfl, _, _, hc, _⟩
  · simp [Builtin.append_, run_underlying ht, sizeOf, typeInfo, hi, Builtin.lenOf, Builtin.firstCells, Result.andThen, go_sem]
  · simp [Builtin.append_, run_underlying ht, sizeOf, typeInfo, hi, Builtin.lenOf, Builtin.firstCells, Result.andThen, hc, storeCells, go_sem]

theorem app_many {P : Program} {t ty e base : Nat} {v : Value} {w : World} {xs : List Int} (ht : P.underlying t = some (.slice e)) (hinfo : (P.info? e).map (fun i => (i.zero, i.size, i.bytes)) = some (some (.int .i64 0), 1, 8))
    (h : w.ownsRow base e 1 v xs.length (ints xs)) {A : Option Addr} {B c : Nat} {ys : List Int} (hI : IntsAt B w A ys) (hlen : xs.length + ys.length < 1000000000000) (hb : base ≤ w.heap.size) :
    ∃ v' w', (Builtin.append_ #[t, t] ty #[v, .slice A ys.length c]).run P w = .ok v' w' ∧ w'.ownsRow base e 1 v' (xs ++ ys).length (ints (xs ++ ys)) ∧ w.grownBy w' v.ownBlock := by
  cases A with
  | none =>
    have : ys = [] := by
      cases ys with
      | nil => rfl
      | cons y ys => obtain ⟨ad, e, _⟩ := hI 0 (by simp); cases e
    subst this
    exact ⟨v, w, app_none ht hinfo h, by simpa using h, ⟨rfl, rfl, rfl, Nat.le_refl _, fun _ _ _ => rfl⟩⟩
  | some ad =>
    obtain ⟨i, hi, h1, h2, h3⟩ := info_parts hinfo
    have hcells : ∀ j u, (ints ys)[j]? = some u → w.cell? (ad.add j) = some u := by
      intro j u hj
      rw [ints, List.getElem?_map] at hj
      cases hy : ys[j]? with
      | none => rw [hy] at hj; cases hj
      | some y =>
        rw [hy] at hj
        cases hj
        obtain ⟨hl, rfl⟩ := List.getElem?_eq_some_iff.1 hy
        obtain ⟨ad', e, _, hc⟩ := hI j hl
        cases e
        exact hc
    obtain ⟨v', w', hr, ho, hg, _⟩ := run_append_own (P := P) (w := w) base t ty e i (.int .i64 0) 1 8 ht hi h1 h2 h3 rfl (by omega) v xs.length (ints xs) h ad ys.length c (ints ys) (by simp [ints]) hcells
      (by intro u hu; obtain ⟨n, _, rfl⟩ := List.mem_map.1 hu; rfl) (by unfold maxLen; omega) (by omega) hb
    exact ⟨v', w', hr, by simpa [ints] using ho, hg⟩
theorem add_zero' (a : Addr) : a.add 0 = a := by
  unfold Addr.add
  split <;> simp_all
theorem add_add' (a : Addr) (k i : Nat) : (a.add k).add i = a.add (k + i) := by
  unfold Addr.add
  by_cases hk : k = 0
  · subst hk; simp
  · by_cases hi : i = 0
    · subst hi; simp
    · have : k + i ≠ 0 := by omega
      simp [hk, hi, this, Nat.add_assoc]

/-- The first k of a row. -/
theorem cut_head {P : Program} {t B n c k : Nat} {w : World} {A : Option Addr} {xs : List Int} (ht : P.underlying t = some (.slice (P.elem t))) (hs : (sizeOf (P.elem t)).run P w = .ok 1 w) (hI : IntsAt B w A xs) (hn : xs.length = n) (hk : k ≤ n) (hc : n ≤ c) :
    (Instr.sliceAt t (.slice A n c) none (some (.int .i64 (k : Int))) none).run P w = .ok (.slice A k c) w ∧ IntsAt B w A (xs.take k) := by
  refine ⟨?_, ?_⟩
  · rw [run_sliceAt_slice w t _ _ _ _ ht, run_slice_h (w := w) (t := t) (a := A) (len := n) (cap := c) (ht := ht) (kh := .i64) (h := (k : Int)) (h0 := by omega) (h2 := by omega), hs]
    cases A <;> simp [Result.andThen, sliced, add_zero']
  · intro i hi
    have hi' : i < xs.length := by rw [List.length_take] at hi; omega
    obtain ⟨ad, e, hb, hcell⟩ := hI i hi'
    exact ⟨ad, e, hb, by rw [hcell]; simp⟩
/-- The rest of a row, from k on. -/
theorem cut_tail {P : Program} {t B n c k : Nat} {w : World} {A : Option Addr} {xs : List Int} (ht : P.underlying t = some (.slice (P.elem t))) (hs : (sizeOf (P.elem t)).run P w = .ok 1 w) (hI : IntsAt B w A xs) (hn : xs.length = n) (hk : k ≤ n) (hc : n ≤ c) :
    ∃ A', (Instr.sliceAt t (.slice A n c) (some (.int .i64 (k : Int))) none none).run P w = .ok (.slice A' (xs.drop k).length (c - k)) w ∧ IntsAt B w A' (xs.drop k) := by
  refine ⟨if c = k then A else A.map (·.add (k * 1)), ?_, ?_⟩
  · rw [run_sliceAt_slice w t _ _ _ _ ht, run_slice_l (w := w) (t := t) (a := A) (len := n) (cap := c) (ht := ht) (kl := .i64) (l := (k : Int)) (h0 := by omega) (h1 := by omega), hs]
    simp [Result.andThen, sliced, hn]
  · intro i hi
    have hi' : k + i < xs.length := by rw [List.length_drop] at hi; omega
    obtain ⟨ad, e, hb, hcell⟩ := hI (k + i) hi'
    rw [if_neg (by omega)]
    refine ⟨ad.add k, by rw [e]; simp, by rw [add_block]; exact hb, ?_⟩
    rw [add_add', hcell]
    simp
end Go.Proofs.Ytebpdlnknfjoaaa
