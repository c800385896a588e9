/- What slices.Compact leaves of a sorted row: each number once, rising. -/
import Derived.Lib.SlicesCompact
namespace Go.Proofs.Ytebpdlnknfjoaaa
set_option linter.unusedVariables false
set_option linter.unusedSimpArgs false
open Go.Lib

theorem toArray_get! (zs : List Int) (j : Nat) (h : j < zs.length) : zs.toArray[j]! = zs[j] := by simp [h]

theorem compactUpTo_spec (zs : List Int) (h : zs.Pairwise (· ≤ ·)) : ∀ m, m ≤ zs.length → (compactUpTo zs.toArray m).Pairwise (· < ·) ∧ ∀ n, n ∈ compactUpTo zs.toArray m ↔ ∃ j, ∃ hj : j < zs.length, j < m ∧ zs[j] = n := by
  intro m
  induction m with
  | zero => intro _; simp [compactUpTo]
  | succ m ih =>
    intro hm
    obtain ⟨h1, h2⟩ := ih (by omega)
    have hmz : m < zs.length := by omega
    rw [compactUpTo_succ]
    have hle : ∀ j (hj : j < zs.length), j ≤ m → zs[j] ≤ zs[m] := by
      intro j hj hjm
      by_cases e : j = m
      · subst e; omega
      · exact List.pairwise_iff_getElem.1 h j m hj hmz (by omega)
    by_cases hk : keeps zs.toArray m = true
    · rw [if_pos hk]
      have hlt : ∀ x ∈ compactUpTo zs.toArray m, x < zs[m] := by
        intro x hx
        obtain ⟨j, hj, hjm, rfl⟩ := (h2 x).1 hx
        have hne : zs[m] ≠ zs[m - 1] := by
          intro e
          unfold keeps at hk
          rw [toArray_get! zs m hmz, toArray_get! zs (m - 1) (by omega)] at hk
          have := of_decide_eq_true hk
          rcases this with q | q
          · omega
          · exact q e
        have a := hle (m - 1) (by omega) (by omega)
        have b : zs[j] ≤ zs[m - 1] := by
          by_cases e : j = m - 1
          · subst e; omega
          · exact List.pairwise_iff_getElem.1 h j (m - 1) hj (by omega) (by omega)
        omega
      rw [toArray_get! zs m hmz]
      refine ⟨List.pairwise_append.2 ⟨h1, by simp, fun x hx y hy => by rw [List.mem_singleton.1 hy]; exact hlt x hx⟩, fun n => ?_⟩
      rw [List.mem_append, h2, List.mem_singleton]
      constructor
      · rintro (⟨j, hj, hjm, e⟩ | e)
        · exact ⟨j, hj, by omega, e⟩
        · exact ⟨m, hmz, by omega, e.symm⟩
      · rintro ⟨j, hj, hjm, e⟩
        by_cases e2 : j = m
        · subst e2; exact .inr e.symm
        · exact .inl ⟨j, hj, by omega, e⟩
    · rw [if_neg hk, List.append_nil]
      refine ⟨h1, fun n => ?_⟩
      rw [h2]
      have hm0 : m ≠ 0 := by rintro rfl; exact hk (by simp [keeps])
      have he : zs[m] = zs[m - 1] := by
        apply Classical.byContradiction
        intro hne
        apply hk
        unfold keeps
        rw [toArray_get! zs m hmz, toArray_get! zs (m - 1) (by omega)]
        exact decide_eq_true (.inr hne)
      constructor
      · rintro ⟨j, hj, hjm, e⟩
        exact ⟨j, hj, by omega, e⟩
      · rintro ⟨j, hj, hjm, e⟩
        by_cases e2 : j = m
        · subst e2; exact ⟨j - 1, by omega, by omega, by rw [← he]; exact e⟩
        · exact ⟨j, hj, by omega, e⟩

theorem compact_spec (zs : List Int) (h : zs.Pairwise (· ≤ ·)) : (compact zs).Pairwise (· < ·) ∧ ∀ n, n ∈ compact zs ↔ n ∈ zs := by
  obtain ⟨h1, h2⟩ := compactUpTo_spec zs h zs.length (Nat.le_refl _)
  refine ⟨h1, fun n => (h2 n).trans ?_⟩
  rw [List.mem_iff_getElem]
  constructor
  · rintro ⟨j, hj, _, e⟩; exact ⟨j, hj, e⟩
  · rintro ⟨j, hj, e⟩; exact ⟨j, hj, hj, e⟩
end Go.Proofs.Ytebpdlnknfjoaaa
