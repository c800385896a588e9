/- The chapter's example, reckoned (plain). -/
import Derived.Test.YtopjfnkcmdifhaaHallW
import Derived.Test.YtopjfnkcmdifhaaHallP
import Derived.Test.YtopjfnkcmdifhaaCompact
namespace Go.Proofs.Ytopjfnkcmdifhaa
set_option linter.unusedVariables false
set_option linter.unusedSimpArgs false
open Kuhn

theorem rowOf_spec (right : Int) (r : List Int) : (rowOf right r).Pairwise (· < ·) ∧ ∀ n, n ∈ rowOf right r ↔ n ∈ r ∧ 0 ≤ n ∧ n < right := by
  obtain ⟨h1, h2⟩ := compact_spec (sorted (mayRow right r)) (sorted_le _)
  refine ⟨h1, fun n => ?_⟩
  show n ∈ Lib.compact _ ↔ _
  rw [h2, (sorted_perm _).mem_iff]
  simp [mayRow]
theorem rowF_map (right : Int) (near : List (List Int)) (i : Nat) : rowF (near.map (rowOf right)) i = rowOf right (near.getD i []) := by
  unfold rowF
  rw [List.getD_eq_getElem?_getD, List.getElem?_map, List.getD_eq_getElem?_getD]
  cases near[i]? with
  | none => simp [rowOf, mayRow, sorted, Lib.compact, Lib.compactUpTo]
  | some r => rfl
theorem rows_nn (right : Int) (near : List (List Int)) (i : Nat) (v : Int) (h : v ∈ rowF (near.map (rowOf right)) i) : 0 ≤ v := by
  rw [rowF_map] at h
  exact (((rowOf_spec right _).2 v).1 h).2.1
theorem rows_sort (right : Int) (near : List (List Int)) (i : Nat) : (rowF (near.map (rowOf right)) i).Pairwise (· < ·) := by
  rw [rowF_map]
  exact (rowOf_spec right _).1

namespace Kuhn
def kuhn (row : Nat → List Int) (ok : Int → Bool) (f : Nat) : Nat → Nat → (Int → Option Nat) → Nat → Option Nat
  | 0, _, _, c => some c
  | r + 1, i, of, c => match srch row ok of f [] i with
    | none => none
    | some (some p, _) => kuhn row ok f r (i + 1) (applyOf of p) (c + 1)
    | some (none, _) => kuhn row ok f r (i + 1) of c
theorem kuhn_inv {row : Nat → List Int} {ok : Int → Bool} {f lo : Nat} : ∀ (r i : Nat) (of : Int → Option Nat) (c c' : Nat) (S F : List Nat) (B : List Int), lo ≤ i → KInv row ok lo i of c S F B → kuhn row ok f r i of c = some c' → c' = mm row ok lo (i + r) := by
  intro r
  induction r with
  | zero => intro i of c c' S F B _ h e; cases e; exact h.eq_mm
  | succ r ih =>
    intro i of c c' S F B hlo h e
    rw [kuhn] at e
    cases hs : srch row ok of f [] i with
    | none => rw [hs] at e; cases e
    | some q =>
      obtain ⟨q, s⟩ := q
      have ht := srch_tells _ _ _ _ hs
      rw [hs] at e
      rw [show i + (r + 1) = i + 1 + r by omega]
      cases q with
      | some p => exact ih _ _ _ _ _ _ _ (by omega) (h.hit hlo ht.2.1) e
      | none => exact ih _ _ _ _ _ _ _ (by omega) (h.miss ht) e
theorem kuhn_mm {row : Nat → List Int} {ok : Int → Bool} {lo r c : Nat} (f : Nat) (h : kuhn row ok f r lo (fun _ => none) 0 = some c) : mm row ok lo (lo + r) = c :=
  (kuhn_inv r lo _ _ _ _ _ _ (Nat.le_refl _) (KInv.start row ok lo) h).symm
end Kuhn

def near0 : List (List Int) := [[0], [0], [0, 1]]
theorem rows0 : near0.map (rowOf 2) = near0 := by
  have e : ∀ r : List Int, r.Pairwise (· < ·) → (∀ n ∈ r, 0 ≤ n ∧ n < 2) → rowOf 2 r = r := fun r h1 h2 =>
    rising_unique (rowOf_spec 2 r).1 h1 (fun n => by rw [(rowOf_spec 2 r).2]; exact ⟨fun h => h.1, fun h => ⟨h, h2 n h⟩⟩)
  have e1 : rowOf 2 [0] = [0] := e _ (by simp) (by simp)
  have e2 : rowOf 2 [0, 1] = [0, 1] := e _ (by simp) (by simp)
  simp [near0, e1, e2]
theorem most0_eq : mostOf near0 = [0, -1, 1] := by
  have m0 : mm (rowF near0) (free []) 0 3 = 2 := kuhn_mm (lo := 0) (r := 3) 5 (by rfl)
  have m1 : mm (rowF near0) (free [0]) 1 3 = 1 := kuhn_mm (lo := 1) (r := 2) 5 (by rfl)
  have m2 : mm (rowF near0) (free [0, 1]) 3 3 = 0 := kuhn_mm (lo := 3) (r := 0) 5 (by rfl)
  have r0 : rowF near0 0 = [0] := rfl
  have r1 : rowF near0 1 = [0] := rfl
  have r2 : rowF near0 2 = [0, 1] := rfl
  have hl : near0.length = 3 := rfl
  simp [mostOf, greedy, hl, m0, r0, r1, r2, fits, m1, m2]
theorem reach0_eq : Reached (rowF near0) (ofM [0, -1, 1]) [1] 1 ([1, 0], [0, 0]) :=
  (Reached.start _ _ _).next (i := 1) (by simp) rfl (dfs_tells 5 _ _ _ (by rfl))
theorem left0 {ys : List Int} (h : IsSet ys (LeftOf near0 [0, -1, 1] [1])) : ys = [0, 1] := by
  refine rising_unique h.1 (by simp) (fun n => (h.2 n).trans ?_)
  constructor
  · rintro ⟨i, rfl, hi⟩
    have := (reach0_eq.memL i).2 hi
    simp at this ⊢
    omega
  · intro hn
    have hn' : n = 0 ∨ n = 1 := by simpa using hn
    rcases hn' with rfl | rfl
    · exact ⟨0, rfl, (reach0_eq.memL 0).1 (by simp)⟩
    · exact ⟨1, rfl, (reach0_eq.memL 1).1 (by simp)⟩
theorem right0 {zs : List Int} (h : IsSet zs (RightOf near0 [0, -1, 1] [1])) : zs = [0] := by
  refine rising_unique h.1 (by simp) (fun n => (h.2 n).trans ((reach0_eq.memR n).symm.trans ?_))
  simp
end Go.Proofs.Ytopjfnkcmdifhaa
