/- What match.Most and the reference's Most choose: number by number the least one with which all can still be as many (plain). -/
import Derived.Test.YtopjfnkcmdifhaaKuhn
namespace Go.Proofs.Ytopjfnkcmdifhaa.Kuhn
set_option linter.unusedVariables false
set_option linter.unusedSimpArgs false

def rowF (l : List (List Int)) : Nat → List Int := fun j => l.getD j []
def free (T : List Int) : Int → Bool := fun x => !decide (x ∈ T)

/-- May v be chosen for i, if T are taken and s are to be matched from i on? -/
noncomputable def fits (l : List (List Int)) (i : Nat) (T : List Int) (s : Nat) (v : Int) : Bool := !decide (v ∈ T) && decide (mm (rowF l) (free (T ++ [v])) (i + 1) l.length + 1 = s)

noncomputable def greedy (l : List (List Int)) : Nat → Nat → List Int → Nat → List Int
  | 0, _, _, _ => []
  | r + 1, i, T, s => match (rowF l i).find? (fits l i T s) with
    | some v => v :: greedy l r (i + 1) (T ++ [v]) (s - 1)
    | none => -1 :: greedy l r (i + 1) T s

noncomputable def mostOf (l : List (List Int)) : List Int := greedy l l.length 0 [] (mm (rowF l) (free []) 0 l.length)

theorem greedy_length (l : List (List Int)) : ∀ r i T s, (greedy l r i T s).length = r := by
  intro r
  induction r with
  | zero => intro i T s; rfl
  | succ r ih =>
    intro i T s
    rw [greedy]
    cases (rowF l i).find? (fits l i T s) with
    | some v => simp [ih]
    | none => simp [ih]
end Go.Proofs.Ytopjfnkcmdifhaa.Kuhn
