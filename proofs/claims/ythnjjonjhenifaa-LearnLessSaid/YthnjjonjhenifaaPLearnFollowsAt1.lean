/- What the reference's at answers (of the printed set PLearnFollows). -/
import Derived.Test.YthnjjonjhenifaaPLearnFollowsx8
import Derived.Test.YthnjjonjhenifaaPLearnFollowsRight
namespace Go.Proofs.Ythnjjonjhenifaa.PLearnFollows
set_option linter.unusedVariables false
set_option linter.unusedSimpArgs false
open Go.RowKit Go.Proofs.YthnjjonjhenifaaW.PrintWords Go.Proofs.YthnjjonjhenifaaW.PrintLast Go.Proofs.YthnjjonjhenifaaW.PrintMore

theorem at_l {ms : List Mk} (hl : ms.length ≤ 1000) {x : Int} {p : Nat} (hp : p < ms.length) (hx : (atM ms p).lit = x) (hn : ∀ j, j < p → (atM ms j).lit ≠ x) : ∀ d i, i + d = p → Ev (fun k => horariumref36_at.l0 k (tS ms) x (i : Int)) (p : Int)
  | 0, i, e => by
    have hL := tS_len ms
    have : i = p := by omega
    subst this
    refine Ev.step (f := fun _ => some (i : Int)) (fun k => ?_) (Ev.now _)
    simp only [horariumref36_at.l0]
    rw [if_pos (by omega), if_pos (by omega), rdm hp, if_pos (show (toS (atM ms i)).f0 = x from hx)]
  | d + 1, i, e => by
    have hL := tS_len ms
    refine Ev.step (f := fun k => horariumref36_at.l0 k (tS ms) x ((i + 1 : Nat) : Int)) (fun k => ?_) (at_l hl hp hx hn d (i + 1) (by omega))
    simp only [horariumref36_at.l0]
    rw [if_pos (by omega), if_pos (by omega), rdm (show i < ms.length by omega), if_neg (show ¬ (toS (atM ms i)).f0 = x from hn i (by omega)), up1 (by omega)]
theorem at_ev {ms : List Mk} (hl : ms.length ≤ 1000) {c : List Int} (h : Fal ms c) {x : Int} (hx : x ∈ c) : Ev (fun k => horariumref36_at.f k (tS ms) (neg x)) (posI ms x) := by
  obtain ⟨p, hp, e1, e2, _⟩ := h.pos hx
  rw [e1]
  exact at_l hl hp e2 (fun j hj e => absurd (right_lit h.right (show j < ms.length by omega) hp (e.trans e2.symm)) (by omega)) p 0 (by omega)
end Go.Proofs.Ythnjjonjhenifaa.PLearnFollows
