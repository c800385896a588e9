/- What the reference's functions answer, in plain words (of the printed set PLearnSound): Has and holds. -/
import Derived.Test.YthnjjonjhenifaaWalks
import Derived.Test.YthnjjonjhenifaaPLearnSoundx2
import Derived.Test.YthnjjonjhenifaaKdInt
namespace Go.Proofs.Ythnjjonjhenifaa.PLearnSound
set_option linter.unusedVariables false
set_option linter.unusedSimpArgs false
open Go.RowKit Go.Proofs.YthnjjonjhenifaaW.PrintWords Go.Proofs.YthnjjonjhenifaaW.PrintLast Go.Proofs.YthnjjonjhenifaaW.PrintMore

theorem rd_at {xs : List Int} {i : Nat} (h : i < xs.length) : rd xs (i : Int) = xs[i] := by
  unfold rd
  rw [Int.toNat_natCast, List.getD_eq_getElem?_getD, List.getElem?_eq_getElem h]
  rfl
theorem up1 {i : Nat} (h : i ≤ 1000000) : wrap64 ((i : Int) + 1) = ((i + 1 : Nat) : Int) := by unfold wrap64; omega
theorem ev_eq {α : Type} {g : Nat → Option α} {r r' : α} (h : Ev g r) (e : r = r') : Ev g r' := e ▸ h
theorem drop_at {xs : List Int} {i : Nat} (h : i < xs.length) : xs.drop i = xs[i] :: xs.drop (i + 1) := List.drop_eq_getElem_cons h

theorem has_l (xs : List Int) (x : Int) (hl : xs.length ≤ 1000000) : ∀ d i, i + d = xs.length → Ev (fun k => horariumref27_Has.l0 k xs x (i : Int)) (decide (x ∈ xs.drop i))
  | 0, i, e => by
    refine Ev.step (f := fun _ => some false) (fun k => ?_) ?_
    · simp only [horariumref27_Has.l0]
      rw [if_neg (by omega)]
    · refine ev_eq (Ev.now _) ?_
      rw [List.drop_of_length_le (by omega)]
      simp
  | d + 1, i, e => by
    have hi : i < xs.length := by omega
    by_cases q : xs[i] = x
    · refine Ev.step (f := fun _ => some true) (fun k => ?_) ?_
      · simp only [horariumref27_Has.l0]
        rw [if_pos (by omega), if_pos (by omega), rd_at hi, if_pos q]
      · refine ev_eq (Ev.now _) ?_
        rw [drop_at hi, q]
        generalize xs.drop (i + 1) = r
        simp
    · refine Ev.step (f := fun k => horariumref27_Has.l0 k xs x ((i + 1 : Nat) : Int)) (fun k => ?_) ?_
      · simp only [horariumref27_Has.l0]
        rw [if_pos (by omega), if_pos (by omega), rd_at hi, if_neg q, up1 (by omega)]
      · refine ev_eq (has_l xs x hl d (i + 1) (by omega)) ?_
        rw [drop_at hi]
        generalize xs.drop (i + 1) = r
        have q' : ¬ x = xs[i] := fun e => q e.symm
        simp [q']
theorem has_ev (xs : List Int) (x : Int) (hl : xs.length ≤ 1000000) : Ev (fun k => horariumref27_Has.f k xs x) (decide (x ∈ xs)) := has_l xs x hl xs.length 0 (by omega)

def hitB (yes : List Int) (x : Int) : Bool := (decide (0 < x) && decide (x ∈ yes)) || (decide (x < 0) && (decide (x ≠ MIN) && !decide (neg x ∈ yes)))
def holdsP (cl yes : List Int) : Bool := cl.any (hitB yes)
theorem holds_l (cl yes : List Int) (hl : cl.length ≤ 1000000) (hy : yes.length ≤ 1000000) : ∀ d i, i + d = cl.length → Ev (fun k => horariumlaw36_holds.l0 k cl yes (i : Int)) (holdsP (cl.drop i) yes)
  | 0, i, e => by
    refine Ev.step (f := fun _ => some false) (fun k => ?_) ?_
    · simp only [horariumlaw36_holds.l0]
      rw [if_neg (by omega)]
    · refine ev_eq (Ev.now _) ?_
      rw [List.drop_of_length_le (by omega)]
      rfl
  | d + 1, i, e => by
    have hi : i < cl.length := by omega
    have ih := holds_l cl yes hl hy d (i + 1) (by omega)
    rw [drop_at hi]
    show Ev _ (hitB yes cl[i] || holdsP (cl.drop (i + 1)) yes)
    generalize holdsP (cl.drop (i + 1)) yes = R at ih ⊢
    by_cases q : 0 < cl[i]
    · refine Ev.step (f := fun k => (horariumref27_Has.f k yes cl[i]).bind fun t => if t = true then some true else horariumlaw36_holds.l0 k cl yes ((i + 1 : Nat) : Int)) (fun k => ?_) ?_
      · simp only [horariumlaw36_holds.l0]
        rw [if_pos (by omega), if_pos (by omega), rd_at hi, if_pos (by omega), up1 (by omega)]
        simp only [if_neg (show ¬ cl[i] < 0 by omega)]
      · refine Ev.bind (f := fun k t => if t = true then some true else horariumlaw36_holds.l0 k cl yes ((i + 1 : Nat) : Int)) (has_ev yes cl[i] hy) ?_
        by_cases m : cl[i] ∈ yes
        · refine ev_eq (Ev.congr (f := fun _ => some true) (fun k => ?_) (Ev.now _)) ?_
          · rw [if_pos (by simpa using m)]
          · unfold hitB; simp [q, m]
        · refine ev_eq (Ev.congr (fun k => ?_) ih) ?_
          · rw [if_neg (by simpa using m)]
          · unfold hitB
            rw [decide_eq_false m, decide_eq_false (show ¬ cl[i] < 0 by omega)]
            simp
    · by_cases q2 : cl[i] < 0
      · by_cases q3 : cl[i] = MIN
        · refine ev_eq (Ev.step (fun k => ?_) ih) ?_
          · simp only [horariumlaw36_holds.l0]
            rw [if_pos (by omega), if_pos (by omega), rd_at hi, if_neg (by omega), up1 (by omega), if_pos q2, if_pos (by exact q3)]
          · unfold hitB
            simp [q3]
            intro h
            exact absurd h (by decide)
        · refine Ev.step (f := fun k => (horariumref27_Has.f k yes (neg cl[i])).bind fun t => if t = true then horariumlaw36_holds.l0 k cl yes ((i + 1 : Nat) : Int) else some true) (fun k => ?_) ?_
          · simp only [horariumlaw36_holds.l0]
            rw [if_pos (by omega), if_pos (by omega), rd_at hi, if_neg (by omega), up1 (by omega), if_pos q2, if_neg (by exact q3)]
            rfl
          · refine Ev.bind (f := fun k t => if t = true then horariumlaw36_holds.l0 k cl yes ((i + 1 : Nat) : Int) else some true) (has_ev yes (neg cl[i]) hy) ?_
            by_cases m : neg cl[i] ∈ yes
            · refine ev_eq (Ev.congr (fun k => ?_) ih) ?_
              · rw [if_pos (by simpa using m)]
              · unfold hitB; simp [q, m]
            · refine ev_eq (Ev.congr (f := fun _ => some true) (fun k => ?_) (Ev.now _)) ?_
              · rw [if_neg (by simpa using m)]
              · unfold hitB; simp [q2, q3, m]
      · refine ev_eq (Ev.step (fun k => ?_) ih) ?_
        · simp only [horariumlaw36_holds.l0]
          rw [if_pos (by omega), if_pos (by omega), rd_at hi, if_neg (by omega), up1 (by omega), if_neg q2]
        · unfold hitB; simp [q, q2]
theorem holds_any {B : Nat} {A A2 : Option Addr} {cl yes : List Int} {n m : Nat} {q : Bool} (c c2 : Nat) (w : World) (h1 : IntsAt B w A cl) (h2 : IntsAt B w A2 yes) (e1 : cl.length = n) (e2 : yes.length = m) (k1 : n ≤ c) (k2 : m ≤ c2) (hn : n ≤ 1000) (hm : m ≤ 1000) (hq : holdsP cl yes = q) :
    Calls Try.prog 25 #[.slice A n c, .slice A2 m c2] w fun e w' => e = .returned (.bool q) ∧ Below w.heap.size w w' := by
  subst e1 e2 hq
  obtain ⟨k, hk⟩ := (show Ev (fun k => horariumlaw36_holds.f k cl yes) (holdsP cl yes) from holds_l cl yes (by omega) (by omega) cl.length 0 (by omega)).rounds
  refine (horariumlaw36_holds.calls k A c cl A2 c2 yes (holdsP cl yes) w (int_C h1 (by omega)) k1 (int_C h2 (by omega)) k2 hk).mono ?_
  rintro e w' ⟨rfl, hd⟩
  exact ⟨rfl, hd.below⟩
end Go.Proofs.Ythnjjonjhenifaa.PLearnSound
