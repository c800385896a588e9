/- What the reference's Resolve answers (of the printed set PLearnTells). -/
import Derived.Test.YthnjjonjhenifaaPLearnTellsRow
import Derived.Test.YthnjjonjhenifaaPLearnTellsx6
import Derived.Test.YthnjjonjhenifaaKdInt
namespace Go.Proofs.Ythnjjonjhenifaa.PLearnTells
set_option linter.unusedVariables false
set_option linter.unusedSimpArgs false
open Go.RowKit Go.Proofs.YthnjjonjhenifaaW.PrintWords Go.Proofs.YthnjjonjhenifaaW.PrintLast Go.Proofs.YthnjjonjhenifaaW.PrintMore

def resR (a b : List Int) (l : Int) : List Int × Bool := if resOk a b l = true then (resP a b l, true) else ([], false)
theorem res_ev (a b : List Int) (l : Int) (ha : a.length ≤ 10000) (hb : b.length ≤ 10000) : Ev (fun k => horariumref36_Resolve.f k a b l) (resR a b l) := by
  have hno (h : resOk a b l = false) : Ev (fun k => horariumref36_Resolve.j0 k a b l true) (resR a b l) := by
    refine Ev.step (f := fun _ => some ([], false)) (fun k => ?_) ?_
    · simp only [horariumref36_Resolve.j0]
      rw [if_pos trivial]
    · refine ev_eq (Ev.now _) ?_
      unfold resR
      rw [if_neg (by rw [h]; decide)]
  by_cases q0 : l = 0
  · refine Ev.congr (fun k => ?_) (hno (by unfold resOk; simp [q0]))
    unfold horariumref36_Resolve.f
    rw [if_pos q0]
  by_cases qm : l = MIN
  · refine Ev.congr (fun k => ?_) (hno (by unfold resOk; simp [qm]))
    unfold horariumref36_Resolve.f
    rw [if_neg q0, if_pos (by rw [qm]; rfl)]
  refine Ev.congr (f := fun k => (horariumref27_Has.f k a l).bind fun t => if t = true then ((horariumref27_Has.f k b (neg l)).bind fun t' => horariumref36_Resolve.j0 k a b l (!t')) else horariumref36_Resolve.j0 k a b l true) (fun k => ?_) ?_
  · unfold horariumref36_Resolve.f
    rw [if_neg q0, if_neg (by exact qm)]
    rfl
  refine Ev.bind (f := fun k t => if t = true then ((horariumref27_Has.f k b (neg l)).bind fun t' => horariumref36_Resolve.j0 k a b l (!t')) else horariumref36_Resolve.j0 k a b l true) (has_ev a l (by omega)) ?_
  by_cases ma : l ∈ a
  rotate_left
  · refine Ev.congr (fun k => ?_) (hno (by unfold resOk; simp [ma]))
    rw [if_neg (by simpa using ma)]
  refine Ev.congr (f := fun k => (horariumref27_Has.f k b (neg l)).bind fun t' => horariumref36_Resolve.j0 k a b l (!t')) (fun k => ?_) ?_
  · rw [if_pos (by simpa using ma)]
  refine Ev.bind (f := fun k t' => horariumref36_Resolve.j0 k a b l (!t')) (has_ev b (neg l) (by omega)) ?_
  by_cases mb : neg l ∈ b
  rotate_left
  · rw [decide_eq_false mb]
    exact hno (by unfold resOk; simp [mb])
  rw [decide_eq_true mb]
  have hok : resOk a b l = true := by unfold resOk; simp [q0, qm, ma, mb]
  refine Ev.step (f := fun k => (horariumref36_others.f k a l).bind fun t => (horariumref36_others.f k b (neg l)).bind fun t' => if t.length + t'.length < 17592186044416 then (horariumref27_Sort.f k (t ++ t')).bind fun s => some (s, true) else none) (fun k => ?_) ?_
  · simp only [horariumref36_Resolve.j0]
    rw [if_neg (by decide)]
    rfl
  refine Ev.bind (f := fun k t => (horariumref36_others.f k b (neg l)).bind fun t' => if t.length + t'.length < 17592186044416 then (horariumref27_Sort.f k (t ++ t')).bind fun s => some (s, true) else none) (others_ev a l (by omega)) ?_
  refine Ev.bind (f := fun k t' => if (othersP a l).length + t'.length < 17592186044416 then (horariumref27_Sort.f k (othersP a l ++ t')).bind fun s => some (s, true) else none) (others_ev b (neg l) (by omega)) ?_
  have h1 := others_len (xs := a) (x := l)
  have h2 := others_len (xs := b) (x := neg l)
  refine Ev.congr (f := fun k => (horariumref27_Sort.f k (othersP a l ++ othersP b (neg l))).bind fun s => some (s, true)) (fun k => ?_) ?_
  · rw [if_pos (by omega)]
  refine ev_eq (Ev.bind (f := fun k s => some (s, true)) (sort_ev _ (by rw [List.length_append]; omega)) (Ev.now _)) ?_
  unfold resR
  rw [if_pos hok]
  rfl
theorem res_ref {B : Nat} {A1 A2 : Option Addr} {a b : List Int} {n m : Nat} (l : Int) (c1 c2 : Nat) (w : World) (h1 : IntsAt B w A1 a) (h2 : IntsAt B w A2 b) (e1 : a.length = n) (e2 : b.length = m) (k1 : n ≤ c1) (k2 : m ≤ c2) (hn : n ≤ 10000) (hm : m ≤ 10000) :
    Calls Try.prog 23 #[.slice A1 n c1, .slice A2 m c2, .int .i64 l] w fun e w' => ∃ A c, e = .returned (.tuple #[.slice A (resR a b l).1.length c, .bool (resR a b l).2]) ∧ IntsAt w'.heap.size w' A (resR a b l).1 ∧ Below w.heap.size w w' := by
  subst e1 e2
  obtain ⟨k, hk⟩ := (res_ev a b l hn hm).rounds
  refine (horariumref36_Resolve.calls k A1 c1 a A2 c2 b l (resR a b l).1 (resR a b l).2 w (int_C h1 (by omega)) k1 (int_C h2 (by omega)) k2 hk).mono ?_
  rintro e w' ⟨v, rfl, hR, hb⟩
  obtain ⟨A, c, rfl, _, hi⟩ := int_R hR
  exact ⟨A, c, rfl, hi, hb⟩
end Go.Proofs.Ythnjjonjhenifaa.PLearnTells
