/- What the reference's functions answer, in plain words (of the printed set PLearnFollows): rows. -/
import Derived.Test.YthnjjonjhenifaaWalks
import Derived.Test.YthnjjonjhenifaaPLearnFollowsx3
import Derived.Test.YthnjjonjhenifaaPLearnFollowsx4
namespace Go.Proofs.Ythnjjonjhenifaa.PLearnFollows
set_option linter.unusedVariables false
set_option linter.unusedSimpArgs false
open Go.RowKit Go.Proofs.YthnjjonjhenifaaW.PrintWords Go.Proofs.YthnjjonjhenifaaW.PrintLast Go.Proofs.YthnjjonjhenifaaW.PrintMore

theorem rd_at {xs : List Int} {i : Nat} (h : i < xs.length) : rd xs (i : Int) = xs[i] := by
  unfold rd
  rw [Int.toNat_natCast, List.getD_eq_getElem?_getD, List.getElem?_eq_getElem h]
  rfl
theorem up1 {i : Nat} (h : i ≤ 1000000) : wrap64 ((i : Int) + 1) = ((i + 1 : Nat) : Int) := by unfold wrap64; omega
theorem ev_eq {α : Type} {g : Nat → Option α} {r r' : α} (h : Ev g r) (e : r = r') : Ev g r' := e ▸ h
theorem drop_at {xs : List Int} {i : Nat} (h : i < xs.length) : xs.drop i = xs[i] :: xs.drop (i + 1) := List.drop_eq_getElem_cons h

theorem has_l (xs : List Int) (x : Int) (hl : xs.length ≤ 1000000) : ∀ d i, i + d = xs.length → Ev (fun k => horariumref27_Has.l0 k xs x (i : Int)) (decide (x ∈ xs.drop i))
  | 0, i, e => by
    refine Ev.step (f := fun _ => some false) (fun k => ?_) ?_
    · simp only [horariumref27_Has.l0]
      rw [if_neg (by omega)]
    · refine ev_eq (Ev.now _) ?_
      rw [List.drop_of_length_le (by omega)]
      simp
  | d + 1, i, e => by
    have hi : i < xs.length := by omega
    by_cases q : xs[i] = x
    · refine Ev.step (f := fun _ => some true) (fun k => ?_) ?_
      · simp only [horariumref27_Has.l0]
        rw [if_pos (by omega), if_pos (by omega), rd_at hi, if_pos q]
      · refine ev_eq (Ev.now _) ?_
        rw [drop_at hi, q]
        generalize xs.drop (i + 1) = r
        simp
    · refine Ev.step (f := fun k => horariumref27_Has.l0 k xs x ((i + 1 : Nat) : Int)) (fun k => ?_) ?_
      · simp only [horariumref27_Has.l0]
        rw [if_pos (by omega), if_pos (by omega), rd_at hi, if_neg q, up1 (by omega)]
      · refine ev_eq (has_l xs x hl d (i + 1) (by omega)) ?_
        rw [drop_at hi]
        generalize xs.drop (i + 1) = r
        have q' : ¬ x = xs[i] := fun e => q e.symm
        simp [q']
theorem has_ev (xs : List Int) (x : Int) (hl : xs.length ≤ 1000000) : Ev (fun k => horariumref27_Has.f k xs x) (decide (x ∈ xs)) := has_l xs x hl xs.length 0 (by omega)

theorem same_l (a b : List Int) (hl : a.length ≤ 1000000) (hb : a.length = b.length) : ∀ d i, i + d = a.length → Ev (fun k => horariumref27_Same.l0 k a b (i : Int)) (decide (a.drop i = b.drop i))
  | 0, i, e => by
    refine Ev.step (f := fun _ => some true) (fun k => ?_) ?_
    · simp only [horariumref27_Same.l0]
      rw [if_neg (by omega)]
    · refine ev_eq (Ev.now _) ?_
      rw [List.drop_of_length_le (by omega), List.drop_of_length_le (by omega)]
      simp
  | d + 1, i, e => by
    have hi : i < a.length := by omega
    have hj : i < b.length := by omega
    by_cases q : a[i] = b[i]
    · refine Ev.step (f := fun k => horariumref27_Same.l0 k a b ((i + 1 : Nat) : Int)) (fun k => ?_) ?_
      · simp only [horariumref27_Same.l0]
        rw [if_pos (by omega), if_pos (by omega), if_pos (by omega), rd_at hi, rd_at hj, if_pos q, up1 (by omega)]
      · refine ev_eq (same_l a b hl hb d (i + 1) (by omega)) ?_
        rw [drop_at hi, drop_at hj, q]
        generalize a.drop (i + 1) = r1
        generalize b.drop (i + 1) = r2
        simp
    · refine Ev.step (f := fun _ => some false) (fun k => ?_) ?_
      · simp only [horariumref27_Same.l0]
        rw [if_pos (by omega), if_pos (by omega), if_pos (by omega), rd_at hi, rd_at hj, if_neg q]
      · refine ev_eq (Ev.now _) ?_
        rw [drop_at hi, drop_at hj]
        generalize a.drop (i + 1) = r1
        generalize b.drop (i + 1) = r2
        simp [q]
theorem same_ev (a b : List Int) (hl : a.length ≤ 1000000) : Ev (fun k => horariumref27_Same.f k a b) (decide (a = b)) := by
  by_cases hb : a.length = b.length
  · refine Ev.congr (fun k => ?_) (same_l a b hl hb a.length 0 (by omega))
    show (if _ then _ else _) = _
    rw [if_pos (by omega)]
    rfl
  · refine Ev.congr (f := fun _ => some false) (fun k => ?_) (ev_eq (Ev.now _) ?_)
    · show (if _ then _ else _) = _
      rw [if_neg (by omega)]
    · have : a ≠ b := fun e => hb (by rw [e])
      simp [this]

def othersP (xs : List Int) (x : Int) : List Int := xs.filter (fun y => decide (y ≠ x))
theorem others_l (xs : List Int) (x : Int) (hl : xs.length ≤ 1000000) : ∀ d i (acc : List Int), i + d = xs.length → acc.length ≤ i → Ev (fun k => horariumref36_others.l0 k xs x acc (i : Int)) (acc ++ othersP (xs.drop i) x)
  | 0, i, acc, e, ha => by
    refine Ev.step (f := fun _ => some acc) (fun k => ?_) ?_
    · simp only [horariumref36_others.l0]
      rw [if_neg (by omega)]
    · refine ev_eq (Ev.now _) ?_
      rw [List.drop_of_length_le (by omega)]
      simp [othersP]
  | d + 1, i, acc, e, ha => by
    have hi : i < xs.length := by omega
    by_cases q : xs[i] = x
    · refine Ev.step (f := fun k => horariumref36_others.l0 k xs x acc ((i + 1 : Nat) : Int)) (fun k => ?_) ?_
      · simp only [horariumref36_others.l0]
        rw [if_pos (by omega), if_pos (by omega), rd_at hi, if_pos q, up1 (by omega)]
      · refine ev_eq (others_l xs x hl d (i + 1) acc (by omega) (by omega)) ?_
        rw [drop_at hi, q]
        generalize xs.drop (i + 1) = r
        simp [othersP]
    · refine Ev.step (f := fun k => horariumref36_others.l0 k xs x (acc ++ [xs[i]]) ((i + 1 : Nat) : Int)) (fun k => ?_) ?_
      · simp only [horariumref36_others.l0]
        rw [if_pos (by omega), if_pos (by omega), rd_at hi, if_neg q, if_pos (by omega), up1 (by omega)]
      · refine ev_eq (others_l xs x hl d (i + 1) (acc ++ [xs[i]]) (by omega) (by simp; omega)) ?_
        rw [drop_at hi]
        generalize xs.drop (i + 1) = r
        simp [othersP, q]
theorem others_ev (xs : List Int) (x : Int) (hl : xs.length ≤ 1000000) : Ev (fun k => horariumref36_others.f k xs x) (othersP xs x) := others_l xs x hl xs.length 0 [] (by omega) (by simp)
theorem others_len {xs : List Int} {x : Int} : (othersP xs x).length ≤ xs.length := List.length_filter_le _ _

def turnedP (cl inn : List Int) : Bool := cl.all fun x => decide (x ≠ MIN) && decide (neg x ∈ inn)
theorem turned_l (cl inn : List Int) (hl : cl.length ≤ 1000000) (hn : inn.length ≤ 1000000) : ∀ d i, i + d = cl.length → Ev (fun k => horariumref36_turned.l0 k cl inn (i : Int)) (turnedP (cl.drop i) inn)
  | 0, i, e => by
    refine Ev.step (f := fun _ => some true) (fun k => ?_) ?_
    · simp only [horariumref36_turned.l0]
      rw [if_neg (by omega)]
    · refine ev_eq (Ev.now _) ?_
      rw [List.drop_of_length_le (by omega)]
      rfl
  | d + 1, i, e => by
    have hi : i < cl.length := by omega
    by_cases q : cl[i] = MIN
    · refine Ev.step (f := fun _ => some false) (fun k => ?_) ?_
      · simp only [horariumref36_turned.l0]
        rw [if_pos (by omega), if_pos (by omega), rd_at hi, if_pos (by rw [q]; rfl)]
      · refine ev_eq (Ev.now _) ?_
        rw [drop_at hi]
        generalize cl.drop (i + 1) = r
        simp [turnedP, q]
    · refine Ev.step (f := fun k => (horariumref27_Has.f k inn (neg cl[i])).bind fun t => if t = true then horariumref36_turned.l0 k cl inn ((i + 1 : Nat) : Int) else some false) (fun k => ?_) ?_
      · simp only [horariumref36_turned.l0]
        rw [if_pos (by omega), if_pos (by omega), rd_at hi, if_neg (by exact q), up1 (by omega)]
        rfl
      · refine Ev.bind (f := fun k t => if t = true then horariumref36_turned.l0 k cl inn ((i + 1 : Nat) : Int) else some false) (has_ev inn (neg cl[i]) hn) ?_
        by_cases m : neg cl[i] ∈ inn
        · refine ev_eq (Ev.congr (fun k => ?_) (turned_l cl inn hl hn d (i + 1) (by omega))) ?_
          · rw [if_pos (by simpa using m)]
          · rw [drop_at hi]
            generalize cl.drop (i + 1) = r
            simp [turnedP, q, m]
        · refine ev_eq (Ev.congr (f := fun _ => some false) (fun k => ?_) (Ev.now _)) ?_
          · rw [if_neg (by simpa using m)]
          · rw [drop_at hi]
            generalize cl.drop (i + 1) = r
            simp [turnedP, m]
theorem turned_ev (cl inn : List Int) (hl : cl.length ≤ 1000000) (hn : inn.length ≤ 1000000) : Ev (fun k => horariumref36_turned.f k cl inn) (turnedP cl inn) := turned_l cl inn hl hn cl.length 0 (by omega)
theorem size_eq (x : Int) : horariumref27_size.f x = some (szI x) := by
  unfold horariumref27_size.f szI
  split <;> rfl
theorem ahead_eq (a b : Int) : horariumref27_Ahead.f a b = some (decide (lt2 a b)) := by
  unfold horariumref27_Ahead.f
  simp only [size_eq, Option.bind_some]
  unfold lt2
  split
  · rename_i h
    simp [h]
  · rename_i h
    split
    · rename_i h2
      simp [h, h2]
    · rename_i h2
      simp [h, h2]
theorem rest_l (xs : List Int) (p : List Int) (i : Nat) (hi : i ≤ 1000000) (hp : p.length ≤ 1000000) {R : List Int} : ∀ d j (acc : List Int), j + d = p.length → acc.length ≤ j + 1 → Ev (fun k => horariumref27_Sort.l0 k xs (acc ++ p.drop j) ((i + 1 : Nat) : Int)) R → Ev (fun k => horariumref27_Sort.l2 k xs p (i : Int) acc (j : Int)) R
  | 0, j, acc, e, ha, h => by
    refine Ev.step (f := fun k => horariumref27_Sort.l0 k xs acc ((i + 1 : Nat) : Int)) (fun k => ?_) ?_
    · simp only [horariumref27_Sort.l2]
      rw [if_neg (by omega), up1 hi]
    · rw [List.drop_of_length_le (by omega), List.append_nil] at h
      exact h
  | d + 1, j, acc, e, ha, h => by
    have hj : j < p.length := by omega
    refine Ev.step (f := fun k => horariumref27_Sort.l2 k xs p (i : Int) (acc ++ [p[j]]) ((j + 1 : Nat) : Int)) (fun k => ?_) ?_
    · simp only [horariumref27_Sort.l2]
      rw [if_pos (by omega), if_pos (by omega), if_pos (by omega), rd_at hj, up1 (by omega)]
    · refine rest_l xs p i hi hp d (j + 1) _ (by omega) (by simp; omega) ?_
      rw [drop_at hj] at h
      simpa using h
theorem ins_l (xs : List Int) (p : List Int) (i : Nat) (hi : i < xs.length) (hl : xs.length ≤ 1000000) (hp : p.length ≤ 1000000) {R : List Int} : ∀ d j (acc : List Int), j + d = p.length → acc.length ≤ j →
    Ev (fun k => horariumref27_Sort.l0 k xs (acc ++ (p.drop j).takeWhile (fun y => decide (lt2 y xs[i])) ++ xs[i] :: (p.drop j).dropWhile (fun y => decide (lt2 y xs[i]))) ((i + 1 : Nat) : Int)) R → Ev (fun k => horariumref27_Sort.l1 k xs p (i : Int) acc (j : Int)) R
  | 0, j, acc, e, ha, h => by
    refine Ev.step (f := fun k => horariumref27_Sort.j3 k xs p (i : Int) acc (j : Int)) (fun k => ?_) ?_
    · simp only [horariumref27_Sort.l1]
      rw [if_neg (by omega)]
    · refine Ev.step (f := fun k => horariumref27_Sort.l2 k xs p (i : Int) (acc ++ [xs[i]]) (j : Int)) (fun k => ?_) ?_
      · simp only [horariumref27_Sort.j3]
        rw [if_pos (by omega), if_pos (by omega), if_pos (by omega), rd_at hi]
      · refine rest_l xs p i (by omega) hp 0 j _ e (by simp; omega) ?_
        rw [List.drop_of_length_le (by omega)] at h ⊢
        simpa using h
  | d + 1, j, acc, e, ha, h => by
    have hj : j < p.length := by omega
    by_cases q : lt2 p[j] xs[i]
    · refine Ev.step (f := fun k => horariumref27_Sort.l1 k xs p (i : Int) (acc ++ [p[j]]) ((j + 1 : Nat) : Int)) (fun k => ?_) ?_
      · simp only [horariumref27_Sort.l1]
        rw [if_pos (by omega), if_pos (by omega), if_pos (by omega), if_pos (by omega), rd_at hj, rd_at hi, ahead_eq, Option.bind_some, if_pos (by simpa using q), if_pos (by omega), up1 (by omega)]
      · refine ins_l xs p i hi hl hp d (j + 1) _ (by omega) (by simp; omega) ?_
        rw [drop_at hj, List.takeWhile_cons_of_pos (by simpa using q), List.dropWhile_cons_of_pos (by simpa using q)] at h
        simpa using h
    · refine Ev.step (f := fun k => horariumref27_Sort.j3 k xs p (i : Int) acc (j : Int)) (fun k => ?_) ?_
      · simp only [horariumref27_Sort.l1]
        rw [if_pos (by omega), if_pos (by omega), if_pos (by omega), if_pos (by omega), rd_at hj, rd_at hi, ahead_eq, Option.bind_some, if_neg (by simpa using q)]
      · refine Ev.step (f := fun k => horariumref27_Sort.l2 k xs p (i : Int) (acc ++ [xs[i]]) (j : Int)) (fun k => ?_) ?_
        · simp only [horariumref27_Sort.j3]
          rw [if_pos (by omega), if_pos (by omega), if_pos (by omega), rd_at hi]
        · refine rest_l xs p i (by omega) hp (d + 1) j _ e (by simp; omega) ?_
          rw [drop_at hj, List.takeWhile_cons_of_neg (by simpa using q), List.dropWhile_cons_of_neg (by simpa using q)] at h
          rw [drop_at hj]
          simpa using h
theorem ins_len {ys : List Int} {x : Int} : (insL ys x).length ≤ ys.length + 1 := by
  unfold insL
  split
  · omega
  · have := congrArg List.length (List.takeWhile_append_dropWhile (p := fun y => decide (lt2 y x)) (l := ys))
    rw [List.length_append] at this
    rw [List.length_append, List.length_cons]
    omega
theorem sort_l (xs : List Int) (hl : xs.length ≤ 1000000) : ∀ d i (acc : List Int), i + d = xs.length → acc.length ≤ i → Ev (fun k => horariumref27_Sort.l0 k xs acc (i : Int)) ((xs.drop i).foldl insL acc)
  | 0, i, acc, e, ha => by
    refine Ev.step (f := fun _ => some acc) (fun k => ?_) ?_
    · simp only [horariumref27_Sort.l0]
      rw [if_neg (by omega)]
    · refine ev_eq (Ev.now _) ?_
      rw [List.drop_of_length_le (by omega)]
      rfl
  | d + 1, i, acc, e, ha => by
    have hi : i < xs.length := by omega
    have ih := sort_l xs hl d (i + 1) (insL acc xs[i]) (by omega) (by have := ins_len (ys := acc) (x := xs[i]); omega)
    rw [drop_at hi, List.foldl_cons]
    have skip (h : xs[i] = 0 ∨ xs[i] ∈ acc) : Ev (fun k => horariumref27_Sort.j1 k xs acc (i : Int) true) ((xs.drop (i + 1)).foldl insL (insL acc xs[i])) := by
      refine Ev.step (f := fun k => horariumref27_Sort.l0 k xs acc ((i + 1 : Nat) : Int)) (fun k => ?_) ?_
      · simp only [horariumref27_Sort.j1]
        rw [if_pos trivial, up1 (by omega)]
      · have e1 : insL acc xs[i] = acc := by unfold insL; rw [if_pos h]
        rw [e1] at ih ⊢
        exact ih
    by_cases q : xs[i] = 0
    · refine Ev.step (f := fun k => horariumref27_Sort.j1 k xs acc (i : Int) true) (fun k => ?_) (skip (.inl q))
      simp only [horariumref27_Sort.l0]
      rw [if_pos (by omega), if_pos (by omega), rd_at hi, if_pos q]
    · refine Ev.step (f := fun k => (horariumref27_Has.f k acc xs[i]).bind fun t => horariumref27_Sort.j1 k xs acc (i : Int) t) (fun k => ?_) ?_
      · simp only [horariumref27_Sort.l0]
        rw [if_pos (by omega), if_pos (by omega), rd_at hi, if_neg q]
      · refine Ev.bind (f := fun k t => horariumref27_Sort.j1 k xs acc (i : Int) t) (has_ev acc xs[i] (by omega)) ?_
        by_cases m : xs[i] ∈ acc
        · rw [decide_eq_true m]
          exact skip (.inr m)
        · rw [decide_eq_false m]
          refine Ev.step (f := fun k => horariumref27_Sort.l1 k xs acc (i : Int) [] 0) (fun k => ?_) ?_
          · simp only [horariumref27_Sort.j1]
            rw [if_neg (by decide)]
          · refine ins_l xs acc i hi hl (by omega) acc.length 0 [] (by omega) (by simp) ?_
            have e1 : insL acc xs[i] = [] ++ (acc.drop 0).takeWhile (fun y => decide (lt2 y xs[i])) ++ xs[i] :: (acc.drop 0).dropWhile (fun y => decide (lt2 y xs[i])) := by
              unfold insL
              rw [if_neg (fun h => h.elim q m)]
              rfl
            rw [e1] at ih ⊢
            exact ih
theorem sort_ev (xs : List Int) (hl : xs.length ≤ 1000000) : Ev (fun k => horariumref27_Sort.f k xs) (litSort xs) := sort_l xs hl xs.length 0 [] (by omega) (by simp)
end Go.Proofs.Ythnjjonjhenifaa.PLearnFollows
