/- What the reference's unit propagation and Whys answer (of the printed set PLearnFollows). -/
import Derived.Test.YthnjjonjhenifaaPLearnFollowsRight
import Derived.Test.YthnjjonjhenifaaPLearnFollowsx6
import Derived.Test.YthnjjonjhenifaaPLearnFollowsx7
import Derived.Test.YthnjjonjhenifaaPLearnFollowsx8
namespace Go.Proofs.Ythnjjonjhenifaa.PLearnFollows
set_option linter.unusedVariables false
set_option linter.unusedSimpArgs false
open Go.RowKit Go.Proofs.YthnjjonjhenifaaW.PrintWords Go.Proofs.YthnjjonjhenifaaW.PrintLast Go.Proofs.YthnjjonjhenifaaW.PrintMore

def litB (x : Int) : Bool := decide (x ≠ 0) && decide (x ≠ MIN)
def litsP (c : List Int) : List Int := litSort (c.filter litB)
theorem litsP_mem {c : List Int} {x : Int} : x ∈ litsP c ↔ x ∈ c ∧ x ≠ 0 ∧ x ≠ MIN := by
  unfold litsP
  rw [sort_mem, List.mem_filter]
  unfold litB
  simp only [Bool.and_eq_true, decide_eq_true_eq]
  exact ⟨fun ⟨⟨h1, h2, h3⟩, _⟩ => ⟨h1, h2, h3⟩, fun ⟨h1, h2, h3⟩ => ⟨⟨h1, h2, h3⟩, h2⟩⟩
theorem litsP_len {c : List Int} : (litsP c).length ≤ c.length := Nat.le_trans (sort_len _) (List.length_filter_le _ _)
theorem lits30_l (xs : List Int) (hl : xs.length ≤ 1000000) : ∀ d i (acc : List Int), i + d = xs.length → acc.length ≤ i → Ev (fun k => horariumref30_Lits.l0 k xs acc (i : Int)) (litSort (acc ++ (xs.drop i).filter litB))
  | 0, i, acc, e, ha => by
    refine Ev.step (f := fun k => (horariumref27_Sort.f k acc).bind fun t => some t) (fun k => ?_) ?_
    · simp only [horariumref30_Lits.l0]
      rw [if_neg (by omega)]
    · rw [List.drop_of_length_le (by omega), List.filter_nil, List.append_nil]
      exact Ev.bind (f := fun k t => some t) (sort_ev acc (by omega)) (Ev.now _)
  | d + 1, i, acc, e, ha => by
    have hi : i < xs.length := by omega
    have e1 : (xs.drop i).filter litB = if litB xs[i] = true then xs[i] :: (xs.drop (i + 1)).filter litB else (xs.drop (i + 1)).filter litB := by rw [drop_at hi, List.filter_cons]
    rw [e1]
    by_cases q : xs[i] = 0
    · rw [if_neg (by unfold litB; simp [q])]
      refine Ev.step (fun k => ?_) (lits30_l xs hl d (i + 1) acc (by omega) (by omega))
      simp only [horariumref30_Lits.l0]
      rw [if_pos (by omega), if_pos (by omega), rd_at hi, if_pos q, up1 (by omega)]
    · by_cases q2 : xs[i] = MIN
      · rw [if_neg (by unfold litB; simp [q2])]
        refine Ev.step (fun k => ?_) (lits30_l xs hl d (i + 1) acc (by omega) (by omega))
        simp only [horariumref30_Lits.l0]
        rw [if_pos (by omega), if_pos (by omega), rd_at hi, if_neg q, if_pos (by exact q2), up1 (by omega)]
      · rw [if_pos (by unfold litB; simp [q, q2])]
        refine ev_eq (Ev.step (fun k => ?_) (lits30_l xs hl d (i + 1) (acc ++ [xs[i]]) (by omega) (by simp; omega))) ?_
        · simp only [horariumref30_Lits.l0]
          rw [if_pos (by omega), if_pos (by omega), rd_at hi, if_neg q, if_neg (by exact q2), if_pos (by omega), up1 (by omega)]
        · rw [List.append_assoc]
          rfl
theorem lits30_ev (xs : List Int) (hl : xs.length ≤ 1000000) : Ev (fun k => horariumref30_Lits.f k xs) (litsP xs) := lits30_l xs hl xs.length 0 [] (by omega) (by simp)
theorem both_l (l : List Int) (hl : l.length ≤ 1000000) : ∀ d i, i + d = l.length → ∃ b, Ev (fun k => horariumref30_Both.l0 k l (i : Int)) b
  | 0, i, e => ⟨false, Ev.step (f := fun _ => some false) (fun k => by
      simp only [horariumref30_Both.l0]
      rw [if_neg (by omega)]) (Ev.now _)⟩
  | d + 1, i, e => by
    have hi : i < l.length := by omega
    obtain ⟨b, hb⟩ := both_l l hl d (i + 1) (by omega)
    refine ⟨if decide (neg l[i] ∈ l) = true then true else b, Ev.step (f := fun k => (horariumref27_Has.f k l (neg l[i])).bind fun t => if t = true then some true else horariumref30_Both.l0 k l ((i + 1 : Nat) : Int)) (fun k => ?_) ?_⟩
    · simp only [horariumref30_Both.l0]
      rw [if_pos (by omega), if_pos (by omega), rd_at hi, up1 (by omega)]
      rfl
    · refine Ev.bind (f := fun k t => if t = true then some true else horariumref30_Both.l0 k l ((i + 1 : Nat) : Int)) (has_ev l (neg l[i]) hl) ?_
      by_cases q : decide (neg l[i] ∈ l) = true
      · rw [if_pos q]
        exact Ev.congr (f := fun _ => some true) (fun k => if_pos q) (Ev.now _)
      · rw [if_neg q]
        exact Ev.congr (fun k => if_neg q) hb
def falseP (l c : List Int) : Bool := c.all fun x => decide (neg x ∈ l)
theorem false30_l (l c : List Int) (hl : l.length ≤ 1000000) (hc : c.length ≤ 1000000) : ∀ d i, i + d = c.length → Ev (fun k => horariumref30_False.l0 k l c (i : Int)) (falseP l (c.drop i))
  | 0, i, e => by
    refine ev_eq (Ev.step (f := fun _ => some true) (fun k => ?_) (Ev.now _)) ?_
    · simp only [horariumref30_False.l0]
      rw [if_neg (by omega)]
    · rw [List.drop_of_length_le (by omega)]
      rfl
  | d + 1, i, e => by
    have hi : i < c.length := by omega
    have ih := false30_l l c hl hc d (i + 1) (by omega)
    rw [drop_at hi]
    show Ev _ (decide (neg c[i] ∈ l) && falseP l (c.drop (i + 1)))
    generalize falseP l (c.drop (i + 1)) = R at ih ⊢
    refine Ev.step (f := fun k => (horariumref27_Has.f k l (neg c[i])).bind fun t => if t = true then horariumref30_False.l0 k l c ((i + 1 : Nat) : Int) else some false) (fun k => ?_) ?_
    · simp only [horariumref30_False.l0]
      rw [if_pos (by omega), if_pos (by omega), rd_at hi, up1 (by omega)]
      rfl
    · refine Ev.bind (f := fun k t => if t = true then horariumref30_False.l0 k l c ((i + 1 : Nat) : Int) else some false) (has_ev l (neg c[i]) hl) ?_
      cases decide (neg c[i] ∈ l) with
      | true => exact Ev.congr (fun k => if_pos rfl) ih
      | false => exact Ev.congr (f := fun _ => some false) (fun k => if_neg (by decide)) (Ev.now _)
theorem false30_ev (l c : List Int) (hl : l.length ≤ 1000000) (hc : c.length ≤ 1000000) : Ev (fun k => horariumref30_False.f k l c) (falseP l c) := false30_l l c hl hc c.length 0 (by omega)
def undet (l c : List Int) (x : Int) : Bool := !decide (x ∈ l) && (!decide (neg x ∈ l) && falseP l (othersP c x))
def oneP (l c : List Int) : Int := (c.find? (undet l c)).getD 0
theorem oth_l {l c : List Int} {x R : Int} {i : Nat} (hc : c.length ≤ 1000000) (hi : i ≤ 1000000) : ∀ d j (acc : List Int), j + d = c.length → acc.length ≤ j →
    Ev (fun k => (horariumref30_False.f k l (acc ++ othersP (c.drop j) x)).bind fun t => if t = true then some x else horariumref30_one.l0 k l c ((i + 1 : Nat) : Int)) R → Ev (fun k => horariumref30_one.l1 k l c (i : Int) x acc (j : Int)) R
  | 0, j, acc, e, ha, h => by
    rw [List.drop_of_length_le (by omega)] at h
    refine Ev.step (fun k => ?_) h
    simp only [horariumref30_one.l1]
    rw [if_neg (by omega), up1 hi]
    simp [othersP]
  | d + 1, j, acc, e, ha, h => by
    have hj : j < c.length := by omega
    have e1 : othersP (c.drop j) x = if c[j] = x then othersP (c.drop (j + 1)) x else c[j] :: othersP (c.drop (j + 1)) x := by
      rw [drop_at hj]
      unfold othersP
      rw [List.filter_cons]
      by_cases q : c[j] = x
      · rw [if_pos q, if_neg (by simp [q])]
      · rw [if_neg q, if_pos (by simp [q])]
    rw [e1] at h
    by_cases q : c[j] = x
    · rw [if_pos q] at h
      refine Ev.step (fun k => ?_) (oth_l hc hi d (j + 1) acc (by omega) (by omega) h)
      simp only [horariumref30_one.l1]
      rw [if_pos (by omega), if_pos (by omega), rd_at hj, if_pos q, up1 (by omega)]
    · rw [if_neg q] at h
      refine Ev.step (fun k => ?_) (oth_l hc hi d (j + 1) (acc ++ [c[j]]) (by omega) (by simp; omega) (by rw [List.append_assoc]; exact h))
      simp only [horariumref30_one.l1]
      rw [if_pos (by omega), if_pos (by omega), rd_at hj, if_neg q, if_pos (by omega), up1 (by omega)]
theorem one_l (l c : List Int) (hl : l.length ≤ 1000000) (hc : c.length ≤ 1000000) : ∀ d i, i + d = c.length → Ev (fun k => horariumref30_one.l0 k l c (i : Int)) (((c.drop i).find? (undet l c)).getD 0)
  | 0, i, e => by
    refine ev_eq (Ev.step (f := fun _ => some 0) (fun k => ?_) (Ev.now _)) ?_
    · simp only [horariumref30_one.l0]
      rw [if_neg (by omega)]
    · rw [List.drop_of_length_le (by omega)]
      rfl
  | d + 1, i, e => by
    have hi : i < c.length := by omega
    have ih := one_l l c hl hc d (i + 1) (by omega)
    have e1 : ((c.drop i).find? (undet l c)).getD 0 = if undet l c c[i] = true then c[i] else ((c.drop (i + 1)).find? (undet l c)).getD 0 := by
      rw [drop_at hi, List.find?_cons]
      cases undet l c c[i] <;> rfl
    rw [e1]
    generalize ((c.drop (i + 1)).find? (undet l c)).getD 0 = R at ih ⊢
    have skip : Ev (fun k => horariumref30_one.j1 k l c (i : Int) c[i] true) R := by
      refine Ev.step (fun k => ?_) ih
      simp only [horariumref30_one.j1]
      rw [if_pos trivial, up1 (by omega)]
    refine Ev.step (f := fun k => (horariumref27_Has.f k l c[i]).bind fun t => if t = true then horariumref30_one.j1 k l c (i : Int) c[i] true else (horariumref27_Has.f k l (neg c[i])).bind fun t2 => horariumref30_one.j1 k l c (i : Int) c[i] t2) (fun k => ?_) ?_
    · simp only [horariumref30_one.l0]
      rw [if_pos (by omega), if_pos (by omega), rd_at hi]
      rfl
    · refine Ev.bind (f := fun k t => if t = true then horariumref30_one.j1 k l c (i : Int) c[i] true else (horariumref27_Has.f k l (neg c[i])).bind fun t2 => horariumref30_one.j1 k l c (i : Int) c[i] t2) (has_ev l c[i] hl) ?_
      unfold undet
      by_cases m1 : c[i] ∈ l
      · rw [if_neg (by simp [m1])]
        exact Ev.congr (fun k => if_pos (by simpa using m1)) skip
      refine Ev.congr (f := fun k => (horariumref27_Has.f k l (neg c[i])).bind fun t2 => horariumref30_one.j1 k l c (i : Int) c[i] t2) (fun k => if_neg (by simpa using m1)) ?_
      refine Ev.bind (f := fun k t2 => horariumref30_one.j1 k l c (i : Int) c[i] t2) (has_ev l (neg c[i]) hl) ?_
      by_cases m2 : neg c[i] ∈ l
      · rw [if_neg (by simp [m2]), decide_eq_true m2]
        exact skip
      rw [decide_eq_false m1, decide_eq_false m2, Bool.not_false, Bool.true_and, Bool.true_and]
      refine Ev.step (f := fun k => horariumref30_one.l1 k l c (i : Int) c[i] [] 0) (fun k => ?_) ?_
      · simp only [horariumref30_one.j1]
        rw [if_neg (by decide)]
      · refine oth_l hc (by omega) c.length 0 [] (by omega) (by simp) ?_
        rw [List.nil_append, List.drop_zero]
        refine Ev.bind (f := fun k t => if t = true then some c[i] else horariumref30_one.l0 k l c ((i + 1 : Nat) : Int)) (false30_ev l _ hl (Nat.le_trans others_len hc)) ?_
        show Ev _ (if falseP l (othersP c c[i]) = true then c[i] else R)
        cases falseP l (othersP c c[i]) with
        | true => exact Ev.congr (f := fun _ => some c[i]) (fun k => if_pos rfl) (Ev.now _)
        | false => exact Ev.congr (fun k => if_neg (by decide)) ih
theorem one_ev (l c : List Int) (hl : l.length ≤ 1000000) (hc : c.length ≤ 1000000) : Ev (fun k => horariumref30_one.f k l c) (oneP l c) := one_l l c hl hc c.length 0 (by omega)
theorem one_new {l c : List Int} (h : oneP l c ≠ 0) : oneP l c ∈ c ∧ oneP l c ∉ l := by
  unfold oneP at *
  cases hf : c.find? (undet l c) with
  | none => rw [hf] at h; exact absurd rfl h
  | some x =>
    refine ⟨List.mem_of_find?_eq_some hf, ?_⟩
    have := List.find?_some hf
    unfold undet at this
    simp only [Bool.and_eq_true, Bool.not_eq_true', decide_eq_false_iff_not] at this
    exact this.1

/-- No clause is false, and none has one literal left. -/
def Shut (cls : List (List Int)) (out : List Int) : Prop := ∀ c ∈ cls, falseP out (litsP c) = false ∧ oneP out (litsP c) = 0
def Good (cls : List (List Int)) (out : List Int) (res : List Int × Bool) : Prop := res.2 = true ∨ ∃ o, (∀ x ∈ out, x ∈ o) ∧ Shut cls o
theorem rdl {cls : List (List Int)} {i : Nat} (h : i < cls.length) : rd_L1 cls (i : Int) = cls[i] := by
  unfold rd_L1
  rw [Int.toNat_natCast, List.getD_eq_getElem?_getD, List.getElem?_eq_getElem h]
  rfl
section
variable {cls : List (List Int)} {U : List Int}
theorem pass_l (hU : U.length ≤ 1000000) (hn : cls.length ≤ 1000) (hlen : ∀ c ∈ cls, c.length ≤ 1000) (hmem : ∀ c ∈ cls, ∀ x ∈ litsP c, x ∈ U) (out : List Int)
    (IH : ∀ o : List Int, o.Nodup → (∀ x ∈ o, x ∈ U) → out.length < o.length → ∃ res, Ev (fun k => horariumref30_Close.l0 k cls o true) res ∧ Good cls o res) :
    ∀ d i (o : List Int) (more : Bool), i + d = cls.length → o.Nodup → (∀ x ∈ o, x ∈ U) → (∀ x ∈ out, x ∈ o) → (more = true → out.length < o.length) → (more = false → o = out ∧ ∀ j (h : j < cls.length), j < i → falseP out (litsP cls[j]) = false ∧ oneP out (litsP cls[j]) = 0) →
    ∃ res, Ev (fun k => horariumref30_Close.l1 k cls o more (i : Int)) res ∧ Good cls out res
  | 0, i, o, more, e, hnd, hoU, hsub, h1, h0 => by
    have hstep : ∀ k, horariumref30_Close.l1 (k + 1) cls o more (i : Int) = horariumref30_Close.l0 k cls o more := fun k => by
      simp only [horariumref30_Close.l1]
      rw [if_neg (by omega)]
    cases more with
    | true =>
      obtain ⟨res, hr, hg⟩ := IH o hnd hoU (h1 rfl)
      refine ⟨res, Ev.step hstep hr, ?_⟩
      rcases hg with hg | ⟨o2, h2, h3⟩
      · exact .inl hg
      · exact .inr ⟨o2, fun x hx => h2 x (hsub x hx), h3⟩
    | false =>
      obtain ⟨rfl, hsh⟩ := h0 rfl
      have hol := nodup_le hnd hoU
      refine ⟨(litSort o, false), Ev.step hstep (Ev.step (f := fun k => (horariumref27_Sort.f k o).bind fun t => some (t, false)) (fun k => ?_) (Ev.bind (f := fun k t => some (t, false)) (sort_ev o (by omega)) (Ev.now _))), .inr ⟨o, fun x hx => hx, fun c hc => ?_⟩⟩
      · simp only [horariumref30_Close.l0]
        rw [if_neg (by decide)]
      · obtain ⟨j, hj, rfl⟩ := List.mem_iff_getElem.1 hc
        exact hsh j hj (by omega)
  | d + 1, i, o, more, e, hnd, hoU, hsub, h1, h0 => by
    have hi : i < cls.length := by omega
    have hc := List.getElem_mem hi
    have hol := nodup_le hnd hoU
    have hcl := hlen _ hc
    have hll := litsP_len (c := cls[i])
    have base : ∀ {res : List Int × Bool}, Ev (fun k => if falseP o (litsP cls[i]) = true then some (([] : List Int), true) else (horariumref30_one.f k o (litsP cls[i])).bind fun t2 => if t2 = 0 then horariumref30_Close.l1 k cls o more ((i + 1 : Nat) : Int) else horariumref30_Close.l1 k cls (o ++ [t2]) true ((i + 1 : Nat) : Int)) res → Ev (fun k => horariumref30_Close.l1 k cls o more (i : Int)) res := fun {res} h => by
      refine Ev.step (f := fun k => (horariumref30_Lits.f k cls[i]).bind fun t => (horariumref30_False.f k o t).bind fun t1 => if t1 = true then some (([] : List Int), true) else (horariumref30_one.f k o t).bind fun t2 => if t2 = 0 then horariumref30_Close.l1 k cls o more ((i + 1 : Nat) : Int) else horariumref30_Close.l1 k cls (o ++ [t2]) true ((i + 1 : Nat) : Int)) (fun k => ?_) ?_
      · simp only [horariumref30_Close.l1]
        rw [if_pos (by omega), if_pos (by omega), rdl hi, up1 (by omega)]
        simp only [if_pos (show o.length < 17592186044416 by omega)]
      · refine Ev.bind (f := fun k t => (horariumref30_False.f k o t).bind fun t1 => if t1 = true then some (([] : List Int), true) else (horariumref30_one.f k o t).bind fun t2 => if t2 = 0 then horariumref30_Close.l1 k cls o more ((i + 1 : Nat) : Int) else horariumref30_Close.l1 k cls (o ++ [t2]) true ((i + 1 : Nat) : Int)) (lits30_ev _ (by omega)) ?_
        exact Ev.bind (f := fun k t1 => if t1 = true then some (([] : List Int), true) else (horariumref30_one.f k o (litsP cls[i])).bind fun t2 => if t2 = 0 then horariumref30_Close.l1 k cls o more ((i + 1 : Nat) : Int) else horariumref30_Close.l1 k cls (o ++ [t2]) true ((i + 1 : Nat) : Int)) (false30_ev o _ (by omega) (by omega)) h
    cases hf : falseP o (litsP cls[i]) with
    | true =>
      refine ⟨([], true), base ?_, .inl rfl⟩
      rw [hf]
      exact Ev.congr (f := fun _ => some ([], true)) (fun k => if_pos rfl) (Ev.now _)
    | false =>
      rw [hf] at base
      have hone := one_ev o (litsP cls[i]) (by omega) (by omega)
      by_cases q : oneP o (litsP cls[i]) = 0
      · obtain ⟨res, hr, hg⟩ := pass_l hU hn hlen hmem out IH d (i + 1) o more (by omega) hnd hoU hsub h1 (fun hm => by
          obtain ⟨rfl, hsh⟩ := h0 hm
          refine ⟨rfl, fun j hj hji => ?_⟩
          by_cases hji2 : j = i
          · subst hji2; exact ⟨hf, q⟩
          · exact hsh j hj (by omega))
        refine ⟨res, base ?_, hg⟩
        refine Ev.congr (f := fun k => (horariumref30_one.f k o (litsP cls[i])).bind fun t2 => if t2 = 0 then horariumref30_Close.l1 k cls o more ((i + 1 : Nat) : Int) else horariumref30_Close.l1 k cls (o ++ [t2]) true ((i + 1 : Nat) : Int)) (fun k => if_neg (by decide)) ?_
        exact Ev.bind (f := fun k t2 => if t2 = 0 then horariumref30_Close.l1 k cls o more ((i + 1 : Nat) : Int) else horariumref30_Close.l1 k cls (o ++ [t2]) true ((i + 1 : Nat) : Int)) hone (Ev.congr (fun k => if_pos q) hr)
      · obtain ⟨hin, hnew⟩ := one_new q
        have hle : out.length ≤ o.length := by
          cases more with
          | true => exact Nat.le_of_lt (h1 rfl)
          | false => rw [(h0 rfl).1]; exact Nat.le_refl _
        obtain ⟨res, hr, hg⟩ := pass_l hU hn hlen hmem out IH d (i + 1) (o ++ [oneP o (litsP cls[i])]) true (by omega) (by
            rw [List.nodup_append]
            refine ⟨hnd, by simp, fun a ha b hb => ?_⟩
            rw [List.mem_singleton.1 hb]
            exact fun e => hnew (e ▸ ha)) (fun x hx => by
            rcases List.mem_append.1 hx with hx | hx
            · exact hoU x hx
            · rw [List.mem_singleton.1 hx]; exact hmem _ hc _ hin) (fun x hx => List.mem_append_left _ (hsub x hx)) (fun _ => by rw [List.length_append]; simp; omega) (fun h => by cases h)
        refine ⟨res, base ?_, hg⟩
        refine Ev.congr (f := fun k => (horariumref30_one.f k o (litsP cls[i])).bind fun t2 => if t2 = 0 then horariumref30_Close.l1 k cls o more ((i + 1 : Nat) : Int) else horariumref30_Close.l1 k cls (o ++ [t2]) true ((i + 1 : Nat) : Int)) (fun k => if_neg (by decide)) ?_
        exact Ev.bind (f := fun k t2 => if t2 = 0 then horariumref30_Close.l1 k cls o more ((i + 1 : Nat) : Int) else horariumref30_Close.l1 k cls (o ++ [t2]) true ((i + 1 : Nat) : Int)) hone (Ev.congr (fun k => if_neg q) hr)
theorem close_l (hU : U.length ≤ 1000000) (hn : cls.length ≤ 1000) (hlen : ∀ c ∈ cls, c.length ≤ 1000) (hmem : ∀ c ∈ cls, ∀ x ∈ litsP c, x ∈ U) : ∀ (m : Nat) (out : List Int), out.Nodup → (∀ x ∈ out, x ∈ U) → U.length - out.length = m → ∃ res, Ev (fun k => horariumref30_Close.l0 k cls out true) res ∧ Good cls out res := by
  intro m
  induction m using Nat.strongRecOn with
  | _ m ih =>
    intro out hnd hoU hm
    obtain ⟨res, hr, hg⟩ := pass_l hU hn hlen hmem out (fun o h1 h2 h3 => ih (U.length - o.length) (by have := nodup_le h1 h2; omega) o h1 h2 rfl) cls.length 0 out false (by omega) hnd hoU (fun x hx => hx) (fun h => by cases h) (fun _ => ⟨rfl, fun j _ h => by omega⟩)
    refine ⟨res, Ev.step (fun k => ?_) hr, hg⟩
    simp only [horariumref30_Close.l0]
    rw [if_pos trivial]
    rfl
theorem close_ev (hn : cls.length ≤ 100) (hlen : ∀ c ∈ cls, c.length ≤ 1000) {l : List Int} (hl : l.length ≤ 1000) : ∃ res, Ev (fun k => horariumref30_Close.f k cls l) res ∧ Good cls (litsP l) res := by
  have hll := litsP_len (c := l)
  have hf : ((cls.map litsP).flatten).length ≤ (cls.map litsP).length * 1000 := flatten_le (fun r hr => by
    obtain ⟨c, hc, rfl⟩ := List.mem_map.1 hr
    exact Nat.le_trans litsP_len (hlen c hc))
  rw [List.length_map] at hf
  have hf2 : cls.length * 1000 ≤ 100 * 1000 := Nat.mul_le_mul_right _ hn
  obtain ⟨res, hr, hg⟩ := close_l (cls := cls) (U := litsP l ++ (cls.map litsP).flatten) (by rw [List.length_append]; omega) (by omega) hlen (fun c hc x hx => List.mem_append_right _ (List.mem_flatten.2 ⟨litsP c, List.mem_map.2 ⟨c, hc, rfl⟩, hx⟩)) _ (litsP l) (asc_nodup (sort_asc _)) (fun x hx => List.mem_append_left _ hx) rfl
  obtain ⟨b, hb⟩ := both_l (litsP l) (by omega) (litsP l).length 0 (by omega)
  cases b with
  | true =>
    refine ⟨([], true), Ev.congr (f := fun k => (horariumref30_Lits.f k l).bind fun t => (horariumref30_Both.f k t).bind fun t2 => if t2 = true then some (([] : List Int), true) else horariumref30_Close.l0 k cls t true) (fun k => rfl) ?_, .inl rfl⟩
    refine Ev.bind (f := fun k t => (horariumref30_Both.f k t).bind fun t2 => if t2 = true then some (([] : List Int), true) else horariumref30_Close.l0 k cls t true) (lits30_ev l (by omega)) ?_
    exact Ev.bind (f := fun k t2 => if t2 = true then some (([] : List Int), true) else horariumref30_Close.l0 k cls (litsP l) true) hb (Ev.congr (f := fun _ => some ([], true)) (fun k => if_pos rfl) (Ev.now _))
  | false =>
    refine ⟨res, Ev.congr (f := fun k => (horariumref30_Lits.f k l).bind fun t => (horariumref30_Both.f k t).bind fun t2 => if t2 = true then some (([] : List Int), true) else horariumref30_Close.l0 k cls t true) (fun k => rfl) ?_, hg⟩
    refine Ev.bind (f := fun k t => (horariumref30_Both.f k t).bind fun t2 => if t2 = true then some (([] : List Int), true) else horariumref30_Close.l0 k cls t true) (lits30_ev l (by omega)) ?_
    exact Ev.bind (f := fun k t2 => if t2 = true then some (([] : List Int), true) else horariumref30_Close.l0 k cls (litsP l) true) hb (Ev.congr (fun k => if_neg (by decide)) hr)
theorem turn_l (xs : List Int) (hl : xs.length ≤ 1000000) : ∀ d i (acc : List Int), i + d = xs.length → acc.length ≤ i → Ev (fun k => horariumref30_Turn.l0 k xs acc (i : Int)) (acc ++ (xs.drop i).map neg)
  | 0, i, acc, e, ha => by
    refine ev_eq (Ev.step (f := fun _ => some acc) (fun k => ?_) (Ev.now _)) ?_
    · simp only [horariumref30_Turn.l0]
      rw [if_neg (by omega)]
    · rw [List.drop_of_length_le (by omega)]
      simp
  | d + 1, i, acc, e, ha => by
    have hi : i < xs.length := by omega
    refine ev_eq (Ev.step (f := fun k => horariumref30_Turn.l0 k xs (acc ++ [neg xs[i]]) ((i + 1 : Nat) : Int)) (fun k => ?_) (turn_l xs hl d (i + 1) (acc ++ [neg xs[i]]) (by omega) (by simp; omega))) ?_
    · simp only [horariumref30_Turn.l0]
      rw [if_pos (by omega), if_pos (by omega), if_pos (by omega), rd_at hi, up1 (by omega)]
      rfl
    · rw [drop_at hi]
      generalize xs.drop (i + 1) = r
      simp
/-- A clause follows, where no shut set of literals holds all of it turned. -/
theorem follows_ev (hn : cls.length ≤ 100) (hlen : ∀ c ∈ cls, c.length ≤ 1000) {c : List Int} (hc : c.length ≤ 1000) (hr : ∀ x ∈ c, R64 x) (h : ∀ o, (∀ x ∈ c, x ≠ 0 → x ≠ MIN → neg x ∈ o) → Shut cls o → False) : Ev (fun k => horariumref30_Follows.f k cls c) true := by
  have hll := litsP_len (c := c)
  obtain ⟨res, he, hg⟩ := close_ev hn hlen (l := (litsP c).map neg) (by rw [List.length_map]; omega)
  have hres : res.2 = true := by
    rcases hg with hg | ⟨o, h1, h2⟩
    · exact hg
    · refine absurd h2 (fun h2 => h o (fun x hx h0 hm => h1 _ ?_) h2)
      refine litsP_mem.2 ⟨List.mem_map.2 ⟨x, litsP_mem.2 ⟨hx, h0, hm⟩, rfl⟩, fun e => h0 ((neg_zero_iff (hr x hx)).1 e), fun e => hm ((neg_min_iff (hr x hx)).1 e)⟩
  refine Ev.congr (f := fun k => (horariumref30_Lits.f k c).bind fun t => (horariumref30_Turn.f k t).bind fun t2 => (horariumref30_Close.f k cls t2).bind fun bt => some bt.2) (fun k => rfl) ?_
  refine Ev.bind (f := fun k t => (horariumref30_Turn.f k t).bind fun t2 => (horariumref30_Close.f k cls t2).bind fun bt => some bt.2) (lits30_ev c (by omega)) ?_
  refine Ev.bind (f := fun k t2 => (horariumref30_Close.f k cls t2).bind fun bt => some bt.2) (turn_l (litsP c) (by omega) (litsP c).length 0 [] (by omega) (by simp)) ?_
  rw [← hres]
  exact Ev.bind (f := fun k bt => some bt.2) he (Ev.now _)
end
end Go.Proofs.Ythnjjonjhenifaa.PLearnFollows
