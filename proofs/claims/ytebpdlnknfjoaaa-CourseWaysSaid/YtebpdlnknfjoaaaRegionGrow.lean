/- A region that draws its order, whose operations only lay new memory: whatever the order, each operation yields what its own statement says, if that stands when memory is laid. -/
import Derived.Orders
import Derived.Test.YtebpdlnknfjoaaaMem
namespace Go.Proofs.Ytebpdlnknfjoaaa
set_option linter.unusedVariables false
set_option linter.unusedSimpArgs false
open Go.RowKit

/-- One operation by itself: it yields a value, and leaves a world, of this kind. -/
def StepTo (P : Program) (ops : Array Oper) (o : Oper) (a : Act) (w : World) (Post : Value → World → Prop) : Prop :=
  wpList P ops (fun ex a' w' => ex = .normal ∧ ∃ v, a' = a.put o.dst v ∧ Post v w') [o] a w
/-- .. and the world grows. -/
def StepAt (P : Program) (ops : Array Oper) (o : Oper) (a : Act) (w : World) (Rv : Value → World → Prop) : Prop := StepTo P ops o a w fun v w' => Rv v w' ∧ Below w.heap.size w w'

theorem upon_imp {P : Program} {o : Oper} {a : Act} {w : World} {K K' : Act → World → Prop} {F Q : Exit → Act → World → Prop} (hF : ∀ ex a w, ex ≠ .normal → ¬ F ex a w) (h : ∀ a w, K a w → K' a w) (hh : o.wp P a w K F) : o.wp P a w K' Q := by
  unfold Oper.wp at *
  generalize (execOp a.eval o).run P w = r at *
  cases r with
  | ok n w' =>
    cases n <;> simp only [Oper.upon] at hh ⊢ <;>
      first
        | exact h _ _ hh
        | exact Calls.mono hh (fun e w'' he => by
            cases e <;> first
              | exact h _ _ he
              | exact absurd he (hF _ _ _ (by intro e; cases e))
              | exact (let ⟨_, _, he⟩ := he; absurd he (hF _ _ _ (by intro e; cases e))))
        | exact Rows.mono hh (fun _ _ he => h _ _ he)
  | halt x w' =>
    cases x <;> simp only [Oper.upon] at hh ⊢ <;> first | exact absurd hh (hF _ _ _ (by intro e; cases e)) | exact hh

section
variable {P : Program} {ops : Array Oper} {o : Oper} {a : Act} {w w' : World} {Post : Value → World → Prop} {v : Value}
theorem step_run (hw : Region.wanted o (yielded ops a.tmps) = true) (h : (execOp a.eval o).run P w = .ok (.value v) w') (hp : Post v w') : StepTo P ops o a w Post := by
  unfold StepTo
  simp only [wpList]
  rw [if_pos hw]
  refine .inl ?_
  unfold Oper.wp
  rw [h]
  first | exact ⟨rfl, v, rfl, hp⟩ | exact ⟨trivial, v, rfl, hp⟩
theorem step_unit (hw : Region.wanted o (yielded ops a.tmps) = true) (h : (execOp a.eval o).run P w = .ok .skip w') (hp : Post undef w') : StepTo P ops o a w Post := by
  unfold StepTo
  simp only [wpList]
  rw [if_pos hw]
  refine .inl ?_
  unfold Oper.wp
  rw [h]
  first | exact ⟨rfl, _, rfl, hp⟩ | exact ⟨trivial, _, rfl, hp⟩
theorem step_call {f : FuncId} {args : Array Value} (hw : Region.wanted o (yielded ops a.tmps) = true) (h : (execOp a.eval o).run P w = .ok (.enter f args) w) (hc : Calls P f args w fun e w' => ∃ v, e = .returned v ∧ Post v w') : StepTo P ops o a w Post := by
  unfold StepTo
  simp only [wpList]
  rw [if_pos hw]
  refine .inl ?_
  unfold Oper.wp
  rw [h]
  refine hc.mono ?_
  rintro e w' ⟨v, rfl, hp⟩
  first | exact ⟨rfl, v, rfl, hp⟩ | exact ⟨trivial, v, rfl, hp⟩
theorem step_skip (hw : Region.wanted o (yielded ops a.tmps) = false) (hp : Post undef w) : StepTo P ops o a w Post := by
  unfold StepTo
  simp only [wpList]
  rw [if_neg (by rw [hw]; decide)]
  first | exact ⟨rfl, _, rfl, hp⟩ | exact ⟨trivial, _, rfl, hp⟩
theorem wanted_none (h : o.guard = none) : Region.wanted o (yielded ops a.tmps) = true := by simp [Region.wanted, h]
theorem getD_bool {xs : Array Value} {d : Nat} {b : Bool} (h : xs.getD d undef = .bool b) : xs[d]? = some (.bool b) := by
  rw [Array.getD_eq_getD_getElem?] at h
  cases hx : xs[d]? with
  | none => rw [hx] at h; cases h
  | some u => rw [hx] at h; exact congrArg some h
theorem wanted_some {j d : Nat} {b b' : Bool} (h : o.guard = some (j, b)) (hd : (ops[j]?).bind (·.dst) = some d) (hv : a.tmps.getD d undef = .bool b') : Region.wanted o (yielded ops a.tmps) = (b' == b) := by
  have := getD_bool hv
  simp [Region.wanted, h, yielded, hd, this]
theorem wanted_true {j d : Nat} {b : Bool} (h : o.guard = some (j, b)) (hd : (ops[j]?).bind (·.dst) = some d) (hv : a.tmps.getD d undef = .bool b) : Region.wanted o (yielded ops a.tmps) = true := by rw [wanted_some h hd hv]; simp
theorem wanted_false {j d : Nat} {b b' : Bool} (h : o.guard = some (j, b)) (hd : (ops[j]?).bind (·.dst) = some d) (hv : a.tmps.getD d undef = .bool b') (hne : b' ≠ b) : Region.wanted o (yielded ops a.tmps) = false := by rw [wanted_some h hd hv]; simpa using hne
end

/-- Each operation of a list, with its place. -/
def eachOp (G : Nat → Oper → Prop) : Nat → List Oper → Prop
  | _, [] => True
  | i, o :: os => G i o ∧ eachOp G (i + 1) os
theorem each_spec {G : Nat → Oper → Prop} : ∀ {l : List Oper} {k : Nat}, eachOp G k l → ∀ i o, l[i]? = some o → G (k + i) o := by
  intro l
  induction l with
  | nil => intro k _ i o h; simp at h
  | cons x l ih =>
    intro k h i o hi
    cases i with
    | zero => simp at hi; subst hi; exact h.1
    | succ i =>
      have := ih h.2 i o (by simpa using hi)
      rwa [show k + 1 + i = k + (i + 1) by omega] at this
theorem each_op {G : Nat → Oper → Prop} {l : List Oper} (h : eachOp G 0 l) : ∀ i o, l[i]? = some o → G i o := fun i o hi => by simpa using each_spec h i o hi

theorem wpList_imp {P : Program} {ops : Array Oper} {o : Oper} {a : Act} {w : World} {F Q : Exit → Act → World → Prop} (hN : ∀ a w, F .normal a w → Q .normal a w) (hF : ∀ ex, ex ≠ .normal → ∀ a w, F ex a w → Q ex a w) (hh : wpList P ops F [o] a w) : wpList P ops Q [o] a w := by
  have hall : ∀ ex a w, F ex a w → Q ex a w := fun ex a w h => by
    by_cases e : ex = .normal
    · subst e; exact hN a w h
    · exact hF ex e a w h
  simp only [wpList] at hh ⊢
  split
  · rename_i hw
    rw [if_pos hw] at hh
    rcases hh with hh | ⟨h1, a', w', h2⟩
    · refine .inl ?_
      unfold Oper.wp at *
      generalize (execOp a.eval o).run P w = r at *
      cases r with
      | ok n w' =>
        cases n <;> simp only [Oper.upon] at hh ⊢ <;>
          first
            | exact hN _ _ hh
            | exact Calls.mono hh (fun e w'' he => by
                cases e <;> first
                  | exact hN _ _ he
                  | exact hall _ _ _ he
                  | exact (let ⟨x, y, he⟩ := he; ⟨x, y, hall _ _ _ he⟩))
            | exact Rows.mono hh (fun _ _ he => hN _ _ he)
      | halt x w' =>
        cases x <;> simp only [Oper.upon] at hh ⊢ <;> first | exact hall _ _ _ hh | exact hh
    · exact .inr ⟨h1, a', w', hall _ _ _ h2⟩
  · rename_i hw
    rw [if_neg hw] at hh
    exact hN _ _ hh

theorem StepTo.wpOp {P : Program} {ops : Array Oper} {o : Oper} {a : Act} {w : World} {Post : Value → World → Prop} {i : Nat} {K : Act → World → Prop} {Q : Exit → Act → World → Prop} (h : StepTo P ops o a w Post) (hi : ops[i]? = some o) (hK : ∀ v w', Post v w' → K (a.put o.dst v) w') : wpOp P ops Q i K a w := by
  unfold StepTo at h
  unfold Go.wpOp
  simp only [hi]
  simp only [wpList] at h
  split
  · rename_i hw
    rw [if_pos hw] at h
    rcases h with h | ⟨_, _, _, h, _⟩
    · refine .inl (upon_imp (fun ex a w hne he => hne he.1) ?_ h)
      rintro a' w' ⟨_, v, rfl, h1⟩
      exact hK v w' h1
    · cases h
  · rename_i hw
    rw [if_neg hw] at h
    obtain ⟨_, v, e, h1⟩ := h
    rw [e]
    exact hK v w h1

def addOne (xs : List Nat) (j : Nat) : List Nat := if xs.contains j then xs else j :: xs
def waitsOf (acc : List (List Nat)) (o : Oper) : List Nat := (o.after.toList.filter (Region.binds .any)).foldl (fun xs e => (acc.getD e.on []).foldl addOne (addOne xs e.on)) []
def allWaits (ops : List Oper) : List (List Nat) := ops.foldl (fun acc o => acc ++ [waitsOf acc o]) []
/-- Does the i-th operation come behind the j-th, whatever the order? -/
def waitsB (ops : List Oper) (i j : Nat) : Bool := ((allWaits ops).getD i []).contains j
def dstOf (ops : List Oper) (j : Nat) : Option Tmp := (ops[j]?).bind (·.dst)
def dstsOf (ops : List Oper) : List Tmp := ops.filterMap (·.dst)
/-- What a region must be like: each operation waits for earlier ones alone; each slot is written once. -/
def orderOk (ops : List Oper) (W : List (List Nat)) (n : Nat) : Bool :=
  (List.range ops.length).all (fun i => ((ops[i]?).map fun o => (o.after.toList.all fun e => !Region.binds .any e || decide (e.on < i)) &&
    ((W.getD i []).all fun j => o.after.toList.any fun e => Region.binds .any e && (e.on == j || (W.getD e.on []).contains j)) && o.dst.all (fun d => decide (d < n))).getD false) &&
  decide (dstsOf ops).Nodup

/-- May the word of the j-th operation be leant on behind the i-th, if it was before? -/
def alive (W : List (List Nat)) (kill : Nat → Option Nat) (i j : Nat) : Prop := j ≠ i ∧ i ∉ W.getD j [] ∧ ∀ k, kill j = some k → k ≠ i ∧ k ∉ W.getD i []

/-- What is said of the k-th operation: of its value, or, if it has none, of the world alone. -/
def wordOf (l : List Oper) (R : Nat → Value → World → Prop) (k : Nat) (a : Act) (w : World) : Prop :=
  match dstOf l k with
  | some d => R k (a.tmps.getD d undef) w
  | none => ∃ v, R k v w
structure RegInv (P : Program) (l : List Oper) (W : List (List Nat)) (kill : Nat → Option Nat) (R : Nat → Value → World → Prop) (I : World → Prop) (kE : Nat) (E : World → Prop) (a0 : Act) (listed : Array Bool) (a : Act) (w : World) : Prop where
  size : listed.size = l.length
  inv : I w
  early : listed.getD kE false = false → E w
  tsize : a.tmps.size = a0.tmps.size
  defers : a.defers = a0.defers
  frame : ∀ t, (∀ j, dstOf l j = some t → listed.getD j false = false) → a.tmps.getD t undef = a0.tmps.getD t undef
  closed : ∀ k, listed.getD k false = true → ∀ j ∈ W.getD k [], listed.getD j false = true
  held : ∀ k, listed.getD k false = true → k < l.length → (∀ i, kill k = some i → listed.getD i false = false) → wordOf l R k a w

theorem getD_set_self {xs : Array Bool} {i : Nat} (h : i < xs.size) (b d : Bool) : (xs.setIfInBounds i b).getD i d = b := by
  simp [Array.getD_eq_getD_getElem?, Array.getElem?_setIfInBounds, h]
theorem getD_set_other {xs : Array Bool} {i j : Nat} (h : i ≠ j) (b d : Bool) : (xs.setIfInBounds i b).getD j d = xs.getD j d := by
  simp [Array.getD_eq_getD_getElem?, Array.getElem?_setIfInBounds_ne h]
theorem getD_none (m j : Nat) : (Array.replicate m false).getD j false = false := by
  rcases Nat.lt_or_ge j m with h | h
  · simp [h]
  · simp [h]
theorem getD_bools {xs : Array Bool} {i : Nat} (h : i < xs.size) : xs.getD i true = xs.getD i false := by
  simp [Array.getD_eq_getD_getElem?, h]

section
variable {P : Program} {l : List Oper} {W : List (List Nat)} {kill : Nat → Option Nat} {R : Nat → Value → World → Prop} {I : World → Prop} {kE : Nat} {E : World → Prop} {a0 : Act} {n : Nat}

theorem order_at (h : orderOk l W n = true) {i : Nat} {o : Oper} (hi : l[i]? = some o) : (∀ e ∈ o.after, Region.binds .any e = true → e.on < i) ∧ (∀ j ∈ W.getD i [], ∃ e ∈ o.after, Region.binds .any e = true ∧ (e.on = j ∨ j ∈ W.getD e.on [])) ∧ (∀ d, o.dst = some d → d < n) := by
  unfold orderOk at h
  rw [Bool.and_eq_true] at h
  have hil : i < l.length := (List.getElem?_eq_some_iff.1 hi).1
  have h1 := List.all_eq_true.1 h.1 i (List.mem_range.2 hil)
  simp only [hi, Option.map_some, Option.getD_some, Bool.and_eq_true] at h1
  obtain ⟨⟨h1, h2⟩, h3⟩ := h1
  refine ⟨fun e he hb => ?_, fun j hj => ?_, fun d hd => ?_⟩
  · have := List.all_eq_true.1 h1 e (by simpa using he)
    rw [hb] at this
    simpa using this
  · have := List.all_eq_true.1 h2 j hj
    obtain ⟨e, he, hb⟩ := List.any_eq_true.1 this
    simp only [Bool.and_eq_true, Bool.or_eq_true, beq_iff_eq, List.contains_iff_mem] at hb
    exact ⟨e, by simpa using he, hb.1, hb.2⟩
  · rw [hd] at h3
    simpa using h3
theorem order_nodup (h : orderOk l W n = true) : (dstsOf l).Nodup := by
  unfold orderOk at h
  rw [Bool.and_eq_true, decide_eq_true_eq] at h
  exact h.2
theorem dst_mem {i : Nat} {d : Tmp} (h : dstOf l i = some d) : d ∈ dstsOf l := by
  unfold dstOf at h
  cases hi : l[i]? with
  | none => rw [hi] at h; cases h
  | some o => rw [hi] at h; exact List.mem_filterMap.2 ⟨o, List.mem_of_getElem? hi, h⟩
theorem dst_inj : ∀ {l : List Oper}, (dstsOf l).Nodup → ∀ {i j : Nat} {d : Tmp}, dstOf l i = some d → dstOf l j = some d → i = j := by
  intro l
  induction l with
  | nil => intro _ i j d h; simp [dstOf] at h
  | cons o l ih =>
    intro hn i j d hi hj
    have tail : ∀ k, dstOf (o :: l) (k + 1) = dstOf l k := fun k => by simp [dstOf]
    have hn' : (dstsOf l).Nodup := by
      unfold dstsOf at hn ⊢
      rw [List.filterMap_cons] at hn
      split at hn
      · exact hn
      · exact (List.nodup_cons.1 hn).2
    have key : ∀ k, dstOf (o :: l) 0 = some d → dstOf l k = some d → False := by
      intro k h0 hk
      have ho : o.dst = some d := by simpa [dstOf] using h0
      unfold dstsOf at hn
      rw [List.filterMap_cons, ho] at hn
      exact (List.nodup_cons.1 hn).1 (dst_mem hk)
    cases i with
    | zero =>
      cases j with
      | zero => rfl
      | succ j => rw [tail] at hj; exact (key j hi hj).elim
    | succ i =>
      cases j with
      | zero => rw [tail] at hi; exact (key i hj hi).elim
      | succ j => rw [tail] at hi hj; rw [ih hn' hi hj]

theorem put_get_self {a : Act} {d : Tmp} {v : Value} (h : d < a.tmps.size) : (a.put (some d) v).tmps.getD d undef = v := by
  simp [Act.put, Array.getD_eq_getD_getElem?, Array.getElem?_setIfInBounds, h]
theorem put_get_other {a : Act} {dst : Option Tmp} {d : Tmp} {v : Value} (h : dst ≠ some d) : (a.put dst v).tmps.getD d undef = a.tmps.getD d undef := by
  cases dst with
  | none => rfl
  | some t =>
    have : t ≠ d := fun e => h (by rw [e])
    simp [Act.put, Array.getD_eq_getD_getElem?, Array.getElem?_setIfInBounds_ne this]
theorem put_size {a : Act} {dst : Option Tmp} {v : Value} : (a.put dst v).tmps.size = a.tmps.size := by
  cases dst <;> simp [Act.put]
theorem put_defers {a : Act} {dst : Option Tmp} {v : Value} : (a.put dst v).defers = a.defers := by
  cases dst <;> rfl

theorem RegInv.step {listed : Array Bool} {a : Act} {w w' : World} {i : Nat} {o : Oper} {v : Value} (hB : orderOk l W a0.tmps.size = true) (inv : RegInv P l W kill R I kE E a0 listed a w) (hi : l[i]? = some o) (hr : i ∈ Region.ready .any l.toArray listed)
    (hv : R i v w') (hb : I w') (hkeepE : i ≠ kE → kE ∉ W.getD i [] → E w → E w') (hkeep : ∀ j u, alive W kill i j → R j u w → R j u w') : RegInv P l W kill R I kE E a0 (listed.setIfInBounds i true) (a.put o.dst v) w' := by
  have hil : i < listed.size := by rw [inv.size]; exact (List.getElem?_eq_some_iff.1 hi).1
  obtain ⟨h1, h2, h3⟩ := order_at hB hi
  obtain ⟨hun, oi, hoi, hall⟩ := mem_ready.1 hr
  obtain rfl : oi = o := by
    have : l.toArray[i]? = some o := by simp [hi]
    rw [this] at hoi
    exact (Option.some.inj hoi).symm
  have hdone : ∀ m ∈ W.getD i [], listed.getD m false = true := fun m hmi => by
    obtain ⟨e, he, hbind, hje⟩ := h2 m hmi
    have hel := hall e he hbind
    rcases hje with rfl | hje
    · exact hel
    · exact inv.closed _ hel m hje
  refine ⟨by simp [inv.size], hb, fun hkE => ?_, by rw [put_size, inv.tsize], by rw [put_defers, inv.defers], fun t ht => ?_, fun k hk j hj => ?_, fun k hk hkl hkill => ?_⟩
  · have hne : i ≠ kE := fun e => by subst e; rw [getD_set_self hil] at hkE; cases hkE
    rw [getD_set_other hne] at hkE
    exact hkeepE hne (fun hm => by rw [hdone _ hm] at hkE; cases hkE) (inv.early hkE)
  · rw [put_get_other (fun e => by
      have := ht i (by simp [dstOf, hi, e])
      rw [getD_set_self hil] at this
      cases this)]
    exact inv.frame t (fun j hj => by
      have := ht j hj
      by_cases hij : i = j
      · subst hij; rw [getD_set_self hil] at this; cases this
      · rwa [getD_set_other hij] at this)
  · by_cases hki : i = k
    · subst hki
      obtain ⟨e, he, hbind, hj⟩ := h2 j hj
      have hel := hall e he hbind
      have hjl : listed.getD j false = true := by
        rcases hj with rfl | hj
        · exact hel
        · exact inv.closed _ hel j hj
      by_cases hij : i = j
      · subst hij; exact getD_set_self hil _ _
      · rw [getD_set_other hij]; exact hjl
    · rw [getD_set_other hki] at hk
      have := inv.closed k hk j hj
      by_cases hij : i = j
      · subst hij; exact getD_set_self hil _ _
      · rw [getD_set_other hij]; exact this
  · by_cases hki : i = k
    · subst hki
      unfold wordOf
      have hd : dstOf l i = oi.dst := by simp [dstOf, hi]
      rw [hd]
      cases hod : oi.dst with
      | none => exact ⟨v, hv⟩
      | some d =>
        show R i _ w'
        rw [put_get_self (by rw [inv.tsize]; exact h3 d hod)]
        exact hv
    · rw [getD_set_other hki] at hk
      have hne : ∀ m, kill k = some m → m ≠ i := fun m hm e => by
        subst e
        have := hkill _ hm
        rw [getD_set_self hil] at this
        cases this
      have hml : ∀ m, kill k = some m → listed.getD m false = false := fun m hm => by
        have := hkill m hm
        rwa [getD_set_other (fun e => hne m hm e.symm)] at this
      have hal : alive W kill i k := by
        refine ⟨fun e => hki e.symm, fun hik => ?_, fun m hm => ⟨hne m hm, fun hmi => ?_⟩⟩
        · have := inv.closed k hk i hik
          rw [getD_bools hil, this] at hun
          cases hun
        · obtain ⟨e, he, hbind, hje⟩ := h2 m hmi
          have hel := hall e he hbind
          have hm2 := hml m hm
          rcases hje with rfl | hje
          · rw [hel] at hm2; cases hm2
          · rw [inv.closed _ hel m hje] at hm2; cases hm2
      have hold := inv.held k hk hkl hml
      unfold wordOf at hold ⊢
      cases hd : dstOf l k with
      | none =>
        rw [hd] at hold
        obtain ⟨u, hu⟩ := hold
        exact ⟨u, hkeep k u hal hu⟩
      | some d =>
        rw [hd] at hold
        show R k _ w'
        rw [put_get_other (fun e => hki (dst_inj (order_nodup hB) (i := i) (j := k) (d := d) (by simp [dstOf, hi, e]) hd))]
        exact hkeep k _ hal hold

theorem all_listed {listed : Array Bool} (hs : listed.size = l.length) (hB : orderOk l W n = true) (hr : Region.ready .any l.toArray listed = []) : ∀ i, i < l.length → listed.getD i false = true := by
  intro i
  induction i using Nat.strongRecOn with
  | _ i ih =>
    intro hi
    cases hb : listed.getD i false with
    | true => rfl
    | false =>
      have ho : l[i]? = some l[i] := List.getElem?_eq_getElem hi
      obtain ⟨h1, _, _⟩ := order_at hB ho
      have : i ∈ Region.ready .any l.toArray listed := mem_ready.2 ⟨by rw [getD_bools (by omega)]; exact hb, l[i], by simp, fun e he hbind => ih e.on (h1 e he hbind) (by have := h1 e he hbind; omega)⟩
      rw [hr] at this
      cases this

/-- How many are not listed yet. -/
def openOnes (l : List Oper) (listed : Array Bool) : Nat := ((List.range l.length).filter fun i => !listed.getD i false).length
theorem open_lt {listed : Array Bool} {i : Nat} (hs : listed.size = l.length) (hi : i < l.length) (hu : listed.getD i false = false) : openOnes l (listed.setIfInBounds i true) < openOnes l listed := by
  unfold openOnes
  have h1 : (List.range l.length).filter (fun j => !(listed.setIfInBounds i true).getD j false) = ((List.range l.length).filter fun j => !listed.getD j false).filter (fun j => j != i) := by
    rw [List.filter_filter]
    refine List.filter_congr (fun j hj => ?_)
    by_cases hij : i = j
    · subst hij; rw [getD_set_self (by omega)]; simp
    · rw [getD_set_other hij]
      have : (j != i) = true := by simp; exact fun e => hij e.symm
      rw [this]; simp
  rw [h1]
  refine List.length_filter_lt_length_iff_exists.2 ⟨i, List.mem_filter.2 ⟨List.mem_range.2 hi, by simp [hu]⟩, by simp⟩

/-- What the i-th operation may lean on: an earlier one whose word stands till then. -/
def leans (W : List (List Nat)) (kill : Nat → Option Nat) (i j : Nat) : Prop := j ∈ W.getD i [] ∧ ∀ k, kill j = some k → k = i ∨ i ∈ W.getD k []

theorem wpAny_kill {Q : Exit → Act → World → Prop} (hB : orderOk l W a0.tmps.size = true)
    (hstep : ∀ i o, l[i]? = some o → ∀ (a : Act) (w : World), I w → a.tmps.size = a0.tmps.size → a.defers = a0.defers → (∀ t, (∀ j, dstOf l j = some t → i = j ∨ i ∈ W.getD j []) → a.tmps.getD t undef = a0.tmps.getD t undef) → (∀ j, leans W kill i j → wordOf l R j a w) → ((i = kE ∨ i ∈ W.getD kE []) → E w) →
      StepTo P l.toArray o a w fun v w' => R i v w' ∧ I w' ∧ (i ≠ kE → kE ∉ W.getD i [] → E w → E w') ∧ ∀ j u, alive W kill i j → R j u w → R j u w')
    (hend : ∀ (a : Act) (w : World), I w → a.tmps.size = a0.tmps.size → a.defers = a0.defers → (∀ t, t ∉ dstsOf l → a.tmps.getD t undef = a0.tmps.getD t undef) → (∀ j, j < l.length → (∀ i, kill j = some i → l.length ≤ i) → wordOf l R j a w) → Q .normal a w) :
    ∀ (fuel : Nat) (listed : Array Bool) (a : Act) (w : World), openOnes l listed ≤ fuel → RegInv P l W kill R I kE E a0 listed a w → wpAny P .any l.toArray Q fuel listed a w := by
  have fin : ∀ (listed : Array Bool) (a : Act) (w : World), RegInv P l W kill R I kE E a0 listed a w → (∀ i, i < l.length → listed.getD i false = true) → Q .normal a w := by
    intro listed a w inv hall
    refine hend a w inv.inv inv.tsize inv.defers (fun t ht => inv.frame t (fun j hj => absurd (dst_mem hj) ht)) (fun j hj hk => inv.held j (hall j hj) hj (fun i hi => ?_))
    have := hk i hi
    rw [Array.getD_eq_getD_getElem?, Array.getElem?_eq_none (by rw [inv.size]; exact this)]
    rfl
  intro fuel
  induction fuel with
  | zero =>
    intro listed a w hf inv
    have hall : ∀ i, i < l.length → listed.getD i false = true := by
      intro i hi
      cases hb : listed.getD i false with
      | true => rfl
      | false => have := open_lt inv.size hi hb; omega
    refine ⟨?_, fin listed a w inv hall⟩
    rw [List.eq_nil_iff_forall_not_mem]
    intro i hi
    obtain ⟨hu, o, ho, _⟩ := mem_ready.1 hi
    have hil : i < l.length := by
      have := (Array.getElem?_eq_some_iff.1 ho).1
      simpa using this
    rw [getD_bools (by rw [inv.size]; exact hil), hall i hil] at hu
    cases hu
  | succ fuel ih =>
    intro listed a w hf inv
    refine ⟨fun hr => fin listed a w inv (all_listed inv.size hB hr), fun i hi => ?_⟩
    obtain ⟨hu, o, ho, hall⟩ := mem_ready.1 hi
    have hio : l[i]? = some o := by simpa using ho
    have hil : i < l.length := (List.getElem?_eq_some_iff.1 hio).1
    rw [getD_bools (by rw [inv.size]; exact hil)] at hu
    refine (hstep i o hio a w inv.inv inv.tsize inv.defers (fun t ht => inv.frame t (fun j hj => ?_)) (fun j hj => ?_) (fun hE => inv.early ?_)).wpOp ho (fun v w' hv => ih _ _ _ ?_ (inv.step hB hio hi hv.1 hv.2.1 hv.2.2.1 hv.2.2.2))
    · rcases ht j hj with rfl | hij
      · exact hu
      · cases hkl : listed.getD j false with
        | false => rfl
        | true => rw [inv.closed j hkl i hij] at hu; cases hu
    · obtain ⟨e, he, hbind, hje⟩ := (order_at hB hio).2.1 j hj.1
      have hel := hall e he hbind
      have hei : e.on < i := (order_at hB hio).1 e he hbind
      have hjl : listed.getD j false = true := by
        rcases hje with rfl | hje
        · exact hel
        · exact inv.closed _ hel j hje
      refine inv.held j hjl ?_ (fun k hk => ?_)
      · apply Classical.byContradiction
        intro hge
        rw [Array.getD_eq_getD_getElem?, Array.getElem?_eq_none (by rw [inv.size]; omega)] at hjl
        cases hjl
      · rcases hj.2 k hk with rfl | hik
        · exact hu
        · cases hkl : listed.getD k false with
          | false => rfl
          | true => rw [inv.closed k hkl i hik] at hu; cases hu
    · rcases hE with rfl | hE
      · exact hu
      · cases hkl : listed.getD kE false with
        | false => rfl
        | true => rw [inv.closed kE hkl i hE] at hu; cases hu
    · have := open_lt inv.size hil hu
      omega

def leansB (W : List (List Nat)) (kill : Nat → Option Nat) (i j : Nat) : Bool := (W.getD i []).contains j && ((kill j).all fun k => k == i || (W.getD k []).contains i)
def aliveB (W : List (List Nat)) (kill : Nat → Option Nat) (i j : Nat) : Bool := j != i && !(W.getD j []).contains i && ((kill j).all fun k => k != i && !(W.getD i []).contains k)
theorem leans_of {W : List (List Nat)} {kill : Nat → Option Nat} {i j : Nat} (h : leansB W kill i j = true) : leans W kill i j := by
  unfold leansB at h
  simp only [Bool.and_eq_true, List.contains_iff_mem] at h
  refine ⟨h.1, fun k hk => ?_⟩
  have := h.2
  rw [hk] at this
  simpa using this
/-- May the i-th operation read the slot t as it was ahead of the region? -/
def freeB (l : List Oper) (W : List (List Nat)) (i t : Nat) : Bool := (List.range l.length).all fun j => !((dstOf l j).any (· == t)) || i == j || (W.getD j []).contains i
theorem free_of {i t : Nat} (h : freeB l W i t = true) : ∀ j, dstOf l j = some t → i = j ∨ i ∈ W.getD j [] := by
  intro j hj
  have hjl : j < l.length := by
    apply Classical.byContradiction
    intro hge
    unfold dstOf at hj
    rw [List.getElem?_eq_none (by omega)] at hj
    cases hj
  have := List.all_eq_true.1 h j (List.mem_range.2 hjl)
  rw [hj] at this
  simpa using this
theorem contains_no {xs : List Nat} {k : Nat} (h : k ∉ xs) : (!xs.contains k) = true := by
  rw [Bool.not_eq_true', ← Bool.not_eq_true, List.contains_iff_mem]
  exact h
theorem alive_B {W : List (List Nat)} {kill : Nat → Option Nat} {i j : Nat} (h : alive W kill i j) : aliveB W kill i j = true := by
  have h3 : ((kill j).all fun k => k != i && !(W.getD i []).contains k) = true := by
    cases hk : kill j with
    | none => rfl
    | some k =>
      obtain ⟨h1, h2⟩ := h.2.2 k hk
      rw [Option.all_some, Bool.and_eq_true]
      exact ⟨by simpa using h1, contains_no h2⟩
  unfold aliveB
  rw [Bool.and_eq_true, Bool.and_eq_true]
  exact ⟨⟨by simpa using h.1, contains_no h.2.1⟩, h3⟩
/-- Which words stand behind the i-th operation, of the first m. -/
theorem alive_in {W : List (List Nat)} {kill : Nat → Option Nat} {i j m : Nat} {js : List Nat} (h : alive W kill i j) (hall : ((List.range m).all fun j => !aliveB W kill i j || js.contains j) = true) (hj : j < m) : j ∈ js := by
  have := List.all_eq_true.1 hall j (List.mem_range.2 hj)
  rw [alive_B h] at this
  simpa using this

/-- The law. I: what holds of the world all the while; E: what holds of it till the operation kE; R: what is said of each operation; kill: which operation undoes it. -/
theorem region_full {id : Nat} {Q : Exit → Act → World → Prop} {w : World} (kill : Nat → Option Nat) (I : World → Prop) (kE : Nat) (E : World → Prop) (R : Nat → Value → World → Prop) (hm : P.follows .mixedOrders = true) (hB : orderOk l (allWaits l) a0.tmps.size = true) (hI : I w.drew) (hE : E w.drew)
    (hstep : ∀ i o, l[i]? = some o → ∀ (a : Act) (w' : World), I w' → a.tmps.size = a0.tmps.size → a.defers = a0.defers → (∀ t, (∀ j, dstOf l j = some t → i = j ∨ i ∈ (allWaits l).getD j []) → a.tmps.getD t undef = a0.tmps.getD t undef) → (∀ j, leans (allWaits l) kill i j → wordOf l R j a w') → ((i = kE ∨ i ∈ (allWaits l).getD kE []) → E w') →
      StepTo P l.toArray o a w' fun v w'' => R i v w'' ∧ I w'' ∧ (i ≠ kE → kE ∉ (allWaits l).getD i [] → E w' → E w'') ∧ ∀ j u, alive (allWaits l) kill i j → R j u w' → R j u w'')
    (hend : ∀ (a : Act) (w' : World), I w' → a.tmps.size = a0.tmps.size → a.defers = a0.defers → (∀ t, t ∉ dstsOf l → a.tmps.getD t undef = a0.tmps.getD t undef) → (∀ j, j < l.length → (∀ i, kill j = some i → l.length ≤ i) → wordOf l R j a w') → Q .normal a w') :
    (Code.region id l.toArray true).wp P Q a0 w := by
  refine wp_region_any hm (wpAny_kill hB hstep hend _ _ _ _ ?_ ⟨by simp, hI, fun _ => hE, rfl, rfl, fun _ _ => rfl, fun k hk => ?_, fun k hk => ?_⟩)
  · unfold openOnes
    refine Nat.le_trans (List.length_filter_le _ _) (by simp)
  · rw [getD_none] at hk; cases hk
  · rw [getD_none] at hk; cases hk

/-- .. where no operation reads a slot that the region writes over. -/
theorem region_early {id : Nat} {Q : Exit → Act → World → Prop} {w : World} (kill : Nat → Option Nat) (I : World → Prop) (kE : Nat) (E : World → Prop) (R : Nat → Value → World → Prop) (hm : P.follows .mixedOrders = true) (hB : orderOk l (allWaits l) a0.tmps.size = true) (hI : I w.drew) (hE : E w.drew)
    (hstep : ∀ i o, l[i]? = some o → ∀ (a : Act) (w' : World), I w' → a.tmps.size = a0.tmps.size → a.defers = a0.defers → (∀ t, t ∉ dstsOf l → a.tmps.getD t undef = a0.tmps.getD t undef) → (∀ j, leans (allWaits l) kill i j → wordOf l R j a w') → ((i = kE ∨ i ∈ (allWaits l).getD kE []) → E w') →
      StepTo P l.toArray o a w' fun v w'' => R i v w'' ∧ I w'' ∧ (i ≠ kE → kE ∉ (allWaits l).getD i [] → E w' → E w'') ∧ ∀ j u, alive (allWaits l) kill i j → R j u w' → R j u w'')
    (hend : ∀ (a : Act) (w' : World), I w' → a.tmps.size = a0.tmps.size → a.defers = a0.defers → (∀ t, t ∉ dstsOf l → a.tmps.getD t undef = a0.tmps.getD t undef) → (∀ j, j < l.length → (∀ i, kill j = some i → l.length ≤ i) → wordOf l R j a w') → Q .normal a w') :
    (Code.region id l.toArray true).wp P Q a0 w :=
  region_full kill I kE E R hm hB hI hE (fun i o hi a w' h1 h2 h3 h4 h5 h6 => hstep i o hi a w' h1 h2 h3 (fun t ht => h4 t (fun j hj => absurd (dst_mem hj) ht)) h5 h6) hend

theorem region_kill {id : Nat} {Q : Exit → Act → World → Prop} {w : World} (kill : Nat → Option Nat) (I : World → Prop) (R : Nat → Value → World → Prop) (hm : P.follows .mixedOrders = true) (hB : orderOk l (allWaits l) a0.tmps.size = true) (hI : I w.drew)
    (hstep : ∀ i o, l[i]? = some o → ∀ (a : Act) (w' : World), I w' → a.tmps.size = a0.tmps.size → a.defers = a0.defers → (∀ t, t ∉ dstsOf l → a.tmps.getD t undef = a0.tmps.getD t undef) → (∀ j, leans (allWaits l) kill i j → wordOf l R j a w') →
      StepTo P l.toArray o a w' fun v w'' => R i v w'' ∧ I w'' ∧ ∀ j u, alive (allWaits l) kill i j → R j u w' → R j u w'')
    (hend : ∀ (a : Act) (w' : World), I w' → a.tmps.size = a0.tmps.size → a.defers = a0.defers → (∀ t, t ∉ dstsOf l → a.tmps.getD t undef = a0.tmps.getD t undef) → (∀ j, j < l.length → (∀ i, kill j = some i → l.length ≤ i) → wordOf l R j a w') → Q .normal a w') :
    (Code.region id l.toArray true).wp P Q a0 w := by
  refine region_early kill I 0 (fun _ => True) R hm hB hI trivial (fun i o hi a w' hb hs hd hf hj _ => ?_) hend
  have h := hstep i o hi a w' hb hs hd hf hj
  unfold StepTo at h ⊢
  refine wpList_imp (fun a' w'' h' => ?_) (fun ex hne a' w'' h' => absurd h'.1 hne) h
  obtain ⟨e, v, e1, h1, h2, h3⟩ := h'
  exact ⟨e, v, e1, h1, h2, fun _ _ _ => trivial, h3⟩

/-- The frame behind a region: what it wrote, and all else as it was. -/
def fillIn (ds : List Nat) (xs : Array Value) : Nat → List Value → List Value
  | _, [] => []
  | k, v :: vs => (if ds.contains k then xs.getD k undef else v) :: fillIn ds xs (k + 1) vs
theorem fill_len (ds : List Nat) (xs : Array Value) : ∀ (vs : List Value) (k : Nat), (fillIn ds xs k vs).length = vs.length
  | [], _ => rfl
  | v :: vs, k => by simp [fillIn, fill_len ds xs vs (k + 1)]
theorem fill_at (ds : List Nat) (xs : Array Value) : ∀ (vs : List Value) (k i : Nat) (hi : i < vs.length), (fillIn ds xs k vs)[i]? = some (if ds.contains (k + i) then xs.getD (k + i) undef else vs[i])
  | v :: vs, k, 0, _ => by simp [fillIn]
  | v :: vs, k, i + 1, hi => by
    have := fill_at ds xs vs (k + 1) i (by simpa using hi)
    rw [show k + 1 + i = k + (i + 1) by omega] at this
    simpa [fillIn] using this
theorem act_frame {a a0 : Act} (hs : a.tmps.size = a0.tmps.size) (hd : a.defers = a0.defers) (hf : ∀ t, t ∉ dstsOf l → a.tmps.getD t undef = a0.tmps.getD t undef) : a = ⟨(fillIn (dstsOf l) a.tmps 0 a0.tmps.toList).toArray, a0.defers⟩ := by
  obtain ⟨xs, df⟩ := a
  simp only at hs hd hf
  subst hd
  congr 1
  apply Array.ext_getElem?
  intro i
  show xs[i]? = (fillIn (dstsOf l) xs 0 a0.tmps.toList).toArray[i]?
  have e0 : (fillIn (dstsOf l) xs 0 a0.tmps.toList).toArray[i]? = (fillIn (dstsOf l) xs 0 a0.tmps.toList)[i]? := by simp
  rw [e0]
  by_cases hi : i < a0.tmps.size
  · rw [fill_at _ _ _ _ i (by rw [Array.length_toList]; exact hi), Nat.zero_add, Array.getElem?_eq_getElem (by omega)]
    by_cases hc : (dstsOf l).contains i = true
    · rw [if_pos hc]
      simp [Array.getD_eq_getD_getElem?, hs, hi]
    · rw [if_neg hc]
      have := hf i (by simpa using hc)
      rw [Array.getD_eq_getD_getElem?, Array.getD_eq_getD_getElem?] at this
      rw [Array.getElem?_eq_getElem (by omega), Array.getElem?_eq_getElem hi, Option.getD_some, Option.getD_some] at this
      rw [this]
      simp
  · rw [Array.getElem?_eq_none (by omega), List.getElem?_eq_none (by rw [fill_len, Array.length_toList]; omega)]

/-- .. its slots written out. -/
theorem act_slots {a a0 : Act} (ds : List Nat) (he : dstsOf l = ds) (hs : a.tmps.size = a0.tmps.size) (hd : a.defers = a0.defers) (hf : ∀ t, t ∉ dstsOf l → a.tmps.getD t undef = a0.tmps.getD t undef) : a = ⟨(fillIn ds a.tmps 0 a0.tmps.toList).toArray, a0.defers⟩ := by
  subst he
  exact act_frame hs hd hf

theorem below_drew {B : Nat} {w W : World} (h : Below B w W) : Below B w W.drew := ⟨h.os, h.tape, h.output, h.size, h.block⟩

/-- The law, where all that is said stands when memory is laid. -/
theorem region_grow {id : Nat} {Q : Exit → Act → World → Prop} {w : World} (R : Nat → Value → World → Prop) (hm : P.follows .mixedOrders = true) (hB : orderOk l (allWaits l) a0.tmps.size = true) (hR : ∀ j v w w', R j v w → Below w.heap.size w w' → R j v w')
    (hstep : ∀ i o, l[i]? = some o → ∀ (a : Act) (w' : World), Below w.heap.size w w' → a.tmps.size = a0.tmps.size → a.defers = a0.defers → (∀ t, t ∉ dstsOf l → a.tmps.getD t undef = a0.tmps.getD t undef) → (∀ j, j ∈ (allWaits l).getD i [] → wordOf l R j a w') → StepAt P l.toArray o a w' (R i))
    (hend : ∀ (a : Act) (w' : World), Below w.heap.size w w' → a.tmps.size = a0.tmps.size → a.defers = a0.defers → (∀ t, t ∉ dstsOf l → a.tmps.getD t undef = a0.tmps.getD t undef) → (∀ j, j < l.length → wordOf l R j a w') → Q .normal a w') :
    (Code.region id l.toArray true).wp P Q a0 w := by
  refine region_kill (fun _ => none) (fun w' => Below w.heap.size w w') R hm hB (below_drew (Below.refl _ _)) (fun i o hi a w' hb hs hd hf hj => ?_) (fun a w' hb hs hd hf hj => hend a w' hb hs hd hf (fun j hjl => hj j hjl (fun i e => by cases e)))
  have h := hstep i o hi a w' hb hs hd hf (fun j hjm => hj j ⟨hjm, fun k e => by cases e⟩)
  unfold StepAt StepTo at h
  unfold StepTo
  refine wpList_imp (fun a' w'' h' => ?_) (fun ex hne a' w'' h' => absurd h'.1 hne) h
  obtain ⟨e, v, e1, h1, h2⟩ := h'
  exact ⟨e, v, e1, h1, hb.trans (h2.mono hb.size), fun j u _ hju => hR j u _ _ hju h2⟩
end
end Go.Proofs.Ytebpdlnknfjoaaa
