/- Regions that draw their order, each operation's value told by a word that stands when memory is laid. -/
import Derived.Test.YtebpdlnknfjoaaaRegionGrow
import Derived.Test.YtebpdlnknfjoaaaHas
namespace Go.Proofs.Ytebpdlnknfjoaaa
set_option linter.unusedVariables false
set_option linter.unusedSimpArgs false
open Go.RowKit

inductive Word where
  | is (u : Value)
  | such (p : Value → World → Prop) (h : ∀ v w w', p v w → Below w.heap.size w w' → p v w')
def Word.holds : Word → Value → World → Prop
  | .is u, v, _ => v = u
  | .such p _, v, w => p v w
theorem Word.grow {W : Word} {v : Value} {w w' : World} (h : W.holds v w) (hb : Below w.heap.size w w') : W.holds v w' := by
  cases W with
  | is u => exact h
  | such p hp => exact hp v w w' h hb
def wordAt (ws : List Word) (j : Nat) : Value → World → Prop := (ws.getD j (.is undef)).holds
/-- The operation j's word, of its slot. -/
theorem region_words {P : Program} {l : List Oper} {id : Nat} {Q : Exit → Act → World → Prop} {a0 : Act} {w : World} (ws : List Word) (hm : P.follows .mixedOrders = true) (hB : orderOk l (allWaits l) a0.tmps.size = true)
    (hstep : eachOp (fun i o => ∀ (a : Act) (w' : World), Below w.heap.size w w' → a.tmps.size = a0.tmps.size → a.defers = a0.defers → (∀ t, t ∉ dstsOf l → a.tmps.getD t undef = a0.tmps.getD t undef) → (∀ j, ((allWaits l).getD i []).contains j = true → wordOf l (wordAt ws) j a w') → StepAt P l.toArray o a w' (wordAt ws i)) 0 l)
    (hend : ∀ (a : Act) (w' : World), Below w.heap.size w w' → a.tmps.size = a0.tmps.size → a.defers = a0.defers → (∀ t, t ∉ dstsOf l → a.tmps.getD t undef = a0.tmps.getD t undef) → (∀ j, j < l.length → wordOf l (wordAt ws) j a w') → Q .normal a w') :
    (Code.region id l.toArray true).wp P Q a0 w :=
  region_grow (wordAt ws) hm hB (fun j v w w' h hb => Word.grow (W := ws.getD j (.is undef)) h hb) (fun i o hi a w' hb hs hd hf hj => each_op hstep i o hi a w' hb hs hd hf (fun j hjm => hj j (List.contains_iff_mem.1 hjm))) hend

def intsW (xs : List Int) : Word := .such (fun v w => ∃ A c, v = .slice A xs.length c ∧ IntsAt w.heap.size w A xs) (fun v w w' h hb => let ⟨A, c, e, hi⟩ := h; ⟨A, c, e, (hi.later hb).mono hb.size⟩)
def intsC (xs : List Int) : Word := .such (fun v w => ∃ A c, v = .slice A xs.length c ∧ IntsAt w.heap.size w A xs ∧ xs.length ≤ c) (fun v w w' h hb => let ⟨A, c, e, hi, hc⟩ := h; ⟨A, c, e, (hi.later hb).mono hb.size, hc⟩)
def rowsW (xss : List (List Int)) : Word := .such (fun v w => ∃ A c, v = .slice A xss.length c ∧ RowsAt w.heap.size w A xss) (fun v w w' h hb => let ⟨A, c, e, hi⟩ := h; ⟨A, c, e, (hi.later hb).mono hb.size⟩)

section
variable {P : Program} {ops : Array Oper} {o : Oper} {a : Act} {w w' : World} {R : Value → World → Prop} {u : Value}
/-- A value, no world turned. -/
theorem st_still (hw : Region.wanted o (yielded ops a.tmps) = true) (h : (execOp a.eval o).run P w = .ok (.value u) w) (hR : R u w) : StepAt P ops o a w R := step_run hw h ⟨hR, Below.refl _ _⟩
theorem st_grow (hw : Region.wanted o (yielded ops a.tmps) = true) (h : (execOp a.eval o).run P w = .ok (.value u) w') (hR : R u w') (hb : Below w.heap.size w w') : StepAt P ops o a w R := step_run hw h ⟨hR, hb⟩
theorem st_call {f : FuncId} {args : Array Value} (hw : Region.wanted o (yielded ops a.tmps) = true) (h : (execOp a.eval o).run P w = .ok (.enter f args) w) (hc : Calls P f args w fun e w' => ∃ v, e = .returned v ∧ R v w' ∧ Below w.heap.size w w') : StepAt P ops o a w R := step_call hw h hc
theorem alloc_at (w : World) (o : Obj) : (w.alloc o).heap[w.heap.size]? = some o := heap_alloc_new w o
theorem new_ints (w : World) (xs : List Int) (e : Nat) : IntsAt (w.alloc (.cells (ints xs).toArray e)).heap.size (w.alloc (.cells (ints xs).toArray e)) (some ⟨w.heap.size, 0, none⟩) xs := by
  intro i hi
  refine ⟨_, rfl, by simp, ?_⟩
  rw [add_free, Nat.zero_add]
  have h := alloc_at w (.cells (ints xs).toArray e)
  generalize w.alloc (.cells (ints xs).toArray e) = w' at h ⊢
  simp [World.cell?, h, ints, hi]
end
end Go.Proofs.Ytebpdlnknfjoaaa
