/- One element appended to a slice that the call owns; a made slice; what becomes of the rest. -/
import Derived.WalkKit
import Derived.Test.YtebpdlnknfjoaaaMem
namespace Go.Proofs.Ytebpdlnknfjoaaa
set_option linter.unusedVariables false
set_option linter.unusedSimpArgs false
open Go.RowKit

/-- The run of 'append(v, x)', x laid in a new block of one cell. -/
theorem app_one {P : Program} {t ty e bytes base : Nat} {z v x : Value} {w : World} {xs : List Value} (ht : P.underlying t = some (.slice e)) (hinfo : (P.info? e).map (fun i => (i.zero, i.size, i.bytes)) = some (some z, 1, bytes))
    (hz : z.cells.size = 1) (h : w.ownsRow base e 1 v xs.length xs) (hx : x.oneCell' = true) (hlen : xs.length < 1000000000000) (hby : bytes ≤ 64) (hb : base ≤ w.heap.size) :
    ∃ g cap w', (Builtin.append_ #[t, t] ty #[v, .slice (some ⟨w.heap.size, 0, none⟩) 1 1]).run P (w.alloc (.cells #[x] e)) = .ok (.slice (some ⟨g, 0, none⟩) (xs.length + 1) cap) w' ∧
      w'.ownsRow base e 1 (.slice (some ⟨g, 0, none⟩) (xs.length + 1) cap) (xs ++ [x]).length (xs ++ [x]) ∧ w.grownBy w' v.ownBlock := by
  obtain ⟨i, hi, h1, h2, h3⟩ := info_parts hinfo
  obtain ⟨v', w', hr, ho, hg, hn⟩ := run_append_own (P := P) (w := w.alloc (.cells #[x] e)) base t ty e i z 1 bytes ht hi h1 h2 h3 hz (by omega) v xs.length xs (h.alloc _) ⟨w.heap.size, 0, none⟩ 1 1 [x] rfl
    (by intro j u hj
        cases j with
        | zero => simp at hj; subst hj; simp [Addr.add, go_sem]
        | succ j => simp at hj)
    (by intro u hu; rw [List.mem_singleton.1 hu]; exact hx) (by unfold maxLen; omega) (by
      have : (xs.length + 1) * bytes ≤ 1000000000000 * 64 := Nat.mul_le_mul (by omega) hby
      omega) (by simp; omega)
  have hne : v' ≠ .slice none 0 0 := by
    intro e
    have := (hn.1 e).2
    omega
  have ho2 := ho
  rcases ho.2 with ⟨q, _⟩ | ⟨g', cap', cur', rfl, _⟩
  · exact absurd q hne
  refine ⟨g', cap', w', hr, by simpa using ho2, ?_⟩
  · have hlt := h.lt
    exact ⟨hg.os, hg.tape, hg.output, by have := hg.size; simp at this; omega, fun k hk hne => (hg.block k (by simp; omega) hne).trans (Below.heap_alloc w _ k hk)⟩

theorem app_ints {P : Program} {t ty e base : Nat} {v : Value} {w : World} {xs : List Int} (ht : P.underlying t = some (.slice e)) (hinfo : (P.info? e).map (fun i => (i.zero, i.size, i.bytes)) = some (some (.int .i64 0), 1, 8))
    (h : w.ownsRow base e 1 v xs.length (ints xs)) (x : Int) (hlen : xs.length < 1000000000000) (hb : base ≤ w.heap.size) :
    ∃ g cap w', (Builtin.append_ #[t, t] ty #[v, .slice (some ⟨w.heap.size, 0, none⟩) 1 1]).run P (w.alloc (.cells #[.int .i64 x] e)) = .ok (.slice (some ⟨g, 0, none⟩) (xs.length + 1) cap) w' ∧
      w'.ownsRow base e 1 (.slice (some ⟨g, 0, none⟩) (xs.length + 1) cap) (xs ++ [x]).length (ints (xs ++ [x])) ∧ w.grownBy w' v.ownBlock := by
  have h' : w.ownsRow base e 1 v (ints xs).length (ints xs) := by simpa [ints] using h
  obtain ⟨g, cap, w', h1, h2, h3⟩ := app_one (ty := ty) (x := .int .i64 x) ht hinfo rfl h' rfl (by simp [ints]; omega) (by omega) hb
  have e : (ints xs).length = xs.length := by simp [ints]
  rw [e] at h1 h2
  exact ⟨g, cap, w', h1, by simpa [ints] using h2, h3⟩

theorem grown_trans {w w1 w2 : World} {row : Option Nat} (h : w.grownBy w1 row) (k : w1.grownBy w2 row) : w.grownBy w2 row :=
  ⟨k.os.trans h.os, k.tape.trans h.tape, k.output.trans h.output, Nat.le_trans h.size k.size, fun i hi hne => (k.block i (Nat.lt_of_lt_of_le hi h.size) hne).trans (h.block i hi hne)⟩

/-- An append at the operation, its run known. -/
theorem wpList_append_run {P : Program} {w : World} {ops : Array Oper} {rest : List Oper} {o : Oper} {a : Act} {Q : Exit → Act → World → Prop} (hg : o.guard = none) (s x : Operand) (t : TypeId)
    (hop : o.op = Op.call { callee := Callee.builtin Builtin.append, args := #[s, x], argTypes := #[t, t] }) {v y v' : Value} {w' : World} (hs : a.eval s = v) (hx : a.eval x = y)
    (hrun : (Builtin.append_ #[t, t] o.type #[v, y]).run P w = .ok v' w') (hK : wpList P ops Q rest (a.put o.dst v') w') : wpList P ops Q (o :: rest) a w := by
  refine wpList_plain hg fun K hK' => ?_
  unfold Oper.wp
  simp [execOp, hop, resolve, invoke, builtin, hs, hx, hrun, Result.andThen]
  exact hK' _ _ hK

theorem IntsAt.grown {B : Nat} {w w' : World} {A : Option Addr} {xs : List Int} {row : Option Nat} (h : IntsAt B w A xs) (hg : w.grownBy w' row) (hr : ∀ k, row = some k → B ≤ k) : IntsAt B w' A xs :=
  h.move (fun b h1 h2 => hg.block b h2 (fun e => by have := hr b e.symm; omega))
theorem RowsAt.grown {B : Nat} {w w' : World} {A : Option Addr} {xs : List (List Int)} {row : Option Nat} (h : RowsAt B w A xs) (hg : w.grownBy w' row) (hr : ∀ k, row = some k → B ≤ k) : RowsAt B w' A xs :=
  h.move (fun b h1 h2 => hg.block b h2 (fun e => by have := hr b e.symm; omega))
theorem below_grown {B : Nat} {w0 w w' : World} {row : Option Nat} (h : Below B w0 w) (hg : w.grownBy w' row) (hB : B ≤ w.heap.size) (hr : ∀ k, row = some k → B ≤ k) : Below B w0 w' := h.grown hg hB hr
theorem own_ge {w : World} {base e size n : Nat} {v : Value} {xs : List Value} (h : w.ownsRow base e size v n xs) : ∀ k, v.ownBlock = some k → base ≤ k := fun k hk => (h.lt k hk).1
theorem own_lt {w : World} {base e size n : Nat} {v : Value} {xs : List Value} (h : w.ownsRow base e size v n xs) : ∀ k, v.ownBlock = some k → k < w.heap.size := fun k hk => (h.lt k hk).2
theorem own_move {w w' : World} {base e size n : Nat} {v : Value} {xs : List Value} (h : w.ownsRow base e size v n xs) (hm : ∀ k, v.ownBlock = some k → w'.heap[k]? = w.heap[k]?) : w'.ownsRow base e size v n xs := by
  obtain ⟨h1, h2⟩ := h
  refine ⟨h1, ?_⟩
  rcases h2 with h2 | ⟨g, cap, cur, rfl, hg, hh, r⟩
  · exact .inl h2
  · exact .inr ⟨g, cap, cur, rfl, hg, (hm g rfl).trans hh, r⟩
theorem own_base {w : World} {base base' e size n : Nat} {v : Value} {xs : List Value} (h : w.ownsRow base e size v n xs) (hb : base' ≤ base) : w.ownsRow base' e size v n xs := by
  obtain ⟨h1, h2⟩ := h
  refine ⟨h1, ?_⟩
  rcases h2 with h2 | ⟨g, cap, cur, rfl, hg, r⟩
  · exact .inl h2
  · exact .inr ⟨g, cap, cur, rfl, by omega, r⟩
theorem own_later {w w' : World} {base e size n : Nat} {v : Value} {xs : List Value} (h : w.ownsRow base e size v n xs) (hb : Below w.heap.size w w') : w'.ownsRow base e size v n xs :=
  own_move h (fun k hk => hb.block k (own_lt h k hk))

/-- The run of 'make([]T, n)'. -/
theorem make_full {P : Program} {t e bytes base n : Nat} {z : Value} {w : World} (ht : P.underlying t = some (.slice e)) (hinfo : (P.info? e).map (fun i => (i.zero, i.size, i.bytes)) = some (some z, 1, bytes))
    (hz : z.cells = #[z]) (hn : n < 1000000000000) (hby : bytes ≤ 64) (hb : base ≤ w.heap.size) :
    ∃ w', (Instr.makeSlice t (.int .i64 n) (.int .i64 n)).run P w = .ok (.slice (some ⟨w.heap.size, 0, none⟩) n n) w' ∧ w'.ownsRow base e 1 (.slice (some ⟨w.heap.size, 0, none⟩) n n) n (List.replicate n z) ∧ w.grownBy w' none := by
  obtain ⟨i, hi, h1, h2, h3⟩ := info_parts hinfo
  obtain ⟨w', hr, ho, hg⟩ := run_make_full (P := P) w base t e i z 1 ht hi h1 h2 .i64 .i64 n (by
      have : i.bytes * n ≤ 64 * 1000000000000 := Nat.mul_le_mul (by omega) (by omega)
      omega) (by unfold maxLen; omega) hb
  refine ⟨w', hr, ?_, hg⟩
  rw [hz, Nat.mul_one, toList_madeCells_one] at ho
  exact ho

/-- The run of 'make([]T, 0, n)'. -/
theorem make_zero {P : Program} {t e bytes base n : Nat} {z : Value} {w : World} (ht : P.underlying t = some (.slice e)) (hinfo : (P.info? e).map (fun i => (i.zero, i.size, i.bytes)) = some (some z, 1, bytes))
    (hn : n < 1000000000000) (hby : bytes ≤ 64) (hb : base ≤ w.heap.size) :
    ∃ w', (Instr.makeSlice t (.int .i64 0) (.int .i64 n)).run P w = .ok (.slice (some ⟨w.heap.size, 0, none⟩) 0 n) w' ∧ w'.ownsRow base e 1 (.slice (some ⟨w.heap.size, 0, none⟩) 0 n) 0 [] ∧ w.grownBy w' none := by
  obtain ⟨i, hi, h1, h2, h3⟩ := info_parts hinfo
  exact run_make_own (P := P) w base t e i z 1 ht hi h1 h2 .i64 .i64 n (by
      have : i.bytes * n ≤ 64 * 1000000000000 := Nat.mul_le_mul (by omega) (by omega)
      omega) (by unfold maxLen; omega) hb
end Go.Proofs.Ytebpdlnknfjoaaa
