/- What lies in memory while course.Loads goes through the loads of a way. -/
import Derived.Test.YtebpdlnknfjoaaaLoadsP
import Derived.Test.YtebpdlnknfjoaaaRegionGrow
import Derived.Maps.AppendAt
namespace Go.Proofs.Ytebpdlnknfjoaaa
set_option linter.unusedVariables false
set_option linter.unusedSimpArgs false
open Go.RowKit

theorem info_ints : (Try.prog.info? 29).map (fun i => (i.zero, i.size, i.bytes)) = some (some (.slice none 0 0), 1, 24) := by kernel_rfl

/-- A row of ints in a block of its own that may be one of these. -/
def RowIn (p : Nat → Prop) (w : World) (v : Value) (xs : List Int) : Prop := ∃ g cap cur, v = .slice (some ⟨g, 0, none⟩) xs.length cap ∧ p g ∧ w.heap[g]? = some (.cells cur 3 (0, 0)) ∧ cur.toList.take xs.length = ints xs ∧ xs.length ≤ cap
/-- Rows of ints, each in a block of its own, as a slice of slices. -/
def OutRows (B : Nat) (p : Nat → Prop) (w : World) (vo : Value) (outs : List (List Int)) : Prop :=
  ∃ hdrs, w.ownsRow B 29 1 vo outs.length hdrs ∧ ∀ i (h : i < outs.length), ∃ v, hdrs[i]? = some v ∧ RowIn p w v outs[i]

theorem RowIn.move {p q : Nat → Prop} {w w' : World} {v : Value} {xs : List Int} (h : RowIn p w v xs) (hm : ∀ k cur, p k → w.heap[k]? = some (.cells cur 3 (0, 0)) → w'.heap[k]? = w.heap[k]? ∧ q k) : RowIn q w' v xs := by
  obtain ⟨g, cap, cur, e, hp, hg, ht, hl⟩ := h
  obtain ⟨h1, h2⟩ := hm g cur hp hg
  exact ⟨g, cap, cur, e, h2, h1.trans hg, ht, hl⟩
theorem OutRows.move {B : Nat} {p q : Nat → Prop} {w w' : World} {vo : Value} {outs : List (List Int)} (h : OutRows B p w vo outs) (ho : ∀ k, vo.ownBlock = some k → w'.heap[k]? = w.heap[k]?) (hm : ∀ k cur, p k → w.heap[k]? = some (.cells cur 3 (0, 0)) → w'.heap[k]? = w.heap[k]? ∧ q k) : OutRows B q w' vo outs := by
  obtain ⟨hdrs, h1, h2⟩ := h
  exact ⟨hdrs, own_move h1 ho, fun i hi => let ⟨v, e, hv⟩ := h2 i hi; ⟨v, e, hv.move hm⟩⟩
theorem OutRows.start (B : Nat) (p : Nat → Prop) (w : World) : OutRows B p w (.slice none 0 0) [] := ⟨[], World.ownsRow_nil _ _ _ _, fun i hi => by simp at hi⟩
/-- The block of the slice of slices holds headers, not ints. -/
theorem OutRows.block {B : Nat} {p : Nat → Prop} {w : World} {vo : Value} {outs : List (List Int)} (h : OutRows B p w vo outs) : ∀ k, vo.ownBlock = some k → B ≤ k ∧ ∃ cur, w.heap[k]? = some (.cells cur 29 (0, 0)) := by
  obtain ⟨hdrs, h1, _⟩ := h
  intro k hk
  rcases h1.2 with ⟨rfl, _⟩ | ⟨g, cap, cur, rfl, hg, hb, _⟩
  · cases hk
  · cases hk; exact ⟨hg, cur, hb⟩

/-- What does not change while the loads of one way are gone through. -/
structure Fix where
  B : Nat
  bw : Nat
  bt : Nat
  bn : Nat
  bl : Nat
  bo : Nat
  bf : Nat
  gl : Nat
  mo : Nat
  c1 : Nat
  A1 : Option Addr
  ps : List (List Int)
  g : Int → Option Int
def Fix.tog (F : Fix) : Value := .func (.func 38) #[] #[.pointer (some ⟨F.bl, 0, none⟩), .pointer (some ⟨F.bn, 0, none⟩)]
def Fix.fro (F : Fix) : Value := .func (.func 40) #[] #[.pointer (some ⟨F.bw, 0, none⟩), .pointer (some ⟨F.bt, 0, none⟩), .pointer (some ⟨F.bo, 0, none⟩), .pointer (some ⟨F.bl, 0, none⟩), .pointer (some ⟨F.bf, 0, none⟩)]

/-- The cells that stay. -/
structure Stay (F : Fix) (w : World) : Prop where
  way : w.heap[F.bw]? = some (.cells #[.slice F.A1 F.ps.length F.c1] 42 (0, 0))
  rows : RowsAt F.B w F.A1 F.ps
  tog : w.heap[F.bt]? = some (.cells #[F.tog] 26 (0, 0))
  need : w.heap[F.bn]? = some (.cells #[.map (some F.mo)] 52 (0, 0))
  map : MapV w F.mo (mapF F.g)
  fro : w.heap[F.bf]? = some (.cells #[F.fro] 55 (0, 0))

theorem Stay.move {F : Fix} {w w' : World} (h : Stay F w) (hm : ∀ k o, w.heap[k]? = some o → (k < F.B ∨ (∃ v, o = .cells #[v] 42 (0, 0)) ∨ (∃ v, o = .cells #[v] 26 (0, 0)) ∨ (∃ v, o = .cells #[v] 52 (0, 0)) ∨ (∃ es c, o = .map es c) ∨ (∃ v, o = .cells #[v] 55 (0, 0))) → w'.heap[k]? = w.heap[k]?) : Stay F w' := by
  obtain ⟨h1, h2, h3, h4, h5, h6⟩ := h
  obtain ⟨es, c, hmb, hrest⟩ := h5
  refine ⟨(hm _ _ h1 (.inr (.inl ⟨_, rfl⟩))).trans h1, h2.move (fun b hb hbs => ?_), (hm _ _ h3 (.inr (.inr (.inl ⟨_, rfl⟩)))).trans h3, (hm _ _ h4 (.inr (.inr (.inr (.inl ⟨_, rfl⟩))))).trans h4, ⟨es, c, (hm _ _ hmb (.inr (.inr (.inr (.inr (.inl ⟨_, _, rfl⟩)))))).trans hmb, hrest⟩, (hm _ _ h6 (.inr (.inr (.inr (.inr (.inr ⟨_, rfl⟩)))))).trans h6⟩
  exact hm b _ (Array.getElem?_eq_getElem hbs) (.inl hb)

structure LdSt (F : Fix) (w : World) (vo : Value) (load : List Int) (outs : List (List Int)) : Prop where
  stay : Stay F w
  ge : F.B ≤ F.bl ∧ F.B ≤ F.bo ∧ F.B ≤ F.gl
  low : F.B ≤ w.heap.size
  ld : w.heap[F.bl]? = some (.cells #[.slice (some ⟨F.gl, 0, none⟩) load.length F.ps.length] 29 (0, 0))
  row : w.ownsRow F.B 3 1 (.slice (some ⟨F.gl, 0, none⟩) load.length F.ps.length) load.length (ints load)
  box : w.heap[F.bo]? = some (.cells #[vo] 34 (0, 0))
  apart : vo.ownBlock ≠ some F.bl
  out : OutRows F.B (· ≠ F.gl) w vo outs

section
variable {F : Fix} {w w' : World} {vo : Value} {load : List Int} {outs : List (List Int)}
theorem LdSt.gl_cells (h : LdSt F w vo load outs) : ∃ cur, w.heap[F.gl]? = some (.cells cur 3 (0, 0)) := by
  rcases h.row.2 with ⟨q, _⟩ | ⟨g, cap, cur, e, _, hb, _⟩
  · cases q
  · cases e; exact ⟨cur, hb⟩
/-- .. when only new blocks are laid. -/
theorem LdSt.later (h : LdSt F w vo load outs) (hb : Below w.heap.size w w') : LdSt F w' vo load outs := by
  have keep : ∀ k o, w.heap[k]? = some o → w'.heap[k]? = w.heap[k]? := fun k o hk => hb.block k (Array.getElem?_eq_some_iff.1 hk).1
  refine ⟨h.stay.move (fun k o hk _ => keep k o hk), h.ge, Nat.le_trans h.low hb.size, (keep _ _ h.ld).trans h.ld, own_later h.row hb, (keep _ _ h.box).trans h.box, h.apart, h.out.move (fun k hk => ?_) (fun k cur hp hk => ⟨keep k _ hk, hp⟩)⟩
  obtain ⟨_, cur, hc⟩ := h.out.block k hk
  exact keep k _ hc
/-- .. when the load's row is written, and its header. -/
theorem LdSt.turn {load' : List Int} (h : LdSt F w vo load outs) (hg : w.grownBy w' (some F.gl)) (ho : w'.ownsRow F.B 3 1 (.slice (some ⟨F.gl, 0, none⟩) load'.length F.ps.length) load'.length (ints load')) :
    LdSt F (w'.setCell ⟨F.bl, 0, none⟩ (.slice (some ⟨F.gl, 0, none⟩) load'.length F.ps.length)) vo load' outs := by
  obtain ⟨cur, hcur⟩ := h.gl_cells
  have hne : F.bl ≠ F.gl := fun e => by have := h.ld; rw [e, hcur] at this; cases this
  have keep : ∀ k o, w.heap[k]? = some o → k ≠ F.gl → k ≠ F.bl → (w'.setCell ⟨F.bl, 0, none⟩ (.slice (some ⟨F.gl, 0, none⟩) load'.length F.ps.length)).heap[k]? = w.heap[k]? := fun k o hk h1 h2 =>
    (Below.heap_setCell _ _ _ _ h2).trans (hg.block k (Array.getElem?_eq_some_iff.1 hk).1 (fun e => h1 (Option.some.inj e)))
  have hld : w'.heap[F.bl]? = some (.cells #[.slice (some ⟨F.gl, 0, none⟩) load.length F.ps.length] 29 (0, 0)) := (hg.block _ (Array.getElem?_eq_some_iff.1 h.ld).1 (fun e => hne (Option.some.inj e))).trans h.ld
  refine ⟨h.stay.move (fun k o hk ht => ?_), h.ge, by have := h.low; have := hg.size; simp; omega, ?_, own_move ho (fun k hk => by cases hk; exact Below.heap_setCell _ _ _ _ hne.symm), ?_, h.apart, h.out.move (fun k hk => ?_) (fun k cur hp hk => ⟨keep k _ hk hp ?_, hp⟩)⟩
  · refine keep k o hk (fun e => ?_) (fun e => ?_)
    · subst e
      rcases ht with ht | ⟨v, rfl⟩ | ⟨v, rfl⟩ | ⟨v, rfl⟩ | ⟨es, c, rfl⟩ | ⟨v, rfl⟩
      · have := h.ge; omega
      all_goals (rw [hcur] at hk; cases hk)
    · subst e
      rcases ht with ht | ⟨v, rfl⟩ | ⟨v, rfl⟩ | ⟨v, rfl⟩ | ⟨es, c, rfl⟩ | ⟨v, rfl⟩
      · have := h.ge; omega
      all_goals (have := h.ld; rw [hk] at this; cases this)
  · simp [World.setCell, Array.getElem?_modify, hld]
  · refine (keep _ _ h.box (fun e => ?_) (fun e => ?_)).trans h.box
    · have := h.box; rw [e, hcur] at this; cases this
    · have := h.box; rw [e, h.ld] at this; cases this
  · obtain ⟨_, cur2, hc⟩ := h.out.block k hk
    refine keep k _ hc (fun e => ?_) (fun e => h.apart (by rw [hk, e]))
    rw [e, hcur] at hc; cases hc
  · intro e
    rw [e, h.ld] at hk
    cases hk

/-- One number more. -/
theorem LdSt.push (h : LdSt F w vo load outs) (x : Int) (hl : load.length < F.ps.length) (hps : F.ps.length < 1000000) :
    ∃ w', (Builtin.append_ #[29, 29] 29 #[.slice (some ⟨F.gl, 0, none⟩) load.length F.ps.length, .slice (some ⟨w.heap.size, 0, none⟩) 1 1]).run Try.prog (w.alloc (.cells #[.int .i64 x] 3)) = .ok (.slice (some ⟨F.gl, 0, none⟩) (load.length + 1) F.ps.length) w' ∧
      w'.cell? ⟨F.bl, 0, none⟩ = some (.slice (some ⟨F.gl, 0, none⟩) load.length F.ps.length) ∧ w'.frozen? ⟨F.bl, 0, none⟩ = false ∧
      LdSt F (w'.setCell ⟨F.bl, 0, none⟩ (.slice (some ⟨F.gl, 0, none⟩) (load.length + 1) F.ps.length)) vo (load ++ [x]) outs ∧ Below F.B w (w'.setCell ⟨F.bl, 0, none⟩ (.slice (some ⟨F.gl, 0, none⟩) (load.length + 1) F.ps.length)) := by
  obtain ⟨i, hi, h1, h2, h3⟩ := info_parts info_int
  have hst := h.later (alloc_below w (.cells #[.int .i64 x] 3))
  obtain ⟨w', hr, ho, hg⟩ := run_append_fits (P := Try.prog) (w := w.alloc (.cells #[.int .i64 x] 3)) F.B 29 29 3 i 1 Try.underlying29 hi h2 F.gl load.length F.ps.length (ints load) hst.row ⟨w.heap.size, 0, none⟩ 1 1 [.int .i64 x] rfl
    (by intro j u hj
        cases j with
        | zero => simp at hj; subst hj; simp [Addr.add, go_sem]
        | succ j => simp at hj) (by intro u hu; rw [List.mem_singleton.1 hu]; rfl) (by omega)
  obtain ⟨cur, hcur⟩ := hst.gl_cells
  have hne : F.bl ≠ F.gl := fun e => by have := hst.ld; rw [e, hcur] at this; cases this
  have hld : w'.heap[F.bl]? = some (.cells #[.slice (some ⟨F.gl, 0, none⟩) load.length F.ps.length] 29 (0, 0)) := (hg.block _ (Array.getElem?_eq_some_iff.1 hst.ld).1 (fun e => hne (Option.some.inj e))).trans hst.ld
  have ho' : w'.ownsRow F.B 3 1 (.slice (some ⟨F.gl, 0, none⟩) (load ++ [x]).length F.ps.length) (load ++ [x]).length (ints (load ++ [x])) := by simpa [ints] using ho
  have hlen : (load ++ [x]).length = load.length + 1 := by simp
  have hT := hst.turn hg ho'
  rw [hlen] at hT
  have hge := h.ge
  have hlow := h.low
  refine ⟨w', hr, by simp [World.cell?, hld], by simp [World.frozen?, hld], hT, ?_⟩
  exact (below_grown ((Below.refl _ _).alloc hlow _) hg (by simp; omega) (fun q e => by cases e; exact hge.2.2)).setCell hge.1 _

/-- Back to the first ones. -/
theorem LdSt.cut {x : Int} (h : LdSt F w vo (load ++ [x]) outs) : LdSt F (w.setCell ⟨F.bl, 0, none⟩ (.slice (some ⟨F.gl, 0, none⟩) load.length F.ps.length)) vo load outs ∧ Below F.B w (w.setCell ⟨F.bl, 0, none⟩ (.slice (some ⟨F.gl, 0, none⟩) load.length F.ps.length)) := by
  refine ⟨h.turn ⟨rfl, rfl, rfl, Nat.le_refl _, fun _ _ _ => rfl⟩ ?_, (Below.refl _ _).setCell h.ge.1 _⟩
  refine ⟨by simp [ints], .inr ?_⟩
  rcases h.row.2 with ⟨q, _⟩ | ⟨g, cap, cur, e, hg, hb, hn, hm, hs, ht⟩
  · cases q
  · cases e
    refine ⟨F.gl, F.ps.length, cur, rfl, hg, hb, by simp at hn; omega, hm, hs, ?_⟩
    have := congrArg (List.take load.length) ht
    rw [List.take_take] at this
    simpa [ints] using this

/-- The load, copied. -/
theorem LdSt.clone (h : LdSt F w vo load outs) (hlen : load.length ≤ 1000000) : Calls Try.prog 41 #[.slice (some ⟨F.gl, 0, none⟩) load.length F.ps.length] w fun e w' => ∃ v, e = .returned v ∧ RowIn (· ≠ F.gl) w' v load ∧ Below w.heap.size w w' := by
  obtain ⟨A, c, e, _, hi⟩ := Ints.of_own h.row
  cases e
  refine (Try.slices_Clone_int F.gl 0 load.length F.ps.length load w (Nat.le_refl _) (by omega) (fun j hj => ?_)).mono ?_
  · obtain ⟨ad, e, _, hc⟩ := hi j hj
    cases e
    rw [add_free] at hc
    rw [hc]
    simp [List.getD_eq_getElem?_getD, hj]
  · rintro e w' ⟨v', rfl, ho, hne, hb⟩
    refine ⟨v', rfl, ?_, hb⟩
    rcases ho.2 with ⟨q, _⟩ | ⟨g, cap, cur, rfl, hg, hcur, hn, _, _, ht⟩
    · exact absurd q hne
    · obtain ⟨c2, hc2⟩ := h.gl_cells
      have := (Array.getElem?_eq_some_iff.1 hc2).1
      rw [List.take_length] at ht
      exact ⟨g, cap, cur, rfl, by omega, hcur, by simpa [ints] using ht, hn⟩

/-- One row more, its header in a block of its own. -/
theorem LdSt.add {v : Value} {xs : List Int} {g : Nat} (h : LdSt F w vo load outs) (hv : RowIn (· ≠ F.gl) w v xs) (hg : w.heap[g]? = some (.cells #[v] 29 (0, 0))) (hlen : outs.length < 1000000000) :
    ∃ v' w', (Builtin.append_ #[34, 34] 34 #[vo, .slice (some ⟨g, 0, none⟩) 1 1]).run Try.prog w = .ok v' w' ∧ w'.cell? ⟨F.bo, 0, none⟩ = some vo ∧ w'.frozen? ⟨F.bo, 0, none⟩ = false ∧
      LdSt F (w'.setCell ⟨F.bo, 0, none⟩ v') v' load (outs ++ [xs]) ∧ Below F.B w w' ∧ Below F.B w (w'.setCell ⟨F.bo, 0, none⟩ v') := by
  obtain ⟨hdrs, hown, hrows⟩ := h.out
  obtain ⟨i, hi, h1, h2, h3⟩ := info_parts info_ints
  have hone : v.oneCell' = true := by obtain ⟨_, _, _, rfl, _⟩ := hv; rfl
  obtain ⟨v', w', hr, ho, hgr, _, hat⟩ := run_append_own_at (P := Try.prog) (ty := 34) w F.B 34 29 i (.slice none 0 0) 1 24 Try.underlying34 hi h1 h2 h3 rfl (by omega) vo outs.length hdrs hown ⟨g, 0, none⟩ 1 1 [v] rfl
    (by intro j u hj
        cases j with
        | zero => simp at hj; subst hj; simp [Addr.add, World.cell?, hg]
        | succ j => simp at hj) (by intro u hu; rw [List.mem_singleton.1 hu]; exact hone) (by unfold maxLen; omega) (by omega) h.low
  have hob := h.out.block
  -- whatever is no block of headers of this slice stays
  have keep : ∀ (k : Nat) (o : Obj), w.heap[k]? = some o → vo.ownBlock ≠ some k → w'.heap[k]? = w.heap[k]? := fun k o hk hne => hgr.block k (Array.getElem?_eq_some_iff.1 hk).1 (fun e => hne e.symm)
  have noOut : ∀ (k : Nat) (o : Obj), w.heap[k]? = some o → (∀ cur, o ≠ Obj.cells cur 29 (0, 0)) → vo.ownBlock ≠ some k := fun k o hk hno e => by
    obtain ⟨_, cur, hc⟩ := hob k e
    rw [hk] at hc
    exact hno cur (Option.some.inj hc)
  have hbo : w'.heap[F.bo]? = some (.cells #[vo] 34 (0, 0)) := (keep _ _ h.box (noOut _ _ h.box (fun cur e => by cases e))).trans h.box
  have hld : w'.heap[F.bl]? = some (.cells #[.slice (some ⟨F.gl, 0, none⟩) load.length F.ps.length] 29 (0, 0)) := (keep _ _ h.ld h.apart).trans h.ld
  have hbe : Below F.B w w' := below_grown (Below.refl _ _) hgr h.low (fun q e => (hob q e).1)
  have hset : ∀ k, k ≠ F.bo → (w'.setCell ⟨F.bo, 0, none⟩ v').heap[k]? = w'.heap[k]? := fun k hk => Below.heap_setCell _ _ _ _ hk
  have hnb : ∀ (k : Nat) (o : Obj), w.heap[k]? = some o → (∀ x, o ≠ Obj.cells #[x] 34 (0, 0)) → k ≠ F.bo := fun k o hk hno e => by
    subst e
    rw [h.box] at hk
    exact hno vo (Option.some.inj hk).symm
  have hbl : F.bl < w.heap.size := (Array.getElem?_eq_some_iff.1 h.ld).1
  refine ⟨v', w', hr, by simp [World.cell?, hbo], by simp [World.frozen?, hbo], ⟨h.stay.move (fun k o hk ht => ?_), h.ge, ?_, ?_, ?_, ?_, ?_, ?_⟩, hbe, hbe.setCell h.ge.2.1 _⟩
  · have hn1 : k ≠ F.bo := by
      rintro rfl
      rcases ht with ht | ⟨v, rfl⟩ | ⟨v, rfl⟩ | ⟨v, rfl⟩ | ⟨es, c, rfl⟩ | ⟨v, rfl⟩
      · have := h.ge; omega
      all_goals (have := h.box; rw [hk] at this; cases this)
    have hn2 : vo.ownBlock ≠ some k := by
      intro e
      obtain ⟨hge, cur, hc⟩ := hob k e
      rw [hk] at hc
      rcases ht with ht | ⟨v, rfl⟩ | ⟨v, rfl⟩ | ⟨v, rfl⟩ | ⟨es, c, rfl⟩ | ⟨v, rfl⟩
      · omega
      all_goals cases hc
    rw [hset k hn1]
    exact keep k o hk hn2
  · have := h.low; have := hgr.size; simp; omega
  · rw [hset _ (hnb _ _ h.ld (fun x e => by cases e))]; exact hld
  · refine own_move h.row (fun k hk => ?_)
    cases hk
    obtain ⟨cur, hcur⟩ := h.gl_cells
    rw [hset _ (hnb _ _ hcur (fun x e => by cases e))]
    exact keep _ _ hcur (noOut _ _ hcur (fun c e => by cases e))
  · simp [World.setCell, Array.getElem?_modify, hbo]
  · intro e
    rcases hat with q | q
    · rw [q] at e; exact h.apart e
    · rw [q] at e; have := Option.some.inj e; omega
  · have hlen2 : (outs ++ [xs]).length = outs.length + 1 := by simp
    refine ⟨hdrs ++ [v], ?_, fun j hj => ?_⟩
    · rw [hlen2]
      refine own_move ho (fun k hk => hset k (fun e => ?_))
      subst e
      rcases hat with q | q
      · rw [q] at hk; exact noOut _ _ h.box (fun c e => by cases e) hk
      · rw [q] at hk; have := Option.some.inj hk; have := (Array.getElem?_eq_some_iff.1 h.box).1; omega
    · have mv : ∀ (k : Nat) (cur : Array Value), w.heap[k]? = some (Obj.cells cur 3 (0, 0)) → (w'.setCell ⟨F.bo, 0, none⟩ v').heap[k]? = w.heap[k]? := fun k cur hk => by
        rw [hset _ (hnb _ _ hk (fun x e => by cases e))]
        exact keep _ _ hk (noOut _ _ hk (fun c e => by cases e))
      have hhl : hdrs.length = outs.length := by have := hown.1; omega
      by_cases hjl : j < outs.length
      · obtain ⟨u, e, hu⟩ := hrows j hjl
        refine ⟨u, by rw [List.getElem?_append_left (by omega)]; exact e, ?_⟩
        rw [List.getElem_append_left hjl]
        exact hu.move (fun k cur hp hk => ⟨mv k cur hk, hp⟩)
      · have hje : j = outs.length := by omega
        subst hje
        refine ⟨v, by rw [List.getElem?_append_right (by omega), hhl]; simp, ?_⟩
        simp only [List.getElem_append_right (Nat.le_refl _), Nat.sub_self, List.getElem_singleton]
        exact hv.move (fun k cur hp hk => ⟨mv k cur hk, hp⟩)
end
end Go.Proofs.Ytebpdlnknfjoaaa
