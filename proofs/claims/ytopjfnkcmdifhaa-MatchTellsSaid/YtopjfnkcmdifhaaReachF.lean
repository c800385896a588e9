/- The walk of match.reach. -/
import Derived.Test.YtopjfnkcmdifhaaReachW
namespace Go.Proofs.Ytopjfnkcmdifhaa
set_option linter.unusedVariables false
set_option linter.unusedSimpArgs false
open Go.RowKit Kuhn

/-- What lies in memory at the head of reach's first loop. -/
structure Rch0 (l : List (List Int)) (A : Option Addr) (c bl bo mo B : Nat) (w0 w : World) (of : Int → Option Nat) : Prop where
  cl : w.cell? ⟨bl, 0, none⟩ = some (.slice A l.length c)
  co : w.cell? ⟨bo, 0, none⟩ = some (.map (some mo))
  mof : MapV w mo (ofF of)
  oB : B ≤ mo
  below : Below B w0 w
  big : B ≤ w.heap.size

theorem upd_ofF (of : Int → Option Nat) (n : Int) (i : Nat) : upd (ofF of) n (some (.int .i64 i)) = ofF (Kuhn.upd of n (some i)) := by
  funext m
  by_cases hm : m = n
  · subst hm; simp [upd, Kuhn.upd, ofF]
  · simp [upd, Kuhn.upd, ofF, hm]

theorem Rch0.put {l : List (List Int)} {A : Option Addr} {c bl bo mo B : Nat} {w0 w : World} {of : Int → Option Nat} (h : Rch0 l A c bl bo mo B w0 w of) (n : Int) (i : Nat) :
    ∃ w', (Instr.mapUpdate 47 (.map (some mo)) (.int .i64 n) (.int .i64 i)).run Try.prog w = .ok () w' ∧ Rch0 l A c bl bo mo B w0 w' (Kuhn.upd of n (some i)) := by
  obtain ⟨w', hr, hm, hg, _⟩ := h.mof.run_update Try.underlying47 Try.underlying3 n (.int .i64 i)
  have hc : ∀ b v, w.cell? ⟨b, 0, none⟩ = some v → w'.cell? ⟨b, 0, none⟩ = some v := by
    intro b v hv
    rw [← hv]
    refine World.cell?_of_block (hg.block _ (cell_lt hv) ?_)
    rintro e
    cases e
    rw [h.mof.no_cell] at hv
    cases hv
  have hB := h.oB
  exact ⟨w', hr, hc _ _ h.cl, hc _ _ h.co, by rw [← upd_ofF]; exact hm, h.oB, below_grown h.below hg h.big (fun k e => by cases e; exact hB), by have := hg.size; have := h.big; omega⟩

def reach0 (w : World) (bl bo : Nat) : World :=
  ((((w.alloc (Obj.map #[] 0)).alloc (Obj.map #[] 0)).alloc (Obj.cells #[Value.map (some w.heap.size)] 37)).alloc (Obj.cells #[Value.map (some (w.heap.size + 1))] 37)).alloc
    (Obj.cells #[Value.func (Fn.func 36) #[] #[Value.pointer (some { block := w.heap.size + 1 + 1, off := 0 }), Value.pointer (some { block := bl, off := 0 }), Value.pointer (some { block := w.heap.size + 1 + 1 + 1, off := 0 }),
      Value.pointer (some { block := bo, off := 0 }), Value.pointer (some { block := w.heap.size + 1 + 1 + 1 + 1, off := 0 })]] 50)
theorem reach0_below (w : World) (bl bo : Nat) : Below w.heap.size w (reach0 w bl bo) :=
  (((((Below.refl _ _).alloc (Nat.le_refl _) _).alloc (by simp) _).alloc (by simp; omega) _).alloc (by simp; omega) _).alloc (by simp; omega) _

theorem RchSt.start {l : List (List Int)} {A : Option Addr} {c bl bo mo B : Nat} {w0 w : World} {of : Int → Option Nat} (h : Rch0 l A c bl bo mo B w0 w of) (hR : RowsAt B w0 A l) :
    RchSt l B A c (w.heap.size + 1 + 1) bl (w.heap.size + 1 + 1 + 1) bo (w.heap.size + 1 + 1 + 1 + 1) w.heap.size (w.heap.size + 1) mo of (reach0 w bl bo) ([], []) := by
  have hb := reach0_below w bl bo
  have hc : ∀ b v, w.cell? ⟨b, 0, none⟩ = some v → (reach0 w bl bo).cell? ⟨b, 0, none⟩ = some v := fun b v hv => by rw [← hv]; exact hb.cell (cell_lt hv)
  have hbig := h.big
  have hlt := h.mof.lt
  have e : (setF fun n => decide (n ∈ ([] : List Int))) = fun _ => none := by funext n; simp [setF]
  refine ⟨?_, hc _ _ h.cl, ?_, hc _ _ h.co, ?_, (hR.below h.below).later hb, hbig, by omega, by omega, by omega, by omega, ?_, ?_, h.mof.below hb hlt⟩
  · simp [reach0, go_sem]
  · simp [reach0, go_sem]
  · simp [reach0, go_sem]
  · rw [e]
    have h1 := ((((MapV.made w).alloc (Obj.map #[] 0)).alloc (Obj.cells #[Value.map (some w.heap.size)] 37)).alloc (Obj.cells #[Value.map (some (w.heap.size + 1))] 37)).alloc
      (Obj.cells #[Value.func (Fn.func 36) #[] #[Value.pointer (some { block := w.heap.size + 1 + 1, off := 0 }), Value.pointer (some { block := bl, off := 0 }), Value.pointer (some { block := w.heap.size + 1 + 1 + 1, off := 0 }),
      Value.pointer (some { block := bo, off := 0 }), Value.pointer (some { block := w.heap.size + 1 + 1 + 1 + 1, off := 0 })]] 50)
    exact h1
  · rw [e]
    have h1 := (((MapV.made (w.alloc (Obj.map #[] 0))).alloc (Obj.cells #[Value.map (some w.heap.size)] 37)).alloc (Obj.cells #[Value.map (some (w.heap.size + 1))] 37)).alloc
      (Obj.cells #[Value.func (Fn.func 36) #[] #[Value.pointer (some { block := w.heap.size + 1 + 1, off := 0 }), Value.pointer (some { block := bl, off := 0 }), Value.pointer (some { block := w.heap.size + 1 + 1 + 1, off := 0 }),
      Value.pointer (some { block := bo, off := 0 }), Value.pointer (some { block := w.heap.size + 1 + 1 + 1 + 1, off := 0 })]] 50)
    simpa [reach0] using h1

def ReachPost (l : List (List Int)) (of : Int → Option Nat) (from_ : List Int) (w : World) (e : Ending) (w' : World) : Prop :=
  ∃ ml mr st, e = .returned (.tuple #[.map (some ml), .map (some mr)]) ∧ MapV w' ml (setF fun n => decide (n ∈ st.1)) ∧ MapV w' mr (setF fun n => decide (n ∈ st.2)) ∧ Reached (rowF l) of from_ from_.length st ∧ Below w.heap.size w w'

set_option maxHeartbeats 2000000 in
theorem reach_any {l : List (List Int)} {A A1 A2 : Option Addr} {c c1 c2 : Nat} {m fr : List Int} (w : World) (hR : RowsAt w.heap.size w A l) (hm : IntsAt w.heap.size w A1 m) (hf : IntsAt w.heap.size w A2 fr)
    (hl : l.length ≤ 1000) (hl2 : ∀ i, (l.getD i []).length ≤ 1000) (hml : m.length = l.length) (hfl : fr.length ≤ 1000) (hfr : ∀ u ∈ fr, ∃ i : Nat, u = i ∧ i < l.length) :
    Calls Try.prog 27 #[.slice A l.length c, .slice A1 m.length c1, .slice A2 fr.length c2] w (ReachPost l (ofM m) fr w) := by
  have hmm := @run_makeMap Try.prog
  have HR := Lib.hid hR
  have HM := Lib.hid hm
  have HF := Lib.hid hf
  have HL2 := Lib.hid hl2
  have HFR := Lib.hid hfr
  have hm1000 : m.length ≤ 1000 := by omega
  have HML := Lib.hid hml
  clear hR hm hf hl2 hfr hml
  go_enter Try.func27, Try.ntmps27
  go_wp2
  have H0 : Hid (Rch0 l A c w.heap.size (w.heap.size + 1 + 1) (w.heap.size + 1) w.heap.size w (((w.alloc (Obj.cells #[Value.slice A l.length c] 22)).alloc (Obj.map #[] 0)).alloc (Obj.cells #[Value.map (some (w.heap.size + 1))] 47)) (ofM (m.take 0))) := by
    have hb : Below w.heap.size w (((w.alloc (Obj.cells #[Value.slice A l.length c] 22)).alloc (Obj.map #[] 0)).alloc (Obj.cells #[Value.map (some (w.heap.size + 1))] 47)) := (((Below.refl _ _).alloc (Nat.le_refl _) _).alloc (by simp) _).alloc (by simp; omega) _
    refine ⟨?_, ?_, ?_, by omega, hb, hb.size⟩
    · simp [go_sem]
    · simp [go_sem]
    · have h := (MapV.made (w.alloc (Obj.cells #[Value.slice A l.length c] 22))).alloc (Obj.cells #[Value.map (some (w.heap.size + 1))] 47)
      have e : ofF (ofM (m.take 0)) = fun _ => none := rfl
      rw [e]
      simpa using h
  go_loopw [19] (fun u wr => ∃ k, k ≤ m.length ∧ u = .int .i64 (k : Nat) ∧ Hid (Rch0 l A c w.heap.size (w.heap.size + 1 + 1) (w.heap.size + 1) w.heap.size w wr (ofM (m.take k)))) (fun u _ => m.length - (intOf u).toNat)
  case atStart => exact ⟨0, Nat.zero_le _, rfl, H0⟩
  case round =>
    clear H0
    obtain ⟨k, hk, rfl, HS⟩ := hrel
    by_cases hlt : k < m.length
    · obtain ⟨ad, rfl, hx⟩ := (HM.out.below HS.out.below).cell k hlt
      have hsn := ofM_snoc m k hlt
      have co := HS.out.co
      obtain ⟨x, hxe⟩ : ∃ x, x = m[k] := ⟨_, rfl⟩
      rw [← hxe] at hx hsn
      clear hxe
      by_cases h0 : 0 ≤ x
      · rw [if_pos h0] at hsn
        obtain ⟨w', hr, hs'⟩ := HS.out.put x k
        rw [← hsn] at hs'
        have HS' := Lib.hid hs'
        clear hsn hs'
        go_wp2
        go_roundw
        case rel => exact ⟨k + 1, by omega, by go_num, HS'⟩
        case measure => simp [intOf]; omega
      · rw [if_neg h0] at hsn
        have hs' := HS.out
        rw [← hsn] at hs'
        have HS' := Lib.hid hs'
        clear hsn hs'
        go_wp2
        go_roundw
        case rel => exact ⟨k + 1, by omega, by go_num, HS'⟩
        case measure => simp [intOf]; omega
    · have e : m.take k = m := List.take_of_length_le (by omega)
      rw [e] at HS
      clear e
      go_wp2
      obtain ⟨wo, rfl⟩ : ∃ wo : World, wo = wr := ⟨_, rfl⟩
      have HB0 : Hid (Below w.heap.size w (reach0 wo w.heap.size (w.heap.size + 1 + 1))) := HS.out.below.trans ((reach0_below _ _ _).mono HS.out.big)
      have HR0 := Lib.hid (RchSt.start HS.out HR.out)
      clear HS
      go_loopw [35] (fun u wq => ∃ j st, j ≤ fr.length ∧ u = .int .i64 (j : Nat) ∧
          Hid (RchSt l w.heap.size A c (wo.heap.size + 1 + 1) w.heap.size (wo.heap.size + 1 + 1 + 1) (w.heap.size + 1 + 1) (wo.heap.size + 1 + 1 + 1 + 1) wo.heap.size (wo.heap.size + 1) (w.heap.size + 1) (ofM m) wq st) ∧
          Hid (Reached (rowF l) (ofM m) fr j st) ∧ Hid (Below w.heap.size w wq)) (fun u _ => fr.length - (intOf u).toNat)
      case atStart => exact ⟨0, _, Nat.zero_le _, rfl, HR0, Reached.start _ _ _, HB0⟩
      case round =>
        clear HR0 HB0
        obtain ⟨j, st, hj, rfl, HST, HRE, HB⟩ := hrel
        by_cases hjl : j < fr.length
        · obtain ⟨ad, rfl, hx⟩ := (HF.out.below HB.out).cell j hjl
          obtain ⟨i, hi, hil⟩ := HFR.out _ (List.getElem_mem hjl)
          rw [hi] at hx
          have HI := Lib.hid hi
          have hof : ∀ n k, ofM m n = some k → k < l.length := fun n k e => by have := (ofM_some e).1; have := HML.out; omega
          have hU : ∀ k : Nat, k < l.length → (k : Int) ∈ (List.range l.length).map (fun k : Nat => (k : Int)) := fun k hk => List.mem_map.2 ⟨k, List.mem_range.2 hk, rfl⟩
          obtain ⟨st', hd⟩ := dfs_ends (row := rowF l) (of := ofM m) (U := (List.range l.length).map (fun k : Nat => (k : Int))) (fun n k e => hU k (hof n k e)) _ st i (hU i hil) (Nat.lt_succ_self _)
          have HC := Lib.hid (reach1_any hof HL2.out _ i st st' wr hil HST.out hd)
          have HRE' := Lib.hid (HRE.out.next hjl hi (dfs_tells _ _ _ _ hd))
          have cw := HST.out.cw
          have HDIS : Hid (∀ b, b < w.heap.size → ¬ (b = wo.heap.size ∨ b = wo.heap.size + 1)) := fun b hb => by have := HST.out.ltL; have := HST.out.ltR; omega
          clear hi hof hU hd
          go_wp2_with (go_at_call 36; refine HC.out.mono ?_; rintro e w3 ⟨rfl, hst3, hf3⟩; have HST3 := Lib.hid hst3; have HB3 := Lib.hid (HB.out.trans (hf3.below HDIS.out HB.out.size)); clear hst3 hf3)
          go_roundw
          case rel => exact ⟨j + 1, st', by omega, by go_num, HST3, HRE', HB3⟩
          case measure => simp [intOf]; omega
        · obtain rfl : j = fr.length := by omega
          obtain ⟨cL, cR⟩ : _ ∧ _ := ⟨HST.out.cL, HST.out.cR⟩
          go_wp2
          go_quiet (fail)
          go_wp2
          go_ret2
          refine ⟨_, _, st, rfl, HST.out.ml.move rfl, HST.out.mr.move rfl, HRE.out, ?_⟩
          exact ⟨HB.out.os, HB.out.tape, HB.out.output, HB.out.size, HB.out.block⟩
end Go.Proofs.Ytopjfnkcmdifhaa
