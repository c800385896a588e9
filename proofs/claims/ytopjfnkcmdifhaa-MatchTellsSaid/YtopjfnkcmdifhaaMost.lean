/- The walk of match.most: how many left ones can be matched at most. -/
import Derived.Test.YtopjfnkcmdifhaaWay
import Derived.Laws.EntriesVeiled
namespace Go.Proofs.Ytopjfnkcmdifhaa
set_option linter.unusedVariables false
set_option linter.unusedSimpArgs false
open Go.RowKit Kuhn

/-- What lies in memory at the head of most's loop. -/
structure MostSt (l : List (List Int)) (B : Nat) (A : Option Addr) (c bl bt bs bo bw mt mo : Nat) (ok : Int → Bool) (w : World) (of : Int → Option Nat) : Prop where
  cl : w.cell? ⟨bl, 0, none⟩ = some (.slice A l.length c)
  ct : w.cell? ⟨bt, 0, none⟩ = some (.map (some mt))
  cs : ∃ v, w.heap[bs]? = some (.cells #[v] 37 (0, 0))
  co : w.cell? ⟨bo, 0, none⟩ = some (.map (some mo))
  cw : w.cell? ⟨bw, 0, none⟩ = some (.func (.func 35) #[] #[.pointer (some ⟨bl, 0, none⟩), .pointer (some ⟨bt, 0, none⟩), .pointer (some ⟨bs, 0, none⟩), .pointer (some ⟨bo, 0, none⟩), .pointer (some ⟨bw, 0, none⟩)])
  rows : RowsAt B w A l
  big : B ≤ w.heap.size
  sB : B ≤ bs
  lto : B ≤ mo
  to : mt ≠ mo
  sl : bs ≠ bl
  st : bs ≠ bt
  so : bs ≠ bo
  sw : bs ≠ bw
  mt : MapV w mt (setF fun n => !ok n)
  mo : MapV w mo (ofF of)

section
variable {l : List (List Int)} {B : Nat} {A : Option Addr} {c bl bt bs bo bw mt ms mo : Nat} {ok : Int → Bool} {w w' : World} {s : List Int} {of of' : Int → Option Nat}

theorem MostSt.begin (h : MostSt l B A c bl bt bs bo bw mt mo ok w of) :
    WaySt l B A c bl bt bs bo bw mt w.heap.size mo ok ((w.alloc (.map #[] 0)).setCell ⟨bs, 0, none⟩ (.map (some w.heap.size))) [] of ∧ B ≤ bs := by
  obtain ⟨v, hv⟩ := h.cs
  have hbs : bs < w.heap.size := (Array.getElem?_eq_some_iff.1 hv).1
  have hc : ∀ b u, b ≠ bs → w.cell? ⟨b, 0, none⟩ = some u → ((w.alloc (.map #[] 0)).setCell ⟨bs, 0, none⟩ (.map (some w.heap.size))).cell? ⟨b, 0, none⟩ = some u := by
    intro b u hb hu
    rw [← hu]
    refine World.cell?_of_block ?_
    rw [Below.heap_setCell _ _ _ _ hb]
    exact Below.heap_alloc _ _ _ (cell_lt hu)
  have hm : ∀ b f, MapV w b f → MapV ((w.alloc (.map #[] 0)).setCell ⟨bs, 0, none⟩ (.map (some w.heap.size))) b f := by
    intro b f hb
    refine (hb.alloc _).setCell ?_ _
    rintro rfl
    have := hb.no_cell 0 none
    rw [cell_of_one hv] at this
    cases this
  refine ⟨⟨hc _ _ h.sl.symm h.cl, hc _ _ h.st.symm h.ct, ?_, hc _ _ h.so.symm h.co, hc _ _ h.sw.symm h.cw, ?_, h.big, h.lto, ?_, ?_, h.to, hm _ _ h.mt, ?_, hm _ _ h.mo⟩, h.sB⟩
  · have : (w.alloc (.map #[] 0)).heap[bs]? = some (.cells #[v] 37 (0, 0)) := by rw [Below.heap_alloc _ _ _ hbs]; exact hv
    exact cell_of_one (one_setCell this)
  · refine h.rows.move fun b hb hl => ?_
    rw [Below.heap_setCell _ _ _ _ (by have := h.sB; show b ≠ bs; omega)]
    exact Below.heap_alloc _ _ _ hl
  · have := h.mo.lt; omega
  · have := h.mt.lt; omega
  · have := (MapV.made w).setCell (a := ⟨bs, 0, none⟩) (by show w.heap.size ≠ bs; omega) (.map (some w.heap.size))
    have e : (setF fun n => decide (n ∈ ([] : List Int))) = fun _ => none := by funext n; simp [setF]
    rw [e]
    exact this

theorem MostSt.again (h : MostSt l B A c bl bt bs bo bw mt mo ok w of) (hw : WaySt l B A c bl bt bs bo bw mt w.heap.size mo ok w' s of')
    (hf : Fr (fun k => k = w.heap.size ∨ k = mo) ((w.alloc (.map #[] 0)).setCell ⟨bs, 0, none⟩ (.map (some w.heap.size))) w') : MostSt l B A c bl bt bs bo bw mt mo ok w' of' := by
  obtain ⟨v, hv⟩ := h.cs
  have hbs : bs < w.heap.size := (Array.getElem?_eq_some_iff.1 hv).1
  have e : (w.alloc (.map #[] 0)).heap[bs]? = some (.cells #[v] 37 (0, 0)) := by rw [Below.heap_alloc _ _ _ hbs]; exact hv
  have hsz := hf.size
  have h1 : ((w.alloc (.map #[] 0)).setCell ⟨bs, 0, none⟩ (.map (some w.heap.size))).heap.size = w.heap.size + 1 := by simp
  have hne : bs ≠ mo := by
    rintro rfl
    have := h.mo.no_cell 0 none
    rw [cell_of_one hv] at this
    cases this
  refine ⟨hw.cl, hw.ct, ⟨.map (some w.heap.size), ?_⟩, hw.co, hw.cw, hw.rows, by have := h.big; omega, h.sB, h.lto, h.to, h.sl, h.st, h.so, h.sw, hw.mt, hw.mo⟩
  · rw [hf.block bs (by omega) (by rintro (q | q) <;> omega)]
    exact one_setCell e

theorem MostSt.below (h : MostSt l B A c bl bt bs bo bw mt mo ok w of)
    (hf : Fr (fun k => k = w.heap.size ∨ k = mo) ((w.alloc (.map #[] 0)).setCell ⟨bs, 0, none⟩ (.map (some w.heap.size))) w') : Below B w w' := by
  refine (((Below.refl B w).alloc h.big _).setCell h.sB _).trans (hf.below ?_ ?_)
  · rintro k hk (q | q)
    · have := h.big; omega
    · have := h.lto; omega
  · have := h.big; simp; omega
end

def most0 (w : World) (l : List (List Int)) (A : Option Addr) (c mt : Nat) : World :=
  (((((w.alloc (Obj.cells #[Value.slice A l.length c] 22)).alloc (Obj.cells #[Value.map (some mt)] 37)).alloc (Obj.map #[] 0)).alloc (Obj.cells #[Value.map (some (w.heap.size + 1 + 1))] 47)).alloc (Obj.cells #[Value.map none] 37)).alloc
    (Obj.cells #[Value.func (Fn.func 35) #[] #[Value.pointer (some { block := w.heap.size, off := 0 }), Value.pointer (some { block := w.heap.size + 1, off := 0 }), Value.pointer (some { block := w.heap.size + 1 + 1 + 1 + 1, off := 0 }), Value.pointer (some { block := w.heap.size + 1 + 1 + 1, off := 0 }), Value.pointer (some { block := w.heap.size + 1 + 1 + 1 + 1 + 1, off := 0 })]] 48)

theorem MostSt.start {l : List (List Int)} {A : Option Addr} {c mt : Nat} {ok : Int → Bool} {w : World} (hR : RowsAt w.heap.size w A l) (hT : MapV w mt (setF fun n => !ok n)) :
    MostSt l w.heap.size A c w.heap.size (w.heap.size + 1) (w.heap.size + 1 + 1 + 1 + 1) (w.heap.size + 1 + 1 + 1) (w.heap.size + 1 + 1 + 1 + 1 + 1) mt (w.heap.size + 1 + 1) ok (most0 w l A c mt) (fun _ => none) := by
  have hb : Below w.heap.size w (most0 w l A c mt) := ((((((Below.refl _ _).alloc (Nat.le_refl _) _).alloc (by simp) _).alloc (by simp; omega) _).alloc (by simp; omega) _).alloc (by simp; omega) _).alloc (by simp; omega) _
  have hlt := hT.lt
  have hm : MapV (most0 w l A c mt) (w.heap.size + 1 + 1) (ofF fun _ => none) := by
    have h := (((MapV.made ((w.alloc (Obj.cells #[Value.slice A l.length c] 22)).alloc (Obj.cells #[Value.map (some mt)] 37))).alloc (Obj.cells #[Value.map (some (w.heap.size + 1 + 1))] 47)).alloc (Obj.cells #[Value.map none] 37)).alloc
      (Obj.cells #[Value.func (Fn.func 35) #[] #[Value.pointer (some { block := w.heap.size, off := 0 }), Value.pointer (some { block := w.heap.size + 1, off := 0 }), Value.pointer (some { block := w.heap.size + 1 + 1 + 1 + 1, off := 0 }), Value.pointer (some { block := w.heap.size + 1 + 1 + 1, off := 0 }), Value.pointer (some { block := w.heap.size + 1 + 1 + 1 + 1 + 1, off := 0 })]] 48)
    have e : ofF (fun _ => none) = fun _ => none := rfl
    rw [e]
    simpa [most0] using h
  have hs : (most0 w l A c mt).heap[w.heap.size + 1 + 1 + 1 + 1]? = some (.cells #[.map none] 37 (0, 0)) := by
    have h := (Go.MapKept.heap_alloc ((((w.alloc (Obj.cells #[Value.slice A l.length c] 22)).alloc (Obj.cells #[Value.map (some mt)] 37)).alloc (Obj.map #[] 0)).alloc (Obj.cells #[Value.map (some (w.heap.size + 1 + 1))] 47)) (Obj.cells #[Value.map none] 37)).1
    unfold most0
    rw [Below.heap_alloc _ _ _ (by simp)]
    simpa using h
  refine ⟨?_, ?_, ⟨.map none, hs⟩, ?_, ?_, hR.below hb, hb.size, by omega, by omega, by omega, by omega, by omega, by omega, by omega, hT.below hb hlt, hm⟩
  all_goals simp [most0, go_sem]

set_option maxHeartbeats 1000000 in
theorem most_any {l : List (List Int)} {A : Option Addr} {c mt : Nat} {ok : Int → Bool} (fr : Nat) (w : World) (hR : RowsAt w.heap.size w A l) (hT : MapV w mt (setF fun n => !ok n))
    (hbig : l.length ≤ 9223372036854775806) (hfr : fr ≤ l.length) (hbig2 : ∀ i, (l.getD i []).length ≤ 9223372036854775807) :
    Calls Try.prog 25 #[.slice A l.length c, .int .i64 fr, .map (some mt)] w fun e w' => e = .returned (.int .i64 (mm (fun j => l.getD j []) ok fr l.length)) ∧ Below w.heap.size w w' := by
  have hmm := @run_makeMap Try.prog
  have HR := Lib.hid hR
  have HT := Lib.hid hT
  have HB2 := Lib.hid hbig2
  clear hR hT hbig2
  go_enter Try.func25, Try.ntmps25
  go_wp2
  go_loopw [10, 11] (fun v u wr => ∃ (n k : Nat) (of : Int → Option Nat), fr ≤ k ∧ k ≤ l.length ∧ n ≤ k ∧ v = .int .i64 (n : Nat) ∧ u = .int .i64 (k : Nat) ∧ Hid (∃ S F B, KInv (fun j => l.getD j []) ok fr k of n S F B) ∧
      Hid (MostSt l w.heap.size A c w.heap.size (w.heap.size + 1) (w.heap.size + 1 + 1 + 1 + 1) (w.heap.size + 1 + 1 + 1) (w.heap.size + 1 + 1 + 1 + 1 + 1) mt (w.heap.size + 1 + 1) ok wr of) ∧ Hid (Below w.heap.size w wr))
      (fun _ u _ => l.length - (intOf u).toNat)
  case atStart =>
    refine ⟨0, fr, fun _ => none, Nat.le_refl _, hfr, Nat.zero_le _, rfl, rfl, ⟨_, _, _, KInv.start _ _ _⟩, ?_, ?_⟩
    · exact MostSt.start HR.out HT.out
    · exact ((((((Below.refl _ _).alloc (Nat.le_refl _) _).alloc (by simp) _).alloc (by simp; omega) _).alloc (by simp; omega) _).alloc (by simp; omega) _).alloc (by simp; omega) _
  case round =>
    clear HR HT
    obtain ⟨n, k, of, hfk, hk, hnk, rfl, rfl, HK, HST, HB⟩ := hrel
    obtain ⟨v, hv⟩ := HST.out.cs
    obtain ⟨cl, cw⟩ : _ ∧ _ := ⟨HST.out.cl, HST.out.cw⟩
    by_cases hlt : k < l.length
    · have cs := cell_alloc (cell_of_one hv) (.map #[] 0)
      have fs := frozen_alloc (cell_of_one hv) (free_of_one hv) (.map #[] 0)
      clear hv
      have HW := Lib.hid HST.out.begin.1
      have cwW := HW.out.cw
      clear cw
      obtain ⟨S, F, B, hk1⟩ := HK.out
      have hU : ∀ i, i < l.length → ∀ n ∈ l.getD i [], n ∈ (List.range l.length).flatMap (fun j => l.getD j []) := fun i hi n hn => List.mem_flatMap.2 ⟨i, List.mem_range.2 hi, hn⟩
      have hof : ∀ n i, of n = some i → i < l.length := fun n i e => by have := (hk1.valid.edge n i e).2.1; omega
      obtain ⟨r, hr⟩ := srch_ends (row := fun j => l.getD j []) (ok := ok) (of := of) (U := (List.range l.length).flatMap (fun j => l.getD j [])) (fun i v hv => hU i (hof v i hv)) _ [] k (hU k hlt) (Nat.lt_succ_self _)
      have HC := Lib.hid (way_any hof HB2.out _ k [] r _ hlt HW.out hr)
      have HT := Lib.hid (srch_tells _ _ _ _ hr)
      have HK1 := Lib.hid hk1
      clear hk1 hU hof hr
      obtain ⟨q, s'⟩ := r
      cases q with
      | some p =>
        go_wp2_with (go_at_call 35; refine HC.out.mono ?_; rintro e w2 ⟨rfl, hst2, hf2⟩; have HST2 := Lib.hid (HST.out.again hst2 hf2); have HB2' := Lib.hid (HB.out.trans (HST.out.below hf2)); clear hst2 hf2)
        go_roundw
        case rel => exact ⟨n + 1, k + 1, _, by omega, by omega, by omega, by go_num, by go_num, ⟨_, _, _, HK1.out.hit hfk HT.out.2.1⟩, HST2, HB2'⟩
        case measure => simp [intOf]; omega
      | none =>
        go_wp2_with (go_at_call 35; refine HC.out.mono ?_; rintro e w2 ⟨rfl, hst2, hf2⟩; have HST2 := Lib.hid (HST.out.again hst2 hf2); have HB2' := Lib.hid (HB.out.trans (HST.out.below hf2)); clear hst2 hf2)
        go_roundw
        case rel => exact ⟨n, k + 1, _, by omega, by omega, by omega, by go_num, by go_num, ⟨_, _, _, HK1.out.miss HT.out⟩, HST2, HB2'⟩
        case measure => simp [intOf]; omega
    · clear hv
      go_wp2
      go_ret
      obtain ⟨S, F, B, hk1⟩ := HK.out
      have e : k = l.length := by omega
      subst e
      obtain rfl := hk1.eq_mm
      exact ⟨rfl, HB.out⟩
end Go.Proofs.Ytopjfnkcmdifhaa
