/- The walk of the recursion within course.Loads: all loads from one part on. -/
import Derived.Test.YtebpdlnknfjoaaaLoadSt
namespace Go.Proofs.Ytebpdlnknfjoaaa
set_option linter.unusedVariables false
set_option linter.unusedSimpArgs false
open Go.RowKit

theorem cell_one {w : World} {b e : Nat} {v : Value} (h : w.heap[b]? = some (.cells #[v] e (0, 0))) : w.cell? ⟨b, 0, none⟩ = some v := by simp [World.cell?, h]
theorem froz_one {w : World} {b e : Nat} {v : Value} (h : w.heap[b]? = some (.cells #[v] e (0, 0))) : w.frozen? ⟨b, 0, none⟩ = false := by simp [World.frozen?, h]

theorem OutRows.slice {B : Nat} {p : Nat → Prop} {w : World} {vo : Value} {outs : List (List Int)} (h : OutRows B p w vo outs) : ∃ A n c, vo = .slice A n c := by
  obtain ⟨hdrs, h1, _⟩ := h
  rcases h1.2 with ⟨rfl, _⟩ | ⟨g, cap, cur, rfl, _⟩
  · exact ⟨_, _, _, rfl⟩
  · exact ⟨_, _, _, rfl⟩

/-- What each operation of 'out = append(out, slices.Clone(load))' yields. -/
def EmR (F : Fix) (vo : Value) (load : List Int) (outs : List (List Int)) : Nat → Value → World → Prop
  | 0, v, _ => v = vo
  | 1, v, _ => v = .slice (some ⟨F.gl, 0, none⟩) load.length F.ps.length
  | 2, v, w => RowIn (· ≠ F.gl) w v load
  | 3, v, w => ∃ g u, v = .slice (some ⟨g, 0, none⟩) 1 1 ∧ w.heap[g]? = some (.cells #[u] 29 (0, 0)) ∧ RowIn (· ≠ F.gl) w u load
  | 4, v, w => w.cell? ⟨F.bo, 0, none⟩ = some vo ∧ w.frozen? ⟨F.bo, 0, none⟩ = false ∧ LdSt F (w.setCell ⟨F.bo, 0, none⟩ v) v load (outs ++ [load]) ∧ ∀ W, Below F.B W w → Below F.B W (w.setCell ⟨F.bo, 0, none⟩ v)
  | 5, _, w => ∃ v, LdSt F w v load (outs ++ [load])
  | _, _, _ => True
def emKill : Nat → Option Nat
  | 2 => some 3
  | 3 => some 4
  | 4 => some 5
  | _ => none

theorem RowIn.laid {p : Nat → Prop} {w w' : World} {v : Value} {xs : List Int} (h : RowIn p w v xs) (hb : Below w.heap.size w w') : RowIn p w' v xs :=
  h.move (fun k cur hp hk => ⟨hb.block k (Array.getElem?_eq_some_iff.1 hk).1, hp⟩)

def FromPost (F : Fix) (load : List Int) (outs : List (List Int)) (part : Nat) (w : World) (e : Ending) (w' : World) : Prop :=
  e = .returned (.tuple #[]) ∧ (∃ vo', LdSt F w' vo' load (outs ++ (dfs (F.ps.drop part) load).filter (holdB F.g))) ∧ Below F.B w w'

theorem dfs_part {x : Int} {p : List Int} {ps : List (List Int)} {load : List Int} {t : Nat} (ht : t < p.length) :
    ((p.take (t + 1)).flatMap fun x => dfs ps (load ++ [x])) = ((p.take t).flatMap fun x => dfs ps (load ++ [x])) ++ dfs ps (load ++ [p[t]]) := by
  rw [List.take_succ_eq_append_getElem ht, List.flatMap_append]
  simp
theorem dfs_le {p : List Int} {f : Int → List (List Int)} (t : Nat) : ((p.take t).flatMap f).length ≤ (p.flatMap f).length := by
  have : p.flatMap f = (p.take t).flatMap f ++ (p.drop t).flatMap f := by rw [← List.flatMap_append, List.take_append_drop]
  rw [this, List.length_append]
  omega

set_option maxRecDepth 100000 in
set_option maxHeartbeats 1000000 in
theorem from_any (F : Fix) (hps : F.ps.length ≤ 1000) (hp : ∀ p ∈ F.ps, p.length ≤ 1000) : ∀ (r part : Nat), part + r = F.ps.length → ∀ (w : World) (vo : Value) (load : List Int) (outs : List (List Int)), load.length = part → LdSt F w vo load outs →
    outs.length + (dfs (F.ps.drop part) load).length ≤ 1000000 →
    Calls Try.prog 40 #[.int .i64 part, .pointer (some ⟨F.bw, 0, none⟩), .pointer (some ⟨F.bt, 0, none⟩), .pointer (some ⟨F.bo, 0, none⟩), .pointer (some ⟨F.bl, 0, none⟩), .pointer (some ⟨F.bf, 0, none⟩)] w (FromPost F load outs part w) := by
  intro r
  induction r with
  | zero =>
    intro part hpr w vo load outs hload hst hN
    have hpart : part = F.ps.length := by omega
    have hd : dfs (F.ps.drop part) load = [load] := by rw [List.drop_eq_nil_of_le (by omega)]; rfl
    have hcw := cell_one hst.stay.way
    have hct := cell_one hst.stay.tog
    unfold Fix.tog at hct
    have hqe : ((part : Int) == (F.ps.length : Int)) = true := by rw [beq_iff_eq]; omega
    obtain ⟨Al, cl, el, _, hil⟩ := Ints.of_own hst.row
    cases el
    cases hh : holdB F.g load with
    | false =>
      have HC := Lib.hid (together_any (q := false) w (cell_one hst.ld) hil (cell_one hst.stay.need) hst.stay.map (by omega) hh)
      have HE : Hid (FromPost F load outs part w (.returned (.tuple #[])) w) := ⟨rfl, ⟨vo, by rw [hd]; simp [hh]; exact hst⟩, Below.refl _ _⟩
      clear hh hd hil hst hpart hpr hload hN
      go_enter Try.func40, Try.ntmps40
      go_wp2_with (go_at_call 38; refine HC.out.mono ?_; rintro e w' ⟨rfl, rfl⟩)
      first | (go_end0; exact HE.out) | (refine bodyPost_ret (results_none rfl _ _ _) rfl ?_; exact HE.out)
    | true =>
      have HC := Lib.hid (together_any (q := true) w (cell_one hst.ld) hil (cell_one hst.stay.need) hst.stay.map (by omega) hh)
      have HST := Lib.hid hst
      have HLO := Lib.hid hload
      have HN := Lib.hid hN
      have HD : Hid (outs ++ (dfs (F.ps.drop part) load).filter (holdB F.g) = outs ++ [load]) := by show _ = _; rw [hd]; simp [hh]
      have HDL : Hid ((dfs (F.ps.drop part) load).length = 1) := by show _ = _; rw [hd]; rfl
      have HPL : Hid (part = F.ps.length) := hpart
      clear hh hd hil hst hpart hpr hload hN
      go_enter Try.func40, Try.ntmps40
      go_wp2_with (go_at_call 38; refine HC.out.mono ?_; rintro e w' ⟨rfl, rfl⟩)
      refine region_early emKill (fun w' => Below F.B w w') 4 (fun w' => LdSt F w' vo load outs) (EmR F vo load outs) (by kernel_rfl) (by kernel_rfl) (below_drew (Below.refl _ _)) (HST.out.later (below_drew (Below.refl _ _))) (each_op ?_) ?_
      · refine ⟨?_, ?_, ?_, ?_, ?_, ?_, trivial⟩
        · intro a w1 hb hs hd hf hj hE
          have h1 : a.tmps.getD 3 undef = .pointer (some ⟨F.bo, 0, none⟩) := hf 3 (by decide)
          have hst := hE (.inr (List.contains_iff_mem.1 (by kernel_rfl)))
          have hc := cell_one hst.box
          refine step_run (wanted_none rfl) (v := vo) (w' := w1) ?_ ⟨rfl, hb, fun _ _ h => h, fun j u _ h => h⟩
          simp [execOp, Act.eval, h1, hc, go_sem, -Array.getD_eq_getD_getElem?]
        · intro a w1 hb hs hd hf hj hE
          have h1 : a.tmps.getD 4 undef = .pointer (some ⟨F.bl, 0, none⟩) := hf 4 (by decide)
          have hst := hE (.inr (List.contains_iff_mem.1 (by kernel_rfl)))
          have hc := cell_one hst.ld
          refine step_run (wanted_none rfl) (v := _) (w' := w1) ?_ ⟨rfl, hb, fun _ _ h => h, fun j u _ h => h⟩
          simp [execOp, Act.eval, h1, hc, go_sem, -Array.getD_eq_getD_getElem?]
        · intro a w1 hb hs hd hf hj hE
          have h1 : a.tmps.getD 17 undef = .slice (some ⟨F.gl, 0, none⟩) load.length F.ps.length := hj 1 (leans_of (by kernel_rfl))
          have hst := hE (.inr (List.contains_iff_mem.1 (by kernel_rfl)))
          refine step_call (wanted_none rfl) (f := 41) (args := #[.slice (some ⟨F.gl, 0, none⟩) load.length F.ps.length]) ?_ ((hst.clone (by have := HLO.out; have := HPL.out; omega)).mono ?_)
          · simp [execOp, Act.eval, h1, resolve, go_sem, -Array.getD_eq_getD_getElem?]
          · rintro e w2 ⟨v, rfl, hv, hb2⟩
            refine ⟨v, rfl, hv, hb.trans (hb2.mono hst.low), fun _ _ h => h.later hb2, fun j u ha h => ?_⟩
            by_cases hj6 : j < 6
            · have hin := alive_in (js := [0, 1]) ha (by kernel_rfl) hj6
              simp only [List.mem_cons, List.not_mem_nil, or_false] at hin
              rcases hin with rfl | rfl
              · exact h
              · exact h
            · obtain ⟨j', rfl⟩ : ∃ j', j = j' + 6 := ⟨j - 6, by omega⟩
              exact trivial
        · intro a w1 hb hs hd hf hj hE
          have hst := hE (.inr (List.contains_iff_mem.1 (by kernel_rfl)))
          have hrow : RowIn (· ≠ F.gl) w1 (a.tmps.getD 18 undef) load := hj 2 (leans_of (by kernel_rfl))
          obtain ⟨g, cap, cur, h1, hgne, hcur, htk, hlc⟩ := hrow
          have hrow : RowIn (· ≠ F.gl) w1 (.slice (some ⟨g, 0, none⟩) load.length cap) load := ⟨g, cap, cur, rfl, hgne, hcur, htk, hlc⟩
          have hba := alloc_below w1 (.cells #[.slice (some ⟨g, 0, none⟩) load.length cap] 29)
          refine step_run (wanted_none rfl) (v := .slice (some ⟨w1.heap.size, 0, none⟩) 1 1) (w' := w1.alloc (.cells #[.slice (some ⟨g, 0, none⟩) load.length cap] 29)) ?_ ⟨⟨_, _, rfl, alloc_new _ _, hrow.laid hba⟩, hb.trans (hba.mono hst.low), fun _ _ h => h.later hba, fun j u ha h => ?_⟩
          · simp [execOp, Act.eval, h1, go_sem, -Array.getD_eq_getD_getElem?]
          · by_cases hj6 : j < 6
            · have hin := alive_in (js := [0, 1]) ha (by kernel_rfl) hj6
              simp only [List.mem_cons, List.not_mem_nil, or_false] at hin
              rcases hin with rfl | rfl
              · exact h
              · exact h
            · obtain ⟨j', rfl⟩ : ∃ j', j = j' + 6 := ⟨j - 6, by omega⟩
              exact trivial
        · intro a w1 hb hs hd hf hj hE
          have hst := hE (.inl rfl)
          have h1 : a.tmps.getD 16 undef = vo := hj 0 (leans_of (by kernel_rfl))
          obtain ⟨g, u, h2, hg, hrow⟩ : ∃ g u, a.tmps.getD 19 undef = .slice (some ⟨g, 0, none⟩) 1 1 ∧ w1.heap[g]? = some (.cells #[u] 29 (0, 0)) ∧ RowIn (· ≠ F.gl) w1 u load := hj 3 (leans_of (by kernel_rfl))
          obtain ⟨v', w2, hap, hc, hfz, hst2, hb2, hb3⟩ := hst.add hrow hg (by have := HN.out; omega)
          refine step_run (wanted_none rfl) (v := v') (w' := w2) ?_ ⟨⟨hc, hfz, hst2, fun W hW => hW.setCell hst.ge.2.1 _⟩, hb.trans hb2, fun h => absurd rfl h, fun j u ha h => ?_⟩
          · simp [execOp, Act.eval, h1, h2, hap, Result.andThen, resolve, invoke, builtin, -Array.getD_eq_getD_getElem?]
          · by_cases hj6 : j < 6
            · have hin := alive_in (js := [0, 1]) ha (by kernel_rfl) hj6
              simp only [List.mem_cons, List.not_mem_nil, or_false] at hin
              rcases hin with rfl | rfl
              · exact h
              · exact h
            · obtain ⟨j', rfl⟩ : ∃ j', j = j' + 6 := ⟨j - 6, by omega⟩
              exact trivial
        · intro a w1 hb hs hd hf hj hE
          have h1 : a.tmps.getD 3 undef = .pointer (some ⟨F.bo, 0, none⟩) := hf 3 (by decide)
          obtain ⟨v, hv⟩ : ∃ v, a.tmps.getD 20 undef = v := ⟨_, rfl⟩
          obtain ⟨hc, hfz, hst, hbe⟩ : EmR F vo load outs 4 (a.tmps.getD 20 undef) w1 := hj 4 (leans_of (by kernel_rfl))
          rw [hv] at hst hbe
          refine step_unit (wanted_none rfl) (w' := w1.setCell ⟨F.bo, 0, none⟩ v) ?_ ⟨⟨v, hst⟩, hbe w hb, fun _ hk => absurd (List.contains_iff_mem.1 (by kernel_rfl)) hk, fun j u ha h => ?_⟩
          · obtain ⟨An, nn, cn, rfl⟩ := hst.out.slice
            simp [execOp, Act.eval, h1, hv, hc, hfz, go_sem, -Array.getD_eq_getD_getElem?]
          · by_cases hj6 : j < 6
            · have hin := alive_in (js := [0, 1]) ha (by kernel_rfl) hj6
              simp only [List.mem_cons, List.not_mem_nil, or_false] at hin
              rcases hin with rfl | rfl
              · exact h
              · exact h
            · obtain ⟨j', rfl⟩ : ∃ j', j = j' + 6 := ⟨j - 6, by omega⟩
              exact trivial
      · intro a w1 hb hs hd hf hj
        obtain ⟨_, v, hst⟩ : ∃ u, EmR F vo load outs 5 u w1 := hj 5 (by decide) (by intro i e; cases e)
        simp only [Exit.then]
        apply_rules [wp_ret]
        refine bodyPost_ret (results_none rfl _ _ _) hd ?_
        exact ⟨rfl, ⟨v, by rw [HD.out]; exact hst⟩, hb⟩
  | succ r ih =>
    intro part hpr w vo load outs hload hst hN
    subst hload
    have hlt : load.length < F.ps.length := by omega
    have hdrop : F.ps.drop load.length = F.ps[load.length] :: F.ps.drop (load.length + 1) := List.drop_eq_getElem_cons hlt
    have hcw := cell_one hst.stay.way
    have hqe : ((load.length : Int) == (F.ps.length : Int)) = false := by rw [beq_eq_false_iff_ne]; omega
    obtain ⟨ad, A2, c2, hA1, hc2, hl2, hia⟩ := hst.stay.rows.row load.length hlt
    have hpl := hp _ (List.getElem_mem hlt)
    obtain ⟨p, hpe⟩ : ∃ p, p = F.ps[load.length] := ⟨_, rfl⟩
    rw [← hpe] at hdrop hc2 hpl hia
    obtain ⟨ps', hps'⟩ : ∃ ps', ps' = F.ps.drop (load.length + 1) := ⟨_, rfl⟩
    rw [← hps'] at hdrop
    have hdf : dfs (F.ps.drop load.length) load = p.flatMap fun x => dfs ps' (load ++ [x]) := by rw [hdrop]; rfl
    rw [hdf] at hN
    have HDF := Lib.hid hdf
    have HN := Lib.hid hN
    have HIH := Lib.hid ih
    have HPS := Lib.hid hps'
    have HIA := Lib.hid hia
    have HO0 : Hid (outs = outs ++ ((p.take 0).flatMap fun x => dfs ps' (load ++ [x])).filter (holdB F.g)) := by show _ = _; simp
    have HST := Lib.hid hst
    have hlow := hst.low
    rw [hA1] at hcw
    have HPR : Hid (load.length + (r + 1) = F.ps.length) := hpr
    clear hpe hps' hdrop hdf hN ih hia hst hA1 hpr hl2
    go_enter Try.func40, Try.ntmps40
    go_wp2
    clear hcw hc2 hqe
    go_loopw [27] (fun i wr => ∃ (t : Nat) (outs' : List (List Int)) (vo' : Value), t ≤ p.length ∧ i = .int .i64 (t : Nat) ∧ Hid (outs' = outs ++ ((p.take t).flatMap fun x => dfs ps' (load ++ [x])).filter (holdB F.g)) ∧ Hid (LdSt F wr vo' load outs') ∧ Hid (Below F.B w wr)) (fun i _ => p.length - (intOf i).toNat)
    case atStart => exact ⟨0, outs, vo, Nat.zero_le _, rfl, HO0, HST, Below.refl _ _⟩
    case round =>
      clear HO0 HST
      obtain ⟨t, outs', vo', ht, rfl, HO, HST, HB⟩ := hrel
      by_cases htl : t < p.length
      · obtain ⟨ad2, rfl, hx⟩ := (HIA.out.below HB.out).cell t htl
        have hdp := dfs_part (x := p[t]) (ps := ps') (load := load) htl
        have hle := dfs_le (p := p) (f := fun x => dfs ps' (load ++ [x])) (t + 1)
        obtain ⟨x, hxe⟩ : ∃ x, x = p[t] := ⟨_, rfl⟩
        rw [← hxe] at hx hdp
        obtain ⟨w1, hap, hc1, hf1, hst1, hb1⟩ := HST.out.push x hlt (by omega)
        have HAP := Lib.hid hap
        have hcl := cell_one HST.out.ld
        have hcf := cell_one hst1.stay.fro
        unfold Fix.fro at hcf
        have hl1 : (load ++ [x]).length = load.length + 1 := by simp
        have hbound : outs'.length + (dfs (F.ps.drop (load.length + 1)) (load ++ [x])).length ≤ 1000000 := by
          have h1 := HN.out
          rw [HO.out, List.length_append, ← HPS.out]
          have h2 := List.length_filter_le (holdB F.g) ((p.take t).flatMap fun x => dfs ps' (load ++ [x]))
          rw [hdp, List.length_append] at hle
          omega
        have hpr1 : load.length + 1 + r = F.ps.length := by have := HPR.out; omega
        have HC := Lib.hid (HIH.out (load.length + 1) hpr1 _ vo' (load ++ [x]) outs' hl1 hst1 hbound)
        have HO' : Hid (outs' ++ (dfs (F.ps.drop (load.length + 1)) (load ++ [x])).filter (holdB F.g) = outs ++ ((p.take (t + 1)).flatMap fun x => dfs ps' (load ++ [x])).filter (holdB F.g)) := by
          show _ = _
          rw [HO.out, hdp, List.filter_append, ← HPS.out, List.append_assoc]
        have HB1 := Lib.hid (HB.out.trans hb1)
        have HL1 := Lib.hid hl1
        clear hxe hdp hle hap hst1 hb1 hl1 hbound hpr1 HO HST
        go_wp2_with (first
          | (at_builtin; refine wpList_append_run rfl _ _ 29 rfl rfl rfl HAP.out ?_)
          | (go_at_call 40; refine HC.out.mono ?_; rintro e w3 ⟨rfl, ⟨vo3, hst3⟩, hb3⟩
             have hc3 := cell_one hst3.ld
             have hf3 := froz_one hst3.ld
             rw [HL1.out] at hc3
             obtain ⟨hst4, hb4⟩ := hst3.cut
             have HST4 := Lib.hid hst4
             have HB4 := Lib.hid ((HB1.out.trans hb3).trans hb4)
             clear hst3 hst4 hb3 hb4))
        go_roundw
        case rel => exact ⟨t + 1, _, vo3, by omega, by go_num, HO', HST4, HB4⟩
        case measure => simp [intOf]; omega
      · have HE : Hid (FromPost F load outs load.length w (.returned (.tuple #[])) wr) := ⟨rfl, ⟨vo', by
          rw [HDF.out]
          have := HO.out
          rw [List.take_of_length_le (show p.length ≤ t by omega)] at this
          rw [← this]
          exact HST.out⟩, HB.out⟩
        go_wp2
        first | (go_end0; exact HE.out) | (refine bodyPost_ret (results_none rfl _ _ _) rfl ?_; exact HE.out)
end Go.Proofs.Ytebpdlnknfjoaaa
