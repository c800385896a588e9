/- The walk of match.rows: of each left one the right ones that it may be matched to, rising, each once. -/
import Derived.Test.YtopjfnkcmdifhaaProg
import Derived.WalkKit
import Derived.Outline
import Derived.Lib.Hide
import Derived.Deep.LoopGhost
import Derived.Test.YtopjfnkcmdifhaaOwn
import Derived.Test.YtopjfnkcmdifhaaSortOwn
namespace Go.Proofs.Ytopjfnkcmdifhaa
set_option linter.unusedVariables false
set_option linter.unusedSimpArgs false
open Go.RowKit

theorem info3 : (Try.prog.info? 3).map (fun i => (i.zero, i.size, i.bytes)) = some (some (.int .i64 0), 1, 8) := by kernel_rfl
theorem info25 : (Try.prog.info? 25).map (fun i => (i.zero, i.size, i.bytes)) = some (some (.slice none 0 0), 1, 24) := by kernel_rfl

/-- The numbers of a row that may be. -/
def mayRow (right : Int) (r : List Int) : List Int := r.filter fun n => decide (0 ≤ n) && decide (n < right)
/-- .. rising, each once. -/
def rowOf (right : Int) (r : List Int) : List Int := Lib.compact (sorted (mayRow right r))

/-- A row of n cells (block g), of which the k-th one's slice is the call's own from base on; all others are as in cur0. -/
def InSt (g n k base : Nat) (cur0 : Array Value) (wr wq : World) (xs : List Int) : Prop :=
  ∃ cur v, wq.heap[g]? = some (.cells cur 25 (0, 0)) ∧ cur.size = n ∧ cur[k]? = some v ∧ (∀ i, i ≠ k → cur[i]? = cur0[i]?) ∧ wq.ownsRow base 3 1 v xs.length (ints xs) ∧ Fr (fun b => b = g ∨ base ≤ b) wr wq

theorem InSt.store {g n k base : Nat} {cur0 cur : Array Value} {wr wq w' : World} {v' : Value} {xs' : List Int} (hb : wq.heap[g]? = some (.cells cur 25 (0, 0))) (hn : cur.size = n) (hk : k < n)
    (ho : ∀ i, i ≠ k → cur[i]? = cur0[i]?) (hf : Fr (fun b => b = g ∨ base ≤ b) wr wq) (hgb : g < base) {row : Option Nat} (hg : wq.grownBy w' row) (hr : ∀ j, row = some j → base ≤ j) (hw : w'.ownsRow base 3 1 v' xs'.length (ints xs')) :
    InSt g n k base cur0 wr (w'.setCell ⟨g, k, none⟩ v') xs' := by
  have hlt : g < wq.heap.size := (Array.getElem?_eq_some_iff.1 hb).1
  have hne : some g ≠ row := fun e => by have := hr g e.symm; omega
  have hb' : w'.heap[g]? = some (.cells cur 25 (0, 0)) := by rw [hg.block g hlt hne]; exact hb
  have hlt' : g < w'.heap.size := (Array.getElem?_eq_some_iff.1 hb').1
  refine ⟨cur.setIfInBounds k v', v', ?_, by simp [hn], by simp [hn, hk], ?_, ?_, ?_⟩
  · simp [World.setCell, Array.getElem?_modify, hb']
  · intro i hi
    rw [Array.getElem?_setIfInBounds_ne (fun e => hi e.symm)]
    exact ho i hi
  · exact own_move hw (fun j hj => Below.heap_setCell _ _ _ _ (by have := own_ge hw j hj; show j ≠ g; omega))
  · refine (hf.trans ((Fr.of_grown hg).mono fun j _ e => .inr (hr j e.symm))).trans (Fr.setCell _ _ _ (.inl rfl))

theorem InSt.sortStep {g n k base : Nat} {cur0 cur : Array Value} {wr wq w' : World} {v : Value} {xs' : List Int} (hb : wq.heap[g]? = some (.cells cur 25 (0, 0))) (hn : cur.size = n)
    (hv : cur[k]? = some v) (ho : ∀ i, i ≠ k → cur[i]? = cur0[i]?) (hf : Fr (fun b => b = g ∨ base ≤ b) wr wq) (hgb : g < base) {row : Option Nat} (hg : wq.grownBy w' row) (hr : ∀ j, row = some j → base ≤ j) (hw : w'.ownsRow base 3 1 v xs'.length (ints xs')) :
    w'.heap[g]? = some (.cells cur 25 (0, 0)) ∧ InSt g n k base cur0 wr w' xs' := by
  have hlt : g < wq.heap.size := (Array.getElem?_eq_some_iff.1 hb).1
  have hne : some g ≠ row := fun e => by have := hr g e.symm; omega
  have hb' : w'.heap[g]? = some (.cells cur 25 (0, 0)) := by rw [hg.block g hlt hne]; exact hb
  exact ⟨hb', cur, v, hb', hn, hv, ho, hw, hf.trans ((Fr.of_grown hg).mono fun j _ e => .inr (hr j e.symm))⟩

/-- k rows are made. -/
structure RowSt (near : List (List Int)) (right : Int) (g : Nat) (w wr : World) (k : Nat) (cur : Array Value) : Prop where
  blk : wr.heap[g]? = some (.cells cur 25 (0, 0))
  size : cur.size = near.length
  done : ∀ j (hj : j < near.length), j < k → ∃ A' c', cur[j]? = some (.slice A' (rowOf right near[j]).length c') ∧ (rowOf right near[j]).length ≤ c' ∧ IntsAt wr.heap.size wr A' (rowOf right near[j]) ∧ (∀ a, A' = some a → a.block ≠ g)
  rest : ∀ j, k ≤ j → j < near.length → cur[j]? = some (.slice none 0 0)
  low : w.heap.size ≤ g
  below : Below w.heap.size w wr

theorem cell_row {w : World} {g k : Nat} {cur : Array Value} {e : TypeId} {v : Value} (hb : w.heap[g]? = some (.cells cur e (0, 0))) (hv : cur[k]? = some v) : w.cell? ⟨g, k, none⟩ = some v ∧ w.frozen? ⟨g, k, none⟩ = false := by
  simp [World.cell?, World.frozen?, hb, hv]

theorem RowSt.next {near : List (List Int)} {right : Int} {g k : Nat} {w wr wq : World} {cur0 : Array Value} (h : RowSt near right g w wr k cur0) (hk : k < near.length) (hi : InSt g near.length k wr.heap.size cur0 wr wq (rowOf right near[k])) :
    ∃ cur, RowSt near right g w wq (k + 1) cur := by
  obtain ⟨cur, v, hb, hn, hv, ho, hw, hf⟩ := hi
  have hg : g < wr.heap.size := (Array.getElem?_eq_some_iff.1 h.blk).1
  have hsz := hf.size
  refine ⟨cur, hb, hn, ?_, ?_, h.low, h.below.trans (hf.below (fun b hb q => ?_) h.below.size)⟩
  · intro j hj hjk
    by_cases e : j = k
    · subst e
      obtain ⟨A', c', rfl, hc, hia⟩ := Ints.of_own hw
      refine ⟨A', c', hv, hc, hia, fun a e => ?_⟩
      subst e
      have := own_ge hw a.block rfl
      omega
    · obtain ⟨A', c', h1, h2, h3, h4⟩ := h.done j hj (by omega)
      refine ⟨A', c', by rw [ho j e]; exact h1, h2, ?_, h4⟩
      intro i hi
      obtain ⟨ad, e1, e2, e3⟩ := h3 i hi
      refine ⟨ad, e1, by omega, ?_⟩
      rw [← e3]
      refine World.cell?_of_block ?_
      rw [add_block]
      refine hf.block _ e2 ?_
      rintro (q | q)
      · exact h4 ad e1 q
      · omega
  · intro j h1 h2
    rw [ho j (by omega)]
    exact h.rest j (by omega) h2
  · have := h.low
    have := h.below.size
    rcases q with q | q <;> omega

def RowsPost (near : List (List Int)) (right : Int) (w : World) (e : Ending) (w' : World) : Prop :=
  ∃ g, e = .returned (.slice (some ⟨g, 0, none⟩) near.length near.length) ∧ RowsAt w'.heap.size w' (some ⟨g, 0, none⟩) (near.map (rowOf right)) ∧ Below w.heap.size w w'

theorem mayRow_snoc (right : Int) (r : List Int) (j : Nat) (hj : j < r.length) : mayRow right (r.take (j + 1)) = if 0 ≤ r[j] ∧ r[j] < right then mayRow right (r.take j) ++ [r[j]] else mayRow right (r.take j) := by
  unfold mayRow
  rw [List.take_succ_eq_append_getElem hj, List.filter_append]
  by_cases h : 0 ≤ r[j] ∧ r[j] < right
  · rw [if_pos h]; simp [h]
  · rw [if_neg h]
    have : (decide (0 ≤ r[j]) && decide (r[j] < right)) = false := by
      rw [Bool.and_eq_false_iff, decide_eq_false_iff_not, decide_eq_false_iff_not]
      by_cases h1 : 0 ≤ r[j]
      · exact .inr (fun q => h ⟨h1, q⟩)
      · exact .inl h1
    simp [this]
theorem mayRow_le (right : Int) (r : List Int) (j : Nat) : (mayRow right (r.take j)).length ≤ r.length := by
  have := List.length_filter_le (fun n => decide (0 ≤ n) && decide (n < right)) (r.take j)
  have h2 := List.length_take_le j r
  have h3 : (r.take j).length ≤ r.length := by rw [List.length_take]; omega
  unfold mayRow
  omega

set_option maxHeartbeats 4000000 in
theorem rows_any (near : List (List Int)) (right : Int) (A : Option Addr) (c : Nat) (w : World) (hR : RowsAt w.heap.size w A near) (hn : near.length ≤ 1000) (hl : ∀ r ∈ near, r.length ≤ 1000) :
    Calls Try.prog 24 #[.slice A near.length c, .int .i64 right] w (RowsPost near right w) := by
  obtain ⟨w1, hmk, hown1, hg1⟩ := make_full (P := Try.prog) (t := 22) (e := 25) (bytes := 24) (base := w.heap.size) (n := near.length) (z := .slice none 0 0) (w := w) Try.underlying22 info25 rfl (by omega) (by omega) (Nat.le_refl _)
  have HR := Lib.hid hR
  have HL := Lib.hid hl
  have HS0 : Hid (∃ cur, RowSt near right w.heap.size w w1 0 cur) := by
    rcases hown1.2 with ⟨e, _⟩ | ⟨g, cap, cur, e, hg, hb, hc, hm, hs, ht⟩
    · cases e
    · cases e
      refine ⟨cur, hb, by omega, fun j _ h => by omega, fun j _ hj => ?_, Nat.le_refl _, (Below.refl _ _).grown hg1 (Nat.le_refl _) (by simp)⟩
      have e2 : (cur.toList.take (near.length * 1))[j]? = some (.slice none 0 0) := by rw [ht]; simp [hj]
      rw [List.getElem?_take_of_lt (by omega)] at e2
      simpa using e2
  clear hR hl hown1 hg1
  go_enter Try.func24, Try.ntmps24
  go_wp2
  go_loopw [15] (fun u wr => ∃ k, k ≤ near.length ∧ u = .int .i64 (k : Nat) ∧ Hid (∃ cur, RowSt near right w.heap.size w wr k cur)) (fun u _ => near.length - (intOf u).toNat)
  case atStart => exact ⟨0, Nat.zero_le _, rfl, HS0⟩
  case round =>
    clear HS0 hmk
    obtain ⟨k, hk, rfl, HS⟩ := hrel
    by_cases hlt : k < near.length
    · obtain ⟨cur0, hs0⟩ := HS.out
      obtain ⟨ad, A', c', rfl, hrow, hlc, hia⟩ := (HR.out.below hs0.below).row k hlt
      have hr1000 := HL.out near[k] (List.getElem_mem hlt)
      obtain ⟨r, hr⟩ : ∃ r, r = near[k] := ⟨_, rfl⟩
      rw [← hr] at hrow hlc hia hr1000
      have HIA := Lib.hid hia
      have HS1 := Lib.hid hs0
      have HRR := Lib.hid hr
      have HI0 : Hid (InSt w.heap.size near.length k wr.heap.size cur0 wr wr []) := ⟨cur0, .slice none 0 0, hs0.blk, hs0.size, hs0.rest k (Nat.le_refl _) hlt, fun _ _ => rfl, World.ownsRow_nil _ _ _ _, Fr.refl _ _⟩
      have HG : Hid (w.heap.size < wr.heap.size) := (Array.getElem?_eq_some_iff.1 hs0.blk).1
      clear hs0 hia hr HS
      go_wp2
      obtain ⟨wo, rfl⟩ : ∃ wo : World, wo = wr := ⟨_, rfl⟩
      clear hrow
      go_loopw [22] (fun u wq => ∃ j, j ≤ r.length ∧ u = .int .i64 (j : Nat) ∧ Hid (InSt w.heap.size near.length k wo.heap.size cur0 wo wq (mayRow right (r.take j)))) (fun u _ => r.length - (intOf u).toNat)
      case atStart => exact ⟨0, Nat.zero_le _, rfl, HI0⟩
      case round =>
        clear HI0
        obtain ⟨j, hj, rfl, HI⟩ := hrel
        obtain ⟨cur, v, hb, hsz, hv, ho, hw, hf⟩ := HI.out
        obtain ⟨hcell, hfree⟩ := cell_row hb hv
        have hge := own_ge hw
        have HW := Lib.hid hw
        have HO := Lib.hid ho
        have HF := Lib.hid hf
        have HGE := Lib.hid hge
        have HBL := Lib.hid hb
        have HSZ := Lib.hid hsz
        have HV := Lib.hid hv
        have hle := mayRow_le right r j
        by_cases hjl : j < r.length
        · obtain ⟨ad2, rfl, hx⟩ := (HIA.out.fr hf (fun b hb q => by have := HG.out; omega)).cell j hjl
          have HM := Lib.hid (mayRow_snoc right r j hjl)
          obtain ⟨x, hxe⟩ : ∃ x, x = r[j] := ⟨_, rfl⟩
          rw [← hxe] at hx HM
          clear hxe hw ho hf hge hb hsz hv HI
          by_cases hm : 0 ≤ x ∧ x < right
          · obtain ⟨hm1, hm2⟩ := hm
            have HM2 := HM.out
            rw [if_pos ⟨hm1, hm2⟩] at HM2
            have HM3 := Lib.hid HM2
            obtain ⟨g', cap', w', hap, hown', hgr⟩ := app_ints (ty := 25) Try.underlying25 info3 HW.out x (by omega) (by have := HF.out.size; omega)
            have HN : Hid (InSt w.heap.size near.length k wo.heap.size cur0 wo (w'.setCell ⟨w.heap.size, k, none⟩ (.slice (some ⟨g', 0, none⟩) ((mayRow right (r.take j)).length + 1) cap')) (mayRow right (r.take (j + 1)))) :=
              InSt.store HBL.out HSZ.out hlt HO.out HF.out HG.out hgr HGE.out (by rw [HM3.out]; exact hown')
            obtain ⟨hcell', hfree'⟩ : w'.cell? ⟨w.heap.size, k, none⟩ = some v ∧ w'.frozen? ⟨w.heap.size, k, none⟩ = false := by
              have hne : some w.heap.size ≠ v.ownBlock := fun e => by have := HGE.out _ e.symm; have := HG.out; omega
              have e := hgr.block w.heap.size (Array.getElem?_eq_some_iff.1 HBL.out).1 hne
              exact ⟨(World.cell?_of_block e).trans hcell, (World.frozen?_of_block e).trans hfree⟩
            have HAP := Lib.hid hap
            clear HM HM2 HM3 hown' hgr hap
            go_wp2_with (at_builtin; refine wpList_append_run rfl _ _ 25 rfl rfl rfl HAP.out ?_)
            go_roundw
            case rel => exact ⟨j + 1, by omega, by go_num, HN⟩
            case measure => simp [intOf]; omega
          · have HM2 := HM.out
            rw [if_neg hm] at HM2
            have HN : Hid (InSt w.heap.size near.length k wo.heap.size cur0 wo wr (mayRow right (r.take (j + 1)))) := by
              rw [HM2]; exact ⟨cur, v, HBL.out, HSZ.out, HV.out, HO.out, HW.out, HF.out⟩
            clear HM HM2
            by_cases h0 : 0 ≤ x
            · have h1 : ¬ x < right := fun q => hm ⟨h0, q⟩
              clear hm
              go_wp2
              go_roundw
              case rel => exact ⟨j + 1, by omega, by go_num, HN⟩
              case measure => simp [intOf]; omega
            · clear hm
              go_wp2
              go_roundw
              case rel => exact ⟨j + 1, by omega, by go_num, HN⟩
              case measure => simp [intOf]; omega
        · have e : r.take j = r := List.take_of_length_le (by omega)
          rw [e] at HW hle
          have HC := Lib.hid (sort_own HW.out (by omega))
          have hls : (sorted (mayRow right r)).length = (mayRow right r).length := by simp [sorted]
          have HLS : Hid ((sorted (mayRow right r)).length < 4611686018427387904) := by rw [hls]; show _ < _; omega
          clear hw ho hf hge hb hsz hv HI e hls
          have hgk : w.heap.size < wo.heap.size := HG.out
          have HFR : Hid (∀ w2 : World, wr.grownBy w2 v.ownBlock → w2.cell? ⟨w.heap.size, k, none⟩ = some v ∧ w2.frozen? ⟨w.heap.size, k, none⟩ = false) := by
            intro w2 hg2
            have hne : some w.heap.size ≠ v.ownBlock := fun e => by have := HGE.out _ e.symm; omega
            have e := hg2.block w.heap.size (Array.getElem?_eq_some_iff.1 HBL.out).1 hne
            exact ⟨(World.cell?_of_block e).trans hcell, (World.frozen?_of_block e).trans hfree⟩
          clear hgk
          go_wp2_with (first | (go_at_call 33; refine HC.out.mono ?_; rintro e w2 ⟨rfl, hw2, hg2⟩; obtain ⟨hcell2, hfree2⟩ := HFR.out w2 hg2; have HW2 := Lib.hid hw2; have HG2 := Lib.hid hg2; have HC2 := Lib.hid (compact_own hw2 HLS.out); clear hw2 hg2) | (go_at_call 34; refine HC2.out.mono ?_; rintro e w3 ⟨A3, c3, rfl, hw3, hg3⟩; obtain ⟨hcell3, hfree3⟩ := HFR.out w3 (grown_trans HG2.out hg3); have HW3 := Lib.hid hw3; have HG3 := Lib.hid hg3; clear hw3 hg3))
          go_roundw
          case rel =>
            have e : rowOf right near[k] = Lib.compact (sorted (mayRow right r)) := by rw [← HRR.out]; rfl
            have hin := InSt.store HBL.out HSZ.out hlt HO.out HF.out HG.out (grown_trans HG2.out HG3.out) HGE.out HW3.out
            rw [← e] at hin
            refine ⟨k + 1, by omega, by go_num, HS1.out.next hlt ?_⟩
            rw [← e]
            exact hin
          case measure => simp [intOf]; omega
    · go_wp2
      go_ret
      obtain ⟨cur, h⟩ := HS.out
      refine ⟨w.heap.size, rfl, fun i hi => ?_, h.below⟩
      have hi' : i < near.length := by simpa using hi
      obtain ⟨A', c', h1, h2, h3, _⟩ := h.done i hi' (by omega)
      refine ⟨_, A', c', rfl, (Array.getElem?_eq_some_iff.1 h.blk).1, ?_, by simpa using h2, by simpa using h3⟩
      rw [add_free, Nat.zero_add]
      rw [(cell_row h.blk h1).1]
      simp
end Go.Proofs.Ytopjfnkcmdifhaa
