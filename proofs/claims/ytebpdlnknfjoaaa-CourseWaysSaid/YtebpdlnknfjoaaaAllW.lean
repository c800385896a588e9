/- The walk of the document's all: the loads of a way, part by part. -/
import Derived.Test.YtebpdlnknfjoaaaOutMore
import Derived.Deep.CutRange
namespace Go.Proofs.Ytebpdlnknfjoaaa
set_option linter.unusedVariables false
set_option linter.unusedSimpArgs false
open Go.RowKit

/-- What is fixed at the statement 'next = append(next, append(append([]int{}, loads[i]...), w.Parts[k][n]))'. -/
structure AllFix where
  Bn : Nat
  B5 : Nat
  v5 : Value
  g3 : Nat
  m3 : Nat
  c3 : Nat
  i : Nat
  Ai : Option Addr
  ci : Nat
  r : List Int
  b : Nat
  ad : Addr
  mp : Nat
  cp : Nat
  k : Nat
  A1 : Addr
  lp : Nat
  c1 : Nat
  n : Nat
  x : Int
  out : List (List Int)
def AllR (F : AllFix) : Nat → Value → World → Prop
  | 0, v, _ => v = F.v5
  | 1, v, w => ∃ g, v = .slice (some ⟨g, 0, none⟩) 0 0 ∧ F.Bn ≤ g ∧ w.heap[g]? = some (.cells #[] 3 (0, 0))
  | 2, v, _ => v = .slice (some ⟨F.g3, 0, none⟩) F.m3 F.c3
  | 3, v, _ => v = .int .i64 (F.i : Nat)
  | 4, v, _ => v = .pointer (some ((⟨F.g3, 0, none⟩ : Addr).add F.i))
  | 5, v, _ => v = .slice F.Ai F.r.length F.ci
  | 6, v, w => w.ownsRow F.Bn 3 1 v F.r.length (ints F.r)
  | 7, v, _ => v = .pointer (some ⟨F.b, 0, none⟩)
  | 8, v, _ => v = .slice (some F.ad) F.mp F.cp
  | 9, v, _ => v = .int .i64 (F.k : Nat)
  | 10, v, _ => v = .pointer (some (F.ad.add F.k))
  | 11, v, _ => v = .slice (some F.A1) F.lp F.c1
  | 12, v, _ => v = .int .i64 (F.n : Nat)
  | 13, v, _ => v = .pointer (some (F.A1.add F.n))
  | 14, v, _ => v = .int .i64 F.x
  | 15, v, w => ∃ g, v = .slice (some ⟨g, 0, none⟩) 1 1 ∧ F.Bn ≤ g ∧ w.heap[g]? = some (.cells #[.int .i64 F.x] 3 (0, 0))
  | 16, v, w => w.ownsRow F.Bn 3 1 v (F.r ++ [F.x]).length (ints (F.r ++ [F.x]))
  | 17, v, w => ∃ g u, v = .slice (some ⟨g, 0, none⟩) 1 1 ∧ F.Bn ≤ g ∧ w.heap[g]? = some (.cells #[u] 29 (0, 0)) ∧ RowIn Any w u (F.r ++ [F.x])
  | 18, v, w | 19, v, w => OutRows F.B5 Any w v (F.out ++ [F.r ++ [F.x]])
  | _, _, _ => True
def allKill : Nat → Option Nat
  | 1 => some 6
  | 6 => some 16
  | 15 => some 16
  | 16 => some 18
  | 17 => some 18
  | _ => none

section
variable {F : AllFix} {w w' : World}
theorem AllR.laid {j : Nat} {v : Value} (h : AllR F j v w) (hb : Below w.heap.size w w') : AllR F j v w' := by
  have blk : ∀ g o, w.heap[g]? = some o → w'.heap[g]? = some o := fun g o hg => (hb.block g (Array.getElem?_eq_some_iff.1 hg).1).trans hg
  match j, h with
  | 0, h | 2, h | 3, h | 4, h | 5, h | 7, h | 8, h | 9, h | 10, h | 11, h | 12, h | 13, h | 14, h => exact h
  | 1, ⟨g, e, h1, h2⟩ => exact ⟨g, e, h1, blk g _ h2⟩
  | 6, h | 16, h => exact own_later h hb
  | 15, ⟨g, e, h1, h2⟩ => exact ⟨g, e, h1, blk g _ h2⟩
  | 17, ⟨g, u, e, h1, h2, h3⟩ => exact ⟨g, u, e, h1, blk g _ h2, h3.grow hb⟩
  | 18, h | 19, h => exact OutRows.laid h hb
  | _ + 20, h => exact h
/-- What is no row of memory. -/
theorem AllR.plain {j : Nat} {v : Value} (hj : j ∈ [0, 2, 3, 4, 5, 7, 8, 9, 10, 11, 12, 13, 14]) (h : AllR F j v w) : AllR F j v w' := by
  simp only [List.mem_cons, List.not_mem_nil, or_false] at hj
  rcases hj with rfl | rfl | rfl | rfl | rfl | rfl | rfl | rfl | rfl | rfl | rfl | rfl | rfl <;> exact h
theorem alive_plain {l : List Oper} {i j m : Nat} {js : List Nat} {u : Value} (hl : l.length = m) (h : AllR F j u w) (ha : alive (allWaits l) allKill i j) (hall : ((List.range 20).all fun j => !aliveB (allWaits l) allKill i j || js.contains j) = true) (hk : j ∈ js → AllR F j u w') : AllR F j u w' := by
  by_cases hj : j < 20
  · exact hk (alive_in ha hall hj)
  · obtain ⟨j', rfl⟩ : ∃ j', j = j' + 20 := ⟨j - 20, by omega⟩
    exact trivial
end

theorem cell_later {w w' : World} {a : Addr} {v : Value} (h : w.cell? a = some v) (hb : Below w.heap.size w w') : w'.cell? a = some v := (World.cell?_of_block (hb.block _ (cell_lt h))).trans h

theorem extend_snoc {L : List (List Int)} {p : List Int} {i : Nat} (hi : i < L.length) : extend (L.take (i + 1)) p = extend (L.take i) p ++ p.map (fun x => L[i] ++ [x]) := by
  unfold extend
  rw [List.take_succ_eq_append_getElem hi, List.flatMap_append]
  simp
theorem all_snoc {ps : List (List Int)} {k : Nat} (hk : k < ps.length) : allOf (ps.take (k + 1)) = extend (allOf (ps.take k)) ps[k] := by
  unfold allOf
  rw [List.take_succ_eq_append_getElem hk, List.foldl_append]
  rfl
theorem extend_len (L : List (List Int)) (p : List Int) : (extend L p).length = L.length * p.length := by
  unfold extend
  induction L with
  | nil => simp
  | cons x L ih => rw [List.flatMap_cons, List.length_append, List.length_map, ih, List.length_cons, Nat.succ_mul]; omega
theorem all_len {ps : List (List Int)} (h8 : ∀ p ∈ ps, p.length ≤ 8) : ∀ k, k ≤ ps.length → (allOf (ps.take k)).length ≤ 8 ^ k
  | 0, _ => by simp [allOf]
  | k + 1, hk => by
    rw [all_snoc (show k < ps.length by omega), extend_len, Nat.pow_succ]
    exact Nat.mul_le_mul (all_len h8 k (by omega)) (h8 _ (List.getElem_mem _))
theorem all_rows {ps : List (List Int)} : ∀ k, k ≤ ps.length → ∀ r ∈ allOf (ps.take k), r.length = k
  | 0, _ => by simp [allOf]
  | k + 1, hk => by
    rw [all_snoc (show k < ps.length by omega)]
    intro r hr
    unfold extend at hr
    obtain ⟨l, hl, hr⟩ := List.mem_flatMap.1 hr
    obtain ⟨x, _, rfl⟩ := List.mem_map.1 hr
    have := all_rows k (by omega) l hl
    simp [this]
/-- The first row: of no class. -/
theorem OutRows.one {B g h : Nat} {w : World} (hB : B ≤ g) (hg : w.heap[g]? = some (.cells #[.slice (some ⟨h, 0, none⟩) 0 0] 29 (0, 0))) (hh : w.heap[h]? = some (.cells #[] 3 (0, 0))) : OutRows B Any w (.slice (some ⟨g, 0, none⟩) 1 1) [[]] :=
  ⟨[.slice (some ⟨h, 0, none⟩) 0 0], ⟨rfl, .inr ⟨g, 1, _, rfl, hB, hg, Nat.le_refl _, by decide, rfl, rfl⟩⟩, fun i hi => by
    have h0 : i = 0 := by simp at hi; omega
    subst h0
    exact ⟨_, rfl, h, 0, #[], rfl, trivial, hh, rfl, Nat.le_refl _⟩⟩

def AllPost (B : Nat) (ps : List (List Int)) (w : World) (e : Ending) (w' : World) : Prop := ∃ vo, e = .returned vo ∧ OutRows B Any w' vo (allOf ps) ∧ Below w.heap.size w w'

set_option maxRecDepth 100000 in
set_option maxHeartbeats 2000000 in
theorem allW_any {A : Option Addr} {ps : List (List Int)} (c : Nat) (w : World) (hR : RowsAt w.heap.size w A ps) (h4 : ps.length ≤ 4) (h8 : ∀ p ∈ ps, p.length ≤ 8) : Calls Try.prog 42 #[.agg #[.slice A ps.length c]] w (AllPost w.heap.size ps w) := by
  have HR := Lib.hid hR
  have H8 := Lib.hid h8
  obtain ⟨W0, hW0⟩ : ∃ W0, W0 = w.alloc (.cells #[.slice A ps.length c] 42) := ⟨_, rfl⟩
  obtain ⟨W1, hW1⟩ : ∃ W1, W1 = (W0.alloc (.cells #[] 3)).alloc (.cells #[.slice (some ⟨w.heap.size + 1, 0, none⟩) 0 0] 29) := ⟨_, rfl⟩
  have s0 : W0.heap.size = w.heap.size + 1 := by rw [hW0]; simp
  have HB0 : Hid (Below w.heap.size w W0) := by rw [hW0]; exact alloc_below _ _
  have HB1 : Hid (Below W0.heap.size W0 W1) := by rw [hW1]; exact (alloc_below _ _).alloc (by simp) _
  have HBX : Hid (W0.cell? ⟨w.heap.size, 0, none⟩ = some (.slice A ps.length c)) := by show _ = _; rw [hW0]; exact cell_one (alloc_new _ _)
  have HO0 : Hid (OutRows W0.heap.size Any W1 (.slice (some ⟨w.heap.size + 1 + 1, 0, none⟩) 1 1) (allOf (ps.take 0))) := by
    have e0 : allOf (ps.take 0) = [[]] := by simp [allOf]
    show OutRows _ _ _ _ _
    rw [e0]
    have h1 : (W0.alloc (.cells #[] 3)).heap[w.heap.size + 1]? = some (.cells #[] 3 (0, 0)) := by rw [← s0]; exact alloc_new _ _
    have h2 : W1.heap[w.heap.size + 1 + 1]? = some (.cells #[.slice (some ⟨w.heap.size + 1, 0, none⟩) 0 0] 29 (0, 0)) := by
      have : w.heap.size + 1 + 1 = (W0.alloc (.cells #[] 3)).heap.size := by simp [s0]
      rw [hW1, this]; exact alloc_new _ _
    exact OutRows.one (by omega) h2 (by rw [hW1]; exact (Below.heap_alloc _ _ _ (by simp [s0])).trans h1)
  clear hR h8
  go_enter Try.func42, Try.ntmps42
  go_wp2
  have e := hW1
  rw [hW0] at e
  rw [← e]
  clear e hW1
  clear hW0
  go_loopw [3, 4] (fun v3 i wr => ∃ k, k ≤ ps.length ∧ i = .int .i64 (k : Nat) ∧ Hid (OutRows W0.heap.size Any wr v3 (allOf (ps.take k))) ∧ Hid (Below W0.heap.size W0 wr)) (fun _ i _ => ps.length - (intOf i).toNat)
  case atStart => exact ⟨0, Nat.zero_le _, rfl, HO0, HB1⟩
  case round =>
    clear HO0 HB1
    obtain ⟨k, hk, rfl, HO, HB⟩ := hrel
    obtain ⟨wk, hwk⟩ : ∃ x, x = wr := ⟨_, rfl⟩
    subst hwk
    have hbx := cell_later HBX.out HB.out
    by_cases hlt : k < ps.length
    · obtain ⟨L, hL⟩ : ∃ L, L = allOf (ps.take k) := ⟨_, rfl⟩
      rw [← hL] at HO
      obtain ⟨ad, A1, c1, rfl, hck, hl1, hi1⟩ := ((HR.out.later HB0.out).later (HB.out.mono (Nat.le_refl _))).row k hlt
      have hp8 := H8.out _ (List.getElem_mem hlt)
      have hL8 : L.length ≤ 4096 := by
        rw [hL]
        refine Nat.le_trans (all_len H8.out k hk) (Nat.le_trans (Nat.pow_le_pow_right (by omega) (show k ≤ 4 by omega)) (by decide))
      have HLR : Hid (∀ r ∈ L, r.length = k) := by rw [hL]; exact all_rows k hk
      have HSN := Lib.hid (all_snoc hlt)
      rw [← hL] at HSN
      obtain ⟨p, hp⟩ : ∃ p, p = ps[k] := ⟨_, rfl⟩
      rw [← hp] at hck hi1 hp8 HSN
      obtain ⟨A3, c3, rfl⟩ := HO.out.len
      have HI1 := Lib.hid hi1
      have HCK := Lib.hid hck
      clear hL hp hi1 hl1
      have HE0 : Hid (OutRows wk.heap.size Any wk (.slice none 0 0) (extend (L.take 0) p)) := OutRows.start _ _ _
      have HBE : Hid (Below wk.heap.size wk wk) := Below.refl _ _
      go_wp2
      go_loopw [5, 6] (fun v i wi => ∃ (j : Nat) (v5 : Value) (wq : World), v5 = v ∧ wq = wi ∧ j ≤ L.length ∧ i = .int .i64 (j : Nat) ∧ Hid (OutRows wk.heap.size Any wq v5 (extend (L.take j) p)) ∧ Hid (Below wk.heap.size wk wq)) (fun _ i _ => L.length - (intOf i).toNat)
      case atStart => exact ⟨0, _, _, rfl, rfl, Nat.zero_le _, rfl, HE0, HBE⟩
      case round =>
        clear HE0 HBE
        obtain ⟨j, v5, wi, rfl, rfl, hj, rfl, HO5, HB5⟩ := hrel
        by_cases hjl : j < L.length
        · have HRL := Lib.hid (HLR.out _ (List.getElem_mem hjl))
          obtain ⟨g3, cap3, hv, e3', hcr, hri⟩ := HO.out.row j hjl
          cases e3'
          obtain ⟨Ai, ci, rfl, hci, hir⟩ := hri.intsAt
          have HSE := Lib.hid (extend_snoc (p := p) hjl)
          obtain ⟨r, hr⟩ : ∃ r, r = L[j] := ⟨_, rfl⟩
          rw [← hr] at hcr hir HSE HRL
          have HIR := Lib.hid hir
          have HCR := Lib.hid hcr
          have hxl : (extend (L.take j) p).length ≤ 40000 := by
            rw [extend_len, List.length_take]
            have : min j L.length ≤ 4096 := by omega
            calc min j L.length * p.length ≤ 4096 * 8 := Nat.mul_le_mul this hp8
              _ ≤ 40000 := by decide
          clear hr hci hri hir hcr
          obtain ⟨E5, hE5⟩ : ∃ E5, E5 = extend (L.take j) p := ⟨_, rfl⟩
          rw [← hE5] at HO5 HSE hxl
          have HE6 : Hid (OutRows wk.heap.size Any wi v5 (E5 ++ (p.take 0).map (fun x => r ++ [x]))) := by show OutRows _ _ _ _ _; simpa using HO5.out
          clear hE5 HO5
          go_wp2
          go_loopw [5, 7] (fun v n wn => ∃ (m : Nat) (v6 : Value) (wq : World), v6 = v ∧ wq = wn ∧ m ≤ p.length ∧ n = .int .i64 (m : Nat) ∧ Hid (OutRows wk.heap.size Any wq v6 (E5 ++ (p.take m).map (fun x => r ++ [x]))) ∧ Hid (Below wk.heap.size wk wq)) (fun _ n _ => p.length - (intOf n).toNat)
          case atStart => exact ⟨0, _, _, rfl, rfl, Nat.zero_le _, rfl, HE6, HB5⟩
          case round =>
            clear HE6 HB5
            obtain ⟨m, v6, wn, rfl, rfl, hm, rfl, HO6, HB6⟩ := hrel
            have hbx2 := cell_later hbx HB6.out
            have hck2 := cell_later HCK.out HB6.out
            by_cases hml : m < p.length
            · obtain ⟨adx, rfl, hcx⟩ := HI1.out.cell m hml
              have hcn := cell_later hcx HB6.out
              have hcr := cell_later HCR.out HB6.out
              have hir := (HIR.out.later HB6.out).now
              have hpe : E5 ++ (p.take (m + 1)).map (fun x => r ++ [x]) = (E5 ++ (p.take m).map (fun x => r ++ [x])) ++ [r ++ [p[m]]] := by
                rw [List.take_succ_eq_append_getElem hml, List.map_append, List.append_assoc]; rfl
              obtain ⟨x, hx⟩ : ∃ x, x = p[m] := ⟨_, rfl⟩
              obtain ⟨out, ho⟩ : ∃ out, out = E5 ++ (p.take m).map (fun x => r ++ [x]) := ⟨_, rfl⟩
              have hol : out.length < 1000000000 := by rw [ho]; simp; omega
              rw [← hx] at hcn hpe
              rw [← ho] at hpe HO6
              have HPE := Lib.hid hpe
              obtain ⟨F, hF⟩ : ∃ F : AllFix, F = ⟨wn.heap.size, wk.heap.size, v6, g3, L.length, c3, j, Ai, ci, r, w.heap.size, ad, ps.length, c, k, adx, p.length, c1, m, x, out⟩ := ⟨_, rfl⟩
              have HF := Lib.hid hF
              have HHH : Hid (wn.cell? ((⟨g3, 0, none⟩ : Addr).add j) = some (.slice Ai r.length ci) ∧ IntsAt wn.heap.size wn Ai r ∧ wn.cell? (adx.add m) = some (.int .i64 x)) := ⟨hcr, hir, hcn⟩
              clear hcx hcr hir hcn hpe hx ho hF
              go_upto_region 12 with fail
              obtain ⟨hcr0, hir0, hcn0⟩ := HHH.out
              have hF := HF.out
              have e1 : Value.pointer (some ⟨w.heap.size, 0, none⟩) = .pointer (some ⟨F.b, 0, none⟩) := by rw [hF]
              have e3 : Value.slice (some ⟨g3, 0, none⟩) L.length c3 = .slice (some ⟨F.g3, 0, none⟩) F.m3 F.c3 := by rw [hF]
              have e4 : Value.int .i64 (k : Nat) = .int .i64 (F.k : Nat) := by rw [hF]
              have e5 : v6 = F.v5 := by rw [hF]
              have e6 : Value.int .i64 (j : Nat) = .int .i64 (F.i : Nat) := by rw [hF]
              have e7 : Value.int .i64 (m : Nat) = .int .i64 (F.n : Nat) := by rw [hF]
              have him : F.i < F.m3 := by rw [hF]; exact hjl
              have hkm : F.k < F.mp := by rw [hF]; exact hlt
              have hnm : F.n < F.lp := by rw [hF]; exact hml
              have hcr : wn.cell? ((⟨F.g3, 0, none⟩ : Addr).add F.i) = some (.slice F.Ai F.r.length F.ci) := by rw [hF]; exact hcr0
              have hir : IntsAt wn.heap.size wn F.Ai F.r := by rw [hF]; exact hir0
              have hcb : wn.cell? ⟨F.b, 0, none⟩ = some (.slice (some F.ad) F.mp F.cp) := by rw [hF]; exact hbx2
              have hck : wn.cell? (F.ad.add F.k) = some (.slice (some F.A1) F.lp F.c1) := by rw [hF]; exact hck2
              have hcn : wn.cell? (F.A1.add F.n) = some (.int .i64 F.x) := by rw [hF]; exact hcn0
              have hout : OutRows F.B5 Any wn F.v5 F.out := by rw [hF]; exact HO6.out
              have hlen : F.out.length < 1000000000 := by rw [hF]; exact hol
              have hBn : F.Bn = wn.heap.size := by rw [hF]
              have hb5 : F.B5 ≤ wn.heap.size := by rw [hF]; exact HB6.out.size
              have hrl : F.r.length ≤ 1000 := by rw [hF]; show r.length ≤ 1000; have := HRL.out; omega
              have hres : ∀ v wx, OutRows F.B5 Any wx v (F.out ++ [F.r ++ [F.x]]) → Below F.B5 wn wx → Hid (OutRows wk.heap.size Any wx v (E5 ++ (p.take (m + 1)).map (fun x => r ++ [x]))) ∧ Hid (Below wk.heap.size wk wx) := by
                intro v wx h1 h2
                rw [hF] at h1 h2
                refine ⟨?_, HB6.out.trans h2⟩
                show OutRows _ _ _ _ _
                rw [HPE.out]
                exact h1
              have HRES := Lib.hid hres
              clear hF hres hcr0 hir0 hcn0 hol
              refine region_full allKill (fun w' => Below F.B5 wn w') 18 (fun w' => Below wn.heap.size wn w') (AllR F) (by kernel_rfl) (by kernel_rfl) (below_drew (Below.refl _ _)) (below_drew (Below.refl _ _)) (each_op ?_) ?_
              · refine ⟨?_, ?_, ?_, ?_, ?_, ?_, ?_, ?_, ?_, ?_, ?_, ?_, ?_, ?_, ?_, ?_, ?_, ?_, ?_, ?_, trivial⟩
                · intro a w1 hb hs hd hf hj hE
                  have h5 : a.tmps.getD 5 undef = F.v5 := (hf 5 (free_of (by kernel_rfl))).trans e5
                  refine step_run (wanted_none rfl) (v := F.v5) (w' := w1) ?_ ⟨rfl, hb, fun _ _ h => h, fun j u _ h => h⟩
                  simp [execOp, Act.eval, h5, go_sem, -Array.getD_eq_getD_getElem?]
                · intro a w1 hb hs hd hf hj hE
                  have hE1 := hE (by decide)
                  have hsz : F.Bn ≤ w1.heap.size := by rw [hBn]; exact hE1.size
                  refine step_run (wanted_none rfl) (v := .slice (some ⟨w1.heap.size, 0, none⟩) 0 0) (w' := w1.alloc (.cells #[] 3)) ?_ ⟨⟨_, rfl, hsz, alloc_new _ _⟩, hb.alloc (Nat.le_trans hb5 hE1.size) _, fun _ _ h => h.alloc h.size _, fun j u _ h => h.laid (alloc_below _ _)⟩
                  simp [execOp, go_sem]
                · intro a w1 hb hs hd hf hj hE
                  have h3 : a.tmps.getD 3 undef = .slice (some ⟨F.g3, 0, none⟩) F.m3 F.c3 := (hf 3 (free_of (by kernel_rfl))).trans e3
                  refine step_run (wanted_none rfl) (v := .slice (some ⟨F.g3, 0, none⟩) F.m3 F.c3) (w' := w1) ?_ ⟨rfl, hb, fun _ _ h => h, fun j u _ h => h⟩
                  simp [execOp, Act.eval, h3, go_sem, -Array.getD_eq_getD_getElem?]
                · intro a w1 hb hs hd hf hj hE
                  have h6 : a.tmps.getD 6 undef = .int .i64 (F.i : Nat) := (hf 6 (free_of (by kernel_rfl))).trans e6
                  refine step_run (wanted_none rfl) (v := .int .i64 (F.i : Nat)) (w' := w1) ?_ ⟨rfl, hb, fun _ _ h => h, fun j u _ h => h⟩
                  simp [execOp, Act.eval, h6, go_sem, -Array.getD_eq_getD_getElem?]
                · intro a w1 hb hs hd hf hj hE
                  have h35 : a.tmps.getD 35 undef = .slice (some ⟨F.g3, 0, none⟩) F.m3 F.c3 := hj 2 (leans_of (by kernel_rfl))
                  have h36 : a.tmps.getD 36 undef = .int .i64 (F.i : Nat) := hj 3 (leans_of (by kernel_rfl))
                  refine step_run (wanted_none rfl) (v := .pointer (some ((⟨F.g3, 0, none⟩ : Addr).add F.i))) (w' := w1) ?_ ⟨rfl, hb, fun _ _ h => h, fun j u _ h => h⟩
                  simp [execOp, Act.eval, h35, h36, him, go_sem, -Array.getD_eq_getD_getElem?]
                · intro a w1 hb hs hd hf hj hE
                  have h37 : a.tmps.getD 37 undef = .pointer (some ((⟨F.g3, 0, none⟩ : Addr).add F.i)) := hj 4 (leans_of (by kernel_rfl))
                  have hc := cell_later hcr (hE (by decide))
                  rw [add_free, Nat.zero_add] at hc
                  refine step_run (wanted_none rfl) (v := .slice F.Ai F.r.length F.ci) (w' := w1) ?_ ⟨rfl, hb, fun _ _ h => h, fun j u _ h => h⟩
                  simp [execOp, Act.eval, h37, hc, go_sem, -Array.getD_eq_getD_getElem?]
                · intro a w1 hb hs hd hf hj hE
                  have hE1 := hE (by decide)
                  have hsz : F.Bn ≤ w1.heap.size := by rw [hBn]; exact hE1.size
                  obtain ⟨g, h34, hg, hblk⟩ : ∃ g, a.tmps.getD 34 undef = .slice (some ⟨g, 0, none⟩) 0 0 ∧ F.Bn ≤ g ∧ w1.heap[g]? = some (.cells #[] 3 (0, 0)) := hj 1 (leans_of (by kernel_rfl))
                  have h38 : a.tmps.getD 38 undef = .slice F.Ai F.r.length F.ci := hj 5 (leans_of (by kernel_rfl))
                  have hown : w1.ownsRow F.Bn 3 1 (.slice (some ⟨g, 0, none⟩) ([] : List Int).length 0) ([] : List Int).length (ints []) := ⟨rfl, .inr ⟨g, 0, #[], rfl, hg, hblk, Nat.le_refl _, Nat.zero_le _, rfl, rfl⟩⟩
                  obtain ⟨v', w2, hap, hown2, hgr⟩ := app_many (ty := 29) Try.underlying29 info_int hown (hir.later hE1) (c := F.ci) (by simp; omega) hsz
                  have hrow : ∀ q, (Value.slice (some ⟨g, 0, none⟩) ([] : List Int).length 0).ownBlock = some q → F.Bn ≤ q := fun q e => by cases e; exact hg
                  refine step_run (wanted_none rfl) (v := v') (w' := w2) ?_ ⟨by rw [List.nil_append] at hown2; exact hown2, below_grown hb hgr (Nat.le_trans hb5 hE1.size) (fun q e => Nat.le_trans hb5 (hBn ▸ hrow q e)), fun _ _ h => below_grown h hgr h.size (fun q e => hBn ▸ hrow q e), fun j u ha h => ?_⟩
                  · have hap' : (Builtin.append_ #[29, 29] 29 #[.slice (some ⟨g, 0, none⟩) 0 0, .slice F.Ai F.r.length F.ci]).run Try.prog w1 = .ok v' w2 := hap
                    simp [execOp, Act.eval, h34, h38, hap', Result.andThen, resolve, invoke, builtin, -Array.getD_eq_getD_getElem?]
                  · refine alive_plain (js := [0, 2, 3, 4, 5, 7, 8, 9, 10, 11, 12, 13, 14, 15]) rfl h ha (by kernel_rfl) (fun hin => ?_)
                    by_cases hj15 : j = 15
                    · subst hj15
                      obtain ⟨g6, e6, h61, h62⟩ := h
                      refine ⟨g6, e6, h61, ?_⟩
                      rw [hgr.block g6 (Array.getElem?_eq_some_iff.1 h62).1 (fun e => ?_)]
                      · exact h62
                      · cases e
                        rw [hblk] at h62
                        cases h62
                    · exact h.plain (by revert hin hj15; simp only [List.mem_cons, List.not_mem_nil, or_false]; omega)
                · intro a w1 hb hs hd hf hj hE
                  have h1 : a.tmps.getD 1 undef = .pointer (some ⟨F.b, 0, none⟩) := (hf 1 (free_of (by kernel_rfl))).trans e1
                  refine step_run (wanted_none rfl) (v := .pointer (some ⟨F.b, 0, none⟩)) (w' := w1) ?_ ⟨rfl, hb, fun _ _ h => h, fun j u _ h => h⟩
                  simp [execOp, Act.eval, h1, go_sem, -Array.getD_eq_getD_getElem?]
                · intro a w1 hb hs hd hf hj hE
                  have h40 : a.tmps.getD 40 undef = .pointer (some ⟨F.b, 0, none⟩) := hj 7 (leans_of (by kernel_rfl))
                  have hc := cell_later hcb (hE (by decide))
                  refine step_run (wanted_none rfl) (v := .slice (some F.ad) F.mp F.cp) (w' := w1) ?_ ⟨rfl, hb, fun _ _ h => h, fun j u _ h => h⟩
                  simp [execOp, Act.eval, h40, hc, go_sem, -Array.getD_eq_getD_getElem?]
                · intro a w1 hb hs hd hf hj hE
                  have h4 : a.tmps.getD 4 undef = .int .i64 (F.k : Nat) := (hf 4 (free_of (by kernel_rfl))).trans e4
                  refine step_run (wanted_none rfl) (v := .int .i64 (F.k : Nat)) (w' := w1) ?_ ⟨rfl, hb, fun _ _ h => h, fun j u _ h => h⟩
                  simp [execOp, Act.eval, h4, go_sem, -Array.getD_eq_getD_getElem?]
                · intro a w1 hb hs hd hf hj hE
                  have h41 : a.tmps.getD 41 undef = .slice (some F.ad) F.mp F.cp := hj 8 (leans_of (by kernel_rfl))
                  have h42 : a.tmps.getD 42 undef = .int .i64 (F.k : Nat) := hj 9 (leans_of (by kernel_rfl))
                  refine step_run (wanted_none rfl) (v := .pointer (some (F.ad.add F.k))) (w' := w1) ?_ ⟨rfl, hb, fun _ _ h => h, fun j u _ h => h⟩
                  simp [execOp, Act.eval, h41, h42, hkm, go_sem, -Array.getD_eq_getD_getElem?]
                · intro a w1 hb hs hd hf hj hE
                  have h43 : a.tmps.getD 43 undef = .pointer (some (F.ad.add F.k)) := hj 10 (leans_of (by kernel_rfl))
                  have hc := cell_later hck (hE (by decide))
                  refine step_run (wanted_none rfl) (v := .slice (some F.A1) F.lp F.c1) (w' := w1) ?_ ⟨rfl, hb, fun _ _ h => h, fun j u _ h => h⟩
                  simp [execOp, Act.eval, h43, hc, go_sem, -Array.getD_eq_getD_getElem?]
                · intro a w1 hb hs hd hf hj hE
                  have h7 : a.tmps.getD 7 undef = .int .i64 (F.n : Nat) := (hf 7 (free_of (by kernel_rfl))).trans e7
                  refine step_run (wanted_none rfl) (v := .int .i64 (F.n : Nat)) (w' := w1) ?_ ⟨rfl, hb, fun _ _ h => h, fun j u _ h => h⟩
                  simp [execOp, Act.eval, h7, go_sem, -Array.getD_eq_getD_getElem?]
                · intro a w1 hb hs hd hf hj hE
                  have h44 : a.tmps.getD 44 undef = .slice (some F.A1) F.lp F.c1 := hj 11 (leans_of (by kernel_rfl))
                  have h45 : a.tmps.getD 45 undef = .int .i64 (F.n : Nat) := hj 12 (leans_of (by kernel_rfl))
                  refine step_run (wanted_none rfl) (v := .pointer (some (F.A1.add F.n))) (w' := w1) ?_ ⟨rfl, hb, fun _ _ h => h, fun j u _ h => h⟩
                  simp [execOp, Act.eval, h44, h45, hnm, go_sem, -Array.getD_eq_getD_getElem?]
                · intro a w1 hb hs hd hf hj hE
                  have h46 : a.tmps.getD 46 undef = .pointer (some (F.A1.add F.n)) := hj 13 (leans_of (by kernel_rfl))
                  have hc := cell_later hcn (hE (by decide))
                  refine step_run (wanted_none rfl) (v := .int .i64 F.x) (w' := w1) ?_ ⟨rfl, hb, fun _ _ h => h, fun j u _ h => h⟩
                  simp [execOp, Act.eval, h46, hc, go_sem, -Array.getD_eq_getD_getElem?]
                · intro a w1 hb hs hd hf hj hE
                  have hE1 := hE (by decide)
                  have hsz : F.Bn ≤ w1.heap.size := by rw [hBn]; exact hE1.size
                  have h47 : a.tmps.getD 47 undef = .int .i64 F.x := hj 14 (leans_of (by kernel_rfl))
                  refine step_run (wanted_none rfl) (v := .slice (some ⟨w1.heap.size, 0, none⟩) 1 1) (w' := w1.alloc (.cells #[.int .i64 F.x] 3)) ?_ ⟨⟨_, rfl, hsz, alloc_new _ _⟩, hb.alloc (Nat.le_trans hb5 hE1.size) _, fun _ _ h => h.alloc h.size _, fun j u _ h => h.laid (alloc_below _ _)⟩
                  simp [execOp, Act.eval, h47, go_sem, -Array.getD_eq_getD_getElem?]
                · intro a w1 hb hs hd hf hj hE
                  have hE1 := hE (by decide)
                  have hsz : F.Bn ≤ w1.heap.size := by rw [hBn]; exact hE1.size
                  have hown : w1.ownsRow F.Bn 3 1 (a.tmps.getD 39 undef) F.r.length (ints F.r) := hj 6 (leans_of (by kernel_rfl))
                  obtain ⟨g, h48, hg, hblk⟩ : ∃ g, a.tmps.getD 48 undef = .slice (some ⟨g, 0, none⟩) 1 1 ∧ F.Bn ≤ g ∧ w1.heap[g]? = some (.cells #[.int .i64 F.x] 3 (0, 0)) := hj 15 (leans_of (by kernel_rfl))
                  have hi2 : IntsAt w1.heap.size w1 (some ⟨g, 0, none⟩) [F.x] := by
                    intro i hi
                    obtain rfl : i = 0 := by simp at hi; omega
                    refine ⟨_, rfl, (Array.getElem?_eq_some_iff.1 hblk).1, ?_⟩
                    simp [Addr.add, World.cell?, hblk]
                  obtain ⟨v', w2, hap, hown2, hgr⟩ := app_many (ty := 29) Try.underlying29 info_int hown hi2 (c := 1) (by simp; omega) hsz
                  have hrow := own_ge hown
                  refine step_run (wanted_none rfl) (v := v') (w' := w2) ?_ ⟨hown2, below_grown hb hgr (Nat.le_trans hb5 hE1.size) (fun q e => Nat.le_trans hb5 (hBn ▸ hrow q e)), fun _ _ h => below_grown h hgr h.size (fun q e => hBn ▸ hrow q e), fun j u ha h => ?_⟩
                  · have hap' : (Builtin.append_ #[29, 29] 29 #[a.tmps.getD 39 undef, .slice (some ⟨g, 0, none⟩) 1 1]).run Try.prog w1 = .ok v' w2 := hap
                    simp [execOp, Act.eval, h48, hap', Result.andThen, resolve, invoke, builtin, -Array.getD_eq_getD_getElem?]
                  · exact alive_plain (js := [0, 2, 3, 4, 5, 7, 8, 9, 10, 11, 12, 13, 14]) rfl h ha (by kernel_rfl) (fun hin => h.plain hin)
                · intro a w1 hb hs hd hf hj hE
                  have hE1 := hE (by decide)
                  have hsz : F.Bn ≤ w1.heap.size := by rw [hBn]; exact hE1.size
                  have hown : w1.ownsRow F.Bn 3 1 (a.tmps.getD 49 undef) (F.r ++ [F.x]).length (ints (F.r ++ [F.x])) := hj 16 (leans_of (by kernel_rfl))
                  have hri := RowIn.of_own hown (by simp)
                  refine step_run (wanted_none rfl) (v := .slice (some ⟨w1.heap.size, 0, none⟩) 1 1) (w' := w1.alloc (.cells #[a.tmps.getD 49 undef] 29)) ?_ ⟨⟨_, _, rfl, hsz, alloc_new _ _, hri.grow (alloc_below _ _)⟩, hb.alloc (Nat.le_trans hb5 hE1.size) _, fun _ _ h => h.alloc h.size _, fun j u _ h => h.laid (alloc_below _ _)⟩
                  obtain ⟨g9, cap9, cur9, hv9, _⟩ := hri
                  rw [hv9]
                  simp [execOp, Act.eval, hv9, go_sem, -Array.getD_eq_getD_getElem?]
                · intro a w1 hb hs hd hf hj hE
                  have hE1 := hE (by decide)
                  have h33 : a.tmps.getD 33 undef = F.v5 := hj 0 (leans_of (by kernel_rfl))
                  obtain ⟨g, u, h50, hg, hblk, hri⟩ : ∃ g u, a.tmps.getD 50 undef = .slice (some ⟨g, 0, none⟩) 1 1 ∧ F.Bn ≤ g ∧ w1.heap[g]? = some (.cells #[u] 29 (0, 0)) ∧ RowIn Any w1 u (F.r ++ [F.x]) := hj 17 (leans_of (by kernel_rfl))
                  have hout1 := hout.laid hE1
                  obtain ⟨v', w2, hap, hout2, hgr⟩ := hout1.add hri hblk hlen (Nat.le_trans hb5 hE1.size)
                  refine step_run (wanted_none rfl) (v := v') (w' := w2) ?_ ⟨hout2, below_grown hb hgr (Nat.le_trans hb5 hE1.size) (fun q e => (hout1.block q e).1), fun h => absurd rfl h, fun j u ha h => ?_⟩
                  · simp [execOp, Act.eval, h33, h50, hap, Result.andThen, resolve, invoke, builtin, -Array.getD_eq_getD_getElem?]
                  · exact alive_plain (js := [0, 2, 3, 4, 5, 7, 8, 9, 10, 11, 12, 13, 14]) rfl h ha (by kernel_rfl) (fun hin => h.plain hin)
                · intro a w1 hb hs hd hf hj hE
                  refine step_run (wanted_none rfl) (v := a.tmps.getD 51 undef) (w' := w1) ?_ ⟨hj 18 (leans_of (by kernel_rfl)), hb, fun _ h => absurd (show 18 ∈ _ by decide) h, fun j u _ h => h⟩
                  simp [execOp, Act.eval]
              · intro a w1 hb hs hd hf hj
                have h5 : OutRows F.B5 Any w1 (a.tmps.getD 5 undef) (F.out ++ [F.r ++ [F.x]]) := hj 19 (by decide) (by intro i e; cases e)
                obtain ⟨HO8, HB8⟩ := HRES.out _ _ h5 hb
                have ha := act_slots [33, 34, 35, 36, 37, 38, 39, 40, 41, 42, 43, 44, 45, 46, 47, 48, 49, 50, 51, 5] (by kernel_rfl) hs hd hf
                simp only [fillIn, Nat.zero_add, Nat.reduceAdd, List.contains_cons, List.contains_nil, Nat.reduceBEq, Bool.or_false, Bool.or_true, Bool.false_eq_true, if_true, if_false, ite_true, ite_false] at ha
                generalize a.tmps.getD 33 undef = u33 at ha
                generalize a.tmps.getD 34 undef = u34 at ha
                generalize a.tmps.getD 35 undef = u35 at ha
                generalize a.tmps.getD 36 undef = u36 at ha
                generalize a.tmps.getD 37 undef = u37 at ha
                generalize a.tmps.getD 38 undef = u38 at ha
                generalize a.tmps.getD 39 undef = u39 at ha
                generalize a.tmps.getD 40 undef = u40 at ha
                generalize a.tmps.getD 41 undef = u41 at ha
                generalize a.tmps.getD 42 undef = u42 at ha
                generalize a.tmps.getD 43 undef = u43 at ha
                generalize a.tmps.getD 44 undef = u44 at ha
                generalize a.tmps.getD 45 undef = u45 at ha
                generalize a.tmps.getD 46 undef = u46 at ha
                generalize a.tmps.getD 47 undef = u47 at ha
                generalize a.tmps.getD 48 undef = u48 at ha
                generalize a.tmps.getD 49 undef = u49 at ha
                generalize a.tmps.getD 50 undef = u50 at ha
                generalize a.tmps.getD 51 undef = u51 at ha
                generalize a.tmps.getD 5 undef = u5 at ha HO8
                clear hs hd hf hj h5 hb
                subst ha
                clear e1 e3 e4 e5 e6 e7 him hkm hnm
                try clear hF
                try clear hcr0 hir0 hcn0
                go_wp2
                go_roundw
                case rel => exact ⟨m + 1, _, _, rfl, rfl, by omega, by go_num, HO8, HB8⟩
                case measure => simp [intOf]; omega
            · have HO7 : Hid (OutRows wk.heap.size Any wn v6 (extend (L.take (j + 1)) p)) := by
                have := HO6.out
                rw [List.take_of_length_le (show p.length ≤ m by omega), ← HSE.out] at this
                exact this
              go_wp2
              go_roundw
              case rel => exact ⟨j + 1, _, _, rfl, rfl, by omega, by go_num, HO7, HB6⟩
              case measure => simp [intOf]; omega
        · have HO' : Hid (OutRows W0.heap.size Any wi v5 (allOf (ps.take (k + 1)))) := by
            have := HO5.out
            rw [List.take_of_length_le (show L.length ≤ j by omega), ← HSN.out] at this
            exact this.base HB.out.size
          have HB' : Hid (Below W0.heap.size W0 wi) := HB.out.trans (HB5.out.mono HB.out.size)
          go_wp2
          go_roundw
          case rel => exact ⟨k + 1, by omega, by go_num, HO', HB'⟩
          case measure => simp [intOf]; omega
    · have hf := HO.out
      rw [List.take_of_length_le (show ps.length ≤ k by omega)] at hf
      have HF := Lib.hid hf
      clear hf HO
      go_wp2
      go_ret
      exact ⟨_, rfl, HF.out.base HB0.out.size, HB0.out.trans (HB.out.mono HB0.out.size)⟩
end Go.Proofs.Ytebpdlnknfjoaaa
