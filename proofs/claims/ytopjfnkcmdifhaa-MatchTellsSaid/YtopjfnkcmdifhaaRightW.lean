/- The walk of match.Right. -/
import Derived.Test.YtopjfnkcmdifhaaHallW
import Derived.Test.YtopjfnkcmdifhaaChoice
namespace Go.Proofs.Ytopjfnkcmdifhaa
set_option linter.unusedVariables false
set_option linter.unusedSimpArgs false
open Go.RowKit Kuhn

/-- Is it a row of matches, from i on, T taken? -/
def vmB (l : List (List Int)) : Nat → List Int → List Int → Bool
  | _, _, [] => true
  | i, T, x :: xs => if x = -1 then vmB l (i + 1) T xs else if x ∈ T ∨ x ∉ rowF l i then false else vmB l (i + 1) (T ++ [x]) xs
theorem vmB_iff {l : List (List Int)} (hnn : ∀ i v, v ∈ rowF l i → 0 ≤ v) : ∀ (m : List Int) (i : Nat) (T : List Int), vmB l i T m = true ↔ VM l i T m := by
  intro m
  induction m with
  | nil => intro i T; simp [vmB, VM]
  | cons x xs ih =>
    intro i T
    simp only [vmB, VM]
    by_cases hx : x = -1
    · rw [if_pos hx, ih]
      constructor
      · exact fun h => .inl ⟨hx, h⟩
      · rintro (⟨_, h⟩ | ⟨h, _⟩)
        · exact h
        · have := hnn i x h; omega
    · rw [if_neg hx]
      by_cases hc : x ∈ T ∨ x ∉ rowF l i
      · rw [if_pos hc]
        constructor
        · intro h; cases h
        · rintro (⟨h, _⟩ | ⟨h1, h2, _⟩)
          · exact absurd h hx
          · rcases hc with q | q
            · exact absurd q h2
            · exact absurd h1 q
      · rw [if_neg hc, ih]
        simp only [not_or, Classical.not_not] at hc
        constructor
        · exact fun h => .inr ⟨hc.2, hc.1, h⟩
        · rintro (⟨h, _⟩ | ⟨_, _, h⟩)
          · exact absurd h hx
          · exact h

def rightB (l : List (List Int)) (m : List Int) : Bool := decide (m.length = l.length) && vmB l 0 [] m

/-- What lies in memory at the head of Right's loop. -/
structure RgSt (l : List (List Int)) (m : List Int) (A A2 : Option Addr) (B mt : Nat) (w0 w : World) (T : List Int) : Prop where
  rows : RowsAt B w A l
  m : IntsAt B w A2 m
  big : B ≤ w.heap.size
  mB : B ≤ mt
  mt : MapV w mt (setF fun n => decide (n ∈ T))
  low : w0.heap.size ≤ B
  below : Below w0.heap.size w0 w
theorem RgSt.take {l : List (List Int)} {m : List Int} {A A2 : Option Addr} {B mt : Nat} {w0 w : World} {T : List Int} (h : RgSt l m A A2 B mt w0 w T) (n : Int) :
    ∃ w', (Instr.mapUpdate 37 (.map (some mt)) (.int .i64 n) (.bool true)).run Try.prog w = .ok () w' ∧ RgSt l m A A2 B mt w0 w' (T ++ [n]) := by
  obtain ⟨w', hr, hm, hg, _⟩ := h.mt.run_update Try.underlying37 Try.underlying3 n (.bool true)
  have hmB := h.mB
  refine ⟨w', hr, h.rows.grown hg (fun k e => by cases e; exact hmB), h.m.grown hg (fun k e => by cases e; exact hmB), by have := hg.size; have := h.big; omega, hmB, by rw [← upd_setF]; exact hm, h.low, below_grown h.below hg (by have := h.low; have := h.big; omega) (fun k e => by cases e; have := h.low; omega)⟩
theorem RgSt.start {l : List (List Int)} {m : List Int} {A A2 : Option Addr} {w0 w : World} (hR : RowsAt w.heap.size w A l) (hm : IntsAt w.heap.size w A2 m) (hb : Below w0.heap.size w0 w) : RgSt l m A A2 w.heap.size w.heap.size w0 (w.alloc (.map #[] 0)) [] := by
  have e : (setF fun n => decide (n ∈ ([] : List Int))) = fun _ => none := by funext n; simp [setF]
  refine ⟨hR.later ((Below.refl _ _).alloc (Nat.le_refl _) _), hm.later ((Below.refl _ _).alloc (Nat.le_refl _) _), by simp, Nat.le_refl _, ?_, hb.size, hb.alloc hb.size _⟩
  rw [e]
  exact MapV.made w

set_option maxRecDepth 100000 in
set_option maxHeartbeats 4000000 in
theorem Right_any (near : List (List Int)) (right : Int) (m : List Int) (A A2 : Option Addr) (c c2 : Nat) (w : World) (hR : RowsAt w.heap.size w A near) (hm : IntsAt w.heap.size w A2 m) (hn : near.length ≤ 1000) (hl : ∀ r ∈ near, r.length ≤ 1000) :
    Calls Try.prog 21 #[.slice A near.length c, .int .i64 right, .slice A2 m.length c2] w fun e w' => e = .returned (.bool (rightB (near.map (rowOf right)) m)) ∧ Below w.heap.size w w' := by
  obtain ⟨l, hll⟩ : ∃ l, l = near.map (rowOf right) := ⟨_, rfl⟩
  have hlen : l.length = near.length := by rw [hll]; simp
  rw [← hll]
  by_cases hml : m.length = near.length
  · have hb1 : ((m.length : Int) != (near.length : Int)) = false := by simp [hml]
    have HRB : Hid (rightB l m = vmB l 0 [] m) := by unfold rightB; rw [decide_eq_true (by omega)]; rfl
    have HC1 := Lib.hid (rows_l hll A c w hR hn hl)
    have HL2 := Lib.hid (rows_le hll hl)
    have HM := Lib.hid hm
    have HML := Lib.hid (show m.length = l.length by omega)
    have hm1000 : m.length ≤ 1000 := by omega
    have hmm := @run_makeMap Try.prog
    clear hR hm hl hll hlen hml
    go_enter Try.func21, Try.ntmps21
    go_wp2_with (go_at_call 24; refine HC1.out.mono ?_; rintro e w1 ⟨A1, rfl, hR1, hb1⟩; have HS := Lib.hid (RgSt.start hR1 ((HM.out.later hb1).now) hb1); clear hR1 hb1)
    clear HC1
    go_loopw [22] (fun u wr => ∃ k T, k ≤ m.length ∧ u = .int .i64 (k : Nat) ∧ Hid (RgSt l m A1 A2 w1.heap.size w1.heap.size w wr T) ∧ Hid (vmB l 0 [] m = vmB l k T (m.drop k))) (fun u _ => m.length - (intOf u).toNat)
    case atStart => exact ⟨0, [], Nat.zero_le _, rfl, HS, rfl⟩
    case round =>
      clear HS
      obtain ⟨k, T, hk, rfl, HS, HV⟩ := hrel
      by_cases hlt : k < m.length
      · obtain ⟨ad, rfl, hx⟩ := HS.out.m.cell k hlt
        have hd : m.drop k = m[k] :: m.drop (k + 1) := List.drop_eq_getElem_cons hlt
        have hv := HV.out
        rw [hd, vmB] at hv
        obtain ⟨x, hxe⟩ : ∃ x, x = m[k] := ⟨_, rfl⟩
        rw [← hxe] at hv hx
        clear hd hxe HV
        have l1 := look_set HS.out.mt x
        by_cases hx1 : x = -1
        · rw [if_pos hx1] at hv
          have HV := Lib.hid hv
          have hx2 : ((x : Int) == -1) = true := by simp [hx1]
          clear hv hx1 l1
          go_wp2
          go_roundw
          case rel => exact ⟨k + 1, T, by omega, by go_num, HS, HV⟩
          case measure => simp [intOf]; omega
        · rw [if_neg hx1] at hv
          have hx2 : ((x : Int) == -1) = false := by simp [hx1]
          have hkl : k < l.length := by have := HML.out; omega
          by_cases hT : x ∈ T
          · rw [if_pos (.inl hT)] at hv
            have HV := Lib.hid hv
            simp only [hT, decide_true] at l1
            clear hv hx1 hT
            go_wp2
            go_ret
            exact ⟨ret_bool (by rw [HRB.out, HV.out]), HS.out.below⟩
          · simp only [hT, decide_false] at l1
            obtain ⟨ad2, A', c', hA, hrow, hlc, hia⟩ := HS.out.rows.row k hkl
            subst hA
            have hrf : rowF l k = l[k] := by unfold rowF; rw [List.getD_eq_getElem?_getD, List.getElem?_eq_getElem hkl, Option.getD_some]
            obtain ⟨row, hrw⟩ : ∃ row, row = rowF l k := ⟨_, rfl⟩
            rw [← hrw] at hrf hv
            rw [← hrf] at hrow hia hlc
            have hr1000 : row.length ≤ 1000 := by rw [hrw]; exact HL2.out k
            have hc := contains_at (c := c') hia (by omega) x
            cases hcx : row.contains x with
            | true =>
              rw [hcx] at hc
              have hmem : x ∈ row := by simpa using hcx
              rw [if_neg (by simp [hT, hmem])] at hv
              have HV := Lib.hid hv
              have HC := Lib.hid hc
              obtain ⟨w2, hr2, hs2⟩ := HS.out.take x
              have HS2 := Lib.hid hs2
              clear hv hc hcx hmem hrw hrf hia hx1 hT hs2
              go_wp2_with (go_at_call 32; refine HC.out.mono ?_; rintro e w' ⟨rfl, rfl⟩)
              go_roundw
              case rel => exact ⟨k + 1, T ++ [x], by omega, by go_num, HS2, HV⟩
              case measure => simp [intOf]; omega
            | false =>
              rw [hcx] at hc
              have hmem : x ∉ row := by simpa using hcx
              rw [if_pos (.inr hmem)] at hv
              have HV := Lib.hid hv
              have HC := Lib.hid hc
              clear hv hc hcx hmem hrw hrf hia hx1 hT
              go_wp2_with (go_at_call 32; refine HC.out.mono ?_; rintro e w' ⟨rfl, rfl⟩)
              go_ret
              exact ⟨ret_bool (by rw [HRB.out, HV.out]), HS.out.below⟩
      · have hv := HV.out
        rw [List.drop_eq_nil_of_le (by omega)] at hv
        have HV2 := Lib.hid hv
        clear hv
        go_wp2
        go_ret
        exact ⟨ret_bool (by rw [HRB.out, HV2.out]; rfl), HS.out.below⟩
  · have hb1 : ((m.length : Int) != (near.length : Int)) = true := by simp; omega
    have HRB : Hid (rightB l m = false) := by unfold rightB; rw [decide_eq_false (by omega)]; rfl
    clear hR hm hl hll hlen hml
    go_enter Try.func21, Try.ntmps21
    go_wp2
    go_ret
    exact ⟨ret_bool HRB.out.symm, Below.refl _ _⟩
end Go.Proofs.Ytopjfnkcmdifhaa
