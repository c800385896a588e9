/- The walk of the document's Right, and of the law MatchRight. -/
import Derived.Test.YtopjfnkcmdifhaaNoneW
namespace Go.Proofs.Ytopjfnkcmdifhaa
set_option linter.unusedVariables false
set_option linter.unusedSimpArgs false
open Go.RowKit Kuhn

/-- Those of a row that are no -1. -/
def real (xs : List Int) : List Int := xs.filter fun x => decide (x ≠ -1)
theorem real_snoc (m : List Int) (k : Nat) (hk : k < m.length) : real (m.take (k + 1)) = if m[k] = -1 then real (m.take k) else real (m.take k) ++ [m[k]] := by
  unfold real
  rw [List.take_succ_eq_append_getElem hk, List.filter_append]
  by_cases h : m[k] = -1
  · rw [if_pos h]; simp [h]
  · rw [if_neg h]; simp [h]
theorem mem_real (m : List Int) (k : Nat) (x : Int) (hx : x ≠ -1) : x ∈ real (m.take k) ↔ x ∈ m.take k := by
  unfold real
  rw [List.mem_filter]
  simp [hx]
theorem may_iff {near : List (List Int)} {right : Int} {l : List (List Int)} (hll : l = near.map (rowOf right)) (u : Nat) (v : Int) : mayB near right u v = true ↔ v ∈ rowF l u := by
  rw [hll, rowF_map, (rowOf_spec right _).2]
  unfold mayB
  rw [Bool.and_eq_true, decide_eq_true_eq, hasB_iff]
  constructor
  · rintro ⟨⟨h1, h2⟩, h3⟩; exact ⟨h3, h1, h2⟩
  · rintro ⟨h3, h1, h2⟩; exact ⟨⟨h1, h2⟩, h3⟩

/-- One step of the check, from the k-th one on. -/
theorem vm_step {l : List (List Int)} (hnn : ∀ i v, v ∈ rowF l i → 0 ≤ v) (m : List Int) (k : Nat) (hk : k < m.length) :
    vmB l k (real (m.take k)) (m.drop k) = if m[k] = -1 then vmB l (k + 1) (real (m.take (k + 1))) (m.drop (k + 1)) else if m[k] ∉ rowF l k then false else if m[k] ∈ m.take k then false else vmB l (k + 1) (real (m.take (k + 1))) (m.drop (k + 1)) := by
  rw [List.drop_eq_getElem_cons hk, vmB, real_snoc m k hk]
  by_cases h : m[k] = -1
  · rw [if_pos h, if_pos h, if_pos h]
  · rw [if_neg h, if_neg h, if_neg h]
    by_cases h1 : m[k] ∈ rowF l k
    · have e1 : ¬ (m[k] ∉ rowF l k) := fun q => q h1
      rw [if_neg e1]
      by_cases h2 : m[k] ∈ m.take k
      · have e2 : m[k] ∈ real (m.take k) ∨ m[k] ∉ rowF l k := .inl ((mem_real m k _ h).2 h2)
        rw [if_pos e2, if_pos h2]
      · have e2 : ¬ (m[k] ∈ real (m.take k) ∨ m[k] ∉ rowF l k) := fun q => q.elim (fun q => h2 ((mem_real m k _ h).1 q)) (fun q => q h1)
        rw [if_neg e2, if_neg h2]
    · have e2 : m[k] ∈ real (m.take k) ∨ m[k] ∉ rowF l k := .inr h1
      rw [if_pos e2, if_pos h1]

theorem add_zero (a : Addr) : a.add 0 = a := by
  unfold Addr.add
  split <;> simp_all
theorem run_head {w : World} {ad : Addr} {len cap k : Nat} (h : k ≤ cap) : (Instr.slice 25 (.slice (some ad) len cap) none (some (.int .i64 (k : Int))) none).run Try.prog w = .ok (.slice (some ad) k cap) w := by
  have ht : Try.prog.underlying 25 = some (.slice (Try.prog.elem 25)) := by kernel_rfl
  have hs : (Go.sizeOf (Try.prog.elem 25)).run Try.prog w = .ok 1 w := by rfl
  rw [run_slice_h (P := Try.prog) (w := w) (t := 25) (a := some ad) (len := len) (cap := cap) (ht := ht) (kh := .i64) (h := (k : Int)) (h0 := by omega) (h2 := by omega), hs]
  simp [Result.andThen, sliced, add_zero]

theorem may_near {B : Nat} {A : Option Addr} {q : Bool} (c : Nat) (near : List (List Int)) (right v : Int) (u : Nat) (w : World) (h : RowsAt B w A near) (hu : u < near.length) (hb : ∀ r ∈ near, r.length ≤ 1000) (hq : mayB near right u v = q) :
    Calls Try.prog 30 #[.slice A near.length c, .int .i64 right, .int .i64 u, .int .i64 v] w fun e w' => e = .returned (.bool q) ∧ w = w' := by
  subst hq
  exact may_any c near right v u w h hu (fun r hr => by have := hb r hr; omega)
theorem has_near {B : Nat} {A : Option Addr} {q : Bool} {n : Nat} (c : Nat) (xs : List Int) (x : Int) (w : World) (h : IntsAt B w A xs) (hn : xs.length = n) (hb : n ≤ 1000) (hq : decide (x ∈ xs) = q) :
    Calls Try.prog 15 #[.slice A n c, .int .i64 x] w fun e w' => e = .returned (.bool q) ∧ w = w' := by
  subst hn hq
  exact has_any c xs x w h (by omega)

set_option maxRecDepth 100000 in
set_option maxHeartbeats 1000000 in
theorem refRight_any {near : List (List Int)} {right : Int} {l : List (List Int)} (hll : l = near.map (rowOf right)) (m : List Int) (A A2 : Option Addr) (c c2 : Nat) (w : World) (hR : RowsAt w.heap.size w A near) (hm : IntsAt w.heap.size w A2 m) (hn : near.length ≤ 1000) (hl : ∀ r ∈ near, r.length ≤ 1000) (hc : m.length ≤ c2) :
    Calls Try.prog 22 #[.slice A near.length c, .int .i64 right, .slice A2 m.length c2] w fun e w' => e = .returned (.bool (rightB l m)) ∧ Below w.heap.size w w' := by
  have hnn : ∀ i v, v ∈ rowF l i → 0 ≤ v := fun i v h => rows_nn right near i v (hll ▸ h)
  have hlen : l.length = near.length := by rw [hll]; simp
  by_cases hml : m.length = near.length
  · have hb1 : ((m.length : Int) != (near.length : Int)) = false := by simp [hml]
    have hm1000 : m.length ≤ 1000 := by omega
    have HRB : Hid (rightB l m = vmB l 0 (real (m.take 0)) (m.drop 0)) := by
      unfold rightB; rw [decide_eq_true (by omega)]; rfl
    have HR := Lib.hid hR
    have HM := Lib.hid hm
    have HML := Lib.hid hml
    have HST := Lib.hid (vm_step hnn m)
    have HMAY := Lib.hid (may_iff hll)
    have HNN := Lib.hid hnn
    have HK := Lib.hid hl
    clear hR hm hll hlen hnn hml hl
    go_enter Try.func22, Try.ntmps22
    go_wp2
    go_loopw [7] (fun u wr => ∃ k, k ≤ m.length ∧ u = .int .i64 (k : Nat) ∧ Hid (rightB l m = vmB l k (real (m.take k)) (m.drop k)) ∧ Hid (Below w.heap.size w wr)) (fun u _ => m.length - (intOf u).toNat)
    case atStart => exact ⟨0, Nat.zero_le _, rfl, HRB, Below.refl _ _⟩
    case round =>
      clear HRB
      obtain ⟨k, hk, rfl, HV, HB⟩ := hrel
      by_cases hlt : k < m.length
      · have hmr := HM.out.later HB.out
        obtain ⟨ad, rfl, hx⟩ := hmr.cell k hlt
        have hT : IntsAt w.heap.size wr (some ad) (m.take k) := hmr.take k
        have hTl : (m.take k).length = k := by rw [List.length_take]; omega
        have hst := HST.out k hlt
        obtain ⟨T, hTT⟩ : ∃ T, T = m.take k := ⟨_, rfl⟩
        obtain ⟨x, hxe⟩ : ∃ x, x = m[k] := ⟨_, rfl⟩
        rw [← hxe] at hx hst
        rw [← hTT] at hT hTl
        have hsl := fun wx => run_head (w := wx) (ad := ad) (len := m.length) (cap := c2) (k := k) (by omega)
        have hkn : k < near.length := by have := HML.out; omega
        by_cases hx1 : x = -1
        · rw [if_pos hx1] at hst
          have HV' := Lib.hid (HV.out.trans hst)
          have hx2 : ((x : Int) != -1) = false := by simp [hx1]
          have hx3 : ¬ 0 ≤ x := by omega
          have hx4 : decide (0 ≤ x) = false := decide_eq_false hx3
          clear hst hx1 hmr hT hTl hTT hxe
          go_wp2
          go_quiet (fail)
          go_wp2
          have HB' := Lib.hid (below_drewN HB.out nq)
          go_roundw
          case rel => exact ⟨k + 1, by omega, by go_num, HV', HB'⟩
          case measure => simp [intOf]; omega
        · rw [if_neg hx1] at hst
          have hx2 : ((x : Int) != -1) = true := by simp [hx1]
          by_cases hr : x ∈ rowF l k
          · rw [if_neg (fun q => q hr)] at hst
            have hx0 := HNN.out k x hr
            have hx4 : decide (0 ≤ x) = true := decide_eq_true hx0
            have HC := Lib.hid (may_near (q := true) c near right x k wr (HR.out.later HB.out) hkn HK.out ((HMAY.out k x).2 hr))
            by_cases hin : x ∈ m.take k
            · rw [if_pos hin] at hst
              have HV' := Lib.hid (HV.out.trans hst)
              have hd : decide (x ∈ T) = true := by rw [hTT]; exact decide_eq_true hin
              have HT := Lib.hid (show ∀ (w2 : World), w2.heap = wr.heap → ∀ c3, Calls Try.prog 15 #[.slice (some ad) k c3, .int .i64 x] w2 (fun e w' => e = .returned (.bool true) ∧ w' = w2) from fun w2 e c3 => (has_near (B := w.heap.size) c3 T x w2 (hT.move (fun b _ _ => by rw [e])) hTl (by omega) hd).mono fun _ _ h => ⟨h.1, h.2.symm⟩)
              clear hst hx1 hmr hT hTl hTT hxe hr hin hd
              go_wp2_with (go_at_call 30; refine HC.out.mono ?_; rintro e w' ⟨rfl, rfl⟩)
              go_quiet ((refine Calls.quiet_of_same (HT.out _ ?_ _); rfl))
              go_wp2
              go_ret
              exact ⟨ret_bool (by rw [HV'.out]), below_drewN HB.out nq⟩
            · rw [if_neg hin] at hst
              have HV' := Lib.hid (HV.out.trans hst)
              have hd : decide (x ∈ T) = false := by rw [hTT]; exact decide_eq_false hin
              have HT := Lib.hid (show ∀ (w2 : World), w2.heap = wr.heap → ∀ c3, Calls Try.prog 15 #[.slice (some ad) k c3, .int .i64 x] w2 (fun e w' => e = .returned (.bool false) ∧ w' = w2) from fun w2 e c3 => (has_near (B := w.heap.size) c3 T x w2 (hT.move (fun b _ _ => by rw [e])) hTl (by omega) hd).mono fun _ _ h => ⟨h.1, h.2.symm⟩)
              clear hst hx1 hmr hT hTl hTT hxe hr hin hd
              go_wp2_with (go_at_call 30; refine HC.out.mono ?_; rintro e w' ⟨rfl, rfl⟩)
              go_quiet ((refine Calls.quiet_of_same (HT.out _ ?_ _); rfl))
              go_wp2
              have HB' := Lib.hid (below_drewN HB.out nq)
              go_roundw
              case rel => exact ⟨k + 1, by omega, by go_num, HV', HB'⟩
              case measure => simp [intOf]; omega
          · rw [if_pos hr] at hst
            have HV' := Lib.hid (HV.out.trans hst)
            have hmq : mayB near right k x = false := by
              rw [Bool.eq_false_iff]
              exact fun q => hr ((HMAY.out k x).1 q)
            have HC := Lib.hid (may_near (q := false) c near right x k wr (HR.out.later HB.out) hkn HK.out hmq)
            clear hst hx1 hmr hT hTl hTT hxe hr hmq
            go_wp2_with (go_at_call 30; refine HC.out.mono ?_; rintro e w' ⟨rfl, rfl⟩)
            go_ret
            exact ⟨ret_bool (by rw [HV'.out]), HB.out⟩
      · have e : k = m.length := by omega
        have hv := HV.out
        rw [e, List.drop_length, vmB] at hv
        have HV' := Lib.hid hv
        clear hv e
        go_wp2
        go_ret
        exact ⟨ret_bool (by rw [HV'.out]), HB.out⟩
  · have hb1 : ((m.length : Int) != (near.length : Int)) = true := by simp; omega
    have hrb : rightB l m = false := by
      unfold rightB
      rw [decide_eq_false (by omega)]
      rfl
    have HRB := Lib.hid hrb
    clear hR hm hnn hll hrb
    go_enter Try.func22, Try.ntmps22
    go_wp2
    go_ret
    exact ⟨ret_bool (by rw [HRB.out]), Below.refl _ _⟩

theorem refSize_near {n B : Nat} {A : Option Addr} (c : Nat) (m : List Int) (w : World) (hm : m.length = n) (h : IntsAt B w A m) (hb : m.length ≤ 9223372036854775807) :
    Calls Try.prog 23 #[.slice A n c] w fun e w' => e = .returned (.int .i64 (sizeOf m)) ∧ w = w' := by
  subst hm
  exact refSize_any c m w h hb

set_option maxRecDepth 100000 in
set_option maxHeartbeats 1000000 in
theorem right_law (near : List (List Int)) (right : Int) (m : List Int) (A : Option Addr) (c : Nat) (A2 : Option Addr) (c2 : Nat) (w : World) (hR : RowsAt w.heap.size w A near) (hm : IntsAt w.heap.size w A2 m) (hc2 : m.length ≤ c2) :
    Calls Try.prog 7 #[.slice A near.length c, .int .i64 right, .slice A2 m.length c2] w fun e w' => e = .returned (.bool true) ∧ Below w.heap.size w w' := by
  have HF := Lib.hid (few_any c near w hR)
  have HH := Lib.hid (heads_any w)
  cases hf : fewB near with
  | false =>
    rw [hf] at HF
    clear hf hR hm
    go_enter Try.func7, Try.ntmps7
    go_wp2_with (first
      | (go_at_call 10; refine HF.out.mono ?_; rintro e w' ⟨rfl, rfl⟩)
      | (go_at_call 11; refine HH.out.mono ?_; rintro e w' ⟨rfl, hb⟩; have HB := Lib.hid hb; clear hb))
    go_ret
    exact ⟨rfl, HB.out⟩
  | true =>
    rw [hf] at HF
    by_cases h40 : m.length ≤ 40
    case neg =>
      have h40' : (40 : Int) < (m.length : Int) := by omega
      clear hf hR hm
      go_enter Try.func7, Try.ntmps7
      go_wp2_with (first
        | (go_at_call 10; refine HF.out.mono ?_; rintro e w' ⟨rfl, rfl⟩)
        | (go_at_call 11; refine HH.out.mono ?_; rintro e w' ⟨rfl, hb⟩; have HB := Lib.hid hb; clear hb))
      go_ret
      exact ⟨rfl, HB.out⟩
    obtain ⟨h12, h16⟩ := few_bounds hf
    have h40' : ¬ (40 : Int) < (m.length : Int) := by omega
    have h1000 : ∀ r ∈ near, r.length ≤ 1000 := fun r hr => by have := h16 r hr; omega
    obtain ⟨l, hll⟩ : ∃ l, l = near.map (rowOf right) := ⟨_, rfl⟩
    obtain ⟨q, hq⟩ : ∃ q, q = rightB l m := ⟨_, rfl⟩
    have HC1 := Lib.hid (Right_near hll hq.symm rfl A A2 c c2 w hR hm (by omega) h1000)
    have HQ := Lib.hid hq
    have HLL := Lib.hid hll
    have HR := Lib.hid hR
    have HM := Lib.hid hm
    have HK := Lib.hid h1000
    have hqq : (q == q) = true := by simp
    clear hf hR hm hll hq h1000 h16 HH
    go_enter Try.func7, Try.ntmps7
    go_wp2_with (first
      | (go_at_call 10; refine HF.out.mono ?_; rintro e w' ⟨rfl, rfl⟩)
      | (go_at_call 21; refine HC1.out.mono ?_; rintro e w1 ⟨rfl, hb1⟩; have HB1 := Lib.hid hb1; have HC2 := Lib.hid (refRight_any HLL.out m A A2 c c2 w1 (HR.out.later hb1).now (HM.out.later hb1).now (by omega) HK.out hc2); rw [← HQ.out] at HC2; clear hb1)
      | (go_at_call 22; refine HC2.out.mono ?_; rintro e w2 ⟨rfl, hb2⟩; have HB2 := Lib.hid (HB1.out.trans (hb2.mono HB1.out.size)); have HM2 := Lib.hid (HM.out.later HB2.out); have HC3 := Lib.hid (Size_near c2 m w2 rfl HM2.out (by omega)); have HC4 := Lib.hid (refSize_near c2 m w2 rfl HM2.out (by omega)); have HH := Lib.hid (heads_any w2); clear hb2)
      | (go_at_call 14; refine HC3.out.mono ?_; rintro e w3 ⟨rfl, rfl⟩)
      | (go_at_call 23; refine HC4.out.mono ?_; rintro e w3 ⟨rfl, rfl⟩)
      | (go_at_call 11; refine HH.out.mono ?_; rintro e w4 ⟨rfl, hb4⟩; have HB4 := Lib.hid (HB2.out.trans (hb4.mono HB2.out.size)); clear hb4))
    go_ret
    exact ⟨rfl, HB4.out⟩
end Go.Proofs.Ytopjfnkcmdifhaa
