/- The walk of course.Takes, and of the library's functions that it calls. -/
import Derived.Test.YtebpdlnknfjoaaaLoadsW
namespace Go.Proofs.Ytebpdlnknfjoaaa
set_option linter.unusedVariables false
set_option linter.unusedSimpArgs false
open Go.RowKit

theorem equal_any {B : Nat} {A1 A2 : Option Addr} {xs ys : List Int} {n m : Nat} {q : Bool} (c1 c2 : Nat) (w : World) (h1 : IntsAt B w A1 xs) (h2 : IntsAt B w A2 ys) (hn : xs.length = n) (hm : ys.length = m) (hb1 : n ≤ 1000000) (hb2 : m ≤ 1000000) (hq : decide (xs = ys) = q) :
    Calls Try.prog 46 #[.slice A1 n c1, .slice A2 m c2] w fun e w' => e = .returned (.bool q) ∧ Below w.heap.size w w' := by
  subst hn hm hq
  by_cases hl : xs.length = ys.length
  · cases hx : xs with
    | nil =>
      rw [hx] at hl
      have hy : ys = [] := List.length_eq_zero_iff.1 hl.symm
      subst hy
      refine (Try.slices_Equal_int_empty A1 A2 c1 0 c2 w (by omega)).mono ?_
      rintro e w' ⟨rfl, rfl⟩
      exact ⟨by simp, Below.refl _ _⟩
    | cons x xs' =>
      have hx0 : 0 < xs.length := by rw [hx]; simp
      obtain ⟨a1, rfl, _, hc1⟩ := h1 0 hx0
      obtain ⟨a2, rfl, _, hc2⟩ := h2 0 (by omega)
      rw [add_zero'] at hc1 hc2
      have s1 := cell_spot hc1
      have s2 := cell_spot hc2
      obtain ⟨b1, o1, p1⟩ := a1
      obtain ⟨b2, o2, p2⟩ := a2
      simp only at s1 s2
      subst s1 s2
      rw [← hx]
      refine (Try.slices_Equal_int b1 o1 xs.length c1 b2 o2 ys.length c2 xs ys w (Nat.le_refl _) (Nat.le_refl _) (by omega) (by omega) (fun j hj => ?_) (fun j hj => ?_)).mono ?_
      · obtain ⟨ad, e, _, hc⟩ := h1 j hj
        cases e
        rw [add_free] at hc
        rw [hc]
        simp [List.getD_eq_getElem?_getD, hj]
      · obtain ⟨ad, e, _, hc⟩ := h2 j hj
        cases e
        rw [add_free] at hc
        rw [hc]
        simp [List.getD_eq_getElem?_getD, hj]
      · rintro e w' ⟨rfl, q, rfl⟩
        refine ⟨ret_bool ?_, below_drewN (Below.refl _ _) q⟩
        rw [List.take_length, List.take_length, Bool.eq_iff_iff]
        simp
  · refine (Try.slices_Equal_int_lens A1 A2 xs.length c1 ys.length c2 w hl).mono ?_
    rintro e w' ⟨rfl, rfl⟩
    exact ⟨ret_bool (by rw [decide_eq_false (fun e => hl (by rw [e]))]), Below.refl _ _⟩

theorem takes1_any {B : Nat} {A1 A2 : Option Addr} {xs load : List Int} {n m b : Nat} {q : Bool} (c1 c2 : Nat) (w : World) (h1 : IntsAt B w A1 xs) (h2 : IntsAt B w A2 load) (hn : xs.length = n) (hm : load.length = m) (hb1 : n ≤ 1000000) (hb2 : m ≤ 1000000) (hc : w.cell? ⟨b, 0, none⟩ = some (.slice A2 m c2)) (hq : decide (xs = load) = q) :
    Calls Try.prog 45 #[.slice A1 n c1, .pointer (some ⟨b, 0, none⟩)] w fun e w' => e = .returned (.bool q) ∧ Below w.heap.size w w' := by
  have HC := Lib.hid (equal_any c1 c2 w h1 h2 hn hm hb1 hb2 hq)
  clear h1 h2
  go_enter Try.func45, Try.ntmps45
  go_wp2_with (go_at_call 46; refine HC.out.mono ?_; rintro e w' ⟨rfl, hb⟩; have HB := Lib.hid hb; clear hb)
  go_ret
  exact ⟨rfl, HB.out⟩

set_option maxHeartbeats 600000 in
theorem index_any {B : Nat} {A A2 : Option Addr} {rows : List (List Int)} {load : List Int} {b : Nat} (c c2 : Nat) (w : World) (hR : RowsAt B w A rows) (hI : IntsAt B w A2 load) (hb : w.cell? ⟨b, 0, none⟩ = some (.slice A2 load.length c2)) (hn : rows.length ≤ 1000000) (hl : ∀ r ∈ rows, r.length ≤ 1000000) (hl2 : load.length ≤ 1000000) :
    Calls Try.prog 55 #[.slice A rows.length c, .func (.func 45) #[] #[.pointer (some ⟨b, 0, none⟩)]] w fun e w' => ∃ i : Int, e = .returned (.int .i64 i) ∧ (0 ≤ i ↔ load ∈ rows) ∧ Below w.heap.size w w' := by
  have HR := Lib.hid hR
  have HI := Lib.hid hI
  have HBX := Lib.hid hb
  have HL := Lib.hid hl
  clear hR hI hb hl
  go_enter Try.func55, Try.ntmps55
  go_wp2
  go_loopw [8] (fun i wr => ∃ k : Nat, k ≤ rows.length ∧ i = .int .i64 (k : Nat) ∧ Hid (load ∉ rows.take k) ∧ Hid (Below w.heap.size w wr)) (fun i _ => rows.length - (intOf i).toNat)
  case atStart => exact ⟨0, Nat.zero_le _, rfl, (by show load ∉ _; simp), Below.refl _ _⟩
  case round =>
    obtain ⟨k, hk, rfl, HN, HB⟩ := hrel
    by_cases hlt : k < rows.length
    · obtain ⟨ad, A1, c1, rfl, hc, hlc, hia⟩ := (HR.out.later HB.out).row k hlt
      have hbx : wr.cell? ⟨b, 0, none⟩ = some (.slice A2 load.length c2) := (World.cell?_of_block (HB.out.block _ (cell_lt HBX.out))).trans HBX.out
      have hrl := HL.out _ (List.getElem_mem hlt)
      have htk : rows.take (k + 1) = rows.take k ++ [rows[k]] := List.take_succ_eq_append_getElem hlt
      have hrm : rows[k] ∈ rows := List.getElem_mem hlt
      obtain ⟨r, hr⟩ : ∃ r, r = rows[k] := ⟨_, rfl⟩
      rw [← hr] at hc hlc hia hrl htk hrm
      by_cases he : r = load
      · have HC := Lib.hid (takes1_any (q := true) c1 c2 wr hia (HI.out.later HB.out) rfl rfl hrl hl2 hbx (decide_eq_true he))
        have HM : Hid (load ∈ rows) := by rw [← he]; exact hrm
        clear hia he hr htk hrm hbx
        go_wp2_with (go_at_call 45; refine HC.out.mono ?_; rintro e w' ⟨rfl, hb'⟩; have HB' := Lib.hid (HB.out.trans (hb'.mono HB.out.size)); clear hb')
        go_ret
        exact ⟨_, rfl, ⟨fun _ => HM.out, fun _ => by omega⟩, HB'.out⟩
      · have HC := Lib.hid (takes1_any (q := false) c1 c2 wr hia (HI.out.later HB.out) rfl rfl hrl hl2 hbx (decide_eq_false he))
        have HN' : Hid (load ∉ rows.take (k + 1)) := by
          show load ∉ _
          rw [htk, List.mem_append, List.mem_singleton]
          rintro (h | h)
          · exact HN.out h
          · exact he h.symm
        clear hia he hr htk hrm hbx
        go_wp2_with (go_at_call 45; refine HC.out.mono ?_; rintro e w' ⟨rfl, hb'⟩; have HB' := Lib.hid (HB.out.trans (hb'.mono HB.out.size)); clear hb')
        go_roundw
        case rel => exact ⟨k + 1, by omega, by go_num, HN', HB'⟩
        case measure => simp [intOf]; omega
    · have HN' : Hid (load ∉ rows) := by
        have := HN.out
        rwa [List.take_of_length_le (by omega)] at this
      go_wp2
      go_ret
      exact ⟨-1, rfl, ⟨fun h => by omega, fun h => absurd h HN'.out⟩, HB.out⟩

theorem containsF_any {B : Nat} {A A2 : Option Addr} {rows : List (List Int)} {load : List Int} {b : Nat} {q : Bool} (c c2 : Nat) (w : World) (hR : RowsAt B w A rows) (hI : IntsAt B w A2 load) (hb : w.cell? ⟨b, 0, none⟩ = some (.slice A2 load.length c2)) (hn : rows.length ≤ 1000000) (hl : ∀ r ∈ rows, r.length ≤ 1000000) (hl2 : load.length ≤ 1000000) (hq : decide (load ∈ rows) = q) :
    Calls Try.prog 44 #[.slice A rows.length c, .func (.func 45) #[] #[.pointer (some ⟨b, 0, none⟩)]] w fun e w' => e = .returned (.bool q) ∧ Below w.heap.size w w' := by
  subst hq
  have HC := Lib.hid (index_any c c2 w hR hI hb hn hl hl2)
  clear hR hI
  go_enter Try.func44, Try.ntmps44
  go_wp2_with (go_at_call 55; refine HC.out.mono ?_; rintro e w' ⟨i, rfl, hi, hb'⟩; have HI := Lib.hid hi; have HB := Lib.hid hb'; clear hi hb')
  go_ret
  exact ⟨ret_bool (decide_eq_decide.2 HI.out), HB.out⟩

theorem loads_len {os : List Int} {s : ByteArray} {ws : List (List (List Int))} : ∀ r ∈ loadsOf os s ws, r.length ≤ 4 := by
  intro r hr
  unfold loadsOf at hr
  split at hr
  · rename_i h
    obtain ⟨_, hp⟩ := right_parts h
    obtain ⟨ps, hps, hr⟩ := List.mem_flatMap.1 hr
    have h1 := dfs_len ps [] r (List.mem_filter.1 hr).1
    have h2 := (hp ps hps).1
    simp at h1
    omega
  · cases hr
theorem loads_le {os : List Int} {s : ByteArray} {ws : List (List (List Int))} : (loadsOf os s ws).length ≤ (ws.flatMap fun ps => dfs ps []).length := by
  have key : ∀ l : List (List (List Int)), (l.flatMap (wayLoads os)).length ≤ (l.flatMap fun ps => dfs ps []).length := by
    intro l
    induction l with
    | nil => simp
    | cons q l ih =>
      rw [List.flatMap_cons, List.flatMap_cons, List.length_append, List.length_append]
      have : (wayLoads os q).length ≤ (dfs q []).length := List.length_filter_le _ _
      omega
  unfold loadsOf
  split
  · exact key ws
  · exact Nat.zero_le _

set_option maxRecDepth 100000 in
set_option maxHeartbeats 600000 in
theorem takes_any {A A2 A3 : Option Addr} {os load : List Int} {ws : List (List (List Int))} (s : ByteArray) (c c2 c3 : Nat) (w : World) (hO : OversAt w.heap.size w A os) (hW : WaysAt w.heap.size w A2 ws) (hI : IntsAt w.heap.size w A3 load) (hs : s.size ≤ 9223372036854775807) (h2 : ∀ ps ∈ ws, ∀ p ∈ ps, p.length ≤ 1000) (hos : os.length ≤ 1000) (hN : (ws.flatMap fun ps => dfs ps []).length ≤ 1000000) (hl : load.length ≤ 1000000) :
    Calls Try.prog 22 #[.slice A os.length c, .agg #[.string s, .slice A2 ws.length c2], .slice A3 load.length c3] w fun e w' => e = .returned (.bool (decide (load ∈ loadsOf os s ws))) ∧ Below w.heap.size w w' := by
  have hb0 : Below w.heap.size w ((w.alloc (.cells #[.string s, .slice A2 ws.length c2] 24)).alloc (.cells #[.slice A3 load.length c3] 29)) := ((Below.refl _ _).alloc (Nat.le_refl _) _).alloc (by simp) _
  have HC := Lib.hid (loads_any s c c2 ((w.alloc (.cells #[.string s, .slice A2 ws.length c2] 24)).alloc (.cells #[.slice A3 load.length c3] 29)) (hO.later hb0).now (hW.later hb0).now hs h2 hos hN)
  have HI := Lib.hid (hI.later hb0).now
  have HB0 := Lib.hid hb0
  have HBX : Hid (((w.alloc (.cells #[.string s, .slice A2 ws.length c2] 24)).alloc (.cells #[.slice A3 load.length c3] 29)).cell? ⟨w.heap.size + 1, 0, none⟩ = some (.slice A3 load.length c3)) := (new_cell (w.alloc (.cells #[.string s, .slice A2 ws.length c2] 24)) _ _ _ (by simp)).1
  clear hO hW hI h2 hb0
  go_enter Try.func22, Try.ntmps22
  go_wp2_with (first
    | (go_at_call 20; refine HC.out.mono ?_; rintro e w1 ⟨A1, c1, rfl, hr, hb1⟩
       have hbx : w1.cell? ⟨w.heap.size + 1, 0, none⟩ = some (.slice A3 load.length c3) := (World.cell?_of_block (hb1.block _ (cell_lt HBX.out))).trans HBX.out
       have HC2 := Lib.hid (containsF_any (q := decide (load ∈ loadsOf os s ws)) c1 c3 w1 hr ((HI.out.later hb1).now) hbx (Nat.le_trans loads_le hN) (fun r hr => by have := loads_len r hr; omega) hl rfl)
       have HB1 := Lib.hid (HB0.out.trans (hb1.mono HB0.out.size))
       clear hr hb1 hbx)
    | (go_at_call 44; refine HC2.out.mono ?_; rintro e w2 ⟨rfl, hb2⟩; have HB2 := Lib.hid (HB1.out.trans (hb2.mono HB1.out.size)); clear hb2))
  go_ret
  exact ⟨rfl, HB2.out⟩
end Go.Proofs.Ytebpdlnknfjoaaa
