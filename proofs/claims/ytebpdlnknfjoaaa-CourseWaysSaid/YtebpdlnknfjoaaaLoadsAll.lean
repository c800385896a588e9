/- course.Loads and course.Takes of every course; the law's light. -/
import Derived.Test.YtebpdlnknfjoaaaTakes
import Derived.Test.YtebpdlnknfjoaaaAllW
import Derived.Test.YtebpdlnknfjoaaaCount
import Derived.Test.YtebpdlnknfjoaaaFew
namespace Go.Proofs.Ytebpdlnknfjoaaa
set_option linter.unusedVariables false
set_option linter.unusedSimpArgs false
open Go.RowKit

theorem right_dfs {n : Int} {s : ByteArray} {ws : List (List (List Int))} (h : rightB n s ws = true) : (ws.flatMap fun ps => dfs ps []).length ≤ 16384 := by
  obtain ⟨h4, hp⟩ := right_parts h
  have key : ∀ l : List (List (List Int)), (∀ ps ∈ l, ps ∈ ws) → (l.flatMap fun ps => dfs ps []).length ≤ 4096 * l.length := by
    intro l
    induction l with
    | nil => intro _; simp
    | cons ps l ih =>
      intro hl
      rw [List.flatMap_cons, List.length_append, List.length_cons]
      have h1 := ih (fun p hp => hl p (.tail _ hp))
      obtain ⟨hq4, hq8, _⟩ := hp ps (hl ps (.head _))
      have h2 := all_len hq8 ps.length (Nat.le_refl _)
      rw [List.take_length, all_dfs] at h2
      have h3 : 8 ^ ps.length ≤ 8 ^ 4 := Nat.pow_le_pow_right (by decide) hq4
      have h5 : (8 : Nat) ^ 4 = 4096 := by decide
      omega
  have := key ws (fun _ h => h)
  omega

theorem loads_wrong {A A2 : Option Addr} {os : List Int} {ws : List (List (List Int))} (s : ByteArray) (c c2 : Nat) (w : World) (hW : WaysAt w.heap.size w A2 ws) (hs : s.size ≤ 9223372036854775807) (h2 : ∀ ps ∈ ws, ∀ p ∈ ps, p.length ≤ 1000) (hr : rightB os.length s ws = false) :
    Calls Try.prog 20 #[.slice A os.length c, .agg #[.string s, .slice A2 ws.length c2]] w (LoadsPost os s ws w) := by
  have HB0 := Lib.hid (alloc_below w (.cells #[.string s, .slice A2 ws.length c2] 24))
  have HC := Lib.hid (right_near os.length s c2 (w.alloc (.cells #[.string s, .slice A2 ws.length c2] 24)) (hW.later HB0.out) hs h2 hr)
  have HL : Hid (loadsOf os s ws = []) := by show _ = _; unfold loadsOf; rw [hr]; rfl
  clear hr hW h2
  go_enter Try.func20, Try.ntmps20
  go_wp2_with (go_at_call 11; refine HC.out.mono ?_; rintro e w1 ⟨rfl, hb1⟩; have HB1 := Lib.hid (HB0.out.trans (hb1.mono HB0.out.size)); clear hb1)
  go_ret
  exact ⟨none, 0, by rw [HL.out]; rfl, by rw [HL.out]; intro i hi; simp at hi, HB1.out⟩
theorem loads_all {A A2 : Option Addr} {os : List Int} {ws : List (List (List Int))} (s : ByteArray) (c c2 : Nat) (w : World) (hO : OversAt w.heap.size w A os) (hW : WaysAt w.heap.size w A2 ws) (hs : s.size ≤ 9223372036854775807) (h2 : ∀ ps ∈ ws, ∀ p ∈ ps, p.length ≤ 1000) (hos : os.length ≤ 1000) :
    Calls Try.prog 20 #[.slice A os.length c, .agg #[.string s, .slice A2 ws.length c2]] w (LoadsPost os s ws w) := by
  cases hr : rightB os.length s ws with
  | false => exact loads_wrong s c c2 w hW hs h2 hr
  | true => exact loads_any s c c2 w hO hW hs h2 hos (Nat.le_trans (right_dfs hr) (by decide))
theorem loads_few {os : List Int} {s : ByteArray} {ws : List (List (List Int))} : (loadsOf os s ws).length ≤ 16384 := by
  cases hr : rightB os.length s ws with
  | false => unfold loadsOf; rw [hr]; exact Nat.zero_le _
  | true => exact Nat.le_trans loads_le (right_dfs hr)

set_option maxRecDepth 100000 in
set_option maxHeartbeats 600000 in
theorem takes_all {A A2 A3 : Option Addr} {os load : List Int} {ws : List (List (List Int))} {q : Bool} {n : Nat} (s : ByteArray) (c c2 c3 : Nat) (w : World) (hO : OversAt w.heap.size w A os) (hW : WaysAt w.heap.size w A2 ws) (hI : IntsAt w.heap.size w A3 load) (hs : s.size ≤ 9223372036854775807) (h2 : ∀ ps ∈ ws, ∀ p ∈ ps, p.length ≤ 1000) (hos : os.length ≤ 1000) (hn : load.length = n) (hl : n ≤ 1000000) (hq : decide (load ∈ loadsOf os s ws) = q) :
    Calls Try.prog 22 #[.slice A os.length c, .agg #[.string s, .slice A2 ws.length c2], .slice A3 n c3] w fun e w' => e = .returned (.bool q) ∧ Below w.heap.size w w' := by
  subst hn
  have hb0 : Below w.heap.size w ((w.alloc (.cells #[.string s, .slice A2 ws.length c2] 24)).alloc (.cells #[.slice A3 load.length c3] 29)) := ((Below.refl _ _).alloc (Nat.le_refl _) _).alloc (by simp) _
  have HC := Lib.hid (loads_all s c c2 ((w.alloc (.cells #[.string s, .slice A2 ws.length c2] 24)).alloc (.cells #[.slice A3 load.length c3] 29)) (hO.later hb0).now (hW.later hb0).now hs h2 hos)
  have HI := Lib.hid (hI.later hb0).now
  have HB0 := Lib.hid hb0
  have HQ := Lib.hid hq
  have HBX : Hid (((w.alloc (.cells #[.string s, .slice A2 ws.length c2] 24)).alloc (.cells #[.slice A3 load.length c3] 29)).cell? ⟨w.heap.size + 1, 0, none⟩ = some (.slice A3 load.length c3)) := (new_cell (w.alloc (.cells #[.string s, .slice A2 ws.length c2] 24)) _ _ _ (by simp)).1
  clear hO hW hI h2 hb0 hq
  go_enter Try.func22, Try.ntmps22
  go_wp2_with (first
    | (go_at_call 20; refine HC.out.mono ?_; rintro e w1 ⟨A1, c1, rfl, hr, hb1⟩
       have hbx : w1.cell? ⟨w.heap.size + 1, 0, none⟩ = some (.slice A3 load.length c3) := (World.cell?_of_block (hb1.block _ (cell_lt HBX.out))).trans HBX.out
       have HC2 := Lib.hid (containsF_any (q := q) c1 c3 w1 hr ((HI.out.later hb1).now) hbx (Nat.le_trans loads_few (by decide)) (fun r hr => by have := loads_len r hr; omega) hl HQ.out)
       have HB1 := Lib.hid (HB0.out.trans (hb1.mono HB0.out.size))
       clear hr hb1 hbx)
    | (go_at_call 44; refine HC2.out.mono ?_; rintro e w2 ⟨rfl, hb2⟩; have HB2 := Lib.hid (HB1.out.trans (hb2.mono HB1.out.size)); clear hb2))
  go_ret
  exact ⟨rfl, HB2.out⟩

def lightB (ws : List (List (List Int))) : Bool := fewB ws && decide (countOf ws ≤ 600)
theorem light_any {A : Option Addr} {ws : List (List (List Int))} {q : Bool} (s : ByteArray) (c : Nat) (w : World) (hW : WaysAt w.heap.size w A ws) (hq : lightB ws = q) :
    Calls Try.prog 18 #[.agg #[.string s, .slice A ws.length c]] w fun e w' => e = .returned (.bool q) ∧ Below w.heap.size w w' := by
  have hb0 := alloc_below w (.cells #[.string s, .slice A ws.length c] 24)
  have HF := Lib.hid (few_any s c (w.alloc (.cells #[.string s, .slice A ws.length c] 24)) (hW.later hb0))
  have HX := Lib.hid (course_cells w s A ws.length c)
  have HB0 := Lib.hid hb0
  cases hf : fewB ws with
  | false =>
    rw [hf] at HF
    have HQ : Hid (q = false) := by show _ = _; rw [← hq]; unfold lightB; rw [hf]; rfl
    clear hf hq hW hb0
    go_enter Try.func18, Try.ntmps18
    go_wp2_with (go_at_call 9; refine HF.out.mono ?_; rintro e w1 ⟨rfl, hb1⟩; have HB1 := Lib.hid (HB0.out.trans (hb1.mono HB0.out.size)); clear hb1)
    go_ret
    exact ⟨ret_bool HQ.out.symm, HB1.out⟩
  | true =>
    rw [hf] at HF
    obtain ⟨h1, h2, h3⟩ := few_bounds hf
    have HK : Hid (∀ w1, Below w.heap.size w w1 → Calls Try.prog 17 #[.agg #[.string s, .slice A ws.length c]] w1 fun e w' => e = .returned (.int .i64 (countOf ws : Nat)) ∧ Below w1.heap.size w1 w') := fun w1 hb => refCount_any s c w1 ((hW.later hb).now) (by omega) (fun ps hps => by have := h2 ps hps; omega)
    have HQ : Hid (q = decide (countOf ws ≤ 600)) := by show _ = _; rw [← hq]; unfold lightB; rw [hf]; rfl
    obtain ⟨k, hk⟩ : ∃ k, k = countOf ws := ⟨_, rfl⟩
    rw [← hk] at HK HQ
    clear hf hq hW hb0 hk h1 h2 h3
    go_enter Try.func18, Try.ntmps18
    go_wp2_with (first
      | (go_at_call 9; refine HF.out.mono ?_; rintro e w1 ⟨rfl, hb1⟩; have hx1 := HX.out w1 hb1; have HB1 := Lib.hid (HB0.out.trans (hb1.mono HB0.out.size)); obtain ⟨c0, c1⟩ := hx1; clear hb1)
      | (go_at_call 17; refine (HK.out _ HB1.out).mono ?_; rintro e w2 ⟨rfl, hb2⟩; have HB2 := Lib.hid (HB1.out.trans (hb2.mono HB1.out.size)); clear hb2))
    go_ret
    exact ⟨ret_bool (by rw [HQ.out]; exact decide_eq_decide.2 (by omega)), HB2.out⟩
end Go.Proofs.Ytebpdlnknfjoaaa
