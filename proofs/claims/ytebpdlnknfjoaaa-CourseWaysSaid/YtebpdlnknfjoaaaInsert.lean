/- The walk of the document's Insert: a rising row with a number more. -/
import Derived.Test.YtebpdlnknfjoaaaHas
import Derived.Test.YtebpdlnknfjoaaaMany
import Derived.Test.YtebpdlnknfjoaaaRegionGrow
namespace Go.Proofs.Ytebpdlnknfjoaaa
set_option linter.unusedVariables false
set_option linter.unusedSimpArgs false
open Go.RowKit

/-- What each operation of the statement 'append(append(append([]int{}, l[:i]...), n), l[i:]...)' yields. -/
def InsR (B : Nat) (A : Option Addr) (c : Nat) (L : List Int) (n : Int) (k : Nat) : Nat → Value → World → Prop
  | 0, v, w => ∃ g, v = .slice (some ⟨g, 0, none⟩) 0 0 ∧ B ≤ g ∧ w.heap[g]? = some (.cells #[] 3 (0, 0))
  | 1, v, _ | 8, v, _ => v = .slice A L.length c
  | 2, v, _ | 9, v, _ => v = .int .i64 (k : Nat)
  | 3, v, w => v = .slice A k c ∧ IntsAt B w A (L.take k)
  | 4, v, w => w.ownsRow B 3 1 v (L.take k).length (ints (L.take k))
  | 5, v, _ => v = .int .i64 n
  | 6, v, w => ∃ g, v = .slice (some ⟨g, 0, none⟩) 1 1 ∧ B ≤ g ∧ w.heap[g]? = some (.cells #[.int .i64 n] 3 (0, 0))
  | 7, v, w => w.ownsRow B 3 1 v (L.take k ++ [n]).length (ints (L.take k ++ [n]))
  | 10, v, w => ∃ A', v = .slice A' (L.drop k).length (c - k) ∧ IntsAt B w A' (L.drop k)
  | 11, v, w | 12, v, w => w.ownsRow B 3 1 v (L.take k ++ [n] ++ L.drop k).length (ints (L.take k ++ [n] ++ L.drop k))
  | _, _, _ => True
def insKill : Nat → Option Nat
  | 0 => some 4
  | 4 => some 7
  | 6 => some 7
  | 7 => some 11
  | _ => none

section
variable {B : Nat} {A : Option Addr} {c k : Nat} {L : List Int} {n : Int} {w w' : World}
/-- All that is said stands when memory is laid. -/
theorem InsR.laid {j : Nat} {v : Value} (h : InsR B A c L n k j v w) (hb : Below w.heap.size w w') : InsR B A c L n k j v w' := by
  have blk : ∀ g o, w.heap[g]? = some o → w'.heap[g]? = some o := fun g o hg => (hb.block g (Array.getElem?_eq_some_iff.1 hg).1).trans hg
  match j, h with
  | 0, ⟨g, e, h1, h2⟩ => exact ⟨g, e, h1, blk g _ h2⟩
  | 1, h | 8, h | 2, h | 9, h | 5, h => exact h
  | 3, ⟨e, h⟩ => exact ⟨e, h.later hb⟩
  | 4, h | 7, h | 11, h | 12, h => exact own_later h hb
  | 6, ⟨g, e, h1, h2⟩ => exact ⟨g, e, h1, blk g _ h2⟩
  | 10, ⟨A', e, h⟩ => exact ⟨A', e, h.later hb⟩
  | _ + 13, h => exact h
/-- What is said of what came in, and of numbers, stands when a row above B is written. -/
theorem InsR.old {j : Nat} {v : Value} {row : Option Nat} (hj : j ∈ [1, 2, 3, 5, 8, 9, 10]) (h : InsR B A c L n k j v w) (hg : w.grownBy w' row) (hr : ∀ q, row = some q → B ≤ q) : InsR B A c L n k j v w' := by
  simp only [List.mem_cons, List.not_mem_nil, or_false] at hj
  rcases hj with rfl | rfl | rfl | rfl | rfl | rfl | rfl
  · exact h
  · exact h
  · exact ⟨h.1, h.2.grown hg hr⟩
  · exact h
  · exact h
  · exact h
  · obtain ⟨A', e, h⟩ := h
    exact ⟨A', e, h.grown hg hr⟩
theorem elem29 : Try.prog.underlying 29 = some (.slice (Try.prog.elem 29)) := by kernel_rfl
theorem size29 (w : World) : (Go.sizeOf (Try.prog.elem 29)).run Try.prog w = .ok 1 w := by kernel_rfl
theorem alloc_new (w : World) (o : Obj) : (w.alloc o).heap[w.heap.size]? = some o := heap_alloc_new w o
end

set_option maxHeartbeats 600000 in
theorem insert_near {A : Option Addr} {L : List Int} {n : Int} {p : Nat} (c : Nat) (w : World) (hI : IntsAt w.heap.size w A L) (hp : L.length = p) (hc : p ≤ c) (hup : L.Pairwise (· < ·)) (hn : n ∉ L) (hlen : p ≤ 1000) :
    Calls Try.prog 36 #[.slice A p c, .int .i64 n] w fun e w' => ∃ A' c' ys, e = .returned (.slice A' ys.length c') ∧ ys.length = p + 1 ∧ ys.length ≤ c' ∧ IntsAt w'.heap.size w' A' ys ∧ IsSet ys (fun x => x = n ∨ x ∈ L) ∧ Below w.heap.size w w' := by
  subst hp
  have HC := Lib.hid (has_near (q := false) c L n w hI rfl hlen (decide_eq_false hn))
  have HI := Lib.hid hI
  have HUP := Lib.hid hup
  have HN := Lib.hid hn
  clear hI hup hn
  go_enter Try.func36, Try.ntmps36
  go_wp2_with (go_at_call 33; refine HC.out.mono ?_; rintro e w' ⟨rfl, rfl⟩)
  go_loop [5] (fun i => ∃ k, k ≤ L.length ∧ i = .int .i64 (k : Nat) ∧ Hid (∀ x ∈ L.take k, x < n)) (fun i => L.length - (intOf i).toNat)
  case atStart => exact ⟨0, Nat.zero_le _, rfl, by intro x hx; simp at hx⟩
  case round =>
    obtain ⟨k, hk, rfl, HLOW⟩ := hrel
    have hcase : (∃ (h : k < L.length) (x : Int) (ad : Addr), A = some ad ∧ w.cell? (ad.add k) = some (.int .i64 x) ∧ x < n ∧ x = L[k]) ∨ (k < L.length ∧ ∃ (x : Int) (ad : Addr), A = some ad ∧ w.cell? (ad.add k) = some (.int .i64 x) ∧ ¬ x < n ∧ Hid (∀ h : k < L.length, n ≤ L[k])) ∨ (¬ k < L.length ∧ Hid (∀ h : k < L.length, n ≤ L[k])) := by
      by_cases hlt : k < L.length
      · obtain ⟨ad, e, hx⟩ := HI.out.cell k hlt
        by_cases hxn : L[k] < n
        · exact .inl ⟨hlt, L[k], ad, e, hx, hxn, rfl⟩
        · exact .inr (.inl ⟨hlt, L[k], ad, e, hx, hxn, fun _ => Int.not_lt.1 hxn⟩)
      · exact .inr (.inr ⟨hlt, fun h => absurd h hlt⟩)
    rcases hcase with ⟨hlt, x, ad, rfl, hx, hxn, hxe⟩ | ⟨hlt, x, ad, rfl, hx, hxn, HST⟩ | ⟨hlt, HST⟩
    · have HLOW' : Hid (∀ x ∈ L.take (k + 1), x < n) := by
        intro y hy
        rw [List.take_succ_eq_append_getElem hlt, List.mem_append, List.mem_singleton] at hy
        rcases hy with hy | rfl
        · exact HLOW.out y hy
        · rw [← hxe]; exact hxn
      clear hxe
      go_wp2
      go_round
      case rel => exact ⟨k + 1, by omega, by go_num, HLOW'⟩
      case measure => simp [intOf]; omega
    all_goals
      go_wp2
      first
        | refine region_kill insKill (fun w' => Below w.heap.size w w') (InsR w.heap.size (some ad) c L n k) (by kernel_rfl) (by kernel_rfl) (below_drew (Below.refl _ _)) (each_op ?_) ?_
        | refine region_kill insKill (fun w' => Below w.heap.size w w') (InsR w.heap.size A c L n k) (by kernel_rfl) (by kernel_rfl) (below_drew (Below.refl _ _)) (each_op ?_) ?_

      · refine ⟨?_, ?_, ?_, ?_, ?_, ?_, ?_, ?_, ?_, ?_, ?_, ?_, ?_, trivial⟩
        · intro a w1 hb hs hd hf hj
          have hsz : w.heap.size ≤ w1.heap.size := hb.size
          refine step_run (wanted_none rfl) (v := .slice (some ⟨w1.heap.size, 0, none⟩) 0 0) (w' := w1.alloc (.cells #[] 3)) ?_ ⟨⟨_, rfl, hsz, alloc_new _ _⟩, hb.alloc hsz _, fun j u _ h => h.laid (alloc_below _ _)⟩
          simp [execOp, go_sem]
        · intro a w1 hb hs hd hf hj
          refine step_run (wanted_none rfl) (v := _) (w' := w1) ?_ ⟨hf 0 (by decide), hb, fun j u _ h => h⟩
          simp [execOp, Act.eval]
        · intro a w1 hb hs hd hf hj
          refine step_run (wanted_none rfl) (v := _) (w' := w1) ?_ ⟨hf 5 (by decide), hb, fun j u _ h => h⟩
          simp [execOp, Act.eval]
        · intro a w1 hb hs hd hf hj
          have h1 : a.tmps.getD 25 undef = _ := hj 1 (leans_of (by kernel_rfl))
          have h2 : a.tmps.getD 26 undef = _ := hj 2 (leans_of (by kernel_rfl))
          obtain ⟨hr, hi⟩ := cut_head (P := Try.prog) (t := 29) (k := k) elem29 (size29 _) (HI.out.later hb) rfl (by omega) hc
          refine step_run (wanted_none rfl) (v := .slice _ k c) (w' := w1) ?_ ⟨⟨rfl, hi⟩, hb, fun j u _ h => h⟩
          simp [execOp, Act.eval, h1, h2, hr, Result.andThen, -Array.getD_eq_getD_getElem?]
        · intro a w1 hb hs hd hf hj
          have hsz : w.heap.size ≤ w1.heap.size := hb.size
          obtain ⟨g, h1, hg, hblk⟩ : ∃ g, a.tmps.getD 24 undef = .slice (some ⟨g, 0, none⟩) 0 0 ∧ w.heap.size ≤ g ∧ w1.heap[g]? = some (.cells #[] 3 (0, 0)) := hj 0 (leans_of (by kernel_rfl))
          obtain ⟨h2, hi2⟩ : a.tmps.getD 27 undef = .slice _ k c ∧ IntsAt w.heap.size w1 _ (L.take k) := hj 3 (leans_of (by kernel_rfl))
          have hkl : (L.take k).length = k := by rw [List.length_take]; omega
          have hown : w1.ownsRow w.heap.size 3 1 (.slice (some ⟨g, 0, none⟩) ([] : List Int).length 0) ([] : List Int).length (ints []) := ⟨rfl, .inr ⟨g, 0, #[], rfl, hg, hblk, Nat.le_refl _, Nat.zero_le _, rfl, rfl⟩⟩
          obtain ⟨v', w2, hap, hown2, hgr⟩ := app_many (ty := 29) Try.underlying29 info_int hown hi2 (c := c) (by simp; omega) hsz
          have hrow : ∀ q, (Value.slice (some ⟨g, 0, none⟩) ([] : List Int).length 0).ownBlock = some q → w.heap.size ≤ q := fun q e => by cases e; exact hg
          rw [hkl] at hap
          refine step_run (wanted_none rfl) (v := v') (w' := w2) ?_ ⟨by rw [List.nil_append] at hown2; exact hown2, below_grown hb hgr hsz hrow, fun j u ha h => ?_⟩
          · have hap' : (Builtin.append_ #[29, 29] 29 #[.slice (some ⟨g, 0, none⟩) 0 0, .slice _ k c]).run Try.prog w1 = .ok v' w2 := hap
            simp [execOp, Act.eval, h1, h2, hap', Result.andThen, resolve, invoke, builtin, -Array.getD_eq_getD_getElem?]
          · by_cases hj13 : j < 13
            · have hin := alive_in (js := [1, 2, 3, 5, 6, 8, 9, 10]) ha (by kernel_rfl) hj13
              by_cases hj6 : j = 6
              · subst hj6
                obtain ⟨g6, e6, h61, h62⟩ := h
                refine ⟨g6, e6, h61, ?_⟩
                rw [hgr.block g6 (Array.getElem?_eq_some_iff.1 h62).1 (fun e => ?_)]
                · exact h62
                · cases e
                  rw [hblk] at h62
                  cases h62
              · exact h.old (by revert hin hj6; simp only [List.mem_cons, List.not_mem_nil, or_false]; omega) hgr hrow
            · obtain ⟨j', rfl⟩ : ∃ j', j = j' + 13 := ⟨j - 13, by omega⟩
              exact trivial
        · intro a w1 hb hs hd hf hj
          refine step_run (wanted_none rfl) (v := _) (w' := w1) ?_ ⟨hf 1 (by decide), hb, fun j u _ h => h⟩
          simp [execOp, Act.eval]
        · intro a w1 hb hs hd hf hj
          have hsz : w.heap.size ≤ w1.heap.size := hb.size
          have h1 : a.tmps.getD 29 undef = .int .i64 n := hj 5 (leans_of (by kernel_rfl))
          refine step_run (wanted_none rfl) (v := .slice (some ⟨w1.heap.size, 0, none⟩) 1 1) (w' := w1.alloc (.cells #[.int .i64 n] 3)) ?_ ⟨⟨_, rfl, hsz, alloc_new _ _⟩, hb.alloc hsz _, fun j u _ h => h.laid (alloc_below _ _)⟩
          simp [execOp, Act.eval, h1, go_sem, -Array.getD_eq_getD_getElem?]
        · intro a w1 hb hs hd hf hj
          have hsz : w.heap.size ≤ w1.heap.size := hb.size
          have hown : w1.ownsRow w.heap.size 3 1 (a.tmps.getD 28 undef) (L.take k).length (ints (L.take k)) := hj 4 (leans_of (by kernel_rfl))
          obtain ⟨g, h2, hg, hblk⟩ : ∃ g, a.tmps.getD 30 undef = .slice (some ⟨g, 0, none⟩) 1 1 ∧ w.heap.size ≤ g ∧ w1.heap[g]? = some (.cells #[.int .i64 n] 3 (0, 0)) := hj 6 (leans_of (by kernel_rfl))
          have hi2 : IntsAt w1.heap.size w1 (some ⟨g, 0, none⟩) [n] := by
            intro i hi
            obtain rfl : i = 0 := by simp at hi; omega
            refine ⟨_, rfl, (Array.getElem?_eq_some_iff.1 hblk).1, ?_⟩
            simp [Addr.add, World.cell?, hblk]
          obtain ⟨v', w2, hap, hown2, hgr⟩ := app_many (ty := 29) Try.underlying29 info_int hown hi2 (c := 1) (by rw [List.length_take]; simp; omega) hsz
          have hrow := own_ge hown
          refine step_run (wanted_none rfl) (v := v') (w' := w2) ?_ ⟨hown2, below_grown hb hgr hsz hrow, fun j u ha h => ?_⟩
          · have hap' : (Builtin.append_ #[29, 29] 29 #[a.tmps.getD 28 undef, .slice (some ⟨g, 0, none⟩) 1 1]).run Try.prog w1 = .ok v' w2 := hap
            simp [execOp, Act.eval, h2, hap', Result.andThen, resolve, invoke, builtin, -Array.getD_eq_getD_getElem?]
          · by_cases hj13 : j < 13
            · have hin := alive_in (js := [1, 2, 3, 5, 8, 9, 10]) ha (by kernel_rfl) hj13
              exact h.old hin hgr hrow
            · obtain ⟨j', rfl⟩ : ∃ j', j = j' + 13 := ⟨j - 13, by omega⟩
              exact trivial
        · intro a w1 hb hs hd hf hj
          refine step_run (wanted_none rfl) (v := _) (w' := w1) ?_ ⟨hf 0 (by decide), hb, fun j u _ h => h⟩
          simp [execOp, Act.eval]
        · intro a w1 hb hs hd hf hj
          refine step_run (wanted_none rfl) (v := _) (w' := w1) ?_ ⟨hf 5 (by decide), hb, fun j u _ h => h⟩
          simp [execOp, Act.eval]
        · intro a w1 hb hs hd hf hj
          have h1 : a.tmps.getD 32 undef = _ := hj 8 (leans_of (by kernel_rfl))
          have h2 : a.tmps.getD 33 undef = _ := hj 9 (leans_of (by kernel_rfl))
          obtain ⟨A', hr, hi⟩ := cut_tail (P := Try.prog) (t := 29) (k := k) elem29 (size29 _) (HI.out.later hb) rfl hk hc
          refine step_run (wanted_none rfl) (v := .slice A' (L.drop k).length (c - k)) (w' := w1) ?_ ⟨⟨A', rfl, hi⟩, hb, fun j u _ h => h⟩
          simp [execOp, Act.eval, h1, h2, hr, Result.andThen, -Array.getD_eq_getD_getElem?, -List.length_drop]
        · intro a w1 hb hs hd hf hj
          have hsz : w.heap.size ≤ w1.heap.size := hb.size
          have hown : w1.ownsRow w.heap.size 3 1 (a.tmps.getD 31 undef) (L.take k ++ [n]).length (ints (L.take k ++ [n])) := hj 7 (leans_of (by kernel_rfl))
          obtain ⟨A', h2, hi2⟩ : ∃ A', a.tmps.getD 34 undef = .slice A' (L.drop k).length (c - k) ∧ IntsAt w.heap.size w1 A' (L.drop k) := hj 10 (leans_of (by kernel_rfl))
          obtain ⟨v', w2, hap, hown2, hgr⟩ := app_many (ty := 29) Try.underlying29 info_int hown hi2 (c := c - k) (by simp; omega) hsz
          have hrow := own_ge hown
          refine step_run (wanted_none rfl) (v := v') (w' := w2) ?_ ⟨hown2, below_grown hb hgr hsz hrow, fun j u ha h => ?_⟩
          · simp [execOp, Act.eval, h2, hap, Result.andThen, resolve, invoke, builtin, -Array.getD_eq_getD_getElem?, -List.length_drop]
          · by_cases hj13 : j < 13
            · have hin := alive_in (js := [1, 2, 3, 5, 8, 9, 10]) ha (by kernel_rfl) hj13
              exact h.old hin hgr hrow
            · obtain ⟨j', rfl⟩ : ∃ j', j = j' + 13 := ⟨j - 13, by omega⟩
              exact trivial
        · intro a w1 hb hs hd hf hj
          refine step_run (wanted_none rfl) (v := _) (w' := w1) ?_ ⟨hj 11 (leans_of (by kernel_rfl)), hb, fun j u _ h => h⟩
          simp [execOp, Act.eval]
      · intro a w1 hb hs hd hf hj
        have hown : w1.ownsRow w.heap.size 3 1 (a.tmps.getD 4 undef) (L.take k ++ [n] ++ L.drop k).length (ints (L.take k ++ [n] ++ L.drop k)) := hj 12 (by decide) (by intro i e; cases e)
        obtain ⟨A5, c5, e5, hc5, hi5⟩ := Ints.of_own hown
        have hset := rise_set HUP.out HN.out HLOW.out (fun h => Int.not_lt.2 (HST.out h))
        have HS := Lib.hid hset
        have HI5 := Lib.hid hi5
        have hlen5 : (L.take k ++ [n] ++ L.drop k).length = L.length + 1 := by simp; omega
        clear hown hset hi5
        simp only [Exit.then]
        apply_rules [wp_ret]
        refine bodyPost_ret (results_tmp rfl _ _ _) hd ?_
        rw [e5]
        exact ⟨A5, c5, _, rfl, hlen5, hc5, HI5.out, by rw [List.append_assoc]; exact HS.out, hb⟩
end Go.Proofs.Ytebpdlnknfjoaaa
