/- The walks of the small functions of layer 24: few, Size (twice), Has, May, Same, bare. -/
import Derived.Test.YtopjfnkcmdifhaaProg
import Derived.WalkKit
import Derived.Outline
import Derived.Lib.Hide
import Derived.Deep.LoopGhost
import Derived.Deep.QuietTactic
import Derived.BigQuiet
import Derived.Test.YtopjfnkcmdifhaaRowsW
namespace Go.Proofs.Ytopjfnkcmdifhaa
set_option linter.unusedVariables false
set_option linter.unusedSimpArgs false
open Go.RowKit

theorem below_drewN {B : Nat} {w W : World} (h : Below B w W) (n : Nat) : Below B w (W.drewN n) := ⟨h.os, h.tape, h.output, h.size, h.block⟩

theorem ret_int {k : IntKind} {a b : Int} (h : a = b) : Ending.returned (.int k a) = .returned (.int k b) := by rw [h]
theorem ret_bool {a b : Bool} (h : a = b) : Ending.returned (.bool a) = .returned (.bool b) := by rw [h]

def fewB (near : List (List Int)) : Bool := decide (near.length ≤ 12) && decide (∀ r ∈ near, r.length ≤ 16)

theorem few_any {B : Nat} {A : Option Addr} (c : Nat) (near : List (List Int)) (w : World) (h : RowsAt B w A near) :
    Calls Try.prog 10 #[.slice A near.length c] w fun e w' => e = .returned (.bool (fewB near)) ∧ w = w' := by
  by_cases h12 : near.length ≤ 12
  · have H := Lib.hid h
    clear h
    go_enter Try.func10, Try.ntmps10
    go_wp2
    go_loop [3] (fun u => ∃ k, k ≤ near.length ∧ u = .int .i64 (k : Nat) ∧ Hid (∀ r ∈ near.take k, r.length ≤ 16)) (fun u => near.length - (intOf u).toNat)
    case atStart => exact ⟨0, Nat.zero_le _, rfl, by intro r hr; simp at hr⟩
    case round =>
      obtain ⟨k, hk, rfl, HK⟩ := hrel
      by_cases hlt : k < near.length
      · obtain ⟨ad, A', c', rfl, hrow, _, _⟩ := H.out.row k hlt
        obtain ⟨r, hr⟩ : ∃ r, r = near[k] := ⟨_, rfl⟩
        rw [← hr] at hrow
        have HR := Lib.hid hr
        clear hr
        by_cases h16 : r.length ≤ 16
        · have HK' : Hid (∀ r ∈ near.take (k + 1), r.length ≤ 16) := by
            intro r' hr'
            rw [List.take_succ_eq_append_getElem hlt, List.mem_append, List.mem_singleton] at hr'
            rcases hr' with q | q
            · exact HK.out r' q
            · rw [q, ← HR.out]; exact h16
          go_wp2
          go_round
          case rel => exact ⟨k + 1, by omega, by go_num, HK'⟩
          case measure => simp [intOf]; omega
        · go_wp2
          go_ret
          refine ⟨ret_bool ?_, rfl⟩
          have : fewB near = false := by
            unfold fewB
            rw [Bool.and_eq_false_iff]
            refine .inr (decide_eq_false fun q => h16 ?_)
            rw [HR.out]
            exact q _ (List.getElem_mem hlt)
          rw [this]
      · go_wp2
        go_ret
        refine ⟨ret_bool ?_, rfl⟩
        have : fewB near = true := by
          unfold fewB
          rw [Bool.and_eq_true]
          refine ⟨decide_eq_true h12, decide_eq_true fun r hr => HK.out r ?_⟩
          rw [List.take_of_length_le (by omega)]; exact hr
        rw [this]
  · go_enter Try.func10, Try.ntmps10
    go_wp2
    go_ret
    refine ⟨ret_bool ?_, rfl⟩
    have : fewB near = false := by
      unfold fewB
      rw [Bool.and_eq_false_iff]
      exact .inl (decide_eq_false h12)
    rw [this]

/-- How many numbers of a row are not below 0. -/
def sizeOf (m : List Int) : Nat := (m.filter fun x => decide (0 ≤ x)).length
theorem sizeOf_snoc (m : List Int) (k : Nat) (hk : k < m.length) : sizeOf (m.take (k + 1)) = if 0 ≤ m[k] then sizeOf (m.take k) + 1 else sizeOf (m.take k) := by
  unfold sizeOf
  rw [List.take_succ_eq_append_getElem hk, List.filter_append]
  by_cases h : 0 ≤ m[k]
  · rw [if_pos h]; simp [h]
  · rw [if_neg h]; simp [h]
theorem sizeOf_le (m : List Int) : sizeOf m ≤ m.length := List.length_filter_le _ _

set_option maxHeartbeats 400000 in
theorem Size_any {B : Nat} {A : Option Addr} (c : Nat) (m : List Int) (w : World) (h : IntsAt B w A m) (hb : m.length ≤ 9223372036854775807) :
    Calls Try.prog 14 #[.slice A m.length c] w fun e w' => e = .returned (.int .i64 (sizeOf m)) ∧ w = w' := by
  have H := Lib.hid h
  clear h
  go_enter Try.func14, Try.ntmps14
  go_wp2
  go_loop [3, 8] (fun v u => ∃ k, k ≤ m.length ∧ sizeOf (m.take k) ≤ k ∧ u = .int .i64 (k : Nat) ∧ v = .int .i64 (sizeOf (m.take k))) (fun _ u => m.length - (intOf u).toNat)
  case atStart => exact ⟨0, Nat.zero_le _, by simp [sizeOf], rfl, rfl⟩
  case round =>
    obtain ⟨k, hk, hs, rfl, rfl⟩ := hrel
    by_cases hlt : k < m.length
    · obtain ⟨ad, rfl, hx⟩ := H.out.cell k hlt
      have hsn := sizeOf_snoc m k hlt
      obtain ⟨x, hxe⟩ : ∃ x, x = m[k] := ⟨_, rfl⟩
      rw [← hxe] at hx hsn
      by_cases h0 : 0 ≤ x
      · rw [if_pos h0] at hsn
        have HSN := Lib.hid hsn
        clear hsn hxe
        go_wp2
        go_round
        case rel => exact ⟨k + 1, by omega, by rw [HSN.out]; omega, by go_num, by rw [HSN.out]; go_num⟩
        case measure => simp [intOf]; omega
      · rw [if_neg h0] at hsn
        have HSN := Lib.hid hsn
        clear hsn hxe
        go_wp2
        go_round
        case rel => exact ⟨k + 1, by omega, by rw [HSN.out]; omega, by go_num, by rw [HSN.out]⟩
        case measure => simp [intOf]; omega
    · go_wp2
      go_ret
      exact ⟨ret_int (by rw [List.take_of_length_le (by omega)]), rfl⟩

set_option maxHeartbeats 400000 in
theorem refSize_any {B : Nat} {A : Option Addr} (c : Nat) (m : List Int) (w : World) (h : IntsAt B w A m) (hb : m.length ≤ 9223372036854775807) :
    Calls Try.prog 23 #[.slice A m.length c] w fun e w' => e = .returned (.int .i64 (sizeOf m)) ∧ w = w' := by
  have H := Lib.hid h
  clear h
  go_enter Try.func23, Try.ntmps23
  go_wp2
  go_loop [3, 4] (fun v u => ∃ k, k ≤ m.length ∧ sizeOf (m.take k) ≤ k ∧ u = .int .i64 (k : Nat) ∧ v = .int .i64 (sizeOf (m.take k))) (fun _ u => m.length - (intOf u).toNat)
  case atStart => exact ⟨0, Nat.zero_le _, by simp [sizeOf], rfl, rfl⟩
  case round =>
    obtain ⟨k, hk, hs, rfl, rfl⟩ := hrel
    by_cases hlt : k < m.length
    · obtain ⟨ad, rfl, hx⟩ := H.out.cell k hlt
      have hsn := sizeOf_snoc m k hlt
      obtain ⟨x, hxe⟩ : ∃ x, x = m[k] := ⟨_, rfl⟩
      rw [← hxe] at hx hsn
      by_cases h0 : 0 ≤ x
      · rw [if_pos h0] at hsn
        have HSN := Lib.hid hsn
        clear hsn hxe
        go_wp2
        go_round
        case rel => exact ⟨k + 1, by omega, by rw [HSN.out]; omega, by go_num, by rw [HSN.out]; go_num⟩
        case measure => simp [intOf]; omega
      · rw [if_neg h0] at hsn
        have HSN := Lib.hid hsn
        clear hsn hxe
        go_wp2
        go_round
        case rel => exact ⟨k + 1, by omega, by rw [HSN.out]; omega, by go_num, by rw [HSN.out]⟩
        case measure => simp [intOf]; omega
    · go_wp2
      go_ret
      exact ⟨ret_int (by rw [List.take_of_length_le (by omega)]), rfl⟩

def hasB (l : List Int) (n : Int) : Bool := decide (n ∈ l)
theorem hasB_iff (l : List Int) (n : Int) : hasB l n = true ↔ n ∈ l := by simp [hasB]

theorem has_any {B : Nat} {A : Option Addr} (c : Nat) (xs : List Int) (n : Int) (w : World) (h : IntsAt B w A xs) (hb : xs.length ≤ 9223372036854775807) :
    Calls Try.prog 15 #[.slice A xs.length c, .int .i64 n] w fun e w' => e = .returned (.bool (hasB xs n)) ∧ w = w' := by
  have H := Lib.hid h
  clear h
  go_enter Try.func15, Try.ntmps15
  go_wp2
  go_loop [5] (fun i => ∃ k : Nat, k ≤ xs.length ∧ i = .int .i64 k ∧ Hid (n ∉ xs.take k)) (fun i => xs.length - (intOf i).toNat)
  case atStart => exact ⟨0, Nat.zero_le _, rfl, by show n ∉ xs.take 0; simp⟩
  case round =>
    obtain ⟨k, hk, rfl, HN⟩ := hrel
    by_cases hlt : k < xs.length
    · obtain ⟨ad, rfl, hc⟩ := H.out.cell k hlt
      obtain ⟨x, hx⟩ : ∃ x, x = xs[k] := ⟨_, rfl⟩
      rw [← hx] at hc
      have HX := Lib.hid hx
      clear hx
      by_cases he : x = n
      · subst he
        go_wp2
        go_ret
        exact ⟨ret_bool (by rw [eq_comm, hasB_iff, HX.out]; exact List.getElem_mem hlt), rfl⟩
      · have HN' : Hid (n ∉ xs.take (k + 1)) := by
          show n ∉ xs.take (k + 1)
          rw [List.take_succ_eq_append_getElem hlt, List.mem_append, List.mem_singleton, ← HX.out]
          rintro (q | q)
          · exact HN.out q
          · exact he q.symm
        go_wp2
        go_round
        case rel => exact ⟨k + 1, by omega, by go_num, HN'⟩
        case measure => simp [intOf]; omega
    · go_wp2
      go_ret
      refine ⟨ret_bool ?_, rfl⟩
      have h := HN.out
      rw [List.take_of_length_le (by omega)] at h
      simp [hasB, h]

def mayB (near : List (List Int)) (right : Int) (u : Nat) (v : Int) : Bool := decide (0 ≤ v ∧ v < right) && hasB (near.getD u []) v

theorem may_any {B : Nat} {A : Option Addr} (c : Nat) (near : List (List Int)) (right v : Int) (u : Nat) (w : World) (h : RowsAt B w A near) (hu : u < near.length) (hb : ∀ r ∈ near, r.length ≤ 9223372036854775807) :
    Calls Try.prog 30 #[.slice A near.length c, .int .i64 right, .int .i64 u, .int .i64 v] w fun e w' => e = .returned (.bool (mayB near right u v)) ∧ w = w' := by
  obtain ⟨ad, A', c', rfl, hrow, hlc, hia⟩ := h.row u hu
  have hb' := hb _ (List.getElem_mem hu)
  obtain ⟨r, hr⟩ : ∃ r, r = near[u] := ⟨_, rfl⟩
  rw [← hr] at hrow hlc hia hb'
  have HM : Hid (mayB near right u v = (decide (0 ≤ v ∧ v < right) && hasB r v)) := by
    show mayB near right u v = _
    unfold mayB
    rw [List.getD_eq_getElem?_getD, List.getElem?_eq_getElem hu, Option.getD_some, ← hr]
  have HC := Lib.hid (has_any c' r v w hia hb')
  clear h hb hr hia hb'
  by_cases h0 : 0 ≤ v
  · by_cases h1 : v < right
    · cases hh : hasB r v with
      | true =>
        rw [hh] at HC
        go_enter Try.func30, Try.ntmps30
        go_wp2_with (go_at_call 15; refine HC.out.mono ?_; rintro e w' ⟨rfl, rfl⟩)
        go_ret
        exact ⟨ret_bool (by rw [HM.out, hh]; simp [h0, h1]), rfl⟩
      | false =>
        rw [hh] at HC
        go_enter Try.func30, Try.ntmps30
        go_wp2_with (go_at_call 15; refine HC.out.mono ?_; rintro e w' ⟨rfl, rfl⟩)
        go_ret
        exact ⟨ret_bool (by rw [HM.out, hh]; simp), rfl⟩
    · go_enter Try.func30, Try.ntmps30
      go_wp2
      go_ret
      exact ⟨ret_bool (by rw [HM.out, decide_eq_false (fun q => by omega)]; rfl), rfl⟩
  · go_enter Try.func30, Try.ntmps30
    go_wp2
    go_ret
    exact ⟨ret_bool (by rw [HM.out, decide_eq_false (fun q => by omega)]; rfl), rfl⟩

theorem same_take {a b : List Int} {k : Nat} (ha : k < a.length) (hb : k < b.length) : a.take (k + 1) = b.take (k + 1) ↔ a.take k = b.take k ∧ a[k] = b[k] := by
  rw [List.take_succ_eq_append_getElem ha, List.take_succ_eq_append_getElem hb]
  constructor
  · intro h
    have := List.append_inj' h rfl
    exact ⟨this.1, by simpa using this.2⟩
  · rintro ⟨h1, h2⟩
    rw [h1, h2]

set_option maxHeartbeats 400000 in
theorem same_any {A1 A2 : Option Addr} {B : Nat} (c1 c2 : Nat) (a b : List Int) (w : World) (h1 : IntsAt B w A1 a) (h2 : IntsAt B w A2 b) (hb : a.length ≤ 9223372036854775807) :
    Calls Try.prog 16 #[.slice A1 a.length c1, .slice A2 b.length c2] w fun e w' => e = .returned (.bool (decide (a = b))) ∧ Below w.heap.size w w' := by
  have H1 := Lib.hid h1
  have H2 := Lib.hid h2
  clear h1 h2
  by_cases hl : a.length = b.length
  · have hl1 : ((a.length : Int) != (b.length : Int)) = false := by simp [hl]
    have HL := Lib.hid hl
    have hlt' : ∀ k, k < a.length → k < b.length := fun k h => by omega
    have HLT := Lib.hid hlt'
    clear hl hlt'
    go_enter Try.func16, Try.ntmps16
    go_wp2
    go_loopw [5] (fun u wr => ∃ k, k ≤ a.length ∧ u = .int .i64 (k : Nat) ∧ Hid (a.take k = b.take k) ∧ Hid (Below w.heap.size w wr)) (fun u _ => a.length - (intOf u).toNat)
    case atStart => exact ⟨0, Nat.zero_le _, rfl, by show a.take 0 = b.take 0; simp, Below.refl _ _⟩
    case round =>
      obtain ⟨k, hk, rfl, HT, HB⟩ := hrel
      by_cases hlt : k < a.length
      · have hltb := HLT.out k hlt
        obtain ⟨ad1, rfl, hx1⟩ := (H1.out.later HB.out).cell k hlt
        obtain ⟨ad2, rfl, hx2⟩ := (H2.out.later HB.out).cell k hltb
        have HS := Lib.hid (same_take hlt hltb)
        obtain ⟨x, hx⟩ : ∃ x, x = a[k] := ⟨_, rfl⟩
        obtain ⟨y, hy⟩ : ∃ y, y = b[k] := ⟨_, rfl⟩
        rw [← hx] at hx1 HS
        rw [← hy] at hx2 HS
        have HX := Lib.hid hx
        have HY := Lib.hid hy
        clear hx hy
        have hltb' : (k : Int) < (b.length : Int) := by omega
        by_cases he : x = y
        · have HT' : Hid (a.take (k + 1) = b.take (k + 1)) := HS.out.2 ⟨HT.out, he⟩
          subst he
          go_wp2
          go_quiet (fail)
          go_wp2
          have HB' := Lib.hid (below_drewN HB.out nq)
          go_roundw
          case rel => exact ⟨k + 1, by omega, by go_num, HT', HB'⟩
          case measure => simp [intOf]; omega
        · have hne : (x != y) = true := by simpa using he
          go_wp2
          go_quiet (fail)
          go_wp2
          go_ret
          refine ⟨ret_bool ?_, below_drewN HB.out _⟩
          rw [eq_comm, decide_eq_false_iff_not]
          rintro rfl
          exact he (HX.out.trans HY.out.symm)
      · go_wp2
        go_ret
        refine ⟨ret_bool ?_, HB.out⟩
        have := HT.out
        have hl := HL.out
        rw [List.take_of_length_le (by omega), List.take_of_length_le (by omega)] at this
        rw [eq_comm, decide_eq_true_iff]
        exact this
  · have hl1 : ((a.length : Int) != (b.length : Int)) = true := by simp; omega
    have HL := Lib.hid hl
    clear hl
    go_enter Try.func16, Try.ntmps16
    go_wp2
    go_ret
    refine ⟨ret_bool ?_, Below.refl _ _⟩
    rw [eq_comm, decide_eq_false_iff_not]
    rintro rfl
    exact HL.out rfl

/-- The left ones that are not matched. -/
def bareFrom : Nat → List Int → List Int
  | _, [] => []
  | i, x :: xs => if x < 0 then (i : Int) :: bareFrom (i + 1) xs else bareFrom (i + 1) xs
theorem bareFrom_append (xs ys : List Int) : ∀ i, bareFrom i (xs ++ ys) = bareFrom i xs ++ bareFrom (i + xs.length) ys := by
  induction xs with
  | nil => intro i; rfl
  | cons x xs ih =>
    intro i
    simp only [List.cons_append, bareFrom, ih, List.length_cons]
    rw [show i + 1 + xs.length = i + (xs.length + 1) by omega]
    split <;> rfl
theorem bare_snoc (m : List Int) (k : Nat) (hk : k < m.length) : bareFrom 0 (m.take (k + 1)) = if m[k] < 0 then bareFrom 0 (m.take k) ++ [(k : Int)] else bareFrom 0 (m.take k) := by
  rw [List.take_succ_eq_append_getElem hk, bareFrom_append]
  have : (m.take k).length = k := by rw [List.length_take]; omega
  rw [this, Nat.zero_add]
  simp only [bareFrom]
  split <;> simp
theorem bareFrom_le (xs : List Int) : ∀ i, (bareFrom i xs).length ≤ xs.length := by
  induction xs with
  | nil => intro i; simp [bareFrom]
  | cons x xs ih =>
    intro i
    have := ih (i + 1)
    simp only [bareFrom]
    split <;> simp <;> omega

set_option maxHeartbeats 400000 in
theorem bare_any {B : Nat} {A : Option Addr} (c : Nat) (m : List Int) (w : World) (h : IntsAt B w A m) (hb : m.length ≤ 1000000) :
    Calls Try.prog 26 #[.slice A m.length c] w fun e w' => ∃ A' c', e = .returned (.slice A' (bareFrom 0 m).length c') ∧ (bareFrom 0 m).length ≤ c' ∧ IntsAt w'.heap.size w' A' (bareFrom 0 m) ∧ Below w.heap.size w w' := by
  have H := Lib.hid h
  clear h
  go_enter Try.func26, Try.ntmps26
  go_wp2
  go_loopw [3, 8] (fun v u wr => ∃ k, k ≤ m.length ∧ u = .int .i64 (k : Nat) ∧ Hid (wr.ownsRow w.heap.size 3 1 v (bareFrom 0 (m.take k)).length (ints (bareFrom 0 (m.take k)))) ∧ Hid (Below w.heap.size w wr)) (fun _ u _ => m.length - (intOf u).toNat)
  case atStart => exact ⟨0, Nat.zero_le _, rfl, World.ownsRow_nil _ _ _ _, Below.refl _ _⟩
  case round =>
    obtain ⟨k, hk, rfl, HO, HB⟩ := hrel
    by_cases hlt : k < m.length
    · obtain ⟨ad, rfl, hx⟩ := (H.out.later HB.out).cell k hlt
      have hsn := bare_snoc m k hlt
      obtain ⟨x, hxe⟩ : ∃ x, x = m[k] := ⟨_, rfl⟩
      rw [← hxe] at hx hsn
      clear hxe
      by_cases h0 : x < 0
      · rw [if_pos h0] at hsn
        have HSN := Lib.hid hsn
        have hle := bareFrom_le (m.take k) 0
        have hlt2 : (m.take k).length ≤ m.length := by rw [List.length_take]; omega
        obtain ⟨g', cap', w', hap, hown', hgr⟩ := app_ints (ty := 25) Try.underlying25 info3 HO.out (k : Int) (by omega) HB.out.size
        have HAP := Lib.hid hap
        have HO' : Hid (w'.ownsRow w.heap.size 3 1 (.slice (some ⟨g', 0, none⟩) ((bareFrom 0 (m.take k)).length + 1) cap') (bareFrom 0 (m.take (k + 1))).length (ints (bareFrom 0 (m.take (k + 1))))) := by rw [HSN.out]; exact hown'
        have HB' := Lib.hid (below_grown HB.out hgr HB.out.size (own_ge HO.out))
        clear hsn hle hlt2 hap hown' hgr
        go_wp2_with (at_builtin; refine wpList_append_run rfl _ _ 25 rfl rfl rfl HAP.out ?_)
        go_roundw
        case rel => exact ⟨k + 1, by omega, by go_num, HO', HB'⟩
        case measure => simp [intOf]; omega
      · rw [if_neg h0] at hsn
        have HO' : Hid (wr.ownsRow w.heap.size 3 1 u3 (bareFrom 0 (m.take (k + 1))).length (ints (bareFrom 0 (m.take (k + 1))))) := by rw [hsn]; exact HO.out
        clear hsn
        go_wp2
        go_roundw
        case rel => exact ⟨k + 1, by omega, by go_num, HO', HB⟩
        case measure => simp [intOf]; omega
    · have e : m.take k = m := List.take_of_length_le (by omega)
      rw [e] at HO
      obtain ⟨A', c', rfl, hc', hi⟩ := Ints.of_own HO.out
      have HI := Lib.hid hi
      have HCC := Lib.hid hc'
      clear hc'
      clear e hi HO
      go_wp2
      go_ret
      exact ⟨A', c', rfl, HCC.out, HI.out, HB.out⟩
end Go.Proofs.Ytopjfnkcmdifhaa
