/- ref's Has and Same (whether a number is in a row; whether two rows are one), strictly rising rows, and small laws. -/
import Derived.Lib.Hide
import Derived.BigQuiet
import Derived.Deep.QuietTactic
import Derived.Outline
import Derived.Test.YtebpdlnknfjoaaaOwn
import Derived.Test.YtebpdlnknfjoaaaSortOwn
namespace Go.Proofs.Ytebpdlnknfjoaaa
set_option linter.unusedVariables false
set_option linter.unusedSimpArgs false
open Go.RowKit

theorem info_int : (Try.prog.info? 3).map (fun i => (i.zero, i.size, i.bytes)) = some (some (.int .i64 0), 1, 8) := by kernel_rfl
theorem below_drewN {B : Nat} {w W : World} (h : Below B w W) (n : Nat) : Below B w (W.drewN n) := ⟨h.os, h.tape, h.output, h.size, h.block⟩

theorem ret_int {k : IntKind} {a b : Int} (h : a = b) : Ending.returned (.int k a) = .returned (.int k b) := by rw [h]

theorem ret_bool {a b : Bool} (h : a = b) : Ending.returned (.bool a) = .returned (.bool b) := by rw [h]

def hasB (l : List Int) (n : Int) : Bool := decide (n ∈ l)

theorem hasB_iff (l : List Int) (n : Int) : hasB l n = true ↔ n ∈ l := by simp [hasB]

theorem has_any {B : Nat} {A : Option Addr} (c : Nat) (xs : List Int) (n : Int) (w : World) (h : IntsAt B w A xs) (hb : xs.length ≤ 9223372036854775807) :
    Calls Try.prog 33 #[.slice A xs.length c, .int .i64 n] w fun e w' => e = .returned (.bool (hasB xs n)) ∧ w = w' := by
  have H := Lib.hid h
  clear h
  go_enter Try.func33, Try.ntmps33
  go_wp2
  go_loop [5] (fun i => ∃ k : Nat, k ≤ xs.length ∧ i = .int .i64 k ∧ Hid (n ∉ xs.take k)) (fun i => xs.length - (intOf i).toNat)
  case atStart => exact ⟨0, Nat.zero_le _, rfl, by show n ∉ xs.take 0; simp⟩
  case round =>
    obtain ⟨k, hk, rfl, HN⟩ := hrel
    by_cases hlt : k < xs.length
    · obtain ⟨ad, rfl, hc⟩ := H.out.cell k hlt
      obtain ⟨x, hx⟩ : ∃ x, x = xs[k] := ⟨_, rfl⟩
      rw [← hx] at hc
      have HX := Lib.hid hx
      clear hx
      by_cases he : x = n
      · subst he
        go_wp2
        go_ret
        exact ⟨ret_bool (by rw [eq_comm, hasB_iff, HX.out]; exact List.getElem_mem hlt), rfl⟩
      · have HN' : Hid (n ∉ xs.take (k + 1)) := by
          show n ∉ xs.take (k + 1)
          rw [List.take_succ_eq_append_getElem hlt, List.mem_append, List.mem_singleton, ← HX.out]
          rintro (q | q)
          · exact HN.out q
          · exact he q.symm
        go_wp2
        go_round
        case rel => exact ⟨k + 1, by omega, by go_num, HN'⟩
        case measure => simp [intOf]; omega
    · go_wp2
      go_ret
      refine ⟨ret_bool ?_, rfl⟩
      have h := HN.out
      rw [List.take_of_length_le (by omega)] at h
      simp [hasB, h]

theorem has_near {B : Nat} {A : Option Addr} {q : Bool} {n : Nat} (c : Nat) (xs : List Int) (x : Int) (w : World) (h : IntsAt B w A xs) (hn : xs.length = n) (hb : n ≤ 1000) (hq : decide (x ∈ xs) = q) :
    Calls Try.prog 33 #[.slice A n c, .int .i64 x] w fun e w' => e = .returned (.bool q) ∧ w = w' := by
  subst hn hq
  exact has_any c xs x w h (by omega)

theorem same_take {a b : List Int} {k : Nat} (ha : k < a.length) (hb : k < b.length) : a.take (k + 1) = b.take (k + 1) ↔ a.take k = b.take k ∧ a[k] = b[k] := by
  rw [List.take_succ_eq_append_getElem ha, List.take_succ_eq_append_getElem hb]
  constructor
  · intro h
    have := List.append_inj' h rfl
    exact ⟨this.1, by simpa using this.2⟩
  · rintro ⟨h1, h2⟩
    rw [h1, h2]

set_option maxHeartbeats 400000 in
theorem same_any {A1 A2 : Option Addr} {B : Nat} (c1 c2 : Nat) (a b : List Int) (w : World) (h1 : IntsAt B w A1 a) (h2 : IntsAt B w A2 b) (hb : a.length ≤ 9223372036854775807) :
    Calls Try.prog 13 #[.slice A1 a.length c1, .slice A2 b.length c2] w fun e w' => e = .returned (.bool (decide (a = b))) ∧ Below w.heap.size w w' := by
  have H1 := Lib.hid h1
  have H2 := Lib.hid h2
  clear h1 h2
  by_cases hl : a.length = b.length
  · have hl1 : ((a.length : Int) != (b.length : Int)) = false := by simp [hl]
    have HL := Lib.hid hl
    have hlt' : ∀ k, k < a.length → k < b.length := fun k h => by omega
    have HLT := Lib.hid hlt'
    clear hl hlt'
    go_enter Try.func13, Try.ntmps13
    go_wp2
    go_loopw [5] (fun u wr => ∃ k, k ≤ a.length ∧ u = .int .i64 (k : Nat) ∧ Hid (a.take k = b.take k) ∧ Hid (Below w.heap.size w wr)) (fun u _ => a.length - (intOf u).toNat)
    case atStart => exact ⟨0, Nat.zero_le _, rfl, by show a.take 0 = b.take 0; simp, Below.refl _ _⟩
    case round =>
      obtain ⟨k, hk, rfl, HT, HB⟩ := hrel
      by_cases hlt : k < a.length
      · have hltb := HLT.out k hlt
        obtain ⟨ad1, rfl, hx1⟩ := (H1.out.later HB.out).cell k hlt
        obtain ⟨ad2, rfl, hx2⟩ := (H2.out.later HB.out).cell k hltb
        have HS := Lib.hid (same_take hlt hltb)
        obtain ⟨x, hx⟩ : ∃ x, x = a[k] := ⟨_, rfl⟩
        obtain ⟨y, hy⟩ : ∃ y, y = b[k] := ⟨_, rfl⟩
        rw [← hx] at hx1 HS
        rw [← hy] at hx2 HS
        have HX := Lib.hid hx
        have HY := Lib.hid hy
        clear hx hy
        have hltb' : (k : Int) < (b.length : Int) := by omega
        by_cases he : x = y
        · have HT' : Hid (a.take (k + 1) = b.take (k + 1)) := HS.out.2 ⟨HT.out, he⟩
          subst he
          go_wp2
          go_quiet (fail)
          go_wp2
          have HB' := Lib.hid (below_drewN HB.out nq)
          go_roundw
          case rel => exact ⟨k + 1, by omega, by go_num, HT', HB'⟩
          case measure => simp [intOf]; omega
        · have hne : (x != y) = true := by simpa using he
          go_wp2
          go_quiet (fail)
          go_wp2
          go_ret
          refine ⟨ret_bool ?_, below_drewN HB.out _⟩
          rw [eq_comm, decide_eq_false_iff_not]
          rintro rfl
          exact he (HX.out.trans HY.out.symm)
      · go_wp2
        go_ret
        refine ⟨ret_bool ?_, HB.out⟩
        have := HT.out
        have hl := HL.out
        rw [List.take_of_length_le (by omega), List.take_of_length_le (by omega)] at this
        rw [eq_comm, decide_eq_true_iff]
        exact this
  · have hl1 : ((a.length : Int) != (b.length : Int)) = true := by simp; omega
    have HL := Lib.hid hl
    clear hl
    go_enter Try.func13, Try.ntmps13
    go_wp2
    go_ret
    refine ⟨ret_bool ?_, Below.refl _ _⟩
    rw [eq_comm, decide_eq_false_iff_not]
    rintro rfl
    exact HL.out rfl

theorem same_near {A1 A2 : Option Addr} {B n1 n2 : Nat} {a b : List Int} {q : Bool} (c1 c2 : Nat) (w : World) (h1 : IntsAt B w A1 a) (h2 : IntsAt B w A2 b) (e1 : a.length = n1) (e2 : b.length = n2) (hb : n1 ≤ 9223372036854775807) (hq : decide (a = b) = q) :
    Calls Try.prog 13 #[.slice A1 n1 c1, .slice A2 n2 c2] w fun e w' => e = .returned (.bool q) ∧ Below w.heap.size w w' := by
  subst e1 e2 hq
  exact same_any c1 c2 a b w h1 h2 hb

theorem card_le {α β : Type} [DecidableEq β] (R : α → β → Prop) : ∀ (L : List α) (S : List β), L.Nodup → (∀ i ∈ L, ∃ x ∈ S, R i x) →
    (∀ i ∈ L, ∀ j ∈ L, ∀ x, R i x → R j x → i = j) → L.length ≤ S.length := by
  intro L
  induction L with
  | nil => intro S _ _ _; simp
  | cons i L ih =>
    intro S hn ht hi
    rw [List.nodup_cons] at hn
    obtain ⟨x, hx, hR⟩ := ht i (.head _)
    have h := ih (S.erase x) hn.2 (fun j hj => by
      obtain ⟨y, hy, hRy⟩ := ht j (.tail _ hj)
      refine ⟨y, ?_, hRy⟩
      rw [List.mem_erase_of_ne]
      · exact hy
      · rintro rfl
        have := hi i (.head _) j (.tail _ hj) y hR hRy
        subst this
        exact hn.1 hj) (fun a ha b hb y h1 h2 => hi a (.tail _ ha) b (.tail _ hb) y h1 h2)
    have e := List.length_erase_of_mem hx
    have : 0 < S.length := List.length_pos_of_mem hx
    simp only [List.length_cons]
    omega

/-! ### Matchings, told by the right ones -/

theorem nodup_le {a b : List Int} (hn : a.Nodup) (hs : ∀ x ∈ a, x ∈ b) : a.length ≤ b.length :=
  card_le (fun x y => x = y) a b hn (fun x hx => ⟨x, hs x hx, rfl⟩) (fun _ _ _ _ _ h1 h2 => h1.trans h2.symm)

theorem sorted_perm (xs : List Int) : (sorted xs).Perm xs := List.mergeSort_perm xs _

theorem sorted_le (xs : List Int) : (sorted xs).Pairwise (· ≤ ·) := by
  have := List.pairwise_mergeSort (le := fun x y : Int => decide (x ≤ y)) (fun a b c h1 h2 => by simp only [decide_eq_true_eq] at *; omega) (fun a b => by simp only [Bool.or_eq_true, decide_eq_true_eq]; omega) xs
  exact this.imp (fun h => by simpa using h)

theorem sorted_lt {xs : List Int} (h : xs.Nodup) : (sorted xs).Pairwise (· < ·) := by
  have h1 := sorted_le xs
  have h2 : (sorted xs).Nodup := (sorted_perm xs).nodup_iff.2 h
  exact List.Pairwise.imp₂ (fun a b h1 h2 => by omega) h1 h2

/-- Strictly rising rows with the same numbers are one. -/
theorem rising_unique : ∀ {a b : List Int}, a.Pairwise (· < ·) → b.Pairwise (· < ·) → (∀ n, n ∈ a ↔ n ∈ b) → a = b := by
  intro a
  induction a with
  | nil =>
    intro b _ _ h
    cases b with
    | nil => rfl
    | cons y ys => exact absurd ((h y).2 (.head _)) (by simp)
  | cons x xs ih =>
    intro b ha hb h
    cases b with
    | nil => exact absurd ((h x).1 (.head _)) (by simp)
    | cons y ys =>
      rw [List.pairwise_cons] at ha hb
      have hxy : x = y := by
        rcases List.mem_cons.1 ((h x).1 (.head _)) with q | q
        · exact q
        · rcases List.mem_cons.1 ((h y).2 (.head _)) with q' | q'
          · exact q'.symm
          · have := hb.1 x q; have := ha.1 y q'; omega
      subst hxy
      rw [ih ha.2 hb.2 (fun n => ?_)]
      constructor
      · intro hn
        rcases List.mem_cons.1 ((h n).1 (.tail _ hn)) with q | q
        · have := ha.1 n hn; omega
        · exact q
      · intro hn
        rcases List.mem_cons.1 ((h n).2 (.tail _ hn)) with q | q
        · have := hb.1 n hn; omega
        · exact q

/-- A rising row of just these numbers. -/
def IsSet (ys : List Int) (P : Int → Prop) : Prop := ys.Pairwise (· < ·) ∧ ∀ n, n ∈ ys ↔ P n

theorem IntsAt.take {B : Nat} {w : World} {A : Option Addr} {xs : List Int} (h : IntsAt B w A xs) (n : Nat) : IntsAt B w A (xs.take n) := by
  intro i hi
  have hi' : i < xs.length := by rw [List.length_take] at hi; omega
  obtain ⟨ad, e, hb, hc⟩ := h i hi'
  exact ⟨ad, e, hb, by rw [hc]; simp⟩

theorem flatten_le {k : Nat} : ∀ {xss : List (List Int)}, (∀ r ∈ xss, r.length ≤ k) → xss.flatten.length ≤ xss.length * k := by
  intro xss
  induction xss with
  | nil => intro _; simp
  | cons r rs ih =>
    intro h
    have h1 := h r (.head _)
    have h2 := ih (fun r hr => h r (.tail _ hr))
    rw [List.flatten_cons, List.length_append, List.length_cons, Nat.succ_mul]
    omega

theorem rise_set {l : List Int} {n : Int} {k : Nat} (hl : l.Pairwise (· < ·)) (hn : n ∉ l) (hlow : ∀ x ∈ l.take k, x < n) (hk : ∀ (h : k < l.length), ¬ l[k] < n) : IsSet (l.take k ++ n :: l.drop k) (fun x => x = n ∨ x ∈ l) := by
  have hall : ∀ x ∈ l.drop k, n < x := by
    intro x hx
    by_cases hkl : k < l.length
    · have h1 := hk hkl
      have hmem : l[k] ∈ l := List.getElem_mem hkl
      have hne : l[k] ≠ n := fun e => hn (e ▸ hmem)
      have hp : (l.drop k).Pairwise (· < ·) := hl.sublist (List.drop_sublist _ _)
      rw [List.drop_eq_getElem_cons hkl] at hx hp
      rw [List.pairwise_cons] at hp
      rcases List.mem_cons.1 hx with q | q
      · rw [q]; omega
      · have := hp.1 x q; omega
    · rw [List.drop_eq_nil_of_le (by omega)] at hx
      cases hx
  refine ⟨?_, fun x => ?_⟩
  · rw [List.pairwise_append]
    refine ⟨hl.sublist (List.take_sublist _ _), List.pairwise_cons.2 ⟨hall, hl.sublist (List.drop_sublist _ _)⟩, ?_⟩
    intro a ha b hb
    have h1 := hlow a ha
    rcases List.mem_cons.1 hb with q | q
    · omega
    · have := hall b q; omega
  · rw [List.mem_append, List.mem_cons]
    constructor
    · rintro (h | h | h)
      · exact .inr (List.mem_of_mem_take h)
      · exact .inl h
      · exact .inr (List.mem_of_mem_drop h)
    · rintro (h | h)
      · exact .inr (.inl h)
      · rw [← List.take_append_drop k l, List.mem_append] at h
        rcases h with h | h
        · exact .inl h
        · exact .inr (.inr h)

theorem rising_nodup {xs : List Int} (h : xs.Pairwise (· < ·)) : xs.Nodup := h.imp (fun {a b} (h : a < b) (e : a = b) => by omega)

theorem set_unique {xs ys : List Int} {P : Int → Prop} (h1 : IsSet xs P) (h2 : IsSet ys P) : xs = ys := rising_unique h1.1 h2.1 (fun n => (h1.2 n).trans (h2.2 n).symm)
theorem alloc_below (w : World) (o : Obj) : Below w.heap.size w (w.alloc o) := (Below.refl _ _).alloc (Nat.le_refl _) _
end Go.Proofs.Ytebpdlnknfjoaaa
