/- The document's choice: the least one that fits (plain); two rows that both grow, in memory. -/
import Derived.Test.YtopjfnkcmdifhaaRefSizeW
import Derived.Test.YtopjfnkcmdifhaaApart
namespace Go.Proofs.Ytopjfnkcmdifhaa
set_option linter.unusedVariables false
set_option linter.unusedSimpArgs false
open Go.RowKit Kuhn

/-- The least of xs for which p holds, or -1. -/
def BestOf (xs : List Int) (p : Int → Bool) (b : Int) : Prop := (b = -1 ∧ ∀ v ∈ xs, p v = false) ∨ (0 ≤ b ∧ b ∈ xs ∧ p b = true ∧ ∀ v ∈ xs, p v = true → b ≤ v)
theorem BestOf.start (p : Int → Bool) : BestOf [] p (-1) := .inl ⟨rfl, by simp⟩
theorem BestOf.skip {xs : List Int} {p : Int → Bool} {b v : Int} (h : BestOf xs p b) (hv : p v = false ∨ (0 ≤ b ∧ b ≤ v)) : BestOf (xs ++ [v]) p b := by
  rcases h with ⟨h1, h2⟩ | ⟨h0, h1, h2, h3⟩
  · refine .inl ⟨h1, fun u hu => ?_⟩
    rcases List.mem_append.1 hu with q | q
    · exact h2 u q
    · rw [List.mem_singleton.1 q]
      rcases hv with hv | hv
      · exact hv
      · omega
  · refine .inr ⟨h0, List.mem_append_left _ h1, h2, fun u hu hp => ?_⟩
    rcases List.mem_append.1 hu with q | q
    · exact h3 u q hp
    · rw [List.mem_singleton.1 q] at hp ⊢
      rcases hv with hv | hv
      · rw [hv] at hp; cases hp
      · exact hv.2
theorem BestOf.take {xs : List Int} {p : Int → Bool} {b v : Int} (h : BestOf xs p b) (hp : p v = true) (h0 : 0 ≤ v) (hv : ¬ (0 ≤ b ∧ b ≤ v)) : BestOf (xs ++ [v]) p v := by
  refine .inr ⟨h0, by simp, hp, fun u hu hpu => ?_⟩
  rcases List.mem_append.1 hu with q | q
  · rcases h with ⟨_, h2⟩ | ⟨g0, _, _, h3⟩
    · rw [h2 u q] at hpu; cases hpu
    · have := h3 u q hpu; omega
  · rw [List.mem_singleton.1 q]; omega
theorem find_least {p : Int → Bool} : ∀ {xs : List Int} {b : Int}, xs.Pairwise (· < ·) → b ∈ xs → p b = true → (∀ v ∈ xs, p v = true → b ≤ v) → xs.find? p = some b := by
  intro xs
  induction xs with
  | nil => intro b _ h; cases h
  | cons x xs ih =>
    intro b hs hb hp hl
    rw [List.pairwise_cons] at hs
    cases hx : p x with
    | true =>
      rw [List.find?_cons_of_pos hx]
      rcases List.mem_cons.1 hb with rfl | q
      · rfl
      · have h1 := hs.1 b q
        have h2 := hl x (.head _) hx
        omega
    | false =>
      rw [List.find?_cons_of_neg (by simp [hx])]
      rcases List.mem_cons.1 hb with rfl | q
      · rw [hx] at hp; cases hp
      · exact ih hs.2 q hp (fun v hv => hl v (.tail _ hv))

noncomputable def pick (l : List (List Int)) (right : Int) (u : Nat) (T : List Int) (s : Nat) (v : Int) : Bool := decide (0 ≤ v ∧ v < right) && fits l u T s v
theorem best_find {near : List (List Int)} {right : Int} {l : List (List Int)} (hll : l = near.map (rowOf right)) {u s : Nat} {T : List Int} {b : Int} (h : BestOf (near.getD u []) (pick l right u T s) b) :
    (rowF l u).find? (fits l u T s) = if b = -1 then none else some b := by
  have hrow : (rowF l u).Pairwise (· < ·) ∧ ∀ n, n ∈ rowF l u ↔ n ∈ near.getD u [] ∧ 0 ≤ n ∧ n < right := by rw [hll, rowF_map]; exact rowOf_spec right _
  rcases h with ⟨rfl, h2⟩ | ⟨h0, h1, h2, h3⟩
  · rw [if_pos rfl, List.find?_eq_none]
    intro v hv hf
    obtain ⟨a, b⟩ := (hrow.2 v).1 hv
    have := h2 v a
    simp only [pick, hf, Bool.and_true, decide_eq_false_iff_not] at this
    exact this b
  · rw [if_neg (by omega)]
    simp only [pick, Bool.and_eq_true, decide_eq_true_eq] at h2
    refine find_least hrow.1 ((hrow.2 b).2 ⟨h1, h2.1⟩) h2.2 fun v hv hp => ?_
    obtain ⟨a, c⟩ := (hrow.2 v).1 hv
    exact h3 v a (by simp only [pick, Bool.and_eq_true, decide_eq_true_eq]; exact ⟨c, hp⟩)
theorem greedy_best {near : List (List Int)} {right : Int} {l : List (List Int)} (hll : l = near.map (rowOf right)) {r u s : Nat} {T : List Int} {b : Int} (h : BestOf (near.getD u []) (pick l right u T s) b) :
    greedy l (r + 1) u T s = if b = -1 then -1 :: greedy l r (u + 1) T s else b :: greedy l r (u + 1) (T ++ [b]) (s - 1) := by
  rw [greedy, best_find hll h]
  by_cases hb : b = -1
  · rw [if_pos hb, if_pos hb]
  · rw [if_neg hb, if_neg hb]
theorem best_fits {l : List (List Int)} {right : Int} {xs : List Int} {u s : Nat} {T : List Int} {b : Int} (h : BestOf xs (pick l right u T s) b) (hb : b ≠ -1) : 1 ≤ s ∧ 0 ≤ b := by
  rcases h with ⟨q, _⟩ | ⟨h0, _, h2, _⟩
  · exact absurd q hb
  · simp only [pick, fits, Bool.and_eq_true, decide_eq_true_eq] at h2
    omega

/-- The taken ones and the answer so far: two rows of the call's own, apart. -/
structure TwoSt (near : List (List Int)) (B : Nat) (A : Option Addr) (w : World) (T O : List Int) (gt ct go co : Nat) : Prop where
  rows : RowsAt B w A near
  t : w.ownsRow B 3 1 (.slice (some ⟨gt, 0, none⟩) T.length ct) T.length (ints T)
  o : w.ownsRow B 3 1 (.slice (some ⟨go, 0, none⟩) O.length co) O.length (ints O)
  ap : gt ≠ go
  low : B ≤ w.heap.size
section
variable {near : List (List Int)} {B : Nat} {A : Option Addr} {w w' : World} {T O : List Int} {gt ct go co : Nat}
theorem TwoSt.later (h : TwoSt near B A w T O gt ct go co) (hb : Below w.heap.size w w') : TwoSt near B A w' T O gt ct go co :=
  ⟨h.rows.later hb, own_later h.t hb, own_later h.o hb, h.ap, by have := hb.size; have := h.low; omega⟩
theorem TwoSt.lt (h : TwoSt near B A w T O gt ct go co) : B ≤ gt ∧ gt < w.heap.size ∧ B ≤ go ∧ go < w.heap.size := ⟨own_ge h.t gt rfl, own_lt h.t gt rfl, own_ge h.o go rfl, own_lt h.o go rfl⟩
theorem TwoSt.addO (h : TwoSt near B A w T O gt ct go co) (x : Int) (hs : O.length < 1000000) :
    ∃ g cap w', (Builtin.append_ #[25, 25] 25 #[.slice (some ⟨go, 0, none⟩) O.length co, .slice (some ⟨w.heap.size, 0, none⟩) 1 1]).run Try.prog (w.alloc (.cells #[.int .i64 x] 3)) = .ok (.slice (some ⟨g, 0, none⟩) (O.length + 1) cap) w' ∧
      TwoSt near B A w' T (O ++ [x]) gt ct g cap ∧ Below B w w' := by
  obtain ⟨l1, l2, l3, l4⟩ := h.lt
  obtain ⟨g, cap, w', hr, ho, hg⟩ := app_ints (ty := 25) Try.underlying25 info3 h.o x (by omega) h.low
  have h' : w.ownsRow B 3 1 (.slice (some ⟨go, 0, none⟩) O.length co) (ints O).length (ints O) := by simpa [ints] using h.o
  have hp := app_place (x := .int .i64 x) (n' := O.length + 1) (cap' := cap) (w' := w') (g := g) Try.underlying25 info3 rfl h' rfl (by simp [ints]; omega) (by omega) hr
  have hb : Below B w w' := below_grown (Below.refl B w) hg h.low (fun k hk => own_ge h.o k hk)
  refine ⟨g, cap, w', hr, ⟨h.rows.below hb, own_move h.t fun k hk => ?_, by simpa using ho, ?_, by have := hg.size; have := h.low; omega⟩, hb⟩
  · cases hk
    exact hg.block gt l2 (fun e => by cases e; exact h.ap rfl)
  · rcases hp with q | q
    · cases q; exact h.ap
    · omega
theorem TwoSt.addT (h : TwoSt near B A w T O gt ct go co) (x : Int) (hs : T.length < 1000000) :
    ∃ g cap w', (Builtin.append_ #[25, 25] 25 #[.slice (some ⟨gt, 0, none⟩) T.length ct, .slice (some ⟨w.heap.size, 0, none⟩) 1 1]).run Try.prog (w.alloc (.cells #[.int .i64 x] 3)) = .ok (.slice (some ⟨g, 0, none⟩) (T.length + 1) cap) w' ∧
      TwoSt near B A w' (T ++ [x]) O g cap go co ∧ Below B w w' := by
  obtain ⟨l1, l2, l3, l4⟩ := h.lt
  obtain ⟨g, cap, w', hr, ho, hg⟩ := app_ints (ty := 25) Try.underlying25 info3 h.t x (by omega) h.low
  have h' : w.ownsRow B 3 1 (.slice (some ⟨gt, 0, none⟩) T.length ct) (ints T).length (ints T) := by simpa [ints] using h.t
  have hp := app_place (x := .int .i64 x) (n' := T.length + 1) (cap' := cap) (w' := w') (g := g) Try.underlying25 info3 rfl h' rfl (by simp [ints]; omega) (by omega) hr
  have hb : Below B w w' := below_grown (Below.refl B w) hg h.low (fun k hk => own_ge h.t k hk)
  refine ⟨g, cap, w', hr, ⟨h.rows.below hb, by simpa using ho, own_move h.o fun k hk => ?_, ?_, by have := hg.size; have := h.low; omega⟩, hb⟩
  · cases hk
    exact hg.block go l4 (fun e => by cases e; exact h.ap rfl)
  · rcases hp with q | q
    · cases q; exact h.ap
    · omega
/-- append([]int{}, taken...). -/
theorem TwoSt.copy (h : TwoSt near B A w T O gt ct go co) (hs : T.length < 1000000) :
    ∃ g cap w', (Builtin.append_ #[25, 25] 25 #[.slice (some ⟨w.heap.size, 0, none⟩) 0 0, .slice (some ⟨gt, 0, none⟩) T.length ct]).run Try.prog (w.alloc (.cells #[] 3)) = .ok (.slice (some ⟨g, 0, none⟩) T.length cap) w' ∧
      w'.ownsRow w.heap.size 3 1 (.slice (some ⟨g, 0, none⟩) T.length cap) T.length (ints T) ∧ Below w.heap.size w w' := by
  obtain ⟨i, hi, h1, h2, h3⟩ := info_parts info3
  have hmade : (w.alloc (.cells #[] 3)).ownsRow w.heap.size 3 1 (.slice (some ⟨w.heap.size, 0, none⟩) 0 0) 0 [] := World.ownsRow_made (e := 3) (base := w.heap.size) (size := 1) w #[] 0 (Nat.le_refl _) (by unfold maxLen; omega) rfl
  have hcells : ∀ j u, (ints T)[j]? = some u → (w.alloc (.cells #[] 3)).cell? ((⟨gt, 0, none⟩ : Addr).add j) = some u := (h.t.alloc _).cells (g := gt) rfl
  obtain ⟨v', w', hr, ho, hg, hn⟩ := run_append_own (P := Try.prog) (w := w.alloc (.cells #[] 3)) w.heap.size 25 25 3 i (.int .i64 0) 1 8 Try.underlying25 hi h1 h2 h3 rfl (by omega) _ 0 [] hmade ⟨gt, 0, none⟩ T.length ct (ints T) (by simp [ints]) hcells
    (by intro u hu; obtain ⟨n, _, rfl⟩ := List.mem_map.1 hu; rfl) (by unfold maxLen; omega) (by omega) (by simp)
  have hne : v' ≠ .slice none 0 0 := fun e => by have := (hn.1 e).1; cases this
  have hb : Below w.heap.size w w' := below_grown ((Below.refl _ w).alloc (Nat.le_refl _) _) hg (by simp) (fun k hk => by cases hk; exact Nat.le_refl _)
  rw [Nat.zero_add] at ho
  rcases ho.2 with ⟨q, _⟩ | ⟨g', cap', cur', rfl, _⟩
  · exact absurd q hne
  · exact ⟨g', cap', w', hr, by simpa using ho, hb⟩
end
end Go.Proofs.Ytopjfnkcmdifhaa
