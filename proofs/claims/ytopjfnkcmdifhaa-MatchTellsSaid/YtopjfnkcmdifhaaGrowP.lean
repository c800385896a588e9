/- A row of matches, changed along a path (plain); what lies in memory while the document's search runs. -/
import Derived.Test.YtopjfnkcmdifhaaRefRight
namespace Go.Proofs.Ytopjfnkcmdifhaa
set_option linter.unusedVariables false
set_option linter.unusedSimpArgs false
open Go.RowKit Kuhn

namespace Kuhn
/-- The row m tells the same matches as of. -/
def MOf (m : List Int) (of : Int → Option Nat) : Prop := ∀ v k, of v = some k ↔ m[k]? = some v ∧ 0 ≤ v
def applyM (m : List Int) : Path → List Int
  | [] => m
  | (n, i) :: p => (applyM m p).set i n
theorem applyM_length (m : List Int) (p : Path) : (applyM m p).length = m.length := by
  induction p with
  | nil => rfl
  | cons x p ih => obtain ⟨n, i⟩ := x; simp [applyM, ih]
theorem MOf.inj {m : List Int} {of : Int → Option Nat} (h : MOf m of) : Inj of := by
  intro v v' i h1 h2
  have e1 := ((h v i).1 h1).1
  have e2 := ((h v' i).1 h2).1
  rw [e1] at e2
  cases e2
  rfl
theorem applyM_iff {m : List Int} : ∀ {p : Path}, (∀ n n' x, (n, x) ∈ p → (n', x) ∈ p → n = n') → (∀ n x, (n, x) ∈ p → x < m.length) → ∀ (k : Nat) (v : Int), (applyM m p)[k]? = some v ↔ (v, k) ∈ p ∨ ((∀ n, (n, k) ∉ p) ∧ m[k]? = some v) := by
  intro p
  induction p with
  | nil => intro _ _ k v; simp [applyM]
  | cons y p ih =>
    obtain ⟨n, i⟩ := y
    intro hd hl k v
    have ih' := ih (fun a b x h1 h2 => hd a b x (.tail _ h1) (.tail _ h2)) (fun a x h => hl a x (.tail _ h)) k v
    have hi : i < m.length := hl n i (.head _)
    by_cases hk : k = i
    · subst hk
      rw [applyM, List.getElem?_set_self (by rw [applyM_length]; exact hi)]
      constructor
      · intro e; cases e; exact .inl (.head _)
      · rintro (h | ⟨h, _⟩)
        · rw [hd v n k h (.head _)]
        · exact absurd (.head _) (h n)
    · rw [applyM, List.getElem?_set_ne (fun e => hk e.symm), ih']
      constructor
      · rintro (h | ⟨h1, h2⟩)
        · exact .inl (.tail _ h)
        · refine .inr ⟨fun a q => ?_, h2⟩
          rcases List.mem_cons.1 q with e | q
          · cases e; exact hk rfl
          · exact h1 a q
      · rintro (h | ⟨h1, h2⟩)
        · rcases List.mem_cons.1 h with e | q
          · cases e; exact absurd rfl hk
          · exact .inl q
        · exact .inr ⟨fun a q => h1 a (.tail _ q), h2⟩
theorem MOf.path {row : Nat → List Int} {ok : Int → Bool} {m : List Int} {of : Int → Option Nat} (h : MOf m of) (hok : ∀ n, ok n = true → 0 ≤ n) {b : Nat} (hb : ∀ v, of v ≠ some b) (hbl : b < m.length) {p : Path} (hp : PathOK row ok of b p) : MOf (applyM m p) (applyOf of p) := by
  have hn := path_nodup hp
  have hinj := lefts_inj h.inj hp (fun m _ => hb m)
  have hlt : ∀ n x, (n, x) ∈ p → x < m.length := by
    intro n x hx
    rcases lefts_in hp n x hx with rfl | ⟨q, _, hq⟩
    · exact hbl
    · exact (List.getElem?_eq_some_iff.1 ((h q x).1 hq).1).1
  intro v k
  rw [applyM_iff hinj hlt, applyOf_iff hn]
  constructor
  · rintro (hv | ⟨h1, h2⟩)
    · exact ⟨.inl hv, hok _ (path_edges hp _ hv).2⟩
    · obtain ⟨h3, h4⟩ := (h v k).1 h2
      refine ⟨.inr ⟨fun n hnk => ?_, h3⟩, h4⟩
      rcases lefts_in hp n k hnk with rfl | ⟨q, hq, hq2⟩
      · exact hb v h2
      · rw [h.inj q v k hq2 h2] at hq
        exact h1 hq
  · rintro ⟨hv | ⟨h1, h2⟩, h0⟩
    · exact .inl hv
    · have hof := (h v k).2 ⟨h2, h0⟩
      refine .inr ⟨fun hv => ?_, hof⟩
      obtain ⟨n, hnk⟩ := path_next hp v k hv hof
      exact h1 n hnk
end Kuhn

/-- May a right one be matched, T taken? -/
def okB (right : Int) (T : List Int) (n : Int) : Bool := decide (0 ≤ n ∧ n < right) && !decide (n ∈ T)
theorem mm_raw {near : List (List Int)} {right : Int} {l : List (List Int)} (hll : l = near.map (rowOf right)) (T : List Int) (lo hi : Nat) : mm (fun j => near.getD j []) (okB right T) lo hi = mm (rowF l) (free T) lo hi := by
  refine mm_congr fun i v _ => ?_
  rw [hll, rowF_map, (rowOf_spec right _).2]
  simp only [okB, free, Bool.and_eq_true, decide_eq_true_eq]
  constructor
  · rintro ⟨h1, ⟨h2, h3⟩, h4⟩; exact ⟨⟨h1, h2, h3⟩, h4⟩
  · rintro ⟨⟨h1, h2, h3⟩, h4⟩; exact ⟨h1, ⟨h2, h3⟩, h4⟩

structure GrowSt (near : List (List Int)) (taken : List Int) (B : Nat) (A At : Option Addr) (bm capm : Nat) (w : World) (m s : List Int) (v : Value) : Prop where
  rows : RowsAt B w A near
  tk : IntsAt B w At taken
  m : w.ownsRow B 3 1 (.slice (some ⟨bm, 0, none⟩) m.length capm) m.length (ints m)
  tr : w.ownsRow (bm + 1) 3 1 v s.length (ints s)
  low : B ≤ w.heap.size

section
variable {near : List (List Int)} {taken : List Int} {B : Nat} {A At : Option Addr} {bm capm : Nat} {w : World} {m s : List Int} {v : Value}
theorem GrowSt.bm_ge (h : GrowSt near taken B A At bm capm w m s v) : B ≤ bm ∧ bm < w.heap.size := ⟨own_ge h.m bm rfl, own_lt h.m bm rfl⟩
theorem GrowSt.cells (h : GrowSt near taken B A At bm capm w m s v) : ∃ cap cur, w.heap[bm]? = some (.cells cur 3 (0, 0)) ∧ m.length ≤ cap ∧ capm = cap ∧ cap ≤ maxLen ∧ cur.size = cap ∧ cur.toList.take m.length = ints m := by
  rcases h.m.2 with ⟨q, _⟩ | ⟨g, cap, cur, e, _, hb, hn, hm, hs, ht⟩
  · cases q
  · cases e
    exact ⟨capm, cur, hb, hn, rfl, hm, by simpa using hs, by simpa using ht⟩
theorem GrowSt.cell (h : GrowSt near taken B A At bm capm w m s v) (k : Nat) (hk : k < m.length) : w.cell? ((⟨bm, 0, none⟩ : Addr).add k) = some (.int .i64 m[k]) ∧ w.frozen? ((⟨bm, 0, none⟩ : Addr).add k) = false := by
  obtain ⟨cap, cur, hb, hn, rfl, hm, hs, ht⟩ := h.cells
  have e : cur[k]? = some (.int .i64 m[k]) := by
    have e1 : (cur.toList.take m.length)[k]? = (ints m)[k]? := by rw [ht]
    rw [List.getElem?_take_of_lt hk] at e1
    simpa [ints, hk] using e1
  rw [add_free, Nat.zero_add]
  exact cell_row hb e
theorem GrowSt.put (h : GrowSt near taken B A At bm capm w m s v) (u : Nat) (hu : u < m.length) (x : Int) : GrowSt near taken B A At bm capm (w.setCell ((⟨bm, 0, none⟩ : Addr).add u) (.int .i64 x)) (m.set u x) s v ∧ Below B w (w.setCell ((⟨bm, 0, none⟩ : Addr).add u) (.int .i64 x)) := by
  obtain ⟨cap, cur, hb, hn, rfl, hm, hs, ht⟩ := h.cells
  obtain ⟨hge, hlt⟩ := h.bm_ge
  rw [add_free, Nat.zero_add]
  have hbl : Below B w (w.setCell ⟨bm, u, none⟩ (.int .i64 x)) := (Below.refl B w).setCell hge _
  have hb' : (w.setCell ⟨bm, u, none⟩ (.int .i64 x)).heap[bm]? = some (.cells (cur.setIfInBounds u (.int .i64 x)) 3 (0, 0)) := by
    simp [World.setCell, Array.getElem?_modify, hb]
  refine ⟨⟨h.rows.below hbl, h.tk.below hbl, ⟨by simp [ints], .inr ⟨bm, capm, cur.setIfInBounds u (.int .i64 x), by simp, hge, hb', by simpa using hn, hm, by simp [hs], ?_⟩⟩, ?_, by simpa using h.low⟩, hbl⟩
  · simp only [List.length_set, Nat.mul_one, Array.toList_setIfInBounds, List.take_set, ht, ints, List.map_set]
  · exact own_move h.tr fun k hk => Below.heap_setCell _ _ _ _ (by have := own_ge h.tr k hk; show k ≠ bm; omega)
theorem GrowSt.grow (h : GrowSt near taken B A At bm capm w m s v) (x : Int) (hs : s.length < 1000000000) :
    ∃ g cap w', (Builtin.append_ #[25, 25] 25 #[v, .slice (some ⟨w.heap.size, 0, none⟩) 1 1]).run Try.prog (w.alloc (.cells #[.int .i64 x] 3)) = .ok (.slice (some ⟨g, 0, none⟩) (s.length + 1) cap) w' ∧
      GrowSt near taken B A At bm capm w' m (s ++ [x]) (.slice (some ⟨g, 0, none⟩) (s.length + 1) cap) ∧ Below B w w' := by
  obtain ⟨hge, hlt⟩ := h.bm_ge
  obtain ⟨g, cap, w', hr, ho, hg⟩ := app_ints (ty := 25) Try.underlying25 info3 h.tr x (by omega) (by omega)
  have hb : Below B w w' := below_grown (Below.refl B w) hg h.low (fun k hk => by have := own_ge h.tr k hk; omega)
  refine ⟨g, cap, w', hr, ⟨h.rows.below hb, h.tk.below hb, ?_, ho, by have := hg.size; have := h.low; omega⟩, hb⟩
  exact own_move h.m fun k hk => by
    cases hk
    exact hg.block bm hlt (fun e => by have := own_ge h.tr bm e.symm; omega)
end
end Go.Proofs.Ytopjfnkcmdifhaa
