/- What is come to from some left ones, by closing two rising rows (plain). -/
import Derived.Test.YtopjfnkcmdifhaaCoverW
namespace Go.Proofs.Ytopjfnkcmdifhaa
set_option linter.unusedVariables false
set_option linter.unusedSimpArgs false
open Go.RowKit Kuhn

theorem rise_set {l : List Int} {n : Int} {k : Nat} (hl : l.Pairwise (· < ·)) (hn : n ∉ l) (hlow : ∀ x ∈ l.take k, x < n) (hk : ∀ (h : k < l.length), ¬ l[k] < n) : IsSet (l.take k ++ n :: l.drop k) (fun x => x = n ∨ x ∈ l) := by
  have hall : ∀ x ∈ l.drop k, n < x := by
    intro x hx
    by_cases hkl : k < l.length
    · have h1 := hk hkl
      have hmem : l[k] ∈ l := List.getElem_mem hkl
      have hne : l[k] ≠ n := fun e => hn (e ▸ hmem)
      have hp : (l.drop k).Pairwise (· < ·) := hl.sublist (List.drop_sublist _ _)
      rw [List.drop_eq_getElem_cons hkl] at hx hp
      rw [List.pairwise_cons] at hp
      rcases List.mem_cons.1 hx with q | q
      · rw [q]; omega
      · have := hp.1 x q; omega
    · rw [List.drop_eq_nil_of_le (by omega)] at hx
      cases hx
  refine ⟨?_, fun x => ?_⟩
  · rw [List.pairwise_append]
    refine ⟨hl.sublist (List.take_sublist _ _), List.pairwise_cons.2 ⟨hall, hl.sublist (List.drop_sublist _ _)⟩, ?_⟩
    intro a ha b hb
    have h1 := hlow a ha
    rcases List.mem_cons.1 hb with q | q
    · omega
    · have := hall b q; omega
  · rw [List.mem_append, List.mem_cons]
    constructor
    · rintro (h | h | h)
      · exact .inr (List.mem_of_mem_take h)
      · exact .inl h
      · exact .inr (List.mem_of_mem_drop h)
    · rintro (h | h)
      · exact .inr (.inl h)
      · rw [← List.take_append_drop k l, List.mem_append] at h
        rcases h with h | h
        · exact .inl h
        · exact .inr (.inr h)

/-- Two rising rows on the way. -/
structure ComeSt (l : List (List Int)) (m fr L T : List Int) : Prop where
  up : L.Pairwise (· < ·)
  upT : T.Pairwise (· < ·)
  here : ∀ u ∈ fr, u ∈ L
  left : ∀ u ∈ L, LeftOf l m fr u
  to : ∀ n ∈ T, RightOf l m fr n
def ClosedR (l : List (List Int)) (k : Nat) (L T : List Int) : Prop := ∀ u : Nat, u < k → (u : Int) ∈ L → ∀ v ∈ rowF l u, v ∈ T
def ClosedL (m : List Int) (k : Nat) (L T : List Int) : Prop := ∀ (u : Nat) (x : Int), u < k → m[u]? = some x → 0 ≤ x → x ∈ T → (u : Int) ∈ L
/-- Which left one each right one is matched to, told by the row. -/
def OfM (m : List Int) : Prop := ∀ (n : Int) (i : Nat), ofM m n = some i ↔ m[i]? = some n ∧ 0 ≤ n

section
variable {l : List (List Int)} {m fr L T : List Int}
theorem ComeSt.done (h : ComeSt l m fr L T) (h1 : ClosedR l l.length L T) (h2 : ClosedL m m.length L T) (hof : OfM m) : IsSet L (LeftOf l m fr) ∧ IsSet T (RightOf l m fr) := by
  have key : ∀ i, Come (rowF l) (ofM m) (fun i => (i : Int) ∈ fr) i → (i : Int) ∈ L ∧ ∀ v ∈ rowF l i, v ∈ T := by
    have close : ∀ i : Nat, (i : Int) ∈ L → ∀ v ∈ rowF l i, v ∈ T := by
      intro i hi v hv
      by_cases hl : i < l.length
      · exact h1 i hl hi v hv
      · rw [rowF, List.getD_eq_getElem?_getD, List.getElem?_eq_none (by omega)] at hv
        cases hv
    intro i hi
    induction hi with
    | start i hi => exact ⟨h.here _ hi, close i (h.here _ hi)⟩
    | step u k n _ hn hk ih =>
      obtain ⟨a1, a2⟩ := (hof n k).1 hk
      have hkL := h2 k n (List.getElem?_eq_some_iff.1 a1).1 a1 a2 (ih.2 n hn)
      exact ⟨hkL, close k hkL⟩
  refine ⟨⟨h.up, fun n => ⟨h.left n, ?_⟩⟩, ⟨h.upT, fun n => ⟨h.to n, ?_⟩⟩⟩
  · rintro ⟨i, rfl, hi⟩
    exact (key i hi).1
  · rintro ⟨u, hu, hn⟩
    exact (key u hu).2 n hn
theorem ComeSt.addT {u : Nat} {v : Int} {T' : List Int} (h : ComeSt l m fr L T) (hu : (u : Int) ∈ L) (hv : v ∈ rowF l u) (hT : IsSet T' (fun x => x = v ∨ x ∈ T)) : ComeSt l m fr L T' := by
  refine ⟨h.up, hT.1, h.here, h.left, fun n hn => ?_⟩
  rcases (hT.2 n).1 hn with rfl | q
  · obtain ⟨i, e, hi⟩ := h.left _ hu
    have : u = i := by omega
    subst this
    exact ⟨u, hi, hv⟩
  · exact h.to n q
theorem ComeSt.addL {u : Nat} {x : Int} {L' : List Int} (h : ComeSt l m fr L T) (hof : OfM m) (hm : m[u]? = some x) (h0 : 0 ≤ x) (hx : x ∈ T) (hL : IsSet L' (fun y => y = (u : Int) ∨ y ∈ L)) : ComeSt l m fr L' T := by
  refine ⟨hL.1, h.upT, fun y hy => (hL.2 y).2 (.inr (h.here y hy)), fun y hy => ?_, h.to⟩
  rcases (hL.2 y).1 hy with rfl | q
  · obtain ⟨k, hk, hn⟩ := h.to x hx
    exact ⟨u, rfl, .step k u x hk hn ((hof x u).2 ⟨hm, h0⟩)⟩
  · exact h.left y q

theorem rising_nodup {xs : List Int} (h : xs.Pairwise (· < ·)) : xs.Nodup := h.imp (fun {a b} (h : a < b) (e : a = b) => by omega)
theorem ComeSt.lenL (h : ComeSt l m fr L T) (hfr : ∀ u ∈ fr, ∃ i : Nat, u = i ∧ i < l.length) (hm : m.length = l.length) : L.length ≤ l.length := by
  have : ∀ u ∈ L, u ∈ (List.range l.length).map (fun k : Nat => (k : Int)) := by
    intro u hu
    obtain ⟨i, rfl, hi⟩ := h.left u hu
    exact List.mem_map.2 ⟨i, List.mem_range.2 (Come.lt hfr hm hi), rfl⟩
  simpa using nodup_le (rising_nodup h.up) this
theorem ComeSt.lenT {U : List Int} (h : ComeSt l m fr L T) (hU : ∀ i, ∀ n ∈ rowF l i, n ∈ U) : T.length ≤ U.length := by
  refine nodup_le (rising_nodup h.upT) (fun n hn => ?_)
  obtain ⟨u, _, hn⟩ := h.to n hn
  exact hU u n hn
end

/-- More was found, or all is as it was. -/
def Went (L0 T0 L T : List Int) (b : Bool) (P : Prop) : Prop := (b = true → L0.length + T0.length < L.length + T.length) ∧ (b = false → L = L0 ∧ T = T0 ∧ P)
section
variable {L0 T0 L T L' T' : List Int} {b : Bool} {P Q : Prop}
theorem Went.start (L0 T0 : List Int) (h : P) : Went L0 T0 L0 T0 false P := ⟨fun e => Bool.noConfusion e, fun _ => ⟨rfl, rfl, h⟩⟩
theorem Went.same (h : Went L0 T0 L T b P) (hPQ : L = L0 → T = T0 → P → Q) : Went L0 T0 L T b Q := ⟨h.1, fun e => let ⟨a1, a2, a3⟩ := h.2 e; ⟨a1, a2, hPQ a1 a2 a3⟩⟩
theorem Went.le (h : Went L0 T0 L T b P) : L0.length + T0.length ≤ L.length + T.length := by
  cases b with
  | true => have := h.1 rfl; omega
  | false => obtain ⟨rfl, rfl, _⟩ := h.2 rfl; exact Nat.le_refl _
theorem Went.more (h : Went L0 T0 L T b P) (hl : L.length + T.length < L'.length + T'.length) : Went L0 T0 L' T' true Q := ⟨fun _ => (by have := h.le; omega), fun e => Bool.noConfusion e⟩
end
end Go.Proofs.Ytopjfnkcmdifhaa
