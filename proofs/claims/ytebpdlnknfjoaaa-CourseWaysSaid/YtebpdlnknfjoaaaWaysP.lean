/- Each load of a right course is of one of its ways, and there are no more of them than Count tells. -/
import Derived.Test.YtebpdlnknfjoaaaOfW
import Derived.Test.YtebpdlnknfjoaaaLoadsAll
namespace Go.Proofs.Ytebpdlnknfjoaaa
set_option linter.unusedVariables false
set_option linter.unusedSimpArgs false
open Go.RowKit

theorem dfs_at : ∀ (ps : List (List Int)) (l : List Int), ∀ r ∈ dfs ps l, ∃ r', r = l ++ r' ∧ r'.length = ps.length ∧ ∀ i, i < ps.length → r'.getD i 0 ∈ ps.getD i []
  | [], l => fun r hr => by
    unfold dfs at hr
    rw [List.mem_singleton] at hr
    exact ⟨[], by rw [hr, List.append_nil], rfl, fun i hi => by simp at hi⟩
  | p :: ps, l => fun r hr => by
    unfold dfs at hr
    obtain ⟨y, hy, hr⟩ := List.mem_flatMap.1 hr
    obtain ⟨r', e, h1, h2⟩ := dfs_at ps (l ++ [y]) r hr
    refine ⟨y :: r', by rw [e, List.append_assoc]; rfl, by rw [List.length_cons, List.length_cons, h1], fun i hi => ?_⟩
    cases i with
    | zero => exact hy
    | succ i => exact h2 i (by simpa using hi)
theorem way_apart {n : Int} : ∀ {ps : List (List Int)} {T : List Int}, wayB n T ps = true → (∀ x i, x ∈ ps.getD i [] → x ∉ T) ∧ ∀ x i k, x ∈ ps.getD i [] → x ∈ ps.getD k [] → i = k := by
  intro ps
  induction ps with
  | nil => intro T _; exact ⟨fun x i h => by simp at h, fun x i k h => by simp at h⟩
  | cons p ps ih =>
    intro T h
    rw [wayB, Bool.and_eq_true] at h
    obtain ⟨h1, h2⟩ := ih h.2
    have hnew : ∀ x ∈ p, x ∉ T := by
      have := h.1
      unfold partB at this
      rw [Bool.and_eq_true, Bool.and_eq_true] at this
      intro x hx
      simpa using List.all_eq_true.1 this.1.2 x hx
    refine ⟨fun x i hi => ?_, fun x i k hi hk => ?_⟩
    · cases i with
      | zero => exact hnew x hi
      | succ i => exact fun hT => h1 x i hi (List.mem_append.2 (.inl hT))
    · cases i with
      | zero =>
        cases k with
        | zero => rfl
        | succ k => exact absurd (List.mem_append.2 (.inr hi)) (h1 x k hk)
      | succ i =>
        cases k with
        | zero => exact absurd (List.mem_append.2 (.inr hk)) (h1 x i hi)
        | succ k => rw [h2 x i k hi hk]
theorem getD_flat {ps : List (List Int)} {i : Nat} {x : Int} (h : x ∈ ps.getD i []) : x ∈ ps.flatten := by
  by_cases hi : i < ps.length
  · rw [getD_rows hi] at h
    exact List.mem_flatten.2 ⟨_, List.getElem_mem hi, h⟩
  · rw [List.getD_eq_getElem?_getD, List.getElem?_eq_none (by omega)] at h
    cases h
theorem of_load {os : List Int} {ps : List (List Int)} {r : List Int} (hw : wayB os.length [] ps = true) (hr : r ∈ wayLoads os ps) : ofB os ps r = true := by
  obtain ⟨hr1, hr2⟩ := List.mem_filter.1 hr
  obtain ⟨r', e, hlen, hat⟩ := dfs_at ps [] r hr1
  rw [List.nil_append] at e
  subst e
  have hrange := way_parts hw
  have hin : ∀ i, i < ps.length → r.getD i 0 ∈ ps.flatten := fun i hi => getD_flat (hat i hi)
  have hap := (way_apart hw).2
  unfold ofB
  rw [decide_eq_true hlen, Bool.true_and, List.all_eq_true]
  intro i hi
  rw [List.mem_range] at hi
  have hip : i < ps.length := by omega
  have hx := hat i hip
  have hxr : 0 ≤ r.getD i 0 ∧ r.getD i 0 < os.length := by
    rw [getD_rows hip] at hx
    exact (hrange _ (List.getElem_mem hip)).1 _ hx
  unfold atOk
  rw [decide_eq_true hxr.1, decide_eq_true hxr.2, decide_eq_true hx, Bool.true_and, Bool.true_and, Bool.true_and, List.all_eq_true]
  intro k hk
  rw [List.mem_range] at hk
  by_cases ho : os.getD (r.getD i 0).toNat 0 ∈ ps.getD k []
  · rw [decide_eq_true ho, Bool.not_true, Bool.false_or, decide_eq_true_eq]
    have hmem : r.getD i 0 ∈ r := by rw [getD_ints hi]; exact List.getElem_mem hi
    have h1 := List.all_eq_true.1 hr2 _ hmem
    unfold needOf at h1
    rw [if_pos ⟨hin i hip, getD_flat ho⟩] at h1
    have h2 : os.getD (r.getD i 0).toNat 0 ∈ r := by simpa using h1
    obtain ⟨m, hm, hme⟩ := List.mem_iff_getElem.1 h2
    have h3 := hat m (by omega)
    rw [getD_ints hm, hme] at h3
    have h4 := hap _ m k h3 ho
    subst h4
    rw [getD_ints hm, hme]
  · rw [decide_eq_false ho]
    rfl
theorem load_of {os : List Int} {s : ByteArray} {ws : List (List (List Int))} (h : rightB os.length s ws = true) {r : List Int} (hr : r ∈ loadsOf os s ws) : ws.any (fun ps => ofB os ps r) = true := by
  unfold loadsOf at hr
  rw [if_pos h] at hr
  obtain ⟨ps, hps, hr⟩ := List.mem_flatMap.1 hr
  rw [List.any_eq_true]
  refine ⟨ps, hps, of_load ?_ hr⟩
  rw [rightB_eq, Bool.and_eq_true] at h
  have h1 := List.all_eq_true.1 h.2 ps hps
  unfold okWay at h1
  rw [Bool.and_eq_true] at h1
  exact h1.2
theorem prod_dfs {ps : List (List Int)} (h4 : ps.length ≤ 4) (h8 : ∀ p ∈ ps, p.length ≤ 8) : ∀ k, k ≤ ps.length → prodOf (ps.take k) = (allOf (ps.take k)).length
  | 0, _ => by simp [prodOf, allOf]
  | k + 1, hk => by
    have hlt : k < ps.length := by omega
    have ih := prod_dfs h4 h8 k (by omega)
    have hl := all_len h8 (k + 1) hk
    rw [prod_snoc hlt, all_snoc hlt, extend_len, ih]
    rw [all_snoc hlt, extend_len] at hl
    have h5 : 8 ^ (k + 1) ≤ 8 ^ 4 := Nat.pow_le_pow_right (by decide) (by omega)
    have h6 : (8 : Nat) ^ 4 = 4096 := by decide
    have h7 := h8 _ (List.getElem_mem hlt)
    rw [Nat.min_eq_right (show ps[k].length ≤ 65536 by omega), Nat.min_eq_right (by omega)]
theorem loads_count {os : List Int} {s : ByteArray} {ws : List (List (List Int))} (h : rightB os.length s ws = true) : (loadsOf os s ws).length ≤ countOf ws := by
  obtain ⟨h4, hp⟩ := right_parts h
  unfold loadsOf
  rw [if_pos h]
  have key : ∀ k, k ≤ ws.length → ((ws.take k).flatMap (wayLoads os)).length ≤ countOf (ws.take k) ∧ ((ws.take k).flatMap (wayLoads os)).length ≤ 4096 * k := by
    intro k
    induction k with
    | zero => intro _; simp
    | succ k ih =>
      intro hk
      have hlt : k < ws.length := by omega
      obtain ⟨i1, i2⟩ := ih (by omega)
      obtain ⟨hq4, hq8, _⟩ := hp _ (List.getElem_mem hlt)
      have e : (ws.take (k + 1)).flatMap (wayLoads os) = (ws.take k).flatMap (wayLoads os) ++ wayLoads os ws[k] := by
        rw [List.take_succ_eq_append_getElem hlt, List.flatMap_append]
        simp
      have h1 := prod_dfs hq4 hq8 ws[k].length (Nat.le_refl _)
      rw [List.take_length] at h1
      have h2 := all_len hq8 ws[k].length (Nat.le_refl _)
      rw [List.take_length] at h2
      have h3 : 8 ^ ws[k].length ≤ 8 ^ 4 := Nat.pow_le_pow_right (by decide) hq4
      have h5 : (8 : Nat) ^ 4 = 4096 := by decide
      have h6 : (wayLoads os ws[k]).length ≤ (dfs ws[k] []).length := List.length_filter_le _ _
      rw [all_dfs] at h1 h2
      rw [e, List.length_append, count_snoc hlt]
      omega
  have := (key ws.length (Nat.le_refl _)).1
  rwa [List.take_length] at this
end Go.Proofs.Ytebpdlnknfjoaaa
