/- The walks of the document's Hall and Cover. -/
import Derived.Test.YtopjfnkcmdifhaaComeW
namespace Go.Proofs.Ytopjfnkcmdifhaa
set_option linter.unusedVariables false
set_option linter.unusedSimpArgs false
open Go.RowKit Kuhn

theorem bare_first : ∀ {m : List Int} {i k : Nat} (hk : k < m.length), (∀ j (h : j < m.length), j < k → 0 ≤ m[j]) → m[k] < 0 → ∃ bs, bareFrom i m = ((i + k : Nat) : Int) :: bs := by
  intro m
  induction m with
  | nil => intro i k hk; simp at hk
  | cons x xs ih =>
    intro i k hk hlow hx
    cases k with
    | zero =>
      have hx' : x < 0 := hx
      exact ⟨bareFrom (i + 1) xs, by simp [bareFrom, hx']⟩
    | succ k =>
      have h0 : 0 ≤ x := hlow 0 (by simp) (by omega)
      have hn : ¬ x < 0 := by omega
      obtain ⟨bs, hb⟩ := ih (i := i + 1) (k := k) (by simpa using hk) (fun j h hj => hlow (j + 1) (by simpa using h) (by omega)) hx
      refine ⟨bs, ?_⟩
      simp only [bareFrom, hn, if_false, hb]
      rw [show i + 1 + k = i + (k + 1) by omega]
theorem bare_none {m : List Int} (hlow : ∀ j (h : j < m.length), 0 ≤ m[j]) : bareFrom 0 m = [] := by
  cases hb : bareFrom 0 m with
  | nil => rfl
  | cons b bs =>
    obtain ⟨j, _, x, hx, h0⟩ := (mem_bare m b).1 (by rw [hb]; exact .head _)
    obtain ⟨h1, h2⟩ := List.getElem?_eq_some_iff.1 hx
    have := hlow j h1
    omega
theorem bare_rise (xs : List Int) : ∀ i, (bareFrom i xs).Pairwise (· < ·) := by
  induction xs with
  | nil => intro i; exact List.Pairwise.nil
  | cons x xs ih =>
    intro i
    simp only [bareFrom]
    split
    · refine List.pairwise_cons.2 ⟨fun n hn => ?_, ih _⟩
      obtain ⟨j, rfl, _⟩ := (mem_bareFrom xs _ n).1 hn
      omega
    · exact ih _
theorem most_of {near : List (List Int)} {right : Int} {l : List (List Int)} {m : List Int} (hll : l = near.map (rowOf right)) (hm : m = mostOf l) : OfM m := by
  have hv : VM l 0 [] m := by rw [hm]; exact (mostOf_ok (fun i v h => rows_nn right near i v (hll ▸ h))).1
  exact ofM_iff hv
theorem one_at (w : World) (x : Int) : IntsAt (w.alloc (.cells #[.int .i64 x] 3)).heap.size (w.alloc (.cells #[.int .i64 x] 3)) (some ⟨w.heap.size, 0, none⟩) [x] := by
  intro i hi
  have : i = 0 := by simp at hi; omega
  subst this
  exact ⟨_, rfl, by simp, by simp [Addr.add, go_sem]⟩
theorem refMost_near {near : List (List Int)} {right : Int} {A : Option Addr} {l : List (List Int)} {m : List Int} (hll : l = near.map (rowOf right)) (hm : m = mostOf l) (c : Nat) (w : World) (hR : RowsAt w.heap.size w A near) (hn : near.length ≤ 1000) (hl : ∀ r ∈ near, r.length ≤ 1000) (hUl : near.flatten.length ≤ 1000) :
    Calls Try.prog 17 #[.slice A near.length c, .int .i64 right] w fun e w' => ∃ A1 c1, e = .returned (.slice A1 near.length c1) ∧ IntsAt w'.heap.size w' A1 m ∧ Below w.heap.size w w' := by
  subst hm
  refine (refMost_any hll c w hR hn hl hUl).mono ?_
  rintro e w' ⟨A1, c1, h1, _, h2, h3⟩
  exact ⟨A1, c1, h1, h2, h3⟩

set_option maxRecDepth 100000 in
set_option maxHeartbeats 600000 in
theorem refHall_any (near : List (List Int)) (right : Int) (A : Option Addr) (c : Nat) (w : World) (hR : RowsAt w.heap.size w A near) (hn : near.length ≤ 1000) (hl : ∀ r ∈ near, r.length ≤ 1000) (hUl : near.flatten.length ≤ 1000) :
    Calls Try.prog 18 #[.slice A near.length c, .int .i64 right] w (HallPost (near.map (rowOf right)) w) := by
  obtain ⟨l, hll⟩ : ∃ l, l = near.map (rowOf right) := ⟨_, rfl⟩
  obtain ⟨m, hm⟩ : ∃ m, m = mostOf l := ⟨_, rfl⟩
  have hml : m.length = near.length := by rw [hm, mostOf_length, hll]; simp
  have HC1 := Lib.hid (refMost_near hll hm c w hR hn hl hUl)
  have HOF := Lib.hid (most_of hll hm)
  have HFR : Hid (∀ k : Nat, k < near.length → ∀ u ∈ [(k : Int)], ∃ i : Nat, u = i ∧ i < l.length) := by
    intro k hk u hu
    rw [List.mem_singleton] at hu
    exact ⟨k, hu, by rw [hll]; simpa using hk⟩
  rw [← hll]
  have HR := Lib.hid hR
  have HLL := Lib.hid hll
  have HL := Lib.hid hl
  have HM := Lib.hid hm
  have HML := Lib.hid hml
  clear hR hll hl hm hml
  go_enter Try.func18, Try.ntmps18
  go_wp2_with (go_at_call 17; refine HC1.out.mono ?_; rintro e w1 ⟨A1, c1, rfl, hi1, hb1⟩; have HB1 := Lib.hid hb1; have HI1 := Lib.hid hi1; clear hb1 hi1)
  clear HC1
  have HLOW0 : Hid (∀ j (h : j < m.length), j < 0 → 0 ≤ m[j]) := by intro j h hj; omega
  go_loop [8] (fun u => ∃ k, k ≤ near.length ∧ u = .int .i64 (k : Nat) ∧ Hid (∀ j (h : j < m.length), j < k → 0 ≤ m[j])) (fun u => near.length - (intOf u).toNat)
  case atStart => exact ⟨0, Nat.zero_le _, rfl, HLOW0⟩
  case round =>
    clear HLOW0
    obtain ⟨k, hk, rfl, HLOW⟩ := hrel
    by_cases hlt : k < near.length
    · have hkm : k < m.length := by have := HML.out; omega
      obtain ⟨ad, rfl, hx⟩ := HI1.out.cell k hkm
      by_cases hx0 : m[k] < 0
      · obtain ⟨bs, hbs⟩ := bare_first (i := 0) hkm HLOW.out hx0
        rw [Nat.zero_add] at hbs
        have HBS := Lib.hid hbs
        have hB2 : Below w1.heap.size w1 (w1.alloc (.cells #[.int .i64 (k : Int)] 3)) := (Below.refl _ _).alloc (Nat.le_refl _) _
        have HC := Lib.hid (come_any (n1 := near.length) (nf := 1) HLL.out c c1 1 (w1.alloc (.cells #[.int .i64 (k : Int)] 3)) (HR.out.later (HB1.out.trans (hB2.mono HB1.out.size))).now (HI1.out.later hB2).now (one_at w1 k) hn HL.out hUl HML.out rfl HML.out HOF.out (HFR.out k hlt) (by simp))
        have HB2 := Lib.hid (HB1.out.trans (hB2.mono HB1.out.size))
        obtain ⟨x, hxe⟩ : ∃ x, x = m[k] := ⟨_, rfl⟩
        rw [← hxe] at hx hx0
        clear hxe hB2 hbs
        go_wp2_with (go_at_call 31; refine HC.out.mono ?_; rintro e w2 ⟨A2, c2, ys, A3, c3, zs, rfl, hi2, hi3, hs2, hs3, hb2⟩; have HB3 := Lib.hid (HB2.out.trans (hb2.mono HB2.out.size)); have HI2 := Lib.hid hi2; have HI3 := Lib.hid hi3; have HS2 := Lib.hid hs2; have HS3 := Lib.hid hs3; clear hi2 hi3 hs2 hs3 hb2)
        go_ret3
        exact .inr ⟨k, bs, A2, c2, ys, A3, c3, zs, by rw [← HM.out]; exact HBS.out, rfl, HI2.out, HI3.out, by rw [← HM.out]; exact HS2.out, by rw [← HM.out]; exact HS3.out, HB3.out⟩
      · have HLOW' : Hid (∀ j (h : j < m.length), j < k + 1 → 0 ≤ m[j]) := by
          intro j h hj
          by_cases e : j = k
          · subst e; omega
          · exact HLOW.out j h (by omega)
        obtain ⟨x, hxe⟩ : ∃ x, x = m[k] := ⟨_, rfl⟩
        rw [← hxe] at hx hx0
        clear hxe
        go_wp2
        go_round
        case rel => exact ⟨k + 1, by omega, by go_num, HLOW'⟩
        case measure => simp [intOf]; omega
    · have HBN := Lib.hid (bare_none (m := m) (fun j h => HLOW.out j h (by have := HML.out; omega)))
      go_wp2
      go_ret3
      exact .inl ⟨by rw [← HM.out]; exact HBN.out, rfl, HB1.out⟩

theorem lone_set2 {l : List (List Int)} {m fr ys : List Int} (h : IsSet ys (LeftOf l m fr)) :
    IsSet (idxFrom (lone ys) 0 m) (fun n => ∃ i : Nat, n = i ∧ (∃ x, m[i]? = some x ∧ 0 ≤ x) ∧ ¬ Come (rowF l) (ofM m) (fun i => (i : Int) ∈ fr) i) := by
  have hm : ∀ j : Nat, (j : Int) ∈ ys ↔ Come (rowF l) (ofM m) (fun i => (i : Int) ∈ fr) j := by
    intro j
    rw [h.2]
    constructor
    · rintro ⟨i, e, hi⟩
      have : j = i := by omega
      subst this
      exact hi
    · intro hj; exact ⟨j, rfl, hj⟩
  refine ⟨idx_rise _ _ _, fun n => ?_⟩
  rw [mem_idx]
  constructor
  · rintro ⟨j, e, x, hx, hp⟩
    simp only [Nat.zero_add, lone, Bool.and_eq_true, decide_eq_true_eq, Bool.not_eq_true', decide_eq_false_iff_not] at hp e
    exact ⟨j, e, ⟨x, hx, hp.1⟩, fun hc => hp.2 ((hm j).2 hc)⟩
  · rintro ⟨j, e, ⟨x, hx, h0⟩, hc⟩
    refine ⟨j, by simpa using e, x, hx, ?_⟩
    simp only [Nat.zero_add, lone, Bool.and_eq_true, decide_eq_true_eq, Bool.not_eq_true', decide_eq_false_iff_not]
    exact ⟨h0, fun q => hc ((hm j).1 q)⟩

set_option maxRecDepth 100000 in
set_option maxHeartbeats 600000 in
theorem refCover_any (near : List (List Int)) (right : Int) (A : Option Addr) (c : Nat) (w : World) (hR : RowsAt w.heap.size w A near) (hn : near.length ≤ 1000) (hl : ∀ r ∈ near, r.length ≤ 1000) (hUl : near.flatten.length ≤ 1000) :
    Calls Try.prog 20 #[.slice A near.length c, .int .i64 right] w (CoverPost (near.map (rowOf right)) w) := by
  obtain ⟨l, hll⟩ : ∃ l, l = near.map (rowOf right) := ⟨_, rfl⟩
  obtain ⟨m, hm⟩ : ∃ m, m = mostOf l := ⟨_, rfl⟩
  have hml : m.length = near.length := by rw [hm, mostOf_length, hll]; simp
  have HC1 := Lib.hid (refMost_near hll hm c w hR hn hl hUl)
  have HOF := Lib.hid (most_of hll hm)
  have HLEN : Hid (l.length = near.length) := by show _ = _; rw [hll]; simp
  have HFR : Hid (∀ u ∈ bareFrom 0 m, ∃ i : Nat, u = i ∧ i < l.length) := by
    intro u hu
    obtain ⟨i, hi, x, hx, hx0⟩ := (mem_bare m u).1 hu
    exact ⟨i, hi, by have := (List.getElem?_eq_some_iff.1 hx).1; have := HLEN.out; omega⟩
  rw [← hll]
  have HR := Lib.hid hR
  have HLL := Lib.hid hll
  have HL := Lib.hid hl
  have HM := Lib.hid hm
  have HML := Lib.hid hml
  have hm1000 : m.length ≤ 1000 := by omega
  clear hR hll hl hm hml
  go_enter Try.func20, Try.ntmps20
  go_wp2_with (go_at_call 17; refine HC1.out.mono ?_; rintro e w1 ⟨A1, c1, rfl, hi1, hb1⟩; have HB1 := Lib.hid hb1; have HI1 := Lib.hid hi1; clear hb1 hi1)
  clear HC1
  have H0 : Hid ((w1.alloc (.cells #[] 3)).ownsRow w1.heap.size 3 1 (.slice (some ⟨w1.heap.size, 0, none⟩) 0 0) (bareFrom 0 (m.take 0)).length (ints (bareFrom 0 (m.take 0)))) := World.ownsRow_made (e := 3) (base := w1.heap.size) (size := 1) w1 #[] 0 (Nat.le_refl _) (by unfold maxLen; omega) rfl
  go_loopw [7, 8] (fun v u wr => ∃ k, k ≤ near.length ∧ u = .int .i64 (k : Nat) ∧ Hid (wr.ownsRow w1.heap.size 3 1 v (bareFrom 0 (m.take k)).length (ints (bareFrom 0 (m.take k)))) ∧ Hid (Below w1.heap.size w1 wr)) (fun _ u _ => near.length - (intOf u).toNat)
  case atStart => exact ⟨0, Nat.zero_le _, rfl, H0, (Below.refl _ _).alloc (Nat.le_refl _) _⟩
  case round =>
    clear H0
    obtain ⟨k, hk, rfl, HO, HB⟩ := hrel
    by_cases hlt : k < near.length
    · have hkm : k < m.length := by have := HML.out; omega
      obtain ⟨ad, rfl, hx⟩ := (HI1.out.later HB.out).cell k hkm
      have hsn := bare_snoc m k hkm
      obtain ⟨x, hxe⟩ : ∃ x, x = m[k] := ⟨_, rfl⟩
      rw [← hxe] at hx hsn
      clear hxe
      by_cases h0 : x < 0
      · rw [if_pos h0] at hsn
        have HSN := Lib.hid hsn
        have hle := bareFrom_le (m.take k) 0
        have hlt2 : (m.take k).length ≤ m.length := by rw [List.length_take]; omega
        obtain ⟨g', cap', w', hap, hown', hgr⟩ := app_ints (ty := 25) Try.underlying25 info3 HO.out (k : Int) (by omega) HB.out.size
        have HAP := Lib.hid hap
        have HO' : Hid (w'.ownsRow w1.heap.size 3 1 (.slice (some ⟨g', 0, none⟩) ((bareFrom 0 (m.take k)).length + 1) cap') (bareFrom 0 (m.take (k + 1))).length (ints (bareFrom 0 (m.take (k + 1))))) := by rw [HSN.out]; exact hown'
        have HB' := Lib.hid (below_grown HB.out hgr HB.out.size (own_ge HO.out))
        clear hsn hle hlt2 hap hown' hgr
        go_wp2_with (at_builtin; refine wpList_append_run rfl _ _ 25 rfl rfl rfl HAP.out ?_)
        go_roundw
        case rel => exact ⟨k + 1, by omega, by go_num, HO', HB'⟩
        case measure => simp [intOf]; omega
      · rw [if_neg h0] at hsn
        have HO' : Hid (wr.ownsRow w1.heap.size 3 1 u7 (bareFrom 0 (m.take (k + 1))).length (ints (bareFrom 0 (m.take (k + 1))))) := by rw [hsn]; exact HO.out
        clear hsn
        go_wp2
        go_roundw
        case rel => exact ⟨k + 1, by omega, by go_num, HO', HB⟩
        case measure => simp [intOf]; omega
    · have e : m.take k = m := List.take_of_length_le (by have := HML.out; omega)
      rw [e] at HO
      have hble := bareFrom_le m 0
      obtain ⟨A2, c2, rfl, _, hi⟩ := Ints.of_own HO.out
      have HBB := Lib.hid (HB1.out.trans (HB.out.mono HB1.out.size))
      have HI1' := Lib.hid (HI1.out.later HB.out).now
      have HC := Lib.hid (come_any (n1 := near.length) (nf := (bareFrom 0 m).length) HLL.out c c1 c2 wr (HR.out.later HBB.out).now HI1'.out hi hn HL.out hUl HML.out rfl HML.out HOF.out HFR.out (bare_rise m 0))
      clear e hi HO
      go_wp2_with (go_at_call 31; refine HC.out.mono ?_; rintro e w3 ⟨A3, c3, ys, A4, c4, zs, rfl, hi3, hi4, hs3, hs4, hb3⟩; have HB3 := Lib.hid (HBB.out.trans (hb3.mono HBB.out.size)); have HI13 := Lib.hid (HI1'.out.later hb3).now; have HI3 := Lib.hid hi3; have HI4 := Lib.hid hi4; have HS3 := Lib.hid hs3; have HS4 := Lib.hid hs4; clear hi3 hi4 hs3 hs4 hb3)
      have hyl : ys.length ≤ 1000 := by
        have h1 : ∀ u ∈ ys, u ∈ (List.range l.length).map (fun k : Nat => (k : Int)) := by
          intro u hu
          obtain ⟨i, rfl, hi⟩ := (HS3.out.2 u).1 hu
          exact List.mem_map.2 ⟨i, List.mem_range.2 (Come.lt HFR.out (by have := HML.out; have := HLEN.out; omega) hi), rfl⟩
        have h2 := nodup_le (rising_nodup HS3.out.1) h1
        have := HLEN.out
        simp at h2
        omega
      clear HC HB1 HB HBB HI1 HI1' 
      have H1 : Hid ((w3.alloc (.cells #[] 3)).ownsRow w3.heap.size 3 1 (.slice (some ⟨w3.heap.size, 0, none⟩) 0 0) (idxFrom (lone ys) 0 (m.take 0)).length (ints (idxFrom (lone ys) 0 (m.take 0)))) := World.ownsRow_made (e := 3) (base := w3.heap.size) (size := 1) w3 #[] 0 (Nat.le_refl _) (by unfold maxLen; omega) rfl
      go_loopw [11, 12] (fun v u wr => ∃ k, k ≤ near.length ∧ u = .int .i64 (k : Nat) ∧ Hid (wr.ownsRow w3.heap.size 3 1 v (idxFrom (lone ys) 0 (m.take k)).length (ints (idxFrom (lone ys) 0 (m.take k)))) ∧ Hid (Below w3.heap.size w3 wr)) (fun _ u _ => near.length - (intOf u).toNat)
      case atStart => exact ⟨0, Nat.zero_le _, rfl, H1, (Below.refl _ _).alloc (Nat.le_refl _) _⟩
      case round =>
        clear H1
        obtain ⟨k, hk, rfl, HO, HB⟩ := hrel
        by_cases hlt : k < near.length
        · have hkm : k < m.length := by have := HML.out; omega
          obtain ⟨ad, rfl, hx⟩ := (HI13.out.later HB.out).cell k hkm
          have hsn := idx_snoc (lone ys) m k hkm
          obtain ⟨x, hxe⟩ : ∃ x, x = m[k] := ⟨_, rfl⟩
          rw [← hxe] at hx hsn
          clear hxe
          by_cases h0 : 0 ≤ x
          · by_cases hs : (k : Int) ∈ ys
            · have HD := Lib.hid (has_near (q := true) c3 ys (k : Int) wr ((HI3.out.later HB.out).now) rfl hyl (decide_eq_true hs))
              rw [if_neg (by simp [lone, h0, hs])] at hsn
              have HO' : Hid (wr.ownsRow w3.heap.size 3 1 u11 (idxFrom (lone ys) 0 (m.take (k + 1))).length (ints (idxFrom (lone ys) 0 (m.take (k + 1))))) := by rw [hsn]; exact HO.out
              clear hsn hs
              go_wp2_with (go_at_call 15; refine HD.out.mono ?_; rintro e w' ⟨rfl, rfl⟩)
              go_roundw
              case rel => exact ⟨k + 1, by omega, by go_num, HO', HB⟩
              case measure => simp [intOf]; omega
            · have HD := Lib.hid (has_near (q := false) c3 ys (k : Int) wr ((HI3.out.later HB.out).now) rfl hyl (decide_eq_false hs))
              rw [if_pos (by simp [lone, h0, hs])] at hsn
              have HSN := Lib.hid hsn
              have hle := idx_le (lone ys) (m.take k) 0
              have hlt2 : (m.take k).length ≤ m.length := by rw [List.length_take]; omega
              obtain ⟨g', cap', w', hap, hown', hgr⟩ := app_ints (ty := 25) Try.underlying25 info3 HO.out (k : Int) (by omega) HB.out.size
              have HAP := Lib.hid hap
              have HO' : Hid (w'.ownsRow w3.heap.size 3 1 (.slice (some ⟨g', 0, none⟩) ((idxFrom (lone ys) 0 (m.take k)).length + 1) cap') (idxFrom (lone ys) 0 (m.take (k + 1))).length (ints (idxFrom (lone ys) 0 (m.take (k + 1))))) := by rw [HSN.out]; exact hown'
              have HB' := Lib.hid (below_grown HB.out hgr HB.out.size (own_ge HO.out))
              clear hsn hle hlt2 hap hown' hgr hs
              go_wp2_with (first | (at_builtin; refine wpList_append_run rfl _ _ 25 rfl rfl rfl HAP.out ?_) | (go_at_call 15; refine HD.out.mono ?_; rintro e w' ⟨rfl, rfl⟩))
              go_roundw
              case rel => exact ⟨k + 1, by omega, by go_num, HO', HB'⟩
              case measure => simp [intOf]; omega
          · rw [if_neg (by simp [lone, h0])] at hsn
            have HO' : Hid (wr.ownsRow w3.heap.size 3 1 u11 (idxFrom (lone ys) 0 (m.take (k + 1))).length (ints (idxFrom (lone ys) 0 (m.take (k + 1))))) := by rw [hsn]; exact HO.out
            clear hsn
            go_wp2
            go_roundw
            case rel => exact ⟨k + 1, by omega, by go_num, HO', HB⟩
            case measure => simp [intOf]; omega
        · have e : m.take k = m := List.take_of_length_le (by have := HML.out; omega)
          rw [e] at HO
          obtain ⟨A5, c5, rfl, _, hi⟩ := Ints.of_own HO.out
          have HI := Lib.hid hi
          have HI4' := Lib.hid (HI4.out.later HB.out).now
          have HBB := Lib.hid (HB3.out.trans (HB.out.mono HB3.out.size))
          clear e hi HO
          go_wp2
          go_ret2
          exact ⟨A5, c5, _, A4, c4, zs, rfl, HI.out, HI4'.out, by rw [← HM.out]; exact lone_set2 HS3.out, by rw [← HM.out]; exact HS4.out, HBB.out⟩
end Go.Proofs.Ytopjfnkcmdifhaa
