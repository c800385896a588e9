/- The walk of match.Most. -/
import Derived.Test.YtopjfnkcmdifhaaMost
import Derived.Test.YtopjfnkcmdifhaaRowsW
import Derived.Test.YtopjfnkcmdifhaaGreedy
namespace Go.Proofs.Ytopjfnkcmdifhaa
set_option linter.unusedVariables false
set_option linter.unusedSimpArgs false
open Go.RowKit Kuhn

/-- What lies in memory at the head of Most's loop. -/
structure MoSt (l : List (List Int)) (A : Option Addr) (B mt : Nat) (w0 w : World) (T : List Int) (v : Value) (acc : List Int) : Prop where
  rows : RowsAt B w A l
  big : B ≤ w.heap.size
  mB : B ≤ mt
  mt : MapV w mt (setF fun n => decide (n ∈ T))
  own : w.ownsRow B 3 1 v acc.length (ints acc)
  low : w0.heap.size ≤ B
  below : Below w0.heap.size w0 w

def MostPost (l : List (List Int)) (w : World) (e : Ending) (w' : World) : Prop := ∃ v, e = .returned v ∧ Ints w'.heap.size w' v (mostOf l) ∧ Below w.heap.size w w'

theorem setF_free (T : List Int) : (setF fun n => !free T n) = setF fun n => decide (n ∈ T) := by
  funext n; simp [setF, free]

section
variable {l : List (List Int)} {A : Option Addr} {B mt : Nat} {w0 w w' : World} {T acc : List Int} {v v' : Value}
theorem map_ne_own {w : World} {base e n mt : Nat} {v : Value} {xs : List Value} {f : Int → Option Value} (h : w.ownsRow base e 1 v n xs) (hm : MapV w mt f) : some mt ≠ v.ownBlock := by
  intro e
  rcases h.2 with ⟨rfl, _⟩ | ⟨g, cap, cur, rfl, _, hb, _⟩
  · cases e
  · cases e
    obtain ⟨es, c, hb', _⟩ := hm
    rw [hb'] at hb
    cases hb
theorem MoSt.turned {T' : List Int} (h : MoSt l A B mt w0 w T v acc) (hg : w.grownBy w' (some mt)) (hm : MapV w' mt (setF fun n => decide (n ∈ T'))) : MoSt l A B mt w0 w' T' v acc := by
  have hmB := h.mB
  refine ⟨h.rows.grown hg (fun k e => by cases e; exact hmB), by have := hg.size; have := h.big; omega, hmB, hm, ?_, h.low, below_grown h.below hg (by have := h.low; have := h.big; omega) (fun k e => by cases e; have := h.low; omega)⟩
  refine own_move h.own fun k hk => hg.block k (own_lt h.own k hk) ?_
  rintro e
  cases e
  exact map_ne_own h.own h.mt hk.symm
theorem MoSt.take (h : MoSt l A B mt w0 w T v acc) (n : Int) : ∃ w', (Instr.mapUpdate 37 (.map (some mt)) (.int .i64 n) (.bool true)).run Try.prog w = .ok () w' ∧ MoSt l A B mt w0 w' (T ++ [n]) v acc ∧ Below B w w' := by
  obtain ⟨w', hr, hm, hg, _⟩ := h.mt.run_update Try.underlying37 Try.underlying3 n (.bool true)
  have hmB := h.mB
  refine ⟨w', hr, h.turned hg ?_, below_grown (Below.refl _ _) hg h.big (fun k e => by cases e; exact hmB)⟩
  have e : upd (setF fun n => decide (n ∈ T)) n (some (.bool true)) = setF fun m => decide (m ∈ T ++ [n]) := by
    funext m
    by_cases hm : m = n
    · subst hm; simp [upd, setF]
    · simp [upd, setF, hm]
  rw [← e]; exact hm
theorem MoSt.drop {n : Int} (h : MoSt l A B mt w0 w (T ++ [n]) v acc) (hn : n ∉ T) : ∃ w', (Builtin.delete_ #[37, 3] 0 #[.map (some mt), .int .i64 n]).run Try.prog w = .ok (.tuple #[]) w' ∧ MoSt l A B mt w0 w' T v acc ∧ Below B w w' := by
  obtain ⟨w', hr, hm, hg, _⟩ := h.mt.run_delete Try.underlying37 Try.underlying3 n 3 0
  have hmB := h.mB
  refine ⟨w', hr, h.turned hg ?_, below_grown (Below.refl _ _) hg h.big (fun k e => by cases e; exact hmB)⟩
  have e : upd (setF fun m => decide (m ∈ T ++ [n])) n none = setF fun m => decide (m ∈ T) := by
    funext m
    by_cases hm : m = n
    · subst hm; simp [upd, setF, hn]
    · simp [upd, setF, hm]
  rw [← e]; exact hm
theorem MoSt.later (h : MoSt l A B mt w0 w T v acc) (hb : Below w.heap.size w w') : MoSt l A B mt w0 w' T v acc :=
  ⟨h.rows.later hb, by have := hb.size; have := h.big; omega, h.mB, h.mt.below hb h.mt.lt, own_later h.own hb, h.low, h.below.trans (hb.mono (by have := h.low; have := h.big; omega))⟩
theorem MoSt.app (h : MoSt l A B mt w0 w T v acc) (x : Int) (hlen : acc.length < 100000) : ∃ g cap w', (Builtin.append_ #[25, 25] 25 #[v, .slice (some ⟨w.heap.size, 0, none⟩) 1 1]).run Try.prog (w.alloc (.cells #[.int .i64 x] 3)) = .ok (.slice (some ⟨g, 0, none⟩) (acc.length + 1) cap) w' ∧
    MoSt l A B mt w0 w' T (.slice (some ⟨g, 0, none⟩) (acc.length + 1) cap) (acc ++ [x]) := by
  obtain ⟨g, cap, w', hr, ho, hg⟩ := app_ints (ty := 25) Try.underlying25 info3 h.own x (by omega) h.big
  have hge := own_ge h.own
  refine ⟨g, cap, w', hr, h.rows.grown hg hge, by have := hg.size; have := h.big; omega, h.mB, h.mt.grown hg ?_, ho, h.low, below_grown h.below hg (by have := h.low; have := h.big; omega) (fun k e => by have := hge k e; have := h.low; omega)⟩
  exact map_ne_own h.own h.mt
theorem MoSt.call (h : MoSt l A B mt w0 w T v acc) (i c : Nat) (hi : i ≤ l.length) (hl : l.length ≤ 1000) (hl2 : ∀ i, (l.getD i []).length ≤ 1000) :
    Calls Try.prog 25 #[.slice A l.length c, .int .i64 i, .map (some mt)] w fun e w' => e = .returned (.int .i64 (mm (rowF l) (free T) i l.length)) ∧ MoSt l A B mt w0 w' T v acc ∧ Below B w w' := by
  refine (most_any (ok := free T) i w h.rows.now ?_ (by omega) hi (fun i => by have := hl2 i; omega)).mono ?_
  · rw [setF_free]; exact h.mt
  · rintro e w' ⟨rfl, hb⟩
    exact ⟨rfl, h.later hb, hb.mono h.big⟩
theorem MoSt.start {w1 : World} (hR : RowsAt w1.heap.size w1 A l) (hb : Below w0.heap.size w0 w1) : MoSt l A w1.heap.size w1.heap.size w0 (w1.alloc (.map #[] 0)) [] (.slice none 0 0) [] := by
  refine ⟨hR.later ((Below.refl _ _).alloc (Nat.le_refl _) _), by simp, Nat.le_refl _, ?_, World.ownsRow_nil _ _ _ _, hb.size, hb.alloc hb.size _⟩
  have e : (setF fun n => decide (n ∈ ([] : List Int))) = fun _ => none := by funext n; simp [setF]
  rw [e]
  exact MapV.made w1
theorem MoSt.make (h : MoSt l A B mt w0 w T v acc) (n : Nat) (hn : n ≤ 1000) : ∃ w', (Instr.makeSlice 25 (.int .i64 0) (.int .i64 n)).run Try.prog w = .ok (.slice (some ⟨w.heap.size, 0, none⟩) 0 n) w' ∧
    MoSt l A B mt w0 w' T (.slice (some ⟨w.heap.size, 0, none⟩) 0 n) [] := by
  obtain ⟨w', hr, ho, hg⟩ := make_zero (P := Try.prog) (t := 25) (e := 3) (bytes := 8) (base := B) (n := n) (z := .int .i64 0) (w := w) Try.underlying25 info3 (by omega) (by omega) h.big
  have h2 := h.later ⟨hg.os, hg.tape, hg.output, hg.size, fun k hk => hg.block k hk (by simp)⟩
  exact ⟨w', hr, h2.rows, h2.big, h2.mB, h2.mt, ho, h2.low, h2.below⟩
end

set_option maxHeartbeats 4000000 in
theorem Most_any (near : List (List Int)) (right : Int) (A : Option Addr) (c : Nat) (w : World) (hR : RowsAt w.heap.size w A near) (hn : near.length ≤ 1000) (hl : ∀ r ∈ near, r.length ≤ 1000) :
    Calls Try.prog 12 #[.slice A near.length c, .int .i64 right] w (MostPost (near.map (rowOf right)) w) := by
  have hmm := @run_makeMap Try.prog
  obtain ⟨l, hll⟩ : ∃ l, l = near.map (rowOf right) := ⟨_, rfl⟩
  have hlen : l.length = near.length := by rw [hll]; simp
  have HC : Hid (Calls Try.prog 24 #[.slice A near.length c, .int .i64 right] w fun e w' => ∃ A1, e = .returned (.slice A1 l.length l.length) ∧ RowsAt w'.heap.size w' A1 l ∧ Below w.heap.size w w') := by
    refine (rows_any near right A c w hR hn hl).mono ?_
    rintro e w' ⟨g, rfl, h1, h2⟩
    exact ⟨_, by rw [hlen], by rw [hll]; exact h1, h2⟩
  have HR1 := Lib.hid (show ∀ i, (l.getD i []).length ≤ 1000 by
    intro i
    rw [hll, List.getD_eq_getElem?_getD, List.getElem?_map]
    cases he : near[i]? with
    | none => simp
    | some r =>
      have h1 := hl r (List.mem_of_getElem? he)
      have h2 := Lib.compact_length_le (sorted (mayRow right r))
      have h3 := mayRow_le right r r.length
      rw [List.take_length] at h3
      have h4 : (sorted (mayRow right r)).length = (mayRow right r).length := by simp [sorted]
      simp only [Option.map_some, Option.getD_some, rowOf]
      omega)
  have hl1000 : l.length ≤ 1000 := by omega
  rw [← hll]
  clear hll hl hR hlen hn
  obtain ⟨s, hs⟩ : ∃ s, s = mm (rowF l) (free []) 0 l.length := ⟨_, rfl⟩
  have HS := Lib.hid hs
  clear hs
  go_enter Try.func12, Try.ntmps12
  go_wp2_with (first
    | (go_at_call 24; refine HC.out.mono ?_; rintro e w1 ⟨A1, rfl, hR1, hb1⟩; have HM1 := Lib.hid (MoSt.start hR1 hb1); have HC1 := Lib.hid (HM1.out.call 0 l.length (Nat.zero_le _) hl1000 HR1.out); rw [← HS.out] at HC1; clear hR1 hb1)
    | (go_at_call 25; refine HC1.out.mono ?_; rintro e w2 ⟨rfl, hm2, _⟩; obtain ⟨w3, hmk, hm3⟩ := hm2.make l.length hl1000; have HM3 := Lib.hid hm3; clear hm2 hm3))
  have HSL : Hid (s ≤ l.length) := by rw [HS.out]; exact mm_le _ _ _ _
  have HG0 : Hid (([] : List Int) ++ greedy l (l.length - 0) 0 [] s = mostOf l) := by rw [HS.out]; rfl
  have hsl : s ≤ 1000 := by have := HSL.out; omega
  clear HM1 HC1 HC HS
  go_loopw [7, 8, 25] (fun sz v u wr => ∃ (k : Nat) (T : List Int) (s1 : Nat) (acc : List Int), k ≤ l.length ∧ s1 ≤ 1000 ∧ sz = .int .i64 (s1 : Nat) ∧ u = .int .i64 (k : Nat) ∧ Hid (acc.length = k) ∧ Hid (MoSt l A1 w1.heap.size w1.heap.size w wr T v acc) ∧ Hid (acc ++ greedy l (l.length - k) k T s1 = mostOf l))
    (fun _ _ u _ => l.length - (intOf u).toNat)
  case atStart => exact ⟨0, [], s, [], Nat.zero_le _, hsl, rfl, rfl, rfl, HM3, HG0⟩
  case round =>
    clear HM3 HG0 HSL hsl hmk
    obtain ⟨k, T, s1, acc, hk, hs1, rfl, rfl, HA, HM, HG⟩ := hrel
    by_cases hlt : k < l.length
    · obtain ⟨ad, A', c', hA, hrow, hlc, hia⟩ := HM.out.rows.row k hlt
      subst hA
      have hr1000 := HR1.out k
      have hrf : rowF l k = l[k] := by unfold rowF; rw [List.getD_eq_getElem?_getD, List.getElem?_eq_getElem hlt, Option.getD_some]
      have hg := HG.out
      rw [show l.length - k = (l.length - (k + 1)) + 1 by omega, greedy] at hg
      obtain ⟨row, hrw⟩ : ∃ row, row = rowF l k := ⟨_, rfl⟩
      rw [← hrw] at hg hrf
      rw [← hrf] at hrow hlc hia
      have hr1000' : row.length ≤ 1000 := by rw [hrw]; exact hr1000
      have HGG := Lib.hid hg
      have HIA := Lib.hid hia
      have hB : w1.heap.size ≤ wr.heap.size := HM.out.big
      have HBB := Lib.hid hB
      clear hr1000 hrf hrw hg hia HG hB
      go_wp2
      clear hrow
      go_loopw [7, 10, 33] (fun sz m u wq => ∃ j, j ≤ row.length ∧ sz = .int .i64 (s1 : Nat) ∧ m = .int .i64 (-1) ∧ u = .int .i64 (j : Nat) ∧ Hid (MoSt l (some ad) w1.heap.size w1.heap.size w wq T u8 acc) ∧ Hid (IntsAt w1.heap.size wq A' row) ∧ Hid (row.find? (fits l k T s1) = (row.drop j).find? (fits l k T s1)))
        (fun _ _ u _ => row.length - (intOf u).toNat)
      case atStart => exact ⟨0, Nat.zero_le _, rfl, rfl, rfl, HM, HIA, rfl⟩
      case round =>
        clear HM HIA HBB
        obtain ⟨j, hj, rfl, rfl, rfl, HM, HIA, HF⟩ := hrel
        by_cases hjl : j < row.length
        · obtain ⟨ad2, rfl, hx⟩ := HIA.out.cell j hjl
          have hd : row.drop j = row[j] :: row.drop (j + 1) := List.drop_eq_getElem_cons hjl
          have hf := HF.out
          rw [hd, List.find?_cons] at hf
          obtain ⟨n, hn⟩ : ∃ n, n = row[j] := ⟨_, rfl⟩
          rw [← hn] at hf hx
          clear hd hn HF
          have l1 := look_set HM.out.mt n
          by_cases hnT : n ∈ T
          · have hfit : fits l k T s1 n = false := by simp [fits, hnT]
            rw [hfit] at hf
            have HF := Lib.hid hf
            simp only [hnT, decide_true] at l1
            clear hfit hf hnT
            go_wp2
            go_roundw
            case rel => exact ⟨j + 1, by omega, rfl, rfl, by go_num, HM, HIA, HF⟩
            case measure => simp [intOf]; omega
          · simp only [hnT, decide_false] at l1
            obtain ⟨wa, hra, hma, hba⟩ := HM.out.take n
            have HMA := Lib.hid hma
            have HIA1 := Lib.hid (HIA.out.below hba)
            obtain ⟨q, hq⟩ : ∃ q, q = mm (rowF l) (free (T ++ [n])) (k + 1) l.length := ⟨_, rfl⟩
            have hc := hma.call (k + 1) l.length (by omega) hl1000 HR1.out
            rw [← hq] at hc
            have HC := Lib.hid hc
            have hql : q ≤ 1000 := by rw [hq]; have := mm_le (rowF l) (free (T ++ [n])) (k + 1) l.length; omega
            have HNT := Lib.hid hnT
            have hfe : fits l k T s1 n = decide (q + 1 = s1) := by simp [fits, hnT, hq]
            rw [hfe] at hf
            clear hfe hq hc hma hba hnT
            by_cases hfit : q + 1 = s1
            · have ht : ((q : Int) == (s1 : Int) - 1) = true := by rw [beq_iff_eq]; omega
              simp only [hfit, decide_true] at hf
              have HF := Lib.hid hf
              have HFIT := Lib.hid hfit
              have hge : 1 ≤ s1 := by omega
              clear hf hfit
              go_wp2_with (first | (go_at_call 25; refine HC.out.mono ?_; rintro e wb ⟨rfl, hmb, _⟩; obtain ⟨g', cap', we, hap, hme⟩ := hmb.app n (by have := HA.out; omega); have HAP := Lib.hid hap; have HME := Lib.hid hme; clear hmb hap hme) | (at_builtin; refine wpList_append_run rfl _ _ 25 rfl rfl rfl HAP.out ?_))
              go_roundw
              case rel =>
                have hg := HGG.out
                rw [HF.out] at hg
                refine ⟨k + 1, T ++ [n], s1 - 1, acc ++ [n], by omega, by omega, by go_num, by go_num, ?_, HME, ?_⟩
                · show (acc ++ [n]).length = k + 1
                  simp [HA.out]
                · show acc ++ [n] ++ _ = _
                  rw [← hg]
                  simp
              case measure => simp [intOf]; omega
            · have ht : ((q : Int) == (s1 : Int) - 1) = false := by rw [beq_eq_false_iff_ne]; omega
              simp only [hfit, decide_false] at hf
              have HF := Lib.hid hf
              clear hf hfit
              go_wp2_with (go_at_call 25; refine HC.out.mono ?_; rintro e wb ⟨rfl, hmb, hbb⟩; obtain ⟨wd, hrd, hmd, hbd⟩ := hmb.drop HNT.out; have HMB := Lib.hid hmd; have HIA2 := Lib.hid ((HIA1.out.below hbb).below hbd); clear hmb hbb hmd hbd)
              go_roundw
              case rel => exact ⟨j + 1, by omega, rfl, rfl, by go_num, HMB, HIA2, HF⟩
              case measure => simp [intOf]; omega
        · have hf := HF.out
          rw [List.drop_eq_nil_of_le (by omega), List.find?_nil] at hf
          have HF2 := Lib.hid hf
          obtain ⟨g', cap', we, hap, hme⟩ := HM.out.app (-1) (by have := HA.out; omega)
          have HAP := Lib.hid hap
          have HME := Lib.hid hme
          clear hf HF hap hme
          go_wp2_with (at_builtin; refine wpList_append_run rfl _ _ 25 rfl rfl rfl HAP.out ?_)
          go_roundw
          case rel =>
            have hg := HGG.out
            rw [HF2.out] at hg
            refine ⟨k + 1, T, s1, acc ++ [-1], by omega, by omega, rfl, by go_num, ?_, HME, ?_⟩
            · show (acc ++ [-1]).length = k + 1
              simp [HA.out]
            · show acc ++ [-1] ++ _ = _
              rw [← hg]
              simp
          case measure => simp [intOf]; omega
    · have HG' : Hid (acc = mostOf l) := by have := HG.out; rw [show l.length - k = 0 by omega, greedy, List.append_nil] at this; exact this
      go_wp2
      go_ret
      refine ⟨_, rfl, ?_, HM.out.below⟩
      rw [← HG'.out]
      exact Ints.of_own HM.out.own

end Go.Proofs.Ytopjfnkcmdifhaa
