/- The walk of course.over: which class of a way asks for which. -/
import Derived.Test.YtebpdlnknfjoaaaAbove
import Derived.Test.YtebpdlnknfjoaaaRow
import Derived.Test.YtebpdlnknfjoaaaMapIt
import Derived.Test.YtebpdlnknfjoaaaClasses
import Derived.Deep.LoopGhost
namespace Go.Proofs.Ytebpdlnknfjoaaa
set_option linter.unusedVariables false
set_option linter.unusedSimpArgs false
open Go.RowKit

/-- What a class of a way asks for: its Over, if that is of the way too. -/
def needOf (os T : List Int) (k : Int) : Option Int := if k ∈ T ∧ os.getD k.toNat 0 ∈ T then some (os.getD k.toNat 0) else none
def mapF (g : Int → Option Int) : Int → Option Value := fun k => (g k).map (.int .i64)
def doneF (os T done : List Int) : Int → Option Int := fun k => if k ∈ done then needOf os T k else none
theorem look_map {w : World} {b : Nat} {g : Int → Option Int} (h : MapV w b (mapF g)) (n : Int) : (Instr.lookup 52 (.map (some b)) (.int .i64 n) true).run Try.prog w = .ok (.tuple #[.int .i64 ((g n).getD 0), .bool (g n).isSome]) w := by
  rw [h.run_lookup Try.underlying52 Try.underlying3 (zeroInt w) n true]
  cases hp : g n <;> simp [mapF, hp]
theorem upd_done {os T done : List Int} {k o : Int} (h : needOf os T k = some o) : upd (mapF (doneF os T done)) k (some (.int .i64 o)) = mapF (doneF os T (done ++ [k])) := by
  funext x
  by_cases e : x = k
  · subst e; rw [upd_same]; simp [mapF, doneF, h]
  · rw [upd_other _ _ e]; simp [mapF, doneF, e]
theorem skip_done {os T done : List Int} {k : Int} (h : needOf os T k = none) : mapF (doneF os T done) = mapF (doneF os T (done ++ [k])) := by
  funext x
  by_cases e : x = k
  · subst e; simp [mapF, doneF, h]
  · simp [mapF, doneF, e]
theorem made_map (w : World) (os T : List Int) : MapV (w.alloc (.map #[] 0)) w.heap.size (mapF (doneF os T [])) := by
  have e : mapF (doneF os T []) = fun _ => none := by funext n; simp [mapF, doneF]
  rw [e]
  exact MapV.made w

def OverPost (os T : List Int) (w : World) (e : Ending) (w' : World) : Prop := ∃ m, e = .returned (.map (some m)) ∧ w.heap.size ≤ m ∧ MapV w' m (mapF (needOf os T)) ∧ Below w.heap.size w w'

set_option maxRecDepth 100000 in
set_option maxHeartbeats 800000 in
theorem over_any {A A1 : Option Addr} {os : List Int} {ps : List (List Int)} (c c1 : Nat) (w : World) (hO : OversAt w.heap.size w A os) (hR : RowsAt w.heap.size w A1 ps) (hp1 : ps.length ≤ 1000) (hp2 : ∀ p ∈ ps, p.length ≤ 1000) (hin : ∀ x ∈ ps.flatten, 0 ≤ x ∧ x < os.length) (hos : os.length ≤ 1000000) :
    Calls Try.prog 37 #[.slice A os.length c, .agg #[.slice A1 ps.length c1]] w (OverPost os ps.flatten w) := by
  have HB0 := Lib.hid (alloc_below w (.cells #[.slice A1 ps.length c1] 42))
  have hmm := @run_makeMap Try.prog
  have HO := Lib.hid hO
  have HR := Lib.hid hR
  have HP2 := Lib.hid hp2
  have HIN := Lib.hid hin
  have HBX : Hid ((w.alloc (.cells #[.slice A1 ps.length c1] 42)).cell? ⟨w.heap.size, 0, none⟩ = some (.slice A1 ps.length c1)) := by show _ = _; simp [go_sem]
  clear hO hR hp2 hin
  have HM0 : Hid (MapV ((w.alloc (.cells #[.slice A1 ps.length c1] 42)).alloc (.map #[] 0)) (w.heap.size + 1) (setF fun x => decide (x ∈ (ps.take 0).flatten))) := by
    show MapV _ _ _
    have := made_set (w.alloc (.cells #[.slice A1 ps.length c1] 42))
    simpa using this
  have HB1 : Hid (Below w.heap.size w ((w.alloc (.cells #[.slice A1 ps.length c1] 42)).alloc (.map #[] 0))) := HB0.out.alloc HB0.out.size _
  go_enter Try.func37, Try.ntmps37
  go_wp2
  clear HB0 HBX
  go_loopw [16] (fun i wr => ∃ (j : Nat), j ≤ ps.length ∧ i = .int .i64 (j : Nat) ∧ Hid (MapV wr (w.heap.size + 1) (setF fun x => decide (x ∈ (ps.take j).flatten))) ∧ Hid (Below w.heap.size w wr)) (fun i _ => ps.length - (intOf i).toNat)
  case atStart => exact ⟨0, Nat.zero_le _, rfl, HM0, HB1⟩
  case round =>
    clear HM0 HB1
    obtain ⟨j, hj, rfl, HM, HB⟩ := hrel
    by_cases hjl : j < ps.length
    · obtain ⟨ad2, A2, c2, rfl, hc2, hl2, hia⟩ := (HR.out.later HB.out).row j hjl
      have hpl := HP2.out _ (List.getElem_mem hjl)
      have HFS := Lib.hid (flatten_snoc hjl)
      obtain ⟨p, hp⟩ : ∃ p, p = ps[j] := ⟨_, rfl⟩
      rw [← hp] at hc2 hpl hia HFS
      have HIA := Lib.hid hia
      have HM1 : Hid (MapV wr (w.heap.size + 1) (setF fun x => decide (x ∈ (ps.take j).flatten ++ p.take 0))) := by
        show MapV _ _ _
        rw [List.take_zero, List.append_nil]
        exact HM.out
      obtain ⟨wo, rfl⟩ : ∃ wo : World, wo = wr := ⟨_, rfl⟩
      clear hp hia hl2 HM
      go_wp2
      go_loopw [22] (fun i wr => ∃ (t : Nat), t ≤ p.length ∧ i = .int .i64 (t : Nat) ∧ Hid (MapV wr (w.heap.size + 1) (setF fun x => decide (x ∈ (ps.take j).flatten ++ p.take t))) ∧ Hid (Below w.heap.size w wr) ∧ Hid (IntsAt w.heap.size wr A2 p)) (fun i _ => p.length - (intOf i).toNat)
      case atStart => exact ⟨0, Nat.zero_le _, rfl, HM1, HB, HIA⟩
      case round =>
        clear HM1 HB HIA
        obtain ⟨t, ht, rfl, HM, HB, HIA⟩ := hrel
        by_cases htl : t < p.length
        · obtain ⟨ad3, rfl, hx⟩ := HIA.out.cell t htl
          have htk : p.take (t + 1) = p.take t ++ [p[t]] := List.take_succ_eq_append_getElem htl
          obtain ⟨x, hxe⟩ : ∃ x, x = p[t] := ⟨_, rfl⟩
          rw [← hxe] at hx htk
          obtain ⟨w2, hr2, hm2, hg2, _⟩ := HM.out.run_update Try.underlying46 Try.underlying3 x (.bool true)
          have HM2 : Hid (MapV w2 (w.heap.size + 1) (setF fun x => decide (x ∈ (ps.take j).flatten ++ p.take (t + 1)))) := by
            show MapV _ _ _
            rw [htk, ← List.append_assoc, ← upd_setF]
            exact hm2
          have HB2 := Lib.hid (below_grown HB.out hg2 HB.out.size (fun q e => by cases e; omega))
          have HIA2 := Lib.hid (HIA.out.grown hg2 (fun q e => by cases e; omega))
          clear htk hxe hm2 hg2
          go_wp2
          go_roundw
          case rel => exact ⟨t + 1, by omega, by go_num, HM2, HB2, HIA2⟩
          case measure => simp [intOf]; omega
        · have HM2 : Hid (MapV wr (w.heap.size + 1) (setF fun x => decide (x ∈ (ps.take (j + 1)).flatten))) := by
            have := HM.out
            rw [List.take_of_length_le (show p.length ≤ t by omega), ← HFS.out] at this
            exact this
          go_wp2
          go_roundw
          case rel => exact ⟨j + 1, by omega, by go_num, HM2, HB⟩
          case measure => simp [intOf]; omega
    · have HM2 : Hid (MapV wr (w.heap.size + 1) (setF fun x => decide (x ∈ ps.flatten))) := by
        have := HM.out
        rwa [List.take_of_length_le (show ps.length ≤ j by omega)] at this
      obtain ⟨T, hT⟩ : ∃ T, T = ps.flatten := ⟨_, rfl⟩
      rw [← hT] at HM2 HIN
      have HTT := Lib.hid hT
      obtain ⟨wo, rfl⟩ : ∃ wo : World, wo = wr := ⟨_, rfl⟩
      clear hT HM
      obtain ⟨n0, w1, hrg, hit, hb1⟩ := (HM2.out.alloc (.map #[] 0)).run_range Try.underlying46
      have hsz : (wo.alloc (.map #[] 0)).heap.size = wo.heap.size + 1 := by simp
      rw [hsz] at hrg hit
      have HIT := Lib.hid hit
      have hlt1 := HM2.out.lt
      have hmo : w.heap.size + 1 ≠ wo.heap.size := by omega
      have HMO : Hid (MapV w1 wo.heap.size (mapF (doneF os T []))) := (made_map wo os T).move (hb1.block _ (by simp))
      have HB1 := Lib.hid ((HB.out.alloc HB.out.size (.map #[] 0)).trans (hb1.mono (by simp; have := HB.out.size; omega)))
      have HWS : Hid (w.heap.size ≤ wo.heap.size) := HB.out.size
      clear hit hb1 hsz
      go_wp2
      clear hrg
      go_loopg [11] n0 (fun n v wr => ∃ done, Hid (MapIt wr (w.heap.size + 1) (wo.heap.size + 1) (setF fun x => decide (x ∈ T)) done n) ∧ Hid (MapV wr wo.heap.size (mapF (doneF os T done))) ∧ Hid (Below w.heap.size w wr))
      case atStart => exact ⟨[], HIT, HMO, HB1⟩
      case round =>
        clear HIT HMO HB1
        obtain ⟨done, HIT, HMO, HB⟩ := hrel
        rcases HIT.out.next (P := Try.prog) 0 with ⟨-, hall, hrun⟩ | ⟨k, v, w2, n', hrun, hfk, hkd, hit2, hlt2, hg2, hsz2, hen⟩
        · have HE : Hid (MapV wr wo.heap.size (mapF (needOf os T))) := by
            have e : mapF (doneF os T done) = mapF (needOf os T) := by
              funext x
              unfold mapF doneF
              by_cases hx : x ∈ done
              · rw [if_pos hx]
              · rw [if_neg hx]
                have hxT : x ∉ T := fun h => hx (hall x (by simp [setF, h]))
                simp [needOf, hxT]
            have := HMO.out
            rw [e] at this
            exact this
          clear hall HIT HMO
          go_wp2
          go_ret
          exact ⟨_, rfl, HWS.out, by rw [← HTT.out]; exact HE.out, HB.out⟩
        · have hkT : k ∈ T := by
            by_cases hq : k ∈ T
            · exact hq
            · simp [setF, hq] at hfk
          obtain ⟨hk0, hk1⟩ := HIN.out k hkT
          obtain ⟨m, rfl⟩ : ∃ m : Nat, k = m := ⟨k.toNat, by omega⟩
          have hm : m < os.length := by omega
          have hne2 : some wo.heap.size ≠ some (wo.heap.size + 1) := by simp
          have hmo2 := HMO.out.lt
          have hb2 := below_grown HB.out hg2 HB.out.size (fun q e => by cases e; have := HWS.out; omega)
          have hmo3 : MapV w2 wo.heap.size (mapF (doneF os T done)) := HMO.out.move (hg2.block _ hmo2 hne2)
          obtain ⟨ad, rfl, hc⟩ := (HO.out.later hb2).over m hm
          have hneed : needOf os T m = if os[m] ∈ T then some os[m] else none := by
            unfold needOf
            rw [Int.toNat_natCast, getD_at hm]
            simp [hkT]
          obtain ⟨o, ho⟩ : ∃ o, o = os[m] := ⟨_, rfl⟩
          rw [← ho] at hc hneed
          have l1 := look_set hit2.mapV o
          by_cases hoT : o ∈ T
          · rw [if_pos hoT] at hneed
            simp only [hoT, decide_true] at l1
            obtain ⟨w3, hr3, hm3, hg3, _⟩ := hmo3.run_update Try.underlying52 Try.underlying3 (m : Int) (.int .i64 o)
            rw [upd_done hneed] at hm3
            have HMO3 := Lib.hid hm3
            have hil := hit2.lt
            have hiv := hit2.mapV.lt
            have HIT3 : Hid (MapIt w3 (w.heap.size + 1) (wo.heap.size + 1) (setF fun x => decide (x ∈ T)) (done ++ [(m : Int)]) n') := hit2.move (hg3.block _ hiv (by simp; omega)) (hg3.block _ hil (by simp))
            have HB3 := Lib.hid (below_grown hb2 hg3 hb2.size (fun q e => by cases e; exact HWS.out))
            clear hoT hneed ho hkT hk0 hk1 hfk hkd hit2 hg2 hsz2 hm3 hg3 hil hiv hne2 hmo2 hb2 hmo3 HIT HMO HB
            go_wp2
            go_roundg n'
            case measure => exact hlt2
            case rel => exact ⟨done ++ [(m : Int)], HIT3, HMO3, HB3⟩
          · rw [if_neg hoT] at hneed
            simp only [hoT, decide_false] at l1
            rw [skip_done hneed] at hmo3
            have HMO3 := Lib.hid hmo3
            have HIT3 := Lib.hid hit2
            have HB3 := Lib.hid hb2
            clear hoT hneed ho hkT hk0 hk1 hfk hkd hit2 hg2 hsz2 hne2 hmo2 hb2 hmo3 HIT HMO HB
            go_wp2
            go_roundg n'
            case measure => exact hlt2
            case rel => exact ⟨done ++ [(m : Int)], HIT3, HMO3, HB3⟩
end Go.Proofs.Ytebpdlnknfjoaaa
