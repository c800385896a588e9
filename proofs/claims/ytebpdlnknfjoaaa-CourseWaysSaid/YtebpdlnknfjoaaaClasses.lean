/- The classes of a course: course.Classes and the document's. -/
import Derived.Test.YtebpdlnknfjoaaaInsert
import Derived.Test.YtebpdlnknfjoaaaCourse
import Derived.Test.YtebpdlnknfjoaaaCompact
namespace Go.Proofs.Ytebpdlnknfjoaaa
set_option linter.unusedVariables false
set_option linter.unusedSimpArgs false
open Go.RowKit

/-- All classes, as they come. -/
def flatOf (ws : List (List (List Int))) : List Int := ws.flatten.flatten
theorem flat_snoc {ws : List (List (List Int))} {k : Nat} (hk : k < ws.length) : flatOf (ws.take (k + 1)) = flatOf (ws.take k) ++ ws[k].flatten := by
  unfold flatOf
  rw [List.take_succ_eq_append_getElem hk]
  simp only [List.flatten_append, List.flatten_cons, List.flatten_nil, List.append_nil]
theorem flatten_snoc {ps : List (List Int)} {k : Nat} (hk : k < ps.length) : (ps.take (k + 1)).flatten = (ps.take k).flatten ++ ps[k] := by
  rw [List.take_succ_eq_append_getElem hk]
  simp only [List.flatten_append, List.flatten_cons, List.flatten_nil, List.append_nil]
/-- Small enough: 1000 ways at most, and so on. -/
def Small (ws : List (List (List Int))) : Prop := ws.length ≤ 1000 ∧ ∀ ps ∈ ws, ps.length ≤ 1000 ∧ ∀ p ∈ ps, p.length ≤ 1000

set_option maxHeartbeats 600000 in
theorem classes_any {B : Nat} {A : Option Addr} {ws : List (List (List Int))} (s : ByteArray) (c : Nat) (w : World) (hW : WaysAt B w A ws) (hsm : Small ws) :
    Calls Try.prog 14 #[.agg #[.string s, .slice A ws.length c]] w fun e w' => ∃ A' c' ys, e = .returned (.slice A' ys.length c') ∧ IntsAt w'.heap.size w' A' ys ∧ IsSet ys (fun x => x ∈ flatOf ws) ∧ Below w.heap.size w w' := by
  have HB0 := Lib.hid (alloc_below w (.cells #[.string s, .slice A ws.length c] 24))
  have HW := Lib.hid hW.now
  have HSM := Lib.hid hsm.2
  have h1000 := hsm.1
  clear hW hsm
  have HO0 : Hid ((w.alloc (.cells #[.string s, .slice A ws.length c] 24)).ownsRow w.heap.size 3 1 (.slice none 0 0) (flatOf (ws.take 0)).length (ints (flatOf (ws.take 0)))) := by
    show World.ownsRow _ _ _ _ _ _ _
    exact World.ownsRow_nil _ _ _ _
  go_enter Try.func14, Try.ntmps14
  go_wp2
  go_loopw [3, 11] (fun v i wr => ∃ (k : Nat) (L : List Int), k ≤ ws.length ∧ L.length ≤ 1000000 * k ∧ i = .int .i64 (k : Nat) ∧ Hid (L = flatOf (ws.take k)) ∧ Hid (wr.ownsRow w.heap.size 3 1 v L.length (ints L)) ∧ Hid (Below w.heap.size w wr)) (fun _ i _ => ws.length - (intOf i).toNat)
  case atStart => exact ⟨0, [], Nat.zero_le _, Nat.zero_le _, rfl, (by show _ = _; rfl), HO0, HB0⟩
  case round =>
    clear HO0 HB0
    obtain ⟨k, L, hk, hL, rfl, HL, HO, HB⟩ := hrel
    by_cases hlt : k < ws.length
    · obtain ⟨ad, A1, c1, rfl, _, hc0, hl1, hR0⟩ := HW.out k hlt
      have hc1 : wr.cell? (ad.add k) = some (.slice A1 ws[k].length c1) := (World.cell?_of_block (HB.out.block _ (cell_lt hc0))).trans hc0
      obtain ⟨hp1, hp2⟩ := HSM.out _ (List.getElem_mem hlt)
      have HSN := Lib.hid (flat_snoc hlt)
      have HR := Lib.hid hR0
      obtain ⟨ps, hps⟩ : ∃ ps, ps = ws[k] := ⟨_, rfl⟩
      rw [← hps] at hc1 hp1 hp2 HSN HR
      have HP2 := Lib.hid hp2
      have HBA := Lib.hid (HB.out.alloc HB.out.size (.cells #[.slice A1 ps.length c1] 42))
      have HOA := Lib.hid (HO.out.alloc (.cells #[.slice A1 ps.length c1] 42))
      clear hps hp2 hc0 hl1 hR0
      go_wp2
      have HE0 : Hid (L = L ++ (ps.take 0).flatten) := by show _ = _; simp
      go_loopw [3, 18] (fun v i wr => ∃ (j : Nat) (M : List Int), j ≤ ps.length ∧ M.length ≤ 1000000 * k + 1000 * j ∧ i = .int .i64 (j : Nat) ∧ Hid (M = L ++ (ps.take j).flatten) ∧ Hid (wr.ownsRow w.heap.size 3 1 v M.length (ints M)) ∧ Hid (Below w.heap.size w wr)) (fun _ i _ => ps.length - (intOf i).toNat)
      case atStart => exact ⟨0, L, Nat.zero_le _, by omega, rfl, HE0, HOA, HBA⟩
      case round =>
        clear HE0 HOA HBA HO HB
        obtain ⟨j, M, hj, hM, rfl, HE, HO, HB⟩ := hrel
        by_cases hjl : j < ps.length
        · obtain ⟨ad2, A2, c2, rfl, hc2, hl2, hia⟩ := (HR.out.later HB.out).row j hjl
          have hpl := HP2.out _ (List.getElem_mem hjl)
          have hfs := flatten_snoc hjl
          obtain ⟨p, hp⟩ : ∃ p, p = ps[j] := ⟨_, rfl⟩
          rw [← hp] at hc2 hpl hia hfs
          obtain ⟨v', w2, hap, hown, hgr⟩ := app_many (ty := 29) Try.underlying29 info_int HO.out hia (c := c2) (by omega) HB.out.size
          have HAP := Lib.hid hap
          have HO2 := Lib.hid hown
          have HB2 := Lib.hid (below_grown HB.out hgr HB.out.size (own_ge HO.out))
          have HE2 : Hid (M ++ p = L ++ (ps.take (j + 1)).flatten) := by show _ = _; rw [hfs, HE.out, List.append_assoc]
          have hM2 : (M ++ p).length ≤ 1000000 * k + 1000 * (j + 1) := by rw [List.length_append]; omega
          clear hap hown hgr hfs hp hia hl2
          go_wp2_with (at_builtin; refine wpList_append_run rfl _ _ 29 rfl rfl rfl HAP.out ?_)
          go_roundw
          case rel => exact ⟨j + 1, M ++ p, by omega, hM2, by go_num, HE2, HO2, HB2⟩
          case measure => simp [intOf]; omega
        · have HL' : Hid (M = flatOf (ws.take (k + 1))) := by
            show _ = _
            have he := HE.out
            rw [List.take_of_length_le (show ps.length ≤ j by omega)] at he
            rw [he, HSN.out, HL.out]
          go_wp2
          go_roundw
          case rel => exact ⟨k + 1, M, by omega, by omega, by go_num, HL', HO, HB⟩
          case measure => simp [intOf]; omega
    · have HF : Hid (L = flatOf ws) := by
        have := HL.out
        rwa [List.take_of_length_le (by omega)] at this
      have HC := Lib.hid (sort_own HO.out (by omega))
      have HSP := Lib.hid (compact_spec (sorted L) (sorted_le L))
      have hsl : (sorted L).length = L.length := by simp [sorted]
      have HGE := Lib.hid (own_ge HO.out)
      have HSL := Lib.hid hsl
      have hL9 : L.length ≤ 1000000000 := by omega
      clear HL HO hsl
      go_wp2_with (first
        | (go_at_call 34; refine HC.out.mono ?_; rintro e w2 ⟨rfl, ho2, hg2⟩; have HO2 := Lib.hid ho2; have HC2 := Lib.hid (compact_own ho2 (by rw [HSL.out]; omega)); have HB2 := Lib.hid (below_grown HB.out hg2 HB.out.size HGE.out); clear ho2 hg2)
        | (go_at_call 35; refine HC2.out.mono ?_; rintro e w3 ⟨A3, c3, rfl, ho3, hg3⟩; have HO3 := Lib.hid ho3; have HB3 := Lib.hid (below_grown HB2.out hg3 HB2.out.size HGE.out); clear ho3 hg3))
      go_ret
      obtain ⟨A5, c5, e5, hc5, hi5⟩ := Ints.of_own HO3.out
      cases e5
      exact ⟨A3, c3, _, rfl, hi5, ⟨HSP.out.1, fun x => by rw [HSP.out.2, (sorted_perm L).mem_iff, HF.out]⟩, HB3.out⟩
end Go.Proofs.Ytebpdlnknfjoaaa
