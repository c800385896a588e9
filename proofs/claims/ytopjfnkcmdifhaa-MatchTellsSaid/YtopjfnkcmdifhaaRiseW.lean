/- The walk of ref.rise: a rising row with one number more. -/
import Derived.Test.YtopjfnkcmdifhaaComeP
import Derived.Test.YtopjfnkcmdifhaaRefRight
import Derived.Test.YtopjfnkcmdifhaaApart
namespace Go.Proofs.Ytopjfnkcmdifhaa
set_option linter.unusedVariables false
set_option linter.unusedSimpArgs false
open Go.RowKit Kuhn

set_option maxHeartbeats 600000 in
theorem rise_near {A : Option Addr} {L : List Int} {n : Int} {p : Nat} (c : Nat) (w : World) (hI : IntsAt w.heap.size w A L) (hp : L.length = p) (hup : L.Pairwise (· < ·)) (hn : n ∉ L) (hlen : p ≤ 1000) :
    Calls Try.prog 38 #[.slice A p c, .int .i64 n] w fun e w' => ∃ A' c' ys, e = .returned (.slice A' ys.length c') ∧ ys.length = p + 1 ∧ IntsAt w'.heap.size w' A' ys ∧ IsSet ys (fun x => x = n ∨ x ∈ L) ∧ Below w.heap.size w w' := by
  subst hp
  have HC := Lib.hid (has_near (q := false) c L n w hI rfl hlen (decide_eq_false hn))
  have HI := Lib.hid hI
  have HUP := Lib.hid hup
  have HN := Lib.hid hn
  clear hI hup hn
  go_enter Try.func38, Try.ntmps38
  go_wp2_with (go_at_call 15; refine HC.out.mono ?_; rintro e w' ⟨rfl, rfl⟩)
  have H0 : Hid ((w.alloc (.cells #[] 3)).ownsRow w.heap.size 3 1 (.slice (some ⟨w.heap.size, 0, none⟩) 0 0) 0 (ints [])) := World.ownsRow_made (e := 3) (base := w.heap.size) (size := 1) w #[] 0 (Nat.le_refl _) (by unfold maxLen; omega) rfl
  go_loopw [5, 6] (fun v i wr => ∃ k g cap, k ≤ L.length ∧ v = .slice (some ⟨g, 0, none⟩) k cap ∧ i = .int .i64 (k : Nat) ∧ Hid (∀ x ∈ L.take k, x < n) ∧ Hid (wr.ownsRow w.heap.size 3 1 (.slice (some ⟨g, 0, none⟩) k cap) k (ints (L.take k))) ∧ Hid (Below w.heap.size w wr)) (fun _ i _ => L.length - (intOf i).toNat)
  case atStart => exact ⟨0, w.heap.size, 0, Nat.zero_le _, rfl, rfl, by intro x hx; simp at hx, by rw [List.take_zero]; exact H0, (Below.refl _ _).alloc (Nat.le_refl _) _⟩
  case round =>
    clear H0
    obtain ⟨k, g, cap, hk, rfl, rfl, HLOW, HO, HB⟩ := hrel
    have htl : (L.take k).length = k := by rw [List.length_take]; omega
    have HTL := Lib.hid htl
    clear htl
    have hcase : (∃ (h : k < L.length) (ad : Addr), A = some ad ∧ wr.cell? (ad.add k) = some (.int .i64 L[k]) ∧ L[k] < n) ∨ (k < L.length ∧ ∃ (x : Int) (ad : Addr), A = some ad ∧ wr.cell? (ad.add k) = some (.int .i64 x) ∧ ¬ x < n ∧ Hid (∀ h : k < L.length, n ≤ L[k])) ∨ (¬ k < L.length ∧ Hid (∀ h : k < L.length, n ≤ L[k])) := by
      by_cases hlt : k < L.length
      · obtain ⟨ad, e, hx⟩ := (HI.out.later HB.out).cell k hlt
        by_cases hxn : L[k] < n
        · exact .inl ⟨hlt, ad, e, hx, hxn⟩
        · exact .inr (.inl ⟨hlt, L[k], ad, e, hx, hxn, fun _ => Int.not_lt.1 hxn⟩)
      · exact .inr (.inr ⟨hlt, fun h => absurd h hlt⟩)
    rcases hcase with ⟨hlt, ad, rfl, hx, hxn⟩ | ⟨hlt, x, ad, rfl, hx, hxn, HST⟩ | ⟨hlt, HST⟩
    · have htk : L.take (k + 1) = L.take k ++ [L[k]] := List.take_succ_eq_append_getElem hlt
      have ho : wr.ownsRow w.heap.size 3 1 (.slice (some ⟨g, 0, none⟩) k cap) (L.take k).length (ints (L.take k)) := by rw [HTL.out]; exact HO.out
      obtain ⟨x, hxe⟩ : ∃ x, x = L[k] := ⟨_, rfl⟩
      rw [← hxe] at hx hxn htk
      obtain ⟨g', cap', w', hap, hown, hgr⟩ := app_ints (ty := 25) Try.underlying25 info3 ho x (by rw [HTL.out]; omega) HB.out.size
      rw [HTL.out] at hap hown
      have HAP := Lib.hid hap
      have HO' : Hid (w'.ownsRow w.heap.size 3 1 (.slice (some ⟨g', 0, none⟩) (k + 1) cap') (k + 1) (ints (L.take (k + 1)))) := by
        have := hown
        rw [List.length_append, HTL.out] at this
        rw [htk]
        exact this
      have HLOW' : Hid (∀ x ∈ L.take (k + 1), x < n) := by
        intro y hy
        rw [htk, List.mem_append, List.mem_singleton] at hy
        rcases hy with hy | rfl
        · exact HLOW.out y hy
        · exact hxn
      have HB' := Lib.hid (below_grown HB.out hgr HB.out.size (own_ge HO.out))
      clear hap hown hgr ho hxe htk
      go_wp2_with (at_builtin; refine wpList_append_run rfl _ _ 25 rfl rfl rfl HAP.out ?_)
      go_roundw
      case rel => exact ⟨k + 1, g', cap', by omega, rfl, by go_num, HLOW', HO', HB'⟩
      case measure => simp [intOf]; omega
    all_goals
      have ho : wr.ownsRow w.heap.size 3 1 (.slice (some ⟨g, 0, none⟩) k cap) (L.take k).length (ints (L.take k)) := by rw [HTL.out]; exact HO.out
      obtain ⟨g1, cap1, w1, hap, hown, hgr⟩ := app_ints (ty := 25) Try.underlying25 info3 ho n (by rw [HTL.out]; omega) HB.out.size
      rw [HTL.out] at hap hown
      have HAP := Lib.hid hap
      have HO1 : Hid (w1.ownsRow w.heap.size 3 1 (.slice (some ⟨g1, 0, none⟩) (k + 1) cap1) (k + 1) (ints (L.take k ++ n :: (L.take k).drop k))) := by
        have := hown
        rw [List.length_append, HTL.out] at this
        rw [List.drop_eq_nil_of_le (by rw [HTL.out]; exact Nat.le_refl _)]
        exact this
      have HB1 := Lib.hid (below_grown HB.out hgr HB.out.size (own_ge HO.out))
      clear hap hown hgr ho HO HB
      go_wp2_with (at_builtin; refine wpList_append_run rfl _ _ 25 rfl rfl rfl HAP.out ?_)
      clear HAP
      go_loopw [5, 8] (fun v i wr => ∃ j g cap, k ≤ j ∧ j ≤ L.length ∧ v = .slice (some ⟨g, 0, none⟩) (j + 1) cap ∧ i = .int .i64 (j : Nat) ∧ Hid (wr.ownsRow w.heap.size 3 1 (.slice (some ⟨g, 0, none⟩) (j + 1) cap) (j + 1) (ints (L.take k ++ n :: (L.take j).drop k))) ∧ Hid (Below w.heap.size w wr)) (fun _ i _ => L.length - (intOf i).toNat)
      case atStart => exact ⟨k, g1, cap1, Nat.le_refl _, hk, rfl, rfl, HO1, HB1⟩
      case round =>
        clear HO1 HB1
        obtain ⟨j, g2, cap2, hkj, hj, rfl, rfl, HO, HB⟩ := hrel
        have HLJ : Hid ((L.take k ++ n :: (L.take j).drop k).length = j + 1) := by
          show _ = _
          simp
          omega
        by_cases hjl : j < L.length
        · try (exfalso; omega)
          all_goals
            obtain ⟨ad2, e2, hx2⟩ := (HI.out.later HB.out).cell j hjl
            have htk : L.take (j + 1) = L.take j ++ [L[j]] := List.take_succ_eq_append_getElem hjl
            obtain ⟨y, hye⟩ : ∃ y, y = L[j] := ⟨_, rfl⟩
            rw [← hye] at hx2 htk
            have htk2 : L.take k ++ n :: (L.take (j + 1)).drop k = (L.take k ++ n :: (L.take j).drop k) ++ [y] := by
              rw [htk, List.drop_append_of_le_length (by rw [List.length_take]; omega)]
              simp
            have ho : wr.ownsRow w.heap.size 3 1 (.slice (some ⟨g2, 0, none⟩) (j + 1) cap2) (L.take k ++ n :: (L.take j).drop k).length (ints (L.take k ++ n :: (L.take j).drop k)) := by rw [HLJ.out]; exact HO.out
            obtain ⟨g3, cap3, w3, hap, hown, hgr⟩ := app_ints (ty := 25) Try.underlying25 info3 ho y (by rw [HLJ.out]; omega) HB.out.size
            rw [HLJ.out] at hap
            rw [← htk2, HLJ.out] at hown
            have HAP := Lib.hid hap
            have HO3 : Hid (w3.ownsRow w.heap.size 3 1 (.slice (some ⟨g3, 0, none⟩) (j + 1 + 1) cap3) (j + 1 + 1) (ints (L.take k ++ n :: (L.take (j + 1)).drop k))) := by
              have := hown
              rw [show (L.take k ++ n :: (L.take (j + 1)).drop k).length = j + 1 + 1 by rw [htk2, List.length_append, HLJ.out]; rfl] at this
              exact this
            have HB3 := Lib.hid (below_grown HB.out hgr HB.out.size (own_ge HO.out))
            clear hap hown hgr ho htk htk2 hye
            first | subst e2 | (cases e2)
            go_wp2_with (at_builtin; refine wpList_append_run rfl _ _ 25 rfl rfl rfl HAP.out ?_)
            go_roundw
            case rel => exact ⟨j + 1, g3, cap3, by omega, by omega, rfl, by go_num, HO3, HB3⟩
            case measure => simp [intOf]; omega
        · obtain rfl : j = L.length := by omega
          have hown := HO.out
          have hys : (L.take k ++ n :: L.drop k).length = L.length + 1 := by simp; omega
          rw [List.take_length, ← hys] at hown
          obtain ⟨A5, c5, e5, hc5, hi5⟩ := Ints.of_own hown
          cases e5
          have HI5 := Lib.hid hi5
          clear hown hi5 hc5
          go_wp2
          go_ret
          exact ⟨some ⟨g2, 0, none⟩, cap2, L.take k ++ n :: L.drop k, congrArg (fun q => Ending.returned (.slice (some ⟨g2, 0, none⟩) q cap2)) hys.symm, hys, HI5.out, rise_set HUP.out HN.out HLOW.out (fun h => Int.not_lt.2 (HST.out h)), HB.out⟩
end Go.Proofs.Ytopjfnkcmdifhaa
