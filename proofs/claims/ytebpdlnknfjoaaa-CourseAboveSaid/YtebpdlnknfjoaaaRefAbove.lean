/- The walk of the document's Above. -/
import Derived.Test.YtebpdlnknfjoaaaAbove
namespace Go.Proofs.Ytebpdlnknfjoaaa
set_option linter.unusedVariables false
set_option linter.unusedSimpArgs false
open Go.RowKit

def AbovePost (os : List Int) (cl : Int) (w : World) (e : Ending) (w' : World) : Prop := ∃ A' c' , e = .returned (.slice A' (aboveOf os cl).length c') ∧ IntsAt w'.heap.size w' A' (aboveOf os cl) ∧ Below w.heap.size w w'

set_option maxHeartbeats 800000 in
theorem refAbove_any {A : Option Addr} {os : List Int} (cl : Int) (c : Nat) (w : World) (hO : OversAt w.heap.size w A os) (hn : os.length ≤ 1000) :
    Calls Try.prog 24 #[.slice A os.length c, .int .i64 cl] w (AbovePost os cl w) := by
  have HO := Lib.hid hO
  have HIN0 : Hid (∀ m : Nat, (h : m < os.length) → cl = m → aboveOf os cl = climb os cl os.length os[m] []) := by
    rintro m h rfl
    unfold aboveOf
    rw [if_pos ⟨by omega, by omega⟩, Int.toNat_natCast, getD_at h]
  have HOUT0 : Hid (¬ (0 ≤ cl ∧ cl < os.length) → aboveOf os cl = []) := by
    intro h
    unfold aboveOf
    rw [if_neg h]
  have HOW0 : Hid (w.ownsRow w.heap.size 3 1 (.slice none 0 0) 0 (ints [])) := World.ownsRow_nil _ _ _ _
  clear hO
  go_enter Try.func24, Try.ntmps24
  go_wp2
  go_loopw [5, 6, 7] (fun v a i wr => ∃ (f n : Nat) (out : List Int) (x : Int), f + n = os.length ∧ out.length = n ∧ a = .int .i64 x ∧ i = .int .i64 (n : Nat) ∧ Hid (∀ m : Nat, (h : m < os.length) → x = m → aboveOf os cl = climb os cl f os[m] out) ∧ Hid (¬ (0 ≤ x ∧ x < os.length) → aboveOf os cl = out) ∧
    Hid (wr.ownsRow w.heap.size 3 1 v n (ints out)) ∧ Hid (Below w.heap.size w wr)) (fun _ _ i _ => os.length - (intOf i).toNat)
  case atStart => exact ⟨os.length, 0, [], cl, by simp, rfl, rfl, rfl, HIN0, HOUT0, HOW0, Below.refl _ _⟩
  case round =>
    clear HIN0 HOUT0 HOW0
    obtain ⟨f, n, out, x, hf, hon, rfl, rfl, HIN, HOUT, HOW, HB⟩ := hrel
    have how := HOW.out
    rw [← hon] at how
    obtain ⟨Ao, co, rfl, _, hio⟩ := Ints.of_own how
    have HIO := Lib.hid hio
    have HOWL := Lib.hid how
    have HON := Lib.hid hon
    have hol : out.length ≤ 1000 := by omega
    clear how hio HOW
    by_cases hlt : n < os.length
    · obtain ⟨f', rfl⟩ : ∃ f', f = f' + 1 := ⟨f - 1, by omega⟩
      by_cases hx : 0 ≤ x ∧ x < os.length
      · obtain ⟨hx0, hx1⟩ := hx
        obtain ⟨m, rfl⟩ : ∃ m : Nat, x = m := ⟨x.toNat, by omega⟩
        have hm : m < os.length := by omega
        obtain ⟨ad, rfl, hc⟩ := (HO.out.later HB.out).over m hm
        have hcl := HIN.out m hm rfl
        rw [climb] at hcl
        obtain ⟨y, hy⟩ : ∃ y, y = os[m] := ⟨_, rfl⟩
        rw [← hy] at hcl hc
        have HCL := Lib.hid hcl
        have hm0 : ¬ (m : Int) < 0 := by omega
        have hm1 : ¬ (os.length : Int) ≤ (m : Int) := by omega
        clear hy hcl hx0 hx1 HIN HOUT hon
        by_cases hy0 : y < 0
        · have HR : Hid (aboveOf os cl = out) := by show _ = _; rw [HCL.out, if_neg (by omega)]
          go_wp2
          go_ret
          exact ⟨Ao, co, congrArg (fun ys : List Int => Ending.returned (.slice Ao ys.length co)) HR.out.symm, by rw [HR.out]; exact HIO.out, HB.out⟩
        · by_cases hy1 : (os.length : Int) ≤ y
          · have HR : Hid (aboveOf os cl = out) := by show _ = _; rw [HCL.out, if_neg (by omega)]
            go_wp2
            go_ret
            exact ⟨Ao, co, congrArg (fun ys : List Int => Ending.returned (.slice Ao ys.length co)) HR.out.symm, by rw [HR.out]; exact HIO.out, HB.out⟩
          · by_cases hyc : y = cl
            · have hyb : ((y : Int) == cl) = true := by rw [beq_iff_eq]; exact hyc
              have HR : Hid (aboveOf os cl = out) := by show _ = _; rw [HCL.out, if_neg (fun h => h.2.2.1 hyc)]
              clear hyc
              go_wp2
              go_ret
              exact ⟨Ao, co, congrArg (fun ys : List Int => Ending.returned (.slice Ao ys.length co)) HR.out.symm, by rw [HR.out]; exact HIO.out, HB.out⟩
            · have hyb : ((y : Int) == cl) = false := by rw [beq_eq_false_iff_ne]; exact hyc
              by_cases hyo : y ∈ out
              · have HD := Lib.hid (has_near (q := true) co out y wr HIO.out rfl hol (decide_eq_true hyo))
                have HR : Hid (aboveOf os cl = out) := by show _ = _; rw [HCL.out, if_neg (fun h => h.2.2.2 hyo)]
                clear hyc hyo
                go_wp2_with (go_at_call 33; refine HD.out.mono ?_; rintro e w' ⟨rfl, rfl⟩)
                go_ret
                exact ⟨Ao, co, congrArg (fun ys : List Int => Ending.returned (.slice Ao ys.length co)) HR.out.symm, by rw [HR.out]; exact HIO.out, HB.out⟩
              · have HD := Lib.hid (has_near (q := false) co out y wr HIO.out rfl hol (decide_eq_false hyo))
                obtain ⟨g1, cap1, w1, hap, hown, hgr⟩ := app_ints (ty := 29) Try.underlying29 info_int HOWL.out y (by omega) HB.out.size
                have HAP := Lib.hid hap
                have hl1 : (out ++ [y]).length = n + 1 := by rw [List.length_append, HON.out]; rfl
                rw [hl1, HON.out] at hown
                have HOW' := Lib.hid hown
                have HB' := Lib.hid (below_grown HB.out hgr HB.out.size (own_ge HOWL.out))
                have HIN' : Hid (∀ q : Nat, (h : q < os.length) → y = q → aboveOf os cl = climb os cl f' os[q] (out ++ [y])) := by
                  rintro q h rfl
                  rw [HCL.out, if_pos ⟨by omega, by omega, hyc, hyo⟩, Int.toNat_natCast, getD_at h]
                have HOUT' : Hid (¬ (0 ≤ y ∧ y < os.length) → aboveOf os cl = out ++ [y]) := fun h => absurd ⟨by omega, by omega⟩ h
                have HCAP := Lib.hid (show Value.slice (some ⟨g1, 0, none⟩) (out.length + 1) cap1 = Value.slice (some ⟨g1, 0, none⟩) (n + 1) cap1 by rw [HON.out])
                clear hyc hyo hap hown hgr
                go_wp2_with (first | (at_builtin; refine wpList_append_run rfl _ _ 29 rfl rfl rfl HAP.out ?_) | (go_at_call 33; refine HD.out.mono ?_; rintro e w' ⟨rfl, rfl⟩))
                go_roundw
                case rel => exact ⟨f', n + 1, out ++ [y], y, by omega, hl1, rfl, by go_num, HIN', HOUT', (by rw [HCAP.out]; exact HOW'), HB'⟩
                case measure => simp [intOf]; omega
      · have HR : Hid (aboveOf os cl = out) := HOUT.out hx
        by_cases hx0 : x < 0
        · clear hx HIN HOUT hon
          go_wp2
          go_ret
          exact ⟨Ao, co, congrArg (fun ys : List Int => Ending.returned (.slice Ao ys.length co)) HR.out.symm, by rw [HR.out]; exact HIO.out, HB.out⟩
        · have hx1 : (os.length : Int) ≤ x := by omega
          clear hx HIN HOUT hon
          go_wp2
          go_ret
          exact ⟨Ao, co, congrArg (fun ys : List Int => Ending.returned (.slice Ao ys.length co)) HR.out.symm, by rw [HR.out]; exact HIO.out, HB.out⟩
    · have HR : Hid (aboveOf os cl = out) := by
        by_cases hx : 0 ≤ x ∧ x < os.length
        · obtain ⟨m, rfl⟩ : ∃ m : Nat, x = m := ⟨x.toNat, by omega⟩
          have := HIN.out m (by omega) rfl
          obtain rfl : f = 0 := by omega
          exact this
        · exact HOUT.out hx
      clear HIN HOUT hon
      go_wp2
      go_ret
      exact ⟨Ao, co, congrArg (fun ys : List Int => Ending.returned (.slice Ao ys.length co)) HR.out.symm, by rw [HR.out]; exact HIO.out, HB.out⟩
end Go.Proofs.Ytebpdlnknfjoaaa
