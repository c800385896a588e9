/- Which classes are above one: course.Above and the document's. -/
import Derived.Test.YtebpdlnknfjoaaaCourse
namespace Go.Proofs.Ytebpdlnknfjoaaa
set_option linter.unusedVariables false
set_option linter.unusedSimpArgs false
open Go.RowKit

def climb (os : List Int) (cl : Int) : Nat → Int → List Int → List Int
  | 0, _, out => out
  | f + 1, a, out => if 0 ≤ a ∧ a < os.length ∧ a ≠ cl ∧ a ∉ out then climb os cl f (os.getD a.toNat 0) (out ++ [a]) else out
def aboveOf (os : List Int) (cl : Int) : List Int := if 0 ≤ cl ∧ cl < os.length then climb os cl os.length (os.getD cl.toNat 0) [] else []

/-- Rows of different places, so many at most. -/
def InRange (n : Nat) (out : List Int) : Prop := out.Nodup ∧ ∀ x ∈ out, 0 ≤ x ∧ x < n
theorem InRange.len {n : Nat} {out : List Int} (h : InRange n out) : out.length ≤ n := by
  have := nodup_le (b := (List.range n).map (fun k : Nat => (k : Int))) h.1 (fun x hx => by
    obtain ⟨h1, h2⟩ := h.2 x hx
    exact List.mem_map.2 ⟨x.toNat, List.mem_range.2 (by omega), by omega⟩)
  simpa using this
theorem InRange.snoc {n : Nat} {out : List Int} {a : Int} (h : InRange n out) (h0 : 0 ≤ a) (h1 : a < n) (h2 : a ∉ out) : InRange n (out ++ [a]) := by
  refine ⟨?_, fun x hx => ?_⟩
  · rw [List.nodup_append]
    exact ⟨h.1, by simp, by intro x hx y hy e; simp at hy; subst hy; subst e; exact h2 hx⟩
  · rcases List.mem_append.1 hx with hx | hx
    · exact h.2 x hx
    · rw [List.mem_singleton.1 hx]; exact ⟨h0, h1⟩

def lenOf : Value → Nat
  | .slice _ n _ => n
  | _ => 0

theorem over_addr (ad : Addr) (n : Nat) : ad.add (n + 6) = ⟨(ad.add n).block, (ad.add n).off + 6, none⟩ := by
  unfold Addr.add
  by_cases h : n = 0
  · subst h; simp
  · simp [h, Nat.add_assoc]
/-- The Over of the k-th class, where the walk looks for it. -/
theorem OversAt.over {B : Nat} {w : World} {A : Option Addr} {os : List Int} (h : OversAt B w A os) (k : Nat) (hk : k < os.length) : ∃ ad, A = some ad ∧ w.cell? ⟨(ad.add (k * 7)).block, (ad.add (k * 7)).off + 6, none⟩ = some (.int .i64 os[k]) := by
  obtain ⟨ad, e, _, hc⟩ := h k hk
  exact ⟨ad, e, by rw [← over_addr]; exact hc⟩
theorem getD_at {os : List Int} {k : Nat} (hk : k < os.length) : os.getD k 0 = os[k] := by simp [List.getD_eq_getElem?_getD, List.getElem?_eq_getElem hk]

theorem there_any {A : Option Addr} {n c b : Nat} {q : Bool} (a : Int) (w : World) (hb : w.cell? ⟨b, 0, none⟩ = some (.slice A n c)) (hn : n ≤ 1000000) (hq : decide (0 ≤ a ∧ a < n) = q) :
    Calls Try.prog 47 #[.int .i64 a, .pointer (some ⟨b, 0, none⟩)] w fun e w' => e = .returned (.bool q) ∧ w = w' := by
  subst hq
  by_cases h0 : 0 ≤ a
  · go_enter Try.func47, Try.ntmps47
    go_wp2
    go_ret
    exact ⟨ret_bool (by rw [Bool.eq_iff_iff]; simp; omega), rfl⟩
  · go_enter Try.func47, Try.ntmps47
    go_wp2
    go_ret
    exact ⟨ret_bool (by rw [decide_eq_false (by omega)]; simp), rfl⟩

set_option maxHeartbeats 800000 in
theorem above_any {A : Option Addr} {os : List Int} (cl : Int) (c : Nat) (w : World) (hO : OversAt w.heap.size w A os) (hn : os.length ≤ 1000) :
    Calls Try.prog 23 #[.slice A os.length c, .int .i64 cl] w fun e w' => ∃ A' c' , e = .returned (.slice A' (aboveOf os cl).length c') ∧ IntsAt w'.heap.size w' A' (aboveOf os cl) ∧ Below w.heap.size w w' := by
  have HB0 := Lib.hid (alloc_below w (.cells #[.slice A os.length c] 32))
  have HO := Lib.hid hO
  have HBX : Hid ((w.alloc (.cells #[.slice A os.length c] 32)).cell? ⟨w.heap.size, 0, none⟩ = some (.slice A os.length c)) := by show _ = _; simp [go_sem]
  clear hO
  by_cases hcl : 0 ≤ cl ∧ cl < os.length
  · have HC := Lib.hid (there_any (q := true) cl (w.alloc (.cells #[.slice A os.length c] 32)) HBX.out (by omega) (decide_eq_true hcl))
    obtain ⟨k, rfl⟩ : ∃ k : Nat, cl = k := ⟨cl.toNat, by omega⟩
    have hk : k < os.length := by omega
    obtain ⟨ad, rfl, hc⟩ := (HO.out.later HB0.out).over k hk
    have hAO : aboveOf os k = climb os k os.length os[k] [] := by
      unfold aboveOf
      rw [if_pos hcl, Int.toNat_natCast, getD_at hk]
    obtain ⟨a, ha⟩ : ∃ a, a = os[k] := ⟨_, rfl⟩
    rw [← ha] at hc hAO
    have HAO := Lib.hid hAO
    clear hAO ha hcl
    have HIR0 : Hid (InRange os.length []) := ⟨List.nodup_nil, by simp⟩
    have HOW0 : Hid ((w.alloc (.cells #[.slice (some ad) os.length c] 32)).ownsRow (w.heap.size + 1) 3 1 (.slice none 0 0) 0 (ints [])) := World.ownsRow_nil _ _ _ _
    have HSZ0 : Hid (w.heap.size + 1 ≤ (w.alloc (.cells #[.slice (some ad) os.length c] 32)).heap.size) := by show _ ≤ _; simp
    go_enter Try.func23, Try.ntmps23
    go_wp2_with (go_at_call 47; refine HC.out.mono ?_; rintro e w' ⟨rfl, rfl⟩)
    clear hc HC
    go_loopw [5, 7] (fun v i wr => ∃ (f : Nat) (out : List Int) (x : Int), f + out.length = os.length ∧ i = .int .i64 x ∧ Hid (aboveOf os k = climb os k f x out) ∧ Hid (InRange os.length out) ∧ Hid (wr.ownsRow (w.heap.size + 1) 3 1 v out.length (ints out)) ∧ Hid (Below w.heap.size w wr) ∧
      Hid (wr.cell? ⟨w.heap.size, 0, none⟩ = some (.slice (some ad) os.length c)) ∧ Hid (w.heap.size + 1 ≤ wr.heap.size)) (fun v _ _ => os.length - lenOf v)
    case atStart => exact ⟨os.length, [], a, by simp, rfl, HAO, HIR0, HOW0, HB0, HBX, HSZ0⟩
    case round =>
      clear HAO HIR0 HOW0 HSZ0 HBX HB0
      obtain ⟨f, out, x, hf, rfl, HCL, HIR, HOW, HB, HBX, HSZ⟩ := hrel
      obtain ⟨Ao, co, rfl, _, hio⟩ := Ints.of_own HOW.out
      have hbx := HBX.out
      have hol : out.length ≤ 1000 := by omega
      by_cases hth : 0 ≤ x ∧ x < os.length
      · have HT := Lib.hid (there_any (q := true) x wr HBX.out (by omega) (decide_eq_true hth))
        obtain ⟨m, rfl⟩ : ∃ m : Nat, x = m := ⟨x.toNat, by omega⟩
        have hm : m < os.length := by omega
        by_cases hxk : (m : Int) = (k : Int)
        · have hne : ((m : Int) != (k : Int)) = false := by simp; omega
          have HR : Hid (aboveOf os k = out) := by
            show _ = _
            rw [HCL.out]
            cases f with
            | zero => rfl
            | succ f => rw [climb, if_neg (fun h => h.2.2.1 hxk)]
          have HIO := Lib.hid hio
          clear hxk hio hth
          go_wp2_with (go_at_call 47; refine HT.out.mono ?_; rintro e w' ⟨rfl, rfl⟩)
          go_ret
          exact ⟨Ao, co, congrArg (fun ys : List Int => Ending.returned (.slice Ao ys.length co)) HR.out.symm, by rw [HR.out]; exact HIO.out, HB.out⟩
        · have hne : ((m : Int) != (k : Int)) = true := by rw [bne_iff_ne]; exact hxk
          have hcon := contains_at (c := co) hio (by omega) (m : Int)
          by_cases hmo : (m : Int) ∈ out
          · have hcb : out.contains (m : Int) = true := by simpa using hmo
            rw [hcb] at hcon
            have HCON := Lib.hid hcon
            have HR : Hid (aboveOf os k = out) := by
              show _ = _
              rw [HCL.out]
              cases f with
              | zero => rfl
              | succ f => rw [climb, if_neg (fun h => h.2.2.2 hmo)]
            have HIO := Lib.hid hio
            clear hxk hio hth hmo hcb hcon
            go_wp2_with (first | (go_at_call 47; refine HT.out.mono ?_; rintro e w' ⟨rfl, rfl⟩) | (go_at_call 39; refine HCON.out.mono ?_; rintro e w' ⟨rfl, rfl⟩))
            go_ret
            exact ⟨Ao, co, congrArg (fun ys : List Int => Ending.returned (.slice Ao ys.length co)) HR.out.symm, by rw [HR.out]; exact HIO.out, HB.out⟩
          · have hcb : out.contains (m : Int) = false := by rw [← Bool.not_eq_true, List.contains_iff_mem]; exact hmo
            rw [hcb] at hcon
            have HCON := Lib.hid hcon
            have hir := HIR.out.snoc hth.1 hth.2 hmo
            have hlt := hir.len
            rw [List.length_append] at hlt
            simp only [List.length_singleton] at hlt
            obtain ⟨f', rfl⟩ : ∃ f', f = f' + 1 := ⟨f - 1, by omega⟩
            have HCL' : Hid (aboveOf os k = climb os k f' os[m] (out ++ [(m : Int)])) := by
              show _ = _
              rw [HCL.out, climb, if_pos ⟨hth.1, hth.2, hxk, hmo⟩, Int.toNat_natCast, getD_at hm]
            obtain ⟨g1, cap1, w1, hap, hown, hgr⟩ := app_ints (ty := 29) Try.underlying29 info_int HOW.out (m : Int) (by omega) HSZ.out
            have hge := own_ge HOW.out
            have hb1 := below_grown HB.out hgr HB.out.size (fun q e => by have := hge q e; omega)
            have hn1 : some w.heap.size ≠ (Value.slice Ao out.length co).ownBlock := fun e => by have := hge _ e.symm; omega
            have hbx1 := hgr.cell HBX.out hn1
            obtain ⟨ad2, e2, hc2⟩ := (HO.out.later hb1).over m hm
            cases e2
            obtain ⟨y, hy⟩ : ∃ y, y = os[m] := ⟨_, rfl⟩
            rw [← hy] at hc2 HCL'
            have HAP := Lib.hid hap
            have HOW' := Lib.hid hown
            have HB' := Lib.hid hb1
            have HBX' := Lib.hid hbx1
            have HIR' := Lib.hid hir
            have HSZ' : Hid (w.heap.size + 1 ≤ w1.heap.size) := Nat.le_trans HSZ.out hgr.size
            clear hxk hio hth hmo hcb hcon hir hap hown hgr hge hb1 hn1 hy
            go_wp2_with (first | (at_builtin; refine wpList_append_run rfl _ _ 29 rfl rfl rfl HAP.out ?_) | (go_at_call 47; refine HT.out.mono ?_; rintro e w' ⟨rfl, rfl⟩) | (go_at_call 39; refine HCON.out.mono ?_; rintro e w' ⟨rfl, rfl⟩))
            go_roundw
            case rel => exact ⟨f', out ++ [(m : Int)], y, by simp; omega, rfl, HCL', HIR', HOW', HB', HBX', HSZ'⟩
            case measure => simp [lenOf]; omega
      · have HT := Lib.hid (there_any (q := false) x wr HBX.out (by omega) (decide_eq_false hth))
        have HR : Hid (aboveOf os k = out) := by
          show _ = _
          rw [HCL.out]
          cases f with
          | zero => rfl
          | succ f => rw [climb, if_neg (fun h => hth ⟨h.1, h.2.1⟩)]
        have HIO := Lib.hid hio
        clear hio hth
        go_wp2_with (go_at_call 47; refine HT.out.mono ?_; rintro e w' ⟨rfl, rfl⟩)
        go_ret
        exact ⟨Ao, co, congrArg (fun ys : List Int => Ending.returned (.slice Ao ys.length co)) HR.out.symm, by rw [HR.out]; exact HIO.out, HB.out⟩
  · have HC := Lib.hid (there_any (q := false) cl (w.alloc (.cells #[.slice A os.length c] 32)) HBX.out (by omega) (decide_eq_false hcl))
    have HAO : Hid (aboveOf os cl = []) := by show _ = _; unfold aboveOf; rw [if_neg hcl]
    go_enter Try.func23, Try.ntmps23
    go_wp2_with (go_at_call 47; refine HC.out.mono ?_; rintro e w' ⟨rfl, rfl⟩)
    go_ret
    exact ⟨none, 0, by rw [HAO.out]; rfl, by rw [HAO.out]; exact IntsAt.nil _ _ _, HB0.out⟩
end Go.Proofs.Ytebpdlnknfjoaaa
