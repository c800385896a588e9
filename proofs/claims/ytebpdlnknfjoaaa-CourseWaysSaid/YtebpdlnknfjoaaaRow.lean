/- Which courses may be: names, parts; course.row and the document's Rising. -/
import Derived.Test.YtebpdlnknfjoaaaCourse
namespace Go.Proofs.Ytebpdlnknfjoaaa
set_option linter.unusedVariables false
set_option linter.unusedSimpArgs false
open Go.RowKit

def setF (p : Int → Bool) : Int → Option Value := fun n => if p n then some (.bool true) else none
theorem zeroBool (w : World) : (zeroValue 4).run Try.prog w = .ok (.bool false) w := by kernel_rfl
theorem zeroInt (w : World) : (zeroValue 3).run Try.prog w = .ok (.int .i64 0) w := by kernel_rfl
theorem look_set {w : World} {b : Nat} {p : Int → Bool} (h : MapV w b (setF p)) (n : Int) : (Instr.lookup 46 (.map (some b)) (.int .i64 n) false).run Try.prog w = .ok (.bool (p n)) w := by
  rw [h.run_lookup Try.underlying46 Try.underlying3 (zeroBool w) n false]
  cases hp : p n <;> simp [setF, hp]
theorem upd_setF (T : List Int) (n : Int) : upd (setF fun x => decide (x ∈ T)) n (some (.bool true)) = setF fun x => decide (x ∈ T ++ [n]) := by
  funext x
  by_cases e : x = n
  · subst e; rw [upd_same]; simp [setF]
  · rw [upd_other _ _ e]; simp [setF, e]
theorem made_set (w : World) : MapV (w.alloc (.map #[] 0)) w.heap.size (setF fun x => decide (x ∈ ([] : List Int))) := by
  have e : (setF fun n => decide (n ∈ ([] : List Int))) = fun _ => none := by funext n; simp [setF]
  rw [e]
  exact MapV.made w

def nameB (s : ByteArray) : Bool := decide (1 ≤ s.size ∧ s.size ≤ 24)
def riseB (n : Int) : Int → List Int → Bool
  | _, [] => true
  | last, x :: xs => if last < x ∧ x < n then riseB n x xs else false
def newB (T p : List Int) : Bool := p.all fun x => decide (x ∉ T)
def partB (n : Int) (T p : List Int) : Bool := riseB n (-1) p && newB T p && decide (1 ≤ p.length ∧ p.length ≤ 8)
def wayB (n : Int) : List Int → List (List Int) → Bool
  | _, [] => true
  | T, p :: ps => partB n T p && wayB n (T ++ p) ps
def rightB (n : Int) (s : ByteArray) (ws : List (List (List Int))) : Bool := nameB s && decide (1 ≤ ws.length ∧ ws.length ≤ 4) && ws.all fun ps => decide (1 ≤ ps.length ∧ ps.length ≤ 4) && wayB n [] ps

theorem refName_any (s : ByteArray) (w : World) (hs : s.size ≤ 9223372036854775807) : Calls Try.prog 31 #[.string s] w fun e w' => e = .returned (.bool (nameB s)) ∧ w = w' := by
  have H1 : Hid ((1 : Int) ≤ (s.size : Int) → decide ((s.size : Int) ≤ 24) = nameB s) := by
    intro h
    unfold nameB
    rw [Bool.eq_iff_iff]
    simp
    omega
  have H2 : Hid (¬ (1 : Int) ≤ (s.size : Int) → nameB s = false) := by
    intro h
    exact decide_eq_false (by omega)
  go_enter Try.func31, Try.ntmps31
  go_wp2
  all_goals (go_ret; first | exact ⟨ret_bool (H1.out (by omega)), rfl⟩ | (exact ⟨ret_bool (by rw [H2.out (by omega)]), rfl⟩) | skip)
theorem list_empty (s : ByteArray) : s.toList.isEmpty = decide (s.size = 0) := by
  have : s.toList.length = s.size := by
    rw [ByteArray.toList_eq]; simp
  rw [← this]
  cases s.toList <;> simp
theorem name_any (s : ByteArray) (w : World) (hs : s.size ≤ 9223372036854775807) : Calls Try.prog 29 #[.string s] w fun e w' => e = .returned (.bool (nameB s)) ∧ w = w' := by
  have H1 : Hid ((!s.toList.isEmpty && decide ((s.size : Int) ≤ 24)) = nameB s) := by
    show _ = _
    unfold nameB
    rw [list_empty, Bool.eq_iff_iff]
    simp only [Bool.and_eq_true, Bool.not_eq_true', decide_eq_false_iff_not, decide_eq_true_eq]
    omega
  have H2 : Hid (s.toList = [] → nameB s = false) := by
    intro h
    have h1 := list_empty s
    rw [h] at h1
    have : s.size = 0 := by simpa using h1.symm
    exact decide_eq_false (by omega)
  go_enter Try.func29, Try.ntmps29
  go_wp2
  all_goals (go_ret; first | exact ⟨ret_bool H1.out, rfl⟩ | exact ⟨ret_bool (by rw [H2.out (by assumption)]), rfl⟩ | skip)

def RowPost (n : Int) (T p : List Int) (b : Nat) (w : World) (e : Ending) (w' : World) : Prop := e = .returned (.bool (partB n T p)) ∧ (partB n T p = true → MapV w' b (setF fun x => decide (x ∈ T ++ p))) ∧ w.grownBy w' (some b)
set_option maxHeartbeats 600000 in
theorem row_any {A : Option Addr} {p T : List Int} {b : Nat} (n : Int) (c : Nat) (w : World) (hI : IntsAt b w A p) (hM : MapV w b (setF fun x => decide (x ∈ T))) (hp : p.length ≤ 1000) :
    Calls Try.prog 30 #[.slice A p.length c, .int .i64 n, .map (some b)] w (RowPost n T p b w) := by
  have HI := Lib.hid hI
  have HM := Lib.hid hM
  clear hI hM
  go_enter Try.func30, Try.ntmps30
  go_wp2
  go_loop [7, 14] (fun l i => ∃ (k : Nat) (x : Int), k ≤ p.length ∧ l = .int .i64 x ∧ i = .int .i64 (k : Nat) ∧ Hid ((riseB n (-1) p && newB T p) = (riseB n x (p.drop k) && newB T (p.drop k)))) (fun _ i => p.length - (intOf i).toNat)
  case atStart => exact ⟨0, -1, Nat.zero_le _, rfl, rfl, by show _ = _; rfl⟩
  case round =>
    obtain ⟨k, l, hk, rfl, rfl, HQ⟩ := hrel
    by_cases hlt : k < p.length
    · obtain ⟨ad, rfl, hx⟩ := HI.out.cell k hlt
      have hd : p.drop k = p[k] :: p.drop (k + 1) := List.drop_eq_getElem_cons hlt
      have hq := HQ.out
      rw [hd, riseB] at hq
      obtain ⟨x, hxe⟩ : ∃ x, x = p[k] := ⟨_, rfl⟩
      rw [← hxe] at hq hx
      clear hd hxe
      have l1 := look_set HM.out x
      by_cases hxl : x ≤ l
      · have HF : Hid (partB n T p = false) := by
          show _ = _
          unfold partB
          rw [hq, if_neg (by omega), Bool.false_and, Bool.false_and]
        clear hq l1
        go_wp2
        go_ret
        exact ⟨ret_bool HF.out.symm, (fun h => by rw [HF.out] at h; cases h), World.grownBy.refl _ _⟩
      · by_cases hxn : n ≤ x
        · have HF : Hid (partB n T p = false) := by
            show _ = _
            unfold partB
            rw [hq, if_neg (by omega), Bool.false_and, Bool.false_and]
          clear hq l1
          go_wp2
          go_ret
          exact ⟨ret_bool HF.out.symm, (fun h => by rw [HF.out] at h; cases h), World.grownBy.refl _ _⟩
        · rw [if_pos (by omega)] at hq
          by_cases hxT : x ∈ T
          · have HF : Hid (partB n T p = false) := by
              show _ = _
              unfold partB
              rw [hq]
              simp [newB, hxT]
            simp only [hxT, decide_true] at l1
            clear hq hxT
            go_wp2
            go_ret
            exact ⟨ret_bool HF.out.symm, (fun h => by rw [HF.out] at h; cases h), World.grownBy.refl _ _⟩
          · have HQ' : Hid ((riseB n (-1) p && newB T p) = (riseB n x (p.drop (k + 1)) && newB T (p.drop (k + 1)))) := by
              show _ = _
              rw [hq]
              simp [newB, hxT]
            simp only [hxT, decide_false] at l1
            clear hq hxT HQ
            go_wp2
            go_round
            case rel => exact ⟨k + 1, x, by omega, rfl, by go_num, HQ'⟩
            case measure => simp [intOf]; omega
    · have HQ1 : Hid ((riseB n (-1) p && newB T p) = true) := by
        have hq := HQ.out
        rw [List.drop_eq_nil_of_le (by omega)] at hq
        show _ = _
        rw [hq]
        rfl
      have HM0 : Hid (MapV w b (setF fun x => decide (x ∈ T ++ p.take 0))) := by
        show MapV _ _ _
        rw [List.take_zero, List.append_nil]
        exact HM.out
      clear HQ
      go_wp2
      go_loopw [35] (fun i wr => ∃ k : Nat, k ≤ p.length ∧ i = .int .i64 (k : Nat) ∧ Hid (MapV wr b (setF fun x => decide (x ∈ T ++ p.take k))) ∧ Hid (w.grownBy wr (some b))) (fun i _ => p.length - (intOf i).toNat)
      case atStart => exact ⟨0, Nat.zero_le _, rfl, HM0, World.grownBy.refl _ _⟩
      case round =>
        clear HM0
        obtain ⟨j, hj, rfl, HM2, HG⟩ := hrel
        by_cases hjl : j < p.length
        · obtain ⟨ad2, e2, hx2⟩ := (HI.out.grown HG.out (fun q e => by cases e; exact Nat.le_refl _)).cell j hjl
          have htk : p.take (j + 1) = p.take j ++ [p[j]] := List.take_succ_eq_append_getElem hjl
          obtain ⟨x, hxe⟩ : ∃ x, x = p[j] := ⟨_, rfl⟩
          rw [← hxe] at hx2 htk
          obtain ⟨w2, hr2, hm2, hg2, _⟩ := HM2.out.run_update Try.underlying46 Try.underlying3 x (.bool true)
          have HM3 : Hid (MapV w2 b (setF fun x => decide (x ∈ T ++ p.take (j + 1)))) := by
            show MapV _ _ _
            rw [htk, ← List.append_assoc, ← upd_setF]
            exact hm2
          have HG3 := Lib.hid (grown_trans HG.out hg2)
          clear htk hxe hm2 hg2
          first | subst e2 | (cases e2)
          go_wp2
          go_roundw
          case rel => exact ⟨j + 1, by omega, by go_num, HM3, HG3⟩
          case measure => simp [intOf]; omega
        · have HM4 : Hid (MapV wr b (setF fun x => decide (x ∈ T ++ p))) := by
            have := HM2.out
            rwa [List.take_of_length_le (by omega)] at this
          have HPB : Hid (partB n T p = decide (1 ≤ p.length ∧ p.length ≤ 8)) := by
            show _ = _
            unfold partB
            rw [HQ1.out, Bool.true_and]
          by_cases h1 : 0 < p.length
          · by_cases h8 : p.length ≤ 8
            · go_wp2
              go_ret
              exact ⟨ret_bool (by rw [HPB.out]; first | exact decide_eq_decide.2 (by omega) | exact (decide_eq_false (by omega)).symm | exact (decide_eq_true (by omega)).symm), fun _ => HM4.out, HG.out⟩
            · go_wp2
              go_ret
              exact ⟨ret_bool (by rw [HPB.out]; first | exact decide_eq_decide.2 (by omega) | exact (decide_eq_false (by omega)).symm | exact (decide_eq_true (by omega)).symm), fun _ => HM4.out, HG.out⟩
          · go_wp2
            go_ret
            exact ⟨ret_bool (by rw [HPB.out]; first | exact decide_eq_decide.2 (by omega) | exact (decide_eq_false (by omega)).symm | exact (decide_eq_true (by omega)).symm), fun _ => HM4.out, HG.out⟩
end Go.Proofs.Ytebpdlnknfjoaaa
