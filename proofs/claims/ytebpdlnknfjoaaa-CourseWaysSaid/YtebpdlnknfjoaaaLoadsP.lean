/- The loads of a course (plain), and the walk of the test whether one holds together. -/
import Derived.Test.YtebpdlnknfjoaaaOver
import Derived.Test.YtebpdlnknfjoaaaRightW
namespace Go.Proofs.Ytebpdlnknfjoaaa
set_option linter.unusedVariables false
set_option linter.unusedSimpArgs false
open Go.RowKit

/-- All ways to go on from a load, one class a part. -/
def dfs : List (List Int) → List Int → List (List Int)
  | [], l => [l]
  | p :: ps, l => p.flatMap fun x => dfs ps (l ++ [x])
/-- Has a load what each of its classes asks for? -/
def holdB (g : Int → Option Int) (l : List Int) : Bool := l.all fun x => match g x with | none => true | some u => decide (u ∈ l)
def wayLoads (os : List Int) (ps : List (List Int)) : List (List Int) := (dfs ps []).filter (holdB (needOf os ps.flatten))
def loadsOf (os : List Int) (s : ByteArray) (ws : List (List (List Int))) : List (List Int) := if rightB os.length s ws = true then ws.flatMap (wayLoads os) else []

/-- All loads, part by part. -/
def extend (ls : List (List Int)) (p : List Int) : List (List Int) := ls.flatMap fun l => p.map fun x => l ++ [x]
def allOf (ps : List (List Int)) : List (List Int) := ps.foldl extend [[]]
theorem foldl_dfs : ∀ (ps : List (List Int)) (ls : List (List Int)), ps.foldl extend ls = ls.flatMap (dfs ps) := by
  intro ps
  induction ps with
  | nil => intro ls; simp only [List.foldl_nil]; induction ls with
    | nil => rfl
    | cons l ls ih => rw [List.flatMap_cons, ← ih]; rfl
  | cons p ps ih =>
    intro ls
    rw [List.foldl_cons, ih]
    unfold extend
    rw [List.flatMap_assoc]
    have e : (fun l => (p.map fun x => l ++ [x]).flatMap (dfs ps)) = dfs (p :: ps) := by
      funext l
      rw [List.flatMap_map]
      rfl
    exact congrArg (fun f => ls.flatMap f) e
theorem all_dfs (ps : List (List Int)) : allOf ps = dfs ps [] := by
  unfold allOf
  rw [foldl_dfs]
  simp

theorem dfs_len : ∀ (ps : List (List Int)) (l : List Int), ∀ r ∈ dfs ps l, r.length = l.length + ps.length := by
  intro ps
  induction ps with
  | nil => intro l r hr; rw [dfs, List.mem_singleton] at hr; subst hr; simp
  | cons p ps ih =>
    intro l r hr
    rw [dfs, List.mem_flatMap] at hr
    obtain ⟨x, _, hr⟩ := hr
    rw [ih _ _ hr]
    simp
    omega

set_option maxHeartbeats 600000 in
theorem together_any {B : Nat} {A : Option Addr} {load : List Int} {g : Int → Option Int} {c bl bn mo : Nat} {q : Bool} (w : World) (hl : w.cell? ⟨bl, 0, none⟩ = some (.slice A load.length c)) (hI : IntsAt B w A load) (hn : w.cell? ⟨bn, 0, none⟩ = some (.map (some mo))) (hm : MapV w mo (mapF g)) (hlen : load.length ≤ 1000) (hq : holdB g load = q) :
    Calls Try.prog 38 #[.pointer (some ⟨bl, 0, none⟩), .pointer (some ⟨bn, 0, none⟩)] w fun e w' => e = .returned (.bool q) ∧ w = w' := by
  subst hq
  have HI := Lib.hid hI
  have HM := Lib.hid hm
  clear hI hm
  go_enter Try.func38, Try.ntmps38
  go_wp2
  go_loop [9] (fun i => ∃ k, k ≤ load.length ∧ i = .int .i64 (k : Nat) ∧ Hid ((load.take k).all (fun x => match g x with | none => true | some u => decide (u ∈ load)) = true)) (fun i => load.length - (intOf i).toNat)
  case atStart => exact ⟨0, Nat.zero_le _, rfl, by show _ = _; simp⟩
  case round =>
    obtain ⟨k, hk, rfl, HA⟩ := hrel
    by_cases hlt : k < load.length
    · obtain ⟨ad, rfl, hx⟩ := HI.out.cell k hlt
      have HYES := Lib.hid (fun h => all_take (p := fun x => match g x with | none => true | some u => decide (u ∈ load)) hlt HA.out h)
      have HNO := Lib.hid (fun h => all_fails (p := fun x => match g x with | none => true | some u => decide (u ∈ load)) hlt h)
      obtain ⟨x, hxe⟩ : ∃ x, x = load[k] := ⟨_, rfl⟩
      rw [← hxe] at hx HYES HNO
      have l1 := look_map HM.out x
      clear hxe HA
      cases hg : g x with
      | none =>
        rw [hg] at l1
        have HA' : Hid ((load.take (k + 1)).all (fun x => match g x with | none => true | some u => decide (u ∈ load)) = true) := HYES.out (by rw [hg])
        simp only [Option.getD_none, Option.isSome_none] at l1
        clear hg HYES HNO
        go_wp2
        go_round
        case rel => exact ⟨k + 1, by omega, by go_num, HA'⟩
        case measure => simp [intOf]; omega
      | some u =>
        rw [hg] at l1
        simp only [Option.getD_some, Option.isSome_some] at l1
        have hcon := contains_at (c := c) HI.out (by omega) u
        by_cases hu : u ∈ load
        · have hcb : load.contains u = true := by simpa using hu
          rw [hcb] at hcon
          have HCON := Lib.hid hcon
          have HA' : Hid ((load.take (k + 1)).all (fun x => match g x with | none => true | some u => decide (u ∈ load)) = true) := HYES.out (by rw [hg]; exact decide_eq_true hu)
          clear hg HYES HNO hcb hcon hu
          go_wp2_with (go_at_call 39; refine HCON.out.mono ?_; rintro e w' ⟨rfl, rfl⟩)
          go_round
          case rel => exact ⟨k + 1, by omega, by go_num, HA'⟩
          case measure => simp [intOf]; omega
        · have hcb : load.contains u = false := by rw [← Bool.not_eq_true, List.contains_iff_mem]; exact hu
          rw [hcb] at hcon
          have HCON := Lib.hid hcon
          have HF : Hid (holdB g load = false) := HNO.out (by rw [hg]; exact decide_eq_false hu)
          clear hg HYES HNO hcb hcon hu
          go_wp2_with (go_at_call 39; refine HCON.out.mono ?_; rintro e w' ⟨rfl, rfl⟩)
          go_ret
          exact ⟨ret_bool HF.out.symm, rfl⟩
    · have HT : Hid (holdB g load = true) := by
        have := HA.out
        rw [List.take_of_length_le (by omega)] at this
        exact this
      go_wp2
      go_ret
      exact ⟨ret_bool HT.out.symm, rfl⟩
end Go.Proofs.Ytebpdlnknfjoaaa
