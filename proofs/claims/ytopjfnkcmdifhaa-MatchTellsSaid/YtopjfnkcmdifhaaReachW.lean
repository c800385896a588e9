/- The walk of match.reach and its closure. -/
import Derived.Test.YtopjfnkcmdifhaaSmallW
import Derived.Test.YtopjfnkcmdifhaaWay
import Derived.Test.YtopjfnkcmdifhaaDfs
import Derived.Test.YtopjfnkcmdifhaaGreedy
import Derived.Laws.EntriesVeiled
namespace Go.Proofs.Ytopjfnkcmdifhaa
set_option linter.unusedVariables false
set_option linter.unusedSimpArgs false
open Go.RowKit Kuhn

/-- What the closure's captured variables hold. -/
structure RchSt (l : List (List Int)) (B : Nat) (A : Option Addr) (c bL bl bR bo bw ml mr mo : Nat) (of : Int → Option Nat) (w : World) (st : List Int × List Int) : Prop where
  cL : w.cell? ⟨bL, 0, none⟩ = some (.map (some ml))
  cl : w.cell? ⟨bl, 0, none⟩ = some (.slice A l.length c)
  cR : w.cell? ⟨bR, 0, none⟩ = some (.map (some mr))
  co : w.cell? ⟨bo, 0, none⟩ = some (.map (some mo))
  cw : w.cell? ⟨bw, 0, none⟩ = some (.func (.func 36) #[] #[.pointer (some ⟨bL, 0, none⟩), .pointer (some ⟨bl, 0, none⟩), .pointer (some ⟨bR, 0, none⟩), .pointer (some ⟨bo, 0, none⟩), .pointer (some ⟨bw, 0, none⟩)])
  rows : RowsAt B w A l
  ltL : B ≤ ml
  ltR : B ≤ mr
  LR : ml ≠ mr
  oL : mo ≠ ml
  oR : mo ≠ mr
  ml : MapV w ml (setF fun n => decide (n ∈ st.1))
  mr : MapV w mr (setF fun n => decide (n ∈ st.2))
  mo : MapV w mo (ofF of)

section
variable {l : List (List Int)} {B : Nat} {A : Option Addr} {c bL bl bR bo bw ml mr mo : Nat} {w w' : World} {st st' : List Int × List Int} {of : Int → Option Nat}

theorem RchSt.moved (h : RchSt l B A c bL bl bR bo bw ml mr mo of w st) (hf : Fr (fun k => k = ml ∨ k = mr) w w') (h1 : MapV w' ml (setF fun n => decide (n ∈ st'.1))) (h2 : MapV w' mr (setF fun n => decide (n ∈ st'.2))) :
    RchSt l B A c bL bl bR bo bw ml mr mo of w' st' := by
  have hc : ∀ b o v, w.cell? ⟨b, o, none⟩ = some v → w'.cell? ⟨b, o, none⟩ = some v := by
    intro b o v hv
    rw [← hv]
    refine World.cell?_of_block (hf.block _ (cell_lt hv) ?_)
    rintro (e | e)
    · rw [show b = ml from e, h.ml.no_cell] at hv; cases hv
    · rw [show b = mr from e, h.mr.no_cell] at hv; cases hv
  refine ⟨hc _ _ _ h.cL, hc _ _ _ h.cl, hc _ _ _ h.cR, hc _ _ _ h.co, hc _ _ _ h.cw, ?_, h.ltL, h.ltR, h.LR, h.oL, h.oR, h1, h2, ?_⟩
  · refine h.rows.move fun b hb hl => hf.block b hl ?_
    rintro (e | e)
    · have := h.ltL; omega
    · have := h.ltR; omega
  · refine h.mo.move (hf.block _ h.mo.lt ?_)
    rintro (e | e)
    · exact h.oL e
    · exact h.oR e

theorem upd_setF (s : List Int) (n : Int) : upd (setF fun m => decide (m ∈ s)) n (some (.bool true)) = setF fun m => decide (m ∈ s ++ [n]) := by
  funext m
  by_cases hm : m = n
  · subst hm; simp [upd, setF]
  · simp [upd, setF, hm]

theorem RchSt.seeL (h : RchSt l B A c bL bl bR bo bw ml mr mo of w st) (n : Int) :
    ∃ w', (Instr.mapUpdate 37 (.map (some ml)) (.int .i64 n) (.bool true)).run Try.prog w = .ok () w' ∧ RchSt l B A c bL bl bR bo bw ml mr mo of w' (st.1 ++ [n], st.2) ∧ Fr (fun k => k = ml ∨ k = mr) w w' := by
  obtain ⟨w', hr, hm, hg, _⟩ := h.ml.run_update Try.underlying37 Try.underlying3 n (.bool true)
  have hf : Fr (fun k => k = ml ∨ k = mr) w w' := (Fr.of_grown hg).mono (fun k _ e => .inl (by simpa using e))
  exact ⟨w', hr, h.moved hf (by rw [← upd_setF]; exact hm) (h.mr.grown hg (by simpa using h.LR.symm)), hf⟩

theorem RchSt.seeR (h : RchSt l B A c bL bl bR bo bw ml mr mo of w st) (n : Int) :
    ∃ w', (Instr.mapUpdate 37 (.map (some mr)) (.int .i64 n) (.bool true)).run Try.prog w = .ok () w' ∧ RchSt l B A c bL bl bR bo bw ml mr mo of w' (st.1, st.2 ++ [n]) ∧ Fr (fun k => k = ml ∨ k = mr) w w' := by
  obtain ⟨w', hr, hm, hg, _⟩ := h.mr.run_update Try.underlying37 Try.underlying3 n (.bool true)
  have hf : Fr (fun k => k = ml ∨ k = mr) w w' := (Fr.of_grown hg).mono (fun k _ e => .inr (by simpa using e))
  exact ⟨w', hr, h.moved hf (h.ml.grown hg (by simpa using h.LR)) (by rw [← upd_setF]; exact hm), hf⟩
end

def RchPost (l : List (List Int)) (B : Nat) (A : Option Addr) (c bL bl bR bo bw ml mr mo : Nat) (of : Int → Option Nat) (w : World) (st' : List Int × List Int) (e : Ending) (w' : World) : Prop :=
  e = .returned (.tuple #[]) ∧ RchSt l B A c bL bl bR bo bw ml mr mo of w' st' ∧ Fr (fun k => k = ml ∨ k = mr) w w'

set_option maxHeartbeats 1000000 in
theorem reach1_any {l : List (List Int)} {B : Nat} {A : Option Addr} {c bL bl bR bo bw ml mr mo : Nat} {of : Int → Option Nat} (hof : ∀ n k, of n = some k → k < l.length)
    (hbig : ∀ i, (l.getD i []).length ≤ 1000) (f : Nat) :
    ∀ (i : Nat) (st st' : List Int × List Int) (w : World), i < l.length → RchSt l B A c bL bl bR bo bw ml mr mo of w st →
      dfs (rowF l) of f st i = some st' →
      Calls Try.prog 36 #[.int .i64 i, .pointer (some ⟨bL, 0, none⟩), .pointer (some ⟨bl, 0, none⟩), .pointer (some ⟨bR, 0, none⟩), .pointer (some ⟨bo, 0, none⟩), .pointer (some ⟨bw, 0, none⟩)] w
        (RchPost l B A c bL bl bR bo bw ml mr mo of w st') := by
  induction f with
  | zero => intro i st st' w _ _ h; cases h
  | succ f ih =>
    intro i st st' w hi hst hrun
    have l1 := look_set hst.ml (i : Int)
    have cL := hst.cL
    rw [dfs] at hrun
    by_cases hin : (i : Int) ∈ st.1
    · rw [if_pos hin] at hrun
      simp only [hin, decide_true] at l1
      simp only [Option.some.injEq] at hrun
      subst hrun
      have HST := Lib.hid hst
      clear hst ih hin hof hbig
      go_enter Try.func36, Try.ntmps36
      go_wp2
      refine bodyPost_ret (results_none rfl _ _ _) rfl ?_
      exact ⟨rfl, HST.out, Fr.refl _ _⟩
    · rw [if_neg hin] at hrun
      simp only [hin, decide_false] at l1
      obtain ⟨w1, hr1, hst1, hf1⟩ := hst.seeL (i : Int)
      obtain ⟨ad, A', c', hA, hrow, hlc, hints⟩ := hst1.rows.row i hi
      subst hA
      obtain ⟨row, hrw⟩ : ∃ row, row = rowF l i := ⟨_, rfl⟩
      have hrf : rowF l i = l[i] := by unfold rowF; rw [List.getD_eq_getElem?_getD, List.getElem?_eq_getElem hi, Option.getD_some]
      rw [← hrf, ← hrw] at hrow hlc hints
      have hb := hbig i
      have hb' : row.length ≤ 1000 := by rw [hrw]; exact hb
      rw [← hrw] at hrun
      have HR : Hid (dfsL (dfs (rowF l) of f) of row (st.1 ++ [(i : Int)], st.2) = some st') := hrun
      have HI : Hid (IntsAt B w1 A' row) := hints
      have HST : Hid (RchSt l B (some ad) c bL bl bR bo bw ml mr mo of w1 (st.1 ++ [(i : Int)], st.2)) := hst1
      have HF1 := Lib.hid hf1
      have HIH := Lib.hid ih
      have HOF := Lib.hid hof
      have cl1 := hst1.cl
      clear hrun hints hst hst1 hrw hrf ih hin hof hbig hf1 hb
      go_enter Try.func36, Try.ntmps36
      go_wp2
      clear cl1 hrow l1 cL hr1
      go_loopw [21] (fun v wr => ∃ k sk, k ≤ row.length ∧ v = .int .i64 (k : Nat) ∧ Hid (dfsL (dfs (rowF l) of f) of (row.drop k) sk = some st') ∧ Hid (RchSt l B (some ad) c bL bl bR bo bw ml mr mo of wr sk) ∧ Hid (Fr (fun k => k = ml ∨ k = mr) w wr) ∧ Hid (IntsAt B wr A' row))
        (fun v _ => row.length - (intOf v).toNat)
      case atStart => exact ⟨0, _, Nat.zero_le _, rfl, HR, HST, HF1, HI⟩
      case round =>
        clear HR HST HF1 HI
        obtain ⟨k, sk, hk, rfl, HR, HST, HF, HI⟩ := hrel
        by_cases hlt : k < row.length
        · obtain ⟨ad2, rfl, hcell⟩ := HI.out.cell k hlt
          have hd : row.drop k = row[k] :: row.drop (k + 1) := List.drop_eq_getElem_cons hlt
          have HR2 := HR.out
          rw [hd, dfsL_step] at HR2
          obtain ⟨n, hn⟩ : ∃ n, n = row[k] := ⟨_, rfl⟩
          rw [← hn] at HR2 hcell
          clear hd hn HR
          have hdis : ∀ b, b < B → ¬ (b = ml ∨ b = mr) := fun b hb => by have := HST.out.ltL; have := HST.out.ltR; omega
          obtain ⟨w2, hr2, hst2, hf2⟩ := HST.out.seeR n
          have l3 := look_of hst2.mo n
          obtain ⟨cR, co2, cw2⟩ : _ ∧ _ ∧ _ := ⟨HST.out.cR, hst2.co, hst2.cw⟩
          have HST2 := Lib.hid hst2
          have HF2 := Lib.hid (HF.out.trans hf2)
          have HI2 := Lib.hid (HI.out.fr hf2 hdis)
          have HDIS := Lib.hid hdis
          clear hst2 hf2 hdis
          cases ho : of n with
          | none =>
            rw [ho] at HR2 l3
            have HR3 := Lib.hid HR2
            simp only [Option.getD_none, Option.isSome_none] at l3
            clear ho HR2 cw2
            go_wp2
            go_roundw
            case rel => exact ⟨k + 1, _, by omega, by go_num, HR3, HST2, HF2, HI2⟩
            case measure => simp [intOf]; omega
          | some k' =>
            have hk' := HOF.out n k' ho
            rw [ho] at HR2 l3
            dsimp only at HR2
            simp only [Option.getD_some, Option.isSome_some] at l3
            cases hrec : dfs (rowF l) of f (sk.1, sk.2 ++ [n]) k' with
            | none => rw [hrec] at HR2; cases HR2
            | some s1 =>
              have HC := Lib.hid (HIH.out k' (sk.1, sk.2 ++ [n]) s1 w2 hk' HST2.out hrec)
              rw [hrec] at HR2
              have HR3 := Lib.hid HR2
              clear ho hrec HR2
              go_wp2_with (go_at_call 36; refine HC.out.mono ?_; rintro e w3 ⟨rfl, hst3, hf3⟩; have HST3 := Lib.hid hst3; have HF3 := Lib.hid (HF2.out.trans hf3); have HI3 := Lib.hid (HI2.out.fr hf3 HDIS.out); clear hst3 hf3)
              go_roundw
              case rel => exact ⟨k + 1, s1, by omega, by go_num, HR3, HST3, HF3, HI3⟩
              case measure => simp [intOf]; omega
        · go_wp2
          have e : row.drop k = [] := List.drop_eq_nil_of_le (by omega)
          have h := HR.out
          rw [e] at h
          simp only [dfsL, Option.some.injEq] at h
          subst h
          go_end0
          exact ⟨rfl, HST.out, HF.out⟩
end Go.Proofs.Ytopjfnkcmdifhaa
