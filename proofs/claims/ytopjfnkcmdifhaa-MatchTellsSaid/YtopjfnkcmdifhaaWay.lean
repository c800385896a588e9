/- The walk of the search for an augmenting path (match.most and its closure). -/
import Derived.Test.YtopjfnkcmdifhaaProg
import Derived.WalkKit
import Derived.Outline
import Derived.Lib.Hide
import Derived.Deep.LoopGhost
import Derived.Test.YtopjfnkcmdifhaaMapV
import Derived.Test.YtopjfnkcmdifhaaMem
import Derived.Test.YtopjfnkcmdifhaaKuhn
namespace Go.Proofs.Ytopjfnkcmdifhaa
set_option linter.unusedVariables false
set_option linter.unusedSimpArgs false
open Go.RowKit Kuhn

def setF (p : Int → Bool) : Int → Option Value := fun n => if p n then some (.bool true) else none
def ofF (of : Int → Option Nat) : Int → Option Value := fun n => (of n).map fun k => .int .i64 k

theorem zeroBool (w : World) : (zeroValue 4).run Try.prog w = .ok (.bool false) w := by kernel_rfl
theorem zeroInt (w : World) : (zeroValue 3).run Try.prog w = .ok (.int .i64 0) w := by kernel_rfl

theorem look_set {w : World} {b : Nat} {p : Int → Bool} (h : MapV w b (setF p)) (n : Int) : (Instr.lookup 37 (.map (some b)) (.int .i64 n) false).run Try.prog w = .ok (.bool (p n)) w := by
  rw [h.run_lookup Try.underlying37 Try.underlying3 (zeroBool w) n false]
  cases hp : p n <;> simp [setF, hp]
theorem look_of {w : World} {b : Nat} {of : Int → Option Nat} (h : MapV w b (ofF of)) (n : Int) : (Instr.lookup 47 (.map (some b)) (.int .i64 n) true).run Try.prog w =
    .ok (.tuple #[.int .i64 (((of n).getD 0 : Nat) : Int), .bool (of n).isSome]) w := by
  rw [h.run_lookup Try.underlying47 Try.underlying3 (zeroInt w) n true]
  cases hp : of n <;> simp [ofF, hp]

/-- What the closure's captured variables hold. -/
structure WaySt (l : List (List Int)) (B : Nat) (A : Option Addr) (c bl bt bs bo bw mt ms mo : Nat) (ok : Int → Bool) (w : World) (s : List Int) (of : Int → Option Nat) : Prop where
  cl : w.cell? ⟨bl, 0, none⟩ = some (.slice A l.length c)
  ct : w.cell? ⟨bt, 0, none⟩ = some (.map (some mt))
  cs : w.cell? ⟨bs, 0, none⟩ = some (.map (some ms))
  co : w.cell? ⟨bo, 0, none⟩ = some (.map (some mo))
  cw : w.cell? ⟨bw, 0, none⟩ = some (.func (.func 35) #[] #[.pointer (some ⟨bl, 0, none⟩), .pointer (some ⟨bt, 0, none⟩), .pointer (some ⟨bs, 0, none⟩), .pointer (some ⟨bo, 0, none⟩), .pointer (some ⟨bw, 0, none⟩)])
  rows : RowsAt B w A l
  lts : B ≤ ms
  lto : B ≤ mo
  so : ms ≠ mo
  ts : mt ≠ ms
  to : mt ≠ mo
  mt : MapV w mt (setF fun n => !ok n)
  ms : MapV w ms (setF fun n => decide (n ∈ s))
  mo : MapV w mo (ofF of)

section
variable {l : List (List Int)} {B : Nat} {A : Option Addr} {c bl bt bs bo bw mt ms mo : Nat} {ok : Int → Bool} {w w' : World} {s s' : List Int} {of of' : Int → Option Nat}

theorem WaySt.moved (h : WaySt l B A c bl bt bs bo bw mt ms mo ok w s of) (hf : Fr (fun k => k = ms ∨ k = mo) w w') (h1 : MapV w' ms (setF fun n => decide (n ∈ s'))) (h2 : MapV w' mo (ofF of')) :
    WaySt l B A c bl bt bs bo bw mt ms mo ok w' s' of' := by
  have hc : ∀ b o v, w.cell? ⟨b, o, none⟩ = some v → w'.cell? ⟨b, o, none⟩ = some v := by
    intro b o v hv
    rw [← hv]
    refine World.cell?_of_block (hf.block _ (cell_lt hv) ?_)
    rintro (e | e)
    · rw [show b = ms from e, h.ms.no_cell] at hv; cases hv
    · rw [show b = mo from e, h.mo.no_cell] at hv; cases hv
  refine ⟨hc _ _ _ h.cl, hc _ _ _ h.ct, hc _ _ _ h.cs, hc _ _ _ h.co, hc _ _ _ h.cw, ?_, h.lts, h.lto, h.so, h.ts, h.to, ?_, h1, h2⟩
  · refine h.rows.move fun b hb hl => hf.block b hl ?_
    rintro (e | e)
    · have := h.lts; omega
    · have := h.lto; omega
  · refine h.mt.move (hf.block _ h.mt.lt ?_)
    rintro (e | e)
    · exact h.ts e
    · exact h.to e

theorem WaySt.see (h : WaySt l B A c bl bt bs bo bw mt ms mo ok w s of) (n : Int) :
    ∃ w', (Instr.mapUpdate 37 (.map (some ms)) (.int .i64 n) (.bool true)).run Try.prog w = .ok () w' ∧ WaySt l B A c bl bt bs bo bw mt ms mo ok w' (s ++ [n]) of ∧ Fr (fun k => k = ms ∨ k = mo) w w' := by
  obtain ⟨w', hr, hm, hg, _⟩ := h.ms.run_update Try.underlying37 Try.underlying3 n (.bool true)
  have hf : Fr (fun k => k = ms ∨ k = mo) w w' := (Fr.of_grown hg).mono (fun k _ e => .inl (by simpa using e))
  refine ⟨w', hr, h.moved hf ?_ (h.mo.grown hg (by simpa using h.so.symm)), hf⟩
  have e : upd (setF fun n => decide (n ∈ s)) n (some (.bool true)) = setF fun m => decide (m ∈ s ++ [n]) := by
    funext m
    by_cases hm : m = n
    · subst hm; simp [upd, setF]
    · simp [upd, setF, hm]
  rw [← e]
  exact hm

theorem WaySt.put (h : WaySt l B A c bl bt bs bo bw mt ms mo ok w s of) (n : Int) (i : Nat) :
    ∃ w', (Instr.mapUpdate 47 (.map (some mo)) (.int .i64 n) (.int .i64 i)).run Try.prog w = .ok () w' ∧ WaySt l B A c bl bt bs bo bw mt ms mo ok w' s (Kuhn.upd of n (some i)) ∧ Fr (fun k => k = ms ∨ k = mo) w w' := by
  obtain ⟨w', hr, hm, hg, _⟩ := h.mo.run_update Try.underlying47 Try.underlying3 n (.int .i64 i)
  have hf : Fr (fun k => k = ms ∨ k = mo) w w' := (Fr.of_grown hg).mono (fun k _ e => .inr (by simpa using e))
  refine ⟨w', hr, h.moved hf (h.ms.grown hg (by simpa using h.so)) ?_, hf⟩
  have e : upd (ofF of) n (some (.int .i64 i)) = ofF (Kuhn.upd of n (some i)) := by
    funext m
    by_cases hm : m = n
    · subst hm; simp [upd, Kuhn.upd, ofF]
    · simp [upd, Kuhn.upd, ofF, hm]
  rw [← e]
  exact hm
end

def WayPost (l : List (List Int)) (B : Nat) (A : Option Addr) (c bl bt bs bo bw mt ms mo : Nat) (ok : Int → Bool) (of : Int → Option Nat) (w : World) (r : Option Path × List Int) (e : Ending) (w' : World) : Prop :=
  e = .returned (.bool r.1.isSome) ∧ WaySt l B A c bl bt bs bo bw mt ms mo ok w' r.2 (applyOf of (r.1.getD [])) ∧ Fr (fun k => k = ms ∨ k = mo) w w'

set_option maxHeartbeats 1000000 in
theorem way_any {l : List (List Int)} {B : Nat} {A : Option Addr} {c bl bt bs bo bw mt ms mo : Nat} {ok : Int → Bool} {of : Int → Option Nat} (hof : ∀ n k, of n = some k → k < l.length)
    (hbig : ∀ i, (l.getD i []).length ≤ 9223372036854775807) (f : Nat) :
    ∀ (i : Nat) (s : List Int) (r : Option Path × List Int) (w : World), i < l.length → WaySt l B A c bl bt bs bo bw mt ms mo ok w s of →
      srch (fun j => l.getD j []) ok of f s i = some r →
      Calls Try.prog 35 #[.int .i64 i, .pointer (some ⟨bl, 0, none⟩), .pointer (some ⟨bt, 0, none⟩), .pointer (some ⟨bs, 0, none⟩), .pointer (some ⟨bo, 0, none⟩), .pointer (some ⟨bw, 0, none⟩)] w
        (WayPost l B A c bl bt bs bo bw mt ms mo ok of w r) := by
  induction f with
  | zero => intro i s r w _ _ h; cases h
  | succ f ih =>
    intro i s r w hi hst hrun
    obtain ⟨ad, A', c', hA, hrow, hlc, hints⟩ := hst.rows.row i hi
    subst hA
    obtain ⟨row, hrw⟩ : ∃ row, row = l[i] := ⟨_, rfl⟩
    rw [← hrw] at hrow hlc hints
    have hb := hbig i
    rw [List.getD_eq_getElem?_getD, List.getElem?_eq_getElem hi, Option.getD_some, ← hrw] at hb
    have HR : Hid (srchL (srch (fun j => l.getD j []) ok of f) ok of i row s = some r) := by
      have := hrun
      rw [srch, List.getD_eq_getElem?_getD, List.getElem?_eq_getElem hi, Option.getD_some, ← hrw] at this
      exact this
    have HI : Hid (IntsAt B w A' row) := hints
    have HST : Hid (WaySt l B (some ad) c bl bt bs bo bw mt ms mo ok w s of) := hst
    have HIH := Lib.hid ih
    obtain ⟨cl, ct, cs, co, cw⟩ : _ ∧ _ ∧ _ ∧ _ ∧ _ := ⟨hst.cl, hst.ct, hst.cs, hst.co, hst.cw⟩
    clear hrun hints hst hrw ih ct cs co cw
    go_enter Try.func35, Try.ntmps35
    go_wp2
    clear cl hrow
    go_loopw [17] (fun v wr => ∃ k sk, k ≤ row.length ∧ v = .int .i64 (k : Nat) ∧ Hid (srchL (srch (fun j => l.getD j []) ok of f) ok of i (row.drop k) sk = some r) ∧ Hid (WaySt l B (some ad) c bl bt bs bo bw mt ms mo ok wr sk of) ∧ Hid (Fr (fun k => k = ms ∨ k = mo) w wr))
      (fun v _ => row.length - (intOf v).toNat)
    case atStart => exact ⟨0, s, Nat.zero_le _, rfl, HR, HST, Fr.refl _ _⟩
    case round =>
      clear HR HST
      obtain ⟨k, sk, hk, rfl, HR, HST, HF⟩ := hrel
      by_cases hlt : k < row.length
      · obtain ⟨ad2, rfl, hcell⟩ := (HI.out.fr HF.out (fun b hb => by have := HST.out.lts; have := HST.out.lto; omega)).cell k hlt
        have hd : row.drop k = row[k] :: row.drop (k + 1) := List.drop_eq_getElem_cons hlt
        have HR2 := HR.out
        rw [hd, srchL_step] at HR2
        obtain ⟨n, hn⟩ : ∃ n, n = row[k] := ⟨_, rfl⟩
        rw [← hn] at HR2 hcell
        clear hd hn HR
        have l1 := look_set HST.out.mt n
        have l2 := look_set HST.out.ms n
        have l3 := look_of HST.out.mo n
        obtain ⟨ct, cs, co, cw⟩ : _ ∧ _ ∧ _ ∧ _ := ⟨HST.out.ct, HST.out.cs, HST.out.co, HST.out.cw⟩
        cases hok : ok n with
        | false =>
          rw [if_pos (.inl hok)] at HR2
          have HR3 := Lib.hid HR2
          rw [hok] at l1
          clear HR2 hok l2 l3 co cw
          go_wp2
          go_roundw
          case rel => exact ⟨k + 1, sk, by omega, by go_num, HR3, HST, HF⟩
          case measure => simp [intOf]; omega
        | true =>
          rw [hok] at l1
          by_cases hs : n ∈ sk
          · rw [if_pos (.inr hs)] at HR2
            have HR3 := Lib.hid HR2
            simp only [hs, decide_true] at l2
            clear HR2 hok hs l3 co cw
            go_wp2
            go_roundw
            case rel => exact ⟨k + 1, sk, by omega, by go_num, HR3, HST, HF⟩
            case measure => simp [intOf]; omega
          · rw [if_neg (by rintro (q | q); · rw [hok] at q; cases q
                           · exact hs q)] at HR2
            simp only [hs, decide_false] at l2
            obtain ⟨w1, hr1, hst1, hf1⟩ := HST.out.see n
            have HF1 := Lib.hid (HF.out.trans hf1)
            have HST1 := Lib.hid hst1
            have l31 := look_of hst1.mo n
            obtain ⟨co1, cw1⟩ : _ ∧ _ := ⟨hst1.co, hst1.cw⟩
            clear hs hok l3 co cw hf1 hst1
            cases ho : of n with
            | none =>
              rw [ho] at HR2 l31
              simp only [Option.some.injEq] at HR2
              subst HR2
              obtain ⟨w2, hr2, hst2, hf2⟩ := HST1.out.put n i
              have HST2 := Lib.hid hst2
              have HF2 := Lib.hid (HF1.out.trans hf2)
              clear ho hst2 hf2
              simp only [Option.getD_none, Option.isSome_none] at l31
              go_wp2
              go_ret
              exact ⟨rfl, HST2.out, HF2.out⟩
            | some k' =>
              have hk' := hof n k' ho
              rw [ho] at HR2 l31
              dsimp only at HR2
              simp only [Option.getD_some, Option.isSome_some] at l31
              cases hrec : srch (fun j => l.getD j []) ok of f (sk ++ [n]) k' with
              | none => rw [hrec] at HR2; cases HR2
              | some r0 =>
                have HC := Lib.hid (HIH.out k' (sk ++ [n]) r0 w1 hk' HST1.out hrec)
                rw [hrec] at HR2
                obtain ⟨q0, s0⟩ := r0
                cases q0 with
                | some p0 =>
                  simp only [Option.some.injEq] at HR2
                  subst HR2
                  clear ho hrec
                  go_wp2_with (go_at_call 35; refine HC.out.mono ?_; rintro e w2 ⟨rfl, hst2, hf2⟩; have HST2 := Lib.hid hst2; have HF2 := Lib.hid (HF1.out.trans hf2); have co2 := hst2.co; obtain ⟨w3, hr3, hst3, hf3⟩ := hst2.put n i; have HST3 := Lib.hid hst3; have HF3 := Lib.hid (HF2.out.trans hf3); clear hst2 hf2 hst3 hf3)
                  go_outline
                  go_ret
                  exact ⟨rfl, HST3.out, HF3.out⟩
                | none =>
                  dsimp only at HR2
                  have HR3 := Lib.hid HR2
                  clear ho hrec HR2
                  go_wp2_with (go_at_call 35; refine HC.out.mono ?_; rintro e w2 ⟨rfl, hst2, hf2⟩; have HST2 := Lib.hid hst2; have HF2 := Lib.hid (HF1.out.trans hf2); clear hst2 hf2)
                  go_outline
                  go_roundw
                  case rel => exact ⟨k + 1, s0, by omega, by go_num, HR3, HST2, HF2⟩
                  case measure => simp [intOf]; omega
      · go_wp2
        go_ret
        have e : row.drop k = [] := List.drop_eq_nil_of_le (by omega)
        have h := HR.out
        rw [e] at h
        simp only [srchL, Option.some.injEq] at h
        subst h
        exact ⟨rfl, HST.out, HF.out⟩
end Go.Proofs.Ytopjfnkcmdifhaa
