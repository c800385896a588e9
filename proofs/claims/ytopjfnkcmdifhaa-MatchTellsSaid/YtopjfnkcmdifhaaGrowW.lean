/- The walk of the document's search (ref.grow). -/
import Derived.Test.YtopjfnkcmdifhaaGrowP
namespace Go.Proofs.Ytopjfnkcmdifhaa
set_option linter.unusedVariables false
set_option linter.unusedSimpArgs false
open Go.RowKit Kuhn

namespace Kuhn
def Sub (U s : List Int) : Prop := s.Nodup ∧ ∀ x ∈ s, x ∈ U
theorem Sub.snoc {U s : List Int} {n : Int} (h : Sub U s) (hn : n ∉ s) (hU : n ∈ U) : Sub U (s ++ [n]) :=
  ⟨by rw [List.nodup_append]; exact ⟨h.1, by simp, by intro a ha b hb e; simp at hb; subst hb; subst e; exact hn ha⟩, fun x hx => by
    rcases List.mem_append.1 hx with q | q
    · exact h.2 x q
    · rw [List.mem_singleton.1 q]; exact hU⟩
theorem srchL_sub {rec : List Int → Nat → Option (Option Path × List Int)} {ok : Int → Bool} {of : Int → Option Nat} {i : Nat} {U : List Int} (hrec : ∀ s k r, Sub U s → rec s k = some r → Sub U r.2) :
    ∀ (l s : List Int) (r : Option Path × List Int), (∀ n ∈ l, n ∈ U) → Sub U s → srchL rec ok of i l s = some r → Sub U r.2 := by
  intro l
  induction l with
  | nil => intro s r _ hs h; simp only [srchL, Option.some.injEq] at h; subst h; exact hs
  | cons n ns ih =>
    intro s r hl hs h
    rw [srchL_step] at h
    by_cases hc : ok n = false ∨ n ∈ s
    · rw [if_pos hc] at h
      exact ih s r (fun m hm => hl m (.tail _ hm)) hs h
    · rw [if_neg hc] at h
      have h1 : Sub U (s ++ [n]) := hs.snoc (fun q => hc (.inr q)) (hl n (.head _))
      cases ho : of n with
      | none =>
        rw [ho] at h
        simp only [Option.some.injEq] at h
        subst h
        exact h1
      | some k =>
        rw [ho] at h
        dsimp only at h
        cases hr : rec (s ++ [n]) k with
        | none => rw [hr] at h; cases h
        | some r0 =>
          have h2 := hrec _ _ _ h1 hr
          rw [hr] at h
          obtain ⟨q, s'⟩ := r0
          cases q with
          | some p => simp only [Option.some.injEq] at h; subst h; exact h2
          | none => exact ih s' r (fun m hm => hl m (.tail _ hm)) h2 h
theorem srch_sub {row : Nat → List Int} {ok : Int → Bool} {of : Int → Option Nat} {U : List Int} (hU : ∀ i, ∀ n ∈ row i, n ∈ U) : ∀ (f : Nat) (s : List Int) (i : Nat) (r : Option Path × List Int), Sub U s → srch row ok of f s i = some r → Sub U r.2 := by
  intro f
  induction f with
  | zero => intro s i r _ h; cases h
  | succ f ih => intro s i r hs h; exact srchL_sub (fun s k r => ih s k r) _ _ _ (hU i) hs h
end Kuhn

def GrowPost (near : List (List Int)) (taken : List Int) (B : Nat) (A At : Option Addr) (bm capm : Nat) (m : List Int) (w : World) (r : Option Path × List Int) (e : Ending) (w' : World) : Prop :=
  ∃ A' c', e = .returned (.tuple #[.bool r.1.isSome, .slice A' r.2.length c']) ∧ GrowSt near taken B A At bm capm w' (applyM m (r.1.getD [])) r.2 (.slice A' r.2.length c') ∧ Below B w w'

/-- -1, or the place. -/
def atI : Option Nat → Int
  | none => -1
  | some j => j

theorem may_in {near : List (List Int)} {right v : Int} {u : Nat} (h : v ∈ near.getD u []) (h1 : 0 ≤ v ∧ v < right) : mayB near right u v = true := by
  unfold mayB
  rw [Bool.and_eq_true, decide_eq_true_eq, hasB_iff]
  exact ⟨h1, h⟩
theorem may_out {near : List (List Int)} {right v : Int} {u : Nat} (h : ¬ (0 ≤ v ∧ v < right)) : mayB near right u v = false := by
  unfold mayB
  rw [decide_eq_false h]
  rfl

set_option maxRecDepth 100000 in
set_option maxHeartbeats 600000 in
theorem grow_any {near : List (List Int)} {right : Int} {taken : List Int} {B : Nat} {A At : Option Addr} {c ct bm capm : Nat} {am : Addr} {m : List Int} {of : Int → Option Nat} {U : List Int} (hn : near.length ≤ 1000) (hl : ∀ r ∈ near, r.length ≤ 1000) (htl : taken.length ≤ 1000)
    (ham : am = ⟨bm, 0, none⟩) (hml : m.length = near.length) (hof : MOf m of) (hU : ∀ i, ∀ n ∈ near.getD i [], n ∈ U) (hUl : U.length ≤ 1000) (f : Nat) :
    ∀ (u : Nat) (s : List Int) (r : Option Path × List Int) (Av : Option Addr) (cv : Nat) (w : World), u < near.length → Sub U s → GrowSt near taken B A At bm capm w m s (.slice Av s.length cv) →
      srch (fun j => near.getD j []) (okB right taken) of f s u = some r →
      Calls Try.prog 37 #[.slice A near.length c, .int .i64 right, .slice At taken.length ct, .slice (some am) m.length capm, .int .i64 u, .slice Av s.length cv] w (GrowPost near taken B A At bm capm m w r) := by
  induction f with
  | zero => intro u s r Av cv w _ _ _ h; cases h
  | succ f ih =>
    intro u s r Av cv w hu hs hst hrun
    obtain ⟨ad, A', c', hA, hadB, hrow0, hlc, hia⟩ := hst.rows u hu
    subst hA
    have hgd : near.getD u [] = near[u] := by rw [List.getD_eq_getElem?_getD, List.getElem?_eq_getElem hu, Option.getD_some]
    have hr1000 := hl _ (List.getElem_mem hu)
    have hUu := hU u
    have hmay1 : ∀ v, v ∈ near.getD u [] → 0 ≤ v ∧ v < right → mayB near right u v = true := fun v h1 h2 => may_in h1 h2
    rw [hgd] at hUu hmay1
    obtain ⟨row, hrw⟩ : ∃ row, row = near[u] := ⟨_, rfl⟩
    rw [← hrw] at hrow0 hlc hia hr1000 hUu hmay1
    have HR : Hid (srchL (srch (fun j => near.getD j []) (okB right taken) of f) (okB right taken) of u row s = some r) := by
      have := hrun
      rw [srch, hgd, ← hrw] at this
      exact this
    have HI := Lib.hid hia
    have HROW := Lib.hid hrow0
    have HADB := Lib.hid hadB
    have HST := Lib.hid hst
    have HS := Lib.hid hs
    have HIH := Lib.hid ih
    have HUU := Lib.hid hUu
    have HMAY := Lib.hid hmay1
    have HK := Lib.hid hl
    have HML := Lib.hid hml
    have HOF := Lib.hid hof
    have HUS := Lib.hid (srch_sub (ok := okB right taken) (of := of) hU f)
    have HAM := Lib.hid ham
    have hm1000 : m.length ≤ 1000 := by omega
    clear hrun hia hst hrw ih hl hof ham hU hUu hmay1 hgd hs hml
    clear hrow0 hadB
    go_enter Try.func37, Try.ntmps37
    go_wp2
    go_loopw [5, 14] (fun v i wr => ∃ k sk Ak ck, k ≤ row.length ∧ v = .slice Ak (List.length sk) ck ∧ i = .int .i64 (k : Nat) ∧ Hid (srchL (srch (fun j => near.getD j []) (okB right taken) of f) (okB right taken) of u (row.drop k) sk = some r) ∧
      Hid (GrowSt near taken B (some ad) At bm capm wr m sk (.slice Ak (List.length sk) ck)) ∧ Hid (Sub U sk) ∧ Hid (Below B w wr)) (fun _ i _ => row.length - (intOf i).toNat)
    case atStart => exact ⟨0, s, Av, cv, Nat.zero_le _, rfl, rfl, HR, HST, HS, Below.refl _ _⟩
    case round =>
      clear HR HST HS
      obtain ⟨k, sk, Ak, ck, hk, rfl, rfl, HR, HST, HS, HB⟩ := hrel
      have hrow : wr.cell? (ad.add u) = some (.slice A' row.length c') := (World.cell?_of_block (HB.out.block _ (by rw [add_block]; exact HADB.out))).trans HROW.out
      have hsl : sk.length ≤ 1000 := by have := nodup_le HS.out.1 HS.out.2; omega
      by_cases hlt : k < row.length
      · obtain ⟨ad2, rfl, hcell⟩ := (HI.out.below HB.out).cell k hlt
        have hd : row.drop k = row[k] :: row.drop (k + 1) := List.drop_eq_getElem_cons hlt
        have HR2 := HR.out
        rw [hd, srchL_step] at HR2
        have hxr : row[k] ∈ row := List.getElem_mem hlt
        obtain ⟨x, hx⟩ : ∃ x, x = row[k] := ⟨_, rfl⟩
        rw [← hx] at HR2 hcell hxr
        clear hd hx HR
        by_cases hin : 0 ≤ x ∧ x < right
        · have HC := Lib.hid (may_near (q := true) c near right x u wr HST.out.rows hu HK.out (HMAY.out x hxr hin))
          by_cases htk : x ∈ taken
          · have hok : okB right taken x = false := by simp [okB, htk]
            rw [if_pos (.inl hok)] at HR2
            have HR3 := Lib.hid HR2
            have HD := Lib.hid (has_near (q := true) ct taken x wr HST.out.tk rfl htl (decide_eq_true htk))
            clear HR2 hok htk hin hxr
            go_wp2_with (first | (go_at_call 30; refine HC.out.mono ?_; rintro e w' ⟨rfl, rfl⟩) | (go_at_call 15; refine HD.out.mono ?_; rintro e w' ⟨rfl, rfl⟩))
            go_roundw
            case rel => exact ⟨k + 1, sk, Ak, ck, by omega, rfl, by go_num, HR3, HST, HS, HB⟩
            case measure => simp [intOf]; omega
          · have HD := Lib.hid (has_near (q := false) ct taken x wr HST.out.tk rfl htl (decide_eq_false htk))
            have htr : IntsAt wr.heap.size wr Ak sk := by
              obtain ⟨A1, c1, e, _, h⟩ := Ints.of_own HST.out.tr
              cases e
              exact h
            by_cases hsk : x ∈ sk
            · rw [if_pos (.inr hsk)] at HR2
              have HR3 := Lib.hid HR2
              have HE := Lib.hid (has_near (q := true) ck sk x wr htr rfl hsl (decide_eq_true hsk))
              clear HR2 htk hin hxr htr hsk
              go_wp2_with (first | (go_at_call 30; refine HC.out.mono ?_; rintro e w' ⟨rfl, rfl⟩) | (go_at_call 15; with_reducible refine HD.out.mono ?_; rintro e w' ⟨rfl, rfl⟩) | (go_at_call 15; with_reducible refine HE.out.mono ?_; rintro e w' ⟨rfl, rfl⟩))
              go_roundw
              case rel => exact ⟨k + 1, sk, Ak, ck, by omega, rfl, by go_num, HR3, HST, HS, HB⟩
              case measure => simp [intOf]; omega
            · have hok : okB right taken x = true := by
                unfold okB
                rw [decide_eq_true hin, decide_eq_false htk]
                rfl
              rw [if_neg (by rintro (q | q); · rw [hok] at q; cases q
                             · exact hsk q)] at HR2
              have HE := Lib.hid (has_near (q := false) ck sk x wr htr rfl hsl (decide_eq_false hsk))
              have HS1 := Lib.hid (HS.out.snoc hsk (HUU.out x hxr))
              have hx0 := hin.1
              obtain ⟨g, cap, w1, hap, hst1, hb1⟩ := HST.out.grow x (by omega)
              have HAP := Lib.hid hap
              have HST1 := Lib.hid hst1
              have HB1 := Lib.hid (HB.out.trans hb1)
              clear htk hin hxr htr hsk hok hap hst1 hb1
              go_wp2_with (first | (at_builtin; refine wpList_append_run rfl _ _ 25 rfl rfl rfl HAP.out ?_) | (go_at_call 30; refine HC.out.mono ?_; rintro e w' ⟨rfl, rfl⟩) | (go_at_call 15; with_reducible refine HD.out.mono ?_; rintro e w' ⟨rfl, rfl⟩) | (go_at_call 15; with_reducible refine HE.out.mono ?_; rintro e w' ⟨rfl, rfl⟩))
              clear HC HD HE hrow hcell
              go_loop [16, 17] (fun wv kk => ∃ j o, j ≤ m.length ∧ wv = .int .i64 (atI o) ∧ kk = .int .i64 (j : Nat) ∧ Hid (∀ i, o = some i ↔ i < j ∧ m[i]? = some x)) (fun _ kk => m.length - (intOf kk).toNat)
              case atStart => exact ⟨0, none, Nat.zero_le _, rfl, rfl, fun i => by constructor; (· intro h; cases h); (· rintro ⟨h, _⟩; omega)⟩
              case round =>
                obtain ⟨j, o, hj, rfl, rfl, HO⟩ := hrel
                by_cases hjl : j < m.length
                · obtain ⟨hcm, _⟩ := HST1.out.cell j hjl
                  rw [← HAM.out] at hcm
                  have hmj : m[j]? = some m[j] := List.getElem?_eq_getElem hjl
                  obtain ⟨y, hy⟩ : ∃ y, y = m[j] := ⟨_, rfl⟩
                  rw [← hy] at hcm hmj
                  clear hy
                  by_cases hxy : y = x
                  · have hb2 : ((y : Int) == x) = true := by simp [hxy]
                    have HO' : Hid (∀ i, some j = some i ↔ i < j + 1 ∧ m[i]? = some x) := by
                      intro i
                      constructor
                      · intro e; cases e; exact ⟨by omega, by rw [hmj, hxy]⟩
                      · rintro ⟨_, h2⟩
                        have e1 := (HOF.out x i).2 ⟨h2, hx0⟩
                        have e2 := (HOF.out x j).2 ⟨by rw [hmj, hxy], hx0⟩
                        rw [e1] at e2
                        exact e2.symm
                    clear hmj hxy
                    go_wp2
                    go_round
                    case rel => exact ⟨j + 1, some j, by omega, rfl, by go_num, HO'⟩
                    case measure => simp [intOf]; omega
                  · have hb2 : ((y : Int) == x) = false := by simp [hxy]
                    have HO' : Hid (∀ i, o = some i ↔ i < j + 1 ∧ m[i]? = some x) := by
                      intro i
                      rw [HO.out i]
                      constructor
                      · rintro ⟨h1, h2⟩; exact ⟨by omega, h2⟩
                      · rintro ⟨h1, h2⟩
                        refine ⟨?_, h2⟩
                        apply Classical.byContradiction
                        intro h3
                        obtain rfl : i = j := by omega
                        rw [hmj] at h2
                        cases h2
                        exact hxy rfl
                    clear hmj hxy
                    go_wp2
                    go_round
                    case rel => exact ⟨j + 1, o, by omega, rfl, by go_num, HO'⟩
                    case measure => simp [intOf]; omega
                · obtain rfl : o = of x := by
                    cases ho : of x with
                    | none =>
                      cases o with
                      | none => rfl
                      | some i =>
                        have := (HOF.out x i).2 ⟨((HO.out i).1 rfl).2, hx0⟩
                        rw [ho] at this; cases this
                    | some i =>
                      have h1 := (HOF.out x i).1 ho
                      exact (HO.out i).2 ⟨by have := (List.getElem?_eq_some_iff.1 h1.1).1; omega, h1.1⟩
                  have hum : u < m.length := by have := HML.out; omega
                  clear HO
                  cases ho : of x with
                  | none =>
                    rw [ho] at HR2
                    simp only [Option.some.injEq] at HR2
                    subst HR2
                    obtain ⟨hcm, hfm⟩ := HST1.out.cell u hum
                    obtain ⟨hst2, hb2⟩ := HST1.out.put u hum x
                    rw [← HAM.out] at hcm hfm hst2 hb2
                    have HST2 := Lib.hid hst2
                    have HB2 := Lib.hid (HB1.out.trans hb2)
                    have hat : atI none = -1 := rfl
                    clear ho hst2 hb2
                    simp only [hat]
                    go_wp2
                    go_outline
                    go_wp2
                    go_ret2
                    refine ⟨some ⟨g, 0, none⟩, cap, by simp, ?_, HB2.out⟩
                    simpa [applyM] using HST2.out
                  | some k' =>
                    have hk' : k' < near.length := by
                      have h1 := (HOF.out x k').1 ho
                      have := (List.getElem?_eq_some_iff.1 h1.1).1
                      have := HML.out
                      omega
                    rw [ho] at HR2
                    dsimp only at HR2
                    have hat : atI (some k') = (k' : Int) := rfl
                    cases hrec : srch (fun j => near.getD j []) (okB right taken) of f (sk ++ [x]) k' with
                    | none => rw [hrec] at HR2; cases HR2
                    | some r0 =>
                      have hst1' : GrowSt near taken B (some ad) At bm capm w1 m (sk ++ [x]) (.slice (some ⟨g, 0, none⟩) (sk ++ [x]).length cap) := by
                        have := HST1.out
                        simpa using this
                      have hc := HIH.out k' (sk ++ [x]) r0 (some ⟨g, 0, none⟩) cap w1 hk' HS1.out hst1' hrec
                      rw [show (sk ++ [x]).length = sk.length + 1 by simp] at hc
                      have HC := Lib.hid hc
                      have HS2 := Lib.hid (HUS.out _ _ _ HS1.out hrec)
                      rw [hrec] at HR2
                      obtain ⟨q0, s0⟩ := r0
                      clear hc hst1' hrec ho
                      cases q0 with
                      | some p0 =>
                        simp only [Option.some.injEq] at HR2
                        subst HR2
                        simp only [hat]
                        go_wp2_with (go_at_call 37; refine HC.out.mono ?_; rintro e w2 ⟨A2, c2, rfl, hst2, hb2⟩; obtain ⟨hcm, hfm⟩ := hst2.cell u (by rw [applyM_length]; exact hum); obtain ⟨hst3, hb3⟩ := hst2.put u (by rw [applyM_length]; exact hum) x; rw [← HAM.out] at hcm hfm hst3 hb3; have HST3 := Lib.hid hst3; have HB3 := Lib.hid ((HB1.out.trans hb2).trans hb3); clear hst2 hb2 hst3 hb3)
                        go_outline
                        go_wp2
                        go_ret2
                        exact ⟨A2, c2, rfl, HST3.out, HB3.out⟩
                      | none =>
                        dsimp only at HR2
                        have HR3 := Lib.hid HR2
                        clear HR2
                        simp only [hat]
                        go_wp2_with (go_at_call 37; refine HC.out.mono ?_; rintro e w2 ⟨A2, c2, rfl, hst2, hb2⟩; have HST2 := Lib.hid hst2; have HB2 := Lib.hid (HB1.out.trans hb2); clear hst2 hb2)
                        go_outline
                        go_wp2
                        go_roundw
                        case rel => exact ⟨k + 1, s0, A2, c2, by omega, rfl, by go_num, HR3, HST2, HS2, HB2⟩
                        case measure => simp [intOf]; omega
        · have hok : okB right taken x = false := by unfold okB; rw [decide_eq_false hin]; rfl
          rw [if_pos (.inl hok)] at HR2
          have HR3 := Lib.hid HR2
          have HC := Lib.hid (may_near (q := false) c near right x u wr HST.out.rows hu HK.out (may_out hin))
          clear HR2 hok hin hxr
          go_wp2_with (go_at_call 30; refine HC.out.mono ?_; rintro e w' ⟨rfl, rfl⟩)
          go_roundw
          case rel => exact ⟨k + 1, sk, Ak, ck, by omega, rfl, by go_num, HR3, HST, HS, HB⟩
          case measure => simp [intOf]; omega
      · have e : row.drop k = [] := List.drop_eq_nil_of_le (by omega)
        have h := HR.out
        rw [e] at h
        simp only [srchL, Option.some.injEq] at h
        subst h
        clear e
        go_wp2
        go_ret2
        exact ⟨Ak, ck, rfl, HST.out, HB.out⟩
end Go.Proofs.Ytopjfnkcmdifhaa
