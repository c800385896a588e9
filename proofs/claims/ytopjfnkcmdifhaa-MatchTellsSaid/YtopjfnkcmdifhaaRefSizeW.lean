/- The walk of the document's size: how many left ones can be matched at most. -/
import Derived.Test.YtopjfnkcmdifhaaGrowW
namespace Go.Proofs.Ytopjfnkcmdifhaa
set_option linter.unusedVariables false
set_option linter.unusedSimpArgs false
open Go.RowKit Kuhn

section
variable {near : List (List Int)} {taken : List Int} {B : Nat} {A At : Option Addr} {bm capm : Nat} {w : World} {m s : List Int} {v : Value}
theorem GrowSt.fresh (h : GrowSt near taken B A At bm capm w m s v) : GrowSt near taken B A At bm capm (w.alloc (.cells #[] 3)) m [] (.slice (some ⟨w.heap.size, 0, none⟩) 0 0) ∧ Below B w (w.alloc (.cells #[] 3)) := by
  have hb : Below B w (w.alloc (.cells #[] 3)) := (Below.refl B w).alloc h.low _
  exact ⟨⟨h.rows.below hb, h.tk.below hb, h.m.alloc _, World.ownsRow_made (e := 3) (base := bm + 1) (size := 1) w #[] 0 (by have := h.bm_ge.2; omega) (by unfold maxLen; omega) rfl, by simp; have := h.low; omega⟩, hb⟩
theorem GrowSt.drop (h : GrowSt near taken B A At bm capm w m s v) : GrowSt near taken B A At bm capm w m [] (.slice none 0 0) :=
  ⟨h.rows, h.tk, h.m, World.ownsRow_nil _ _ _ _, h.low⟩
end
theorem mof_start (n : Nat) : MOf (List.replicate n (-1)) (fun _ => none) := by
  intro v k
  constructor
  · intro h; cases h
  · rintro ⟨h1, h2⟩
    rw [List.getElem?_replicate] at h1
    split at h1
    · cases h1; omega
    · cases h1
theorem near_U {near : List (List Int)} : ∀ i, ∀ n ∈ near.getD i [], n ∈ near.flatten := by
  intro i n hn
  rw [List.getD_eq_getElem?_getD] at hn
  cases he : near[i]? with
  | none => rw [he] at hn; cases hn
  | some r =>
    rw [he] at hn
    exact List.mem_flatten.2 ⟨r, List.mem_of_getElem? he, hn⟩
theorem grow_near {near : List (List Int)} {right : Int} {taken : List Int} {B n : Nat} {A At : Option Addr} {c ct bm capm : Nat} {m : List Int} {of : Int → Option Nat} (hn : near.length ≤ 1000) (hl : ∀ r ∈ near, r.length ≤ 1000) (htl : taken.length ≤ 1000)
    (hnm : n = near.length) (hml : m.length = near.length) (hof : MOf m of) (hUl : near.flatten.length ≤ 1000) (u : Nat) (b : Nat) (w : World) (hu : u < near.length) (hst : GrowSt near taken B A At bm capm w m [] (.slice (some ⟨b, 0, none⟩) 0 0)) (r : Option Path × List Int)
    (hr : srch (fun j => near.getD j []) (okB right taken) of (near.flatten.length + 1) [] u = some r) :
    Calls Try.prog 37 #[.slice A near.length c, .int .i64 right, .slice At taken.length ct, .slice (some ⟨bm, 0, none⟩) n capm, .int .i64 u, .slice (some ⟨b, 0, none⟩) 0 0] w (GrowPost near taken B A At bm capm m w r) := by
  subst hnm
  have := grow_any (c := c) (ct := ct) hn hl htl rfl hml hof near_U hUl _ u [] r (some ⟨b, 0, none⟩) 0 w hu ⟨List.nodup_nil, by simp⟩ hst hr
  rw [hml] at this
  exact this

set_option maxRecDepth 100000 in
set_option maxHeartbeats 600000 in
theorem size_any {near : List (List Int)} {right : Int} {taken : List Int} {A At : Option Addr} {l : List (List Int)} (hll : l = near.map (rowOf right)) (c ct : Nat) (fr : Nat) (w : World) (hR : RowsAt w.heap.size w A near) (hT : IntsAt w.heap.size w At taken) (hn : near.length ≤ 1000) (hl : ∀ r ∈ near, r.length ≤ 1000) (htl : taken.length ≤ 1000)
    (hUl : near.flatten.length ≤ 1000) (hfr : fr ≤ near.length) :
    Calls Try.prog 29 #[.slice A near.length c, .int .i64 right, .int .i64 fr, .slice At taken.length ct] w fun e w' => e = .returned (.int .i64 (mm (rowF l) (free taken) fr near.length)) ∧ Below w.heap.size w w' := by
  rw [← mm_raw hll]
  have HR := Lib.hid hR
  have HT := Lib.hid hT
  have HK := Lib.hid hl
  clear hR hT hl hll
  go_enter Try.func29, Try.ntmps29
  go_wp2
  have H0 : Hid ((w.alloc (.cells #[] 3)).ownsRow w.heap.size 3 1 (.slice (some ⟨w.heap.size, 0, none⟩) 0 0) 0 (ints (List.replicate 0 (-1)))) := World.ownsRow_made (e := 3) (base := w.heap.size) (size := 1) w #[] 0 (Nat.le_refl _) (by unfold maxLen; omega) rfl
  go_loopw [9, 10] (fun v i wr => ∃ k g cap, k ≤ near.length ∧ v = .slice (some ⟨g, 0, none⟩) k cap ∧ i = .int .i64 (k : Nat) ∧ Hid (wr.ownsRow w.heap.size 3 1 (.slice (some ⟨g, 0, none⟩) k cap) k (ints (List.replicate k (-1)))) ∧ Hid (Below w.heap.size w wr)) (fun _ i _ => near.length - (intOf i).toNat)
  case atStart => exact ⟨0, w.heap.size, 0, Nat.zero_le _, rfl, rfl, H0, (Below.refl _ _).alloc (Nat.le_refl _) _⟩
  case round =>
    clear H0
    obtain ⟨k, g, cap, hk, rfl, rfl, HO, HB⟩ := hrel
    by_cases hlt : k < near.length
    · have ho : wr.ownsRow w.heap.size 3 1 (.slice (some ⟨g, 0, none⟩) k cap) (List.replicate k (-1 : Int)).length (ints (List.replicate k (-1))) := by simpa using HO.out
      obtain ⟨g', cap', w', hap, hown, hgr⟩ := app_ints (ty := 25) Try.underlying25 info3 ho (-1) (by simp; omega) HB.out.size
      simp only [List.length_replicate] at hap hown
      have HAP := Lib.hid hap
      have HO' : Hid (w'.ownsRow w.heap.size 3 1 (.slice (some ⟨g', 0, none⟩) (k + 1) cap') (k + 1) (ints (List.replicate (k + 1) (-1)))) := by
        have e : List.replicate (k + 1) (-1 : Int) = List.replicate k (-1) ++ [-1] := by simp [List.replicate_succ']
        rw [e]
        have := hown
        simp only [List.length_append, List.length_replicate, List.length_singleton] at this
        exact this
      have HB' := Lib.hid (below_grown HB.out hgr HB.out.size (own_ge ho))
      clear hap hown hgr ho
      go_wp2_with (at_builtin; refine wpList_append_run rfl _ _ 25 rfl rfl rfl HAP.out ?_)
      go_roundw
      case rel => exact ⟨k + 1, g', cap', by omega, rfl, by go_num, HO', HB'⟩
      case measure => simp [intOf]; omega
    · obtain rfl : k = near.length := by omega
      have HST : Hid (GrowSt near taken w.heap.size A At g cap wr (List.replicate near.length (-1)) [] (.slice none 0 0)) :=
        ⟨HR.out.below HB.out, HT.out.below HB.out, by simpa using HO.out, World.ownsRow_nil _ _ _ _, HB.out.size⟩
      have HM0 := Lib.hid (mof_start near.length)
      clear HR HT HO
      go_wp2
      obtain ⟨w1, rfl⟩ : ∃ w1 : World, w1 = wr := ⟨_, rfl⟩
      go_loopw [11, 12] (fun v i wr => ∃ (n k : Nat) (of : Int → Option Nat) (m : List Int), fr ≤ k ∧ k ≤ near.length ∧ n ≤ k ∧ v = .int .i64 (n : Nat) ∧ i = .int .i64 (k : Nat) ∧ Hid (∃ S F B, KInv (fun j => near.getD j []) (okB right taken) fr k of n S F B) ∧ Hid (MOf m of) ∧ Hid (m.length = near.length) ∧
        Hid (GrowSt near taken w.heap.size A At g cap wr m [] (.slice none 0 0)) ∧ Hid (Below w.heap.size w wr)) (fun _ i _ => near.length - (intOf i).toNat)
      case atStart => exact ⟨0, fr, fun _ => none, List.replicate near.length (-1), Nat.le_refl _, hfr, Nat.zero_le _, rfl, rfl, ⟨_, _, _, KInv.start _ _ _⟩, HM0, by show (List.replicate near.length (-1 : Int)).length = _; simp, HST, HB⟩
      case round =>
        clear HST HM0 HB
        obtain ⟨n, k, of, m, hfk, hk, hnk, rfl, rfl, HKI, HM, HML, HST, HB⟩ := hrel
        by_cases hlt : k < near.length
        · obtain ⟨S, F, B', hki⟩ := HKI.out
          have hcur : ∀ v, of v ≠ some k := fun v e => by have := (hki.valid.edge v k e).2.1; omega
          obtain ⟨r, hr⟩ := srch_ends (row := fun j => near.getD j []) (ok := okB right taken) (of := of) (U := near.flatten) (fun k v _ => near_U k) (near.flatten.length + 1) [] k (near_U k) (by have := List.length_filter_le (fun v => !decide (v ∈ ([] : List Int))) near.flatten; omega)
          have ht := srch_tells _ _ _ _ hr
          obtain ⟨hst1, hb1⟩ := HST.out.fresh
          have HB1 := Lib.hid (HB.out.trans hb1)
          have HC := Lib.hid (grow_near (c := c) (ct := ct) hn HK.out htl rfl HML.out HM.out hUl k _ _ hlt hst1 r hr)
          obtain ⟨q, s⟩ := r
          cases q with
          | some p =>
            have hp : PathOK (fun j => near.getD j []) (okB right taken) of k p := ht.2.1
            have HKI' : Hid (∃ S F B, KInv (fun j => near.getD j []) (okB right taken) fr (k + 1) (applyOf of p) (n + 1) S F B) := ⟨_, _, _, hki.hit hfk hp⟩
            have HM' := Lib.hid (HM.out.path (fun n hn => by
              unfold okB at hn
              rw [Bool.and_eq_true, decide_eq_true_eq] at hn
              exact hn.1.1) hcur (by have := HML.out; omega) hp)
            have HML' : Hid ((applyM m p).length = near.length) := by show _ = _; rw [applyM_length, HML.out]
            clear hki hcur hr ht hp hst1 hb1
            go_wp2_with (go_at_call 37; refine HC.out.mono ?_; rintro e w2 ⟨A2, c2, rfl, hst2, hb2⟩; have HST2 := Lib.hid hst2.drop; have HB2 := Lib.hid (HB1.out.trans hb2); clear hst2 hb2)
            go_roundw
            case rel => exact ⟨n + 1, k + 1, applyOf of p, applyM m p, by omega, by omega, by omega, by go_num, by go_num, HKI', HM', HML', HST2, HB2⟩
            case measure => simp [intOf]; omega
          | none =>
            have HKI' : Hid (∃ S F B, KInv (fun j => near.getD j []) (okB right taken) fr (k + 1) of n S F B) := ⟨_, _, _, hki.miss ht⟩
            clear hki hcur hr ht hst1 hb1
            go_wp2_with (go_at_call 37; refine HC.out.mono ?_; rintro e w2 ⟨A2, c2, rfl, hst2, hb2⟩; have HST2 := Lib.hid hst2.drop; have HB2 := Lib.hid (HB1.out.trans hb2); clear hst2 hb2)
            go_roundw
            case rel => exact ⟨n, k + 1, of, m, by omega, by omega, by omega, by go_num, by go_num, HKI', HM, HML, HST2, HB2⟩
            case measure => simp [intOf]; omega
        · obtain rfl : k = near.length := by omega
          obtain ⟨S, F, B', hki⟩ := HKI.out
          have he := Lib.hid hki.eq_mm
          clear hki HKI
          go_wp2
          go_ret
          exact ⟨ret_int (by rw [← he.out]), HB.out⟩
end Go.Proofs.Ytopjfnkcmdifhaa
