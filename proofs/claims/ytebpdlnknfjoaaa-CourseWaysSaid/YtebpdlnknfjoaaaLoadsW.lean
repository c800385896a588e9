/- The walk of course.Loads. -/
import Derived.Test.YtebpdlnknfjoaaaFromW
import Derived.Laws.EntriesVeiled
namespace Go.Proofs.Ytebpdlnknfjoaaa
set_option linter.unusedVariables false
set_option linter.unusedSimpArgs false
open Go.RowKit

theorem rise_all {n : Int} : ∀ {p : List Int} {l : Int}, riseB n l p = true → ∀ x ∈ p, l < x ∧ x < n := by
  intro p
  induction p with
  | nil => intro l _ x hx; cases hx
  | cons y p ih =>
    intro l h x hx
    rw [riseB] at h
    split at h
    · rename_i hy
      rcases List.mem_cons.1 hx with rfl | hx
      · exact hy
      · have := ih h x hx; omega
    · cases h
theorem way_parts {n : Int} : ∀ {ps : List (List Int)} {T : List Int}, wayB n T ps = true → ∀ p ∈ ps, (∀ x ∈ p, 0 ≤ x ∧ x < n) ∧ 1 ≤ p.length ∧ p.length ≤ 8 := by
  intro ps
  induction ps with
  | nil => intro T _ p hp; cases hp
  | cons q ps ih =>
    intro T h p hp
    rw [wayB, Bool.and_eq_true] at h
    rcases List.mem_cons.1 hp with rfl | hp
    · have h1 := h.1
      unfold partB at h1
      rw [Bool.and_eq_true, Bool.and_eq_true, decide_eq_true_eq] at h1
      exact ⟨fun x hx => by have := rise_all h1.1.1 x hx; omega, h1.2⟩
    · exact ih h.2 p hp
theorem right_parts {n : Int} {s : ByteArray} {ws : List (List (List Int))} (h : rightB n s ws = true) : ws.length ≤ 4 ∧ ∀ ps ∈ ws, ps.length ≤ 4 ∧ (∀ p ∈ ps, p.length ≤ 8) ∧ ∀ x ∈ ps.flatten, 0 ≤ x ∧ x < n := by
  rw [rightB_eq, Bool.and_eq_true, Bool.and_eq_true, decide_eq_true_eq] at h
  refine ⟨h.1.2.2, fun ps hps => ?_⟩
  have h1 := List.all_eq_true.1 h.2 ps hps
  unfold okWay at h1
  rw [Bool.and_eq_true, decide_eq_true_eq] at h1
  have h2 := way_parts h1.2
  refine ⟨h1.1.2, fun p hp => (h2 p hp).2.2, fun x hx => ?_⟩
  obtain ⟨p, hp, hx⟩ := List.mem_flatten.1 hx
  exact (h2 p hp).1 x hx

theorem right_near {B : Nat} {A : Option Addr} {ws : List (List (List Int))} {q : Bool} (n : Int) (s : ByteArray) (c : Nat) (w : World) (hW : WaysAt B w A ws) (hs : s.size ≤ 9223372036854775807) (h2 : ∀ ps ∈ ws, ∀ p ∈ ps, p.length ≤ 1000) (hq : rightB n s ws = q) :
    Calls Try.prog 11 #[.int .i64 n, .agg #[.string s, .slice A ws.length c]] w fun e w' => e = .returned (.bool q) ∧ Below w.heap.size w w' := by
  subst hq
  exact right_any n s c w hW hs h2

/-- Rows at a slice of slices. -/
theorem OutRows.rows {B : Nat} {p : Nat → Prop} {w : World} {vo : Value} {outs : List (List Int)} (h : OutRows B p w vo outs) : ∃ A c, vo = .slice A outs.length c ∧ RowsAt w.heap.size w A outs := by
  obtain ⟨hdrs, h1, h2⟩ := h
  have hl : hdrs.length = outs.length := by have := h1.1; omega
  rcases h1.2 with ⟨rfl, h0⟩ | ⟨g, cap, cur, rfl, _, hb, hn, _, hs, ht⟩
  · have : outs = [] := List.length_eq_zero_iff.1 h0
    subst this
    exact ⟨none, 0, rfl, fun i hi => by simp at hi⟩
  · refine ⟨some ⟨g, 0, none⟩, cap, rfl, fun i hi => ?_⟩
    obtain ⟨v, e, gi, ci, cur2, rfl, _, hbi, hti, hci⟩ := h2 i hi
    refine ⟨⟨g, 0, none⟩, some ⟨gi, 0, none⟩, ci, rfl, (Array.getElem?_eq_some_iff.1 hb).1, ?_, hci, fun j hj => ⟨⟨gi, 0, none⟩, rfl, (Array.getElem?_eq_some_iff.1 hbi).1, ?_⟩⟩
    · have e1 : (cur.toList.take (outs.length * 1))[i]? = hdrs[i]? := by rw [ht]
      rw [List.getElem?_take_of_lt (by omega), e] at e1
      rw [add_free, Nat.zero_add]
      simpa [World.cell?, hb] using e1
    · have e1 : (cur2.toList.take outs[i].length)[j]? = (ints outs[i])[j]? := by rw [hti]
      rw [List.getElem?_take_of_lt hj] at e1
      rw [add_free, Nat.zero_add]
      have e2 : (ints outs[i])[j]? = some (.int .i64 outs[i][j]) := by simp [ints, hj]
      rw [e2] at e1
      simpa [World.cell?, hbi] using e1

theorem new_cell (w : World) (v : Value) (e b : Nat) (hb : b = w.heap.size) : (w.alloc (.cells #[v] e)).cell? ⟨b, 0, none⟩ = some v ∧ (w.alloc (.cells #[v] e)).frozen? ⟨b, 0, none⟩ = false := by
  subst hb
  exact ⟨cell_one (alloc_new _ _), froz_one (alloc_new _ _)⟩
theorem new_set (w : World) (u v : Value) (e b : Nat) (hb : b = w.heap.size) : (w.alloc (.cells #[u] e)).setCell ⟨b, 0, none⟩ v = w.alloc (.cells #[v] e) := by
  subst hb
  simp only [World.setCell, World.alloc]
  congr 1
  apply Array.ext_getElem?
  intro i
  rw [Array.getElem?_modify]
  by_cases hi : w.heap.size = i
  · subst hi; simp
  · have hi' : ¬ i = w.heap.size := fun e => hi e.symm
    simp [hi, hi', Array.getElem?_push]

/-- The cells of one way, laid. -/
theorem ld_start {wr w2 w4 : World} {B bo mo c1 : Nat} {A1 : Option Addr} {ps : List (List Int)} {g : Int → Option Int} {vo : Value} {outs : List (List Int)} (hB : B ≤ wr.heap.size) (hob : wr.heap[bo]? = some (.cells #[vo] 34 (0, 0))) (hboB : B ≤ bo)
    (hor : OutRows B (fun _ => True) wr vo outs) (hR : RowsAt B wr A1 ps) (hb2 : Below (wr.alloc (.cells #[.slice A1 ps.length c1] 42)).heap.size (wr.alloc (.cells #[.slice A1 ps.length c1] 42)) w2) (hmv : MapV w2 mo (mapF g))
    (hown4 : w4.ownsRow B 3 1 (.slice (some ⟨w2.heap.size + 1, 0, none⟩) 0 ps.length) 0 []) (hg4 : (w2.alloc (.cells #[.map (some mo)] 52)).grownBy w4 none) (F : Fix) (hF : F = ⟨B, wr.heap.size, w4.heap.size + 1, w2.heap.size, w4.heap.size, bo, w4.heap.size + 1 + 1, w2.heap.size + 1, mo, c1, A1, ps, g⟩) :
    LdSt F (((w4.alloc (.cells #[.slice (some ⟨w2.heap.size + 1, 0, none⟩) 0 ps.length] 29)).alloc (.cells #[F.tog] 26)).alloc (.cells #[F.fro] 55)) vo [] outs ∧
      Below B wr (((w4.alloc (.cells #[.slice (some ⟨w2.heap.size + 1, 0, none⟩) 0 ps.length] 29)).alloc (.cells #[F.tog] 26)).alloc (.cells #[F.fro] 55)) := by
  obtain ⟨V1, hV1⟩ : ∃ V1, V1 = w4.alloc (.cells #[.slice (some ⟨w2.heap.size + 1, 0, none⟩) 0 ps.length] 29) := ⟨_, rfl⟩
  obtain ⟨V2, hV2⟩ : ∃ V2, V2 = V1.alloc (.cells #[F.tog] 26) := ⟨_, rfl⟩
  obtain ⟨V3, hV3⟩ : ∃ V3, V3 = V2.alloc (.cells #[F.fro] 55) := ⟨_, rfl⟩
  have s1 : V1.heap.size = w4.heap.size + 1 := by rw [hV1]; simp
  have s2 : V2.heap.size = w4.heap.size + 1 + 1 := by rw [hV2]; simp [s1]
  have b43 : Below w4.heap.size w4 V3 := by
    rw [hV3, hV2, hV1]
    exact (((Below.refl _ _).alloc (Nat.le_refl _) _).alloc (by simp) _).alloc (by simp; omega) _
  have b24 : Below w2.heap.size w2 w4 := by
    have := below_grown (alloc_below w2 (.cells #[.map (some mo)] 52)) hg4 (by simp) (fun q e => by cases e)
    exact this
  have b23 : Below w2.heap.size w2 V3 := b24.trans (b43.mono b24.size)
  have br2 : Below wr.heap.size wr w2 := (alloc_below wr (.cells #[.slice A1 ps.length c1] 42)).trans (hb2.mono (by simp))
  have br3 : Below wr.heap.size wr V3 := br2.trans (b23.mono br2.size)
  have hs3 : w2.heap.size + 1 ≤ w4.heap.size := by have := hg4.size; simp at this; omega
  have hs2 : wr.heap.size + 1 ≤ w2.heap.size := by have := hb2.size; simp at this; omega
  have k3 : ∀ (k : Nat) (o : Obj), wr.heap[k]? = some o → V3.heap[k]? = some o := fun k o hk => (br3.block k (Array.getElem?_eq_some_iff.1 hk).1).trans hk
  have k23 : ∀ (k : Nat) (o : Obj), w2.heap[k]? = some o → V3.heap[k]? = some o := fun k o hk => (b23.block k (Array.getElem?_eq_some_iff.1 hk).1).trans hk
  have k43 : ∀ (k : Nat) (o : Obj), w4.heap[k]? = some o → V3.heap[k]? = some o := fun k o hk => (b43.block k (Array.getElem?_eq_some_iff.1 hk).1).trans hk
  have old : ∀ (w : World) (o : Obj) (k : Nat) (x : Obj), w.heap[k]? = some x → (w.alloc o).heap[k]? = some x := fun w o k x hk => (Below.heap_alloc w o k (Array.getElem?_eq_some_iff.1 hk).1).trans hk
  rw [← hV1, ← hV2, ← hV3]
  have hway : w2.heap[wr.heap.size]? = some (.cells #[.slice A1 ps.length c1] 42 (0, 0)) := (hb2.block _ (by simp)).trans (alloc_new _ _)
  have hneed : w4.heap[w2.heap.size]? = some (.cells #[.map (some mo)] 52 (0, 0)) := (hg4.block _ (by simp) (by simp)).trans (alloc_new _ _)
  have hld : V3.heap[w4.heap.size]? = some (.cells #[.slice (some ⟨w2.heap.size + 1, 0, none⟩) 0 ps.length] 29 (0, 0)) := by
    rw [hV3]
    refine old _ _ _ _ ?_
    rw [hV2]
    refine old _ _ _ _ ?_
    rw [hV1]
    exact alloc_new _ _
  have htog : V3.heap[w4.heap.size + 1]? = some (.cells #[F.tog] 26 (0, 0)) := by
    rw [hV3]
    refine old _ _ _ _ ?_
    rw [hV2, ← s1]
    exact alloc_new _ _
  have hfro : V3.heap[w4.heap.size + 1 + 1]? = some (.cells #[F.fro] 55 (0, 0)) := by
    rw [hV3, ← s2]
    exact alloc_new _ _
  have hbe : Below B wr V3 := br3.mono hB
  clear hV1 hV2 hV3
  subst hF
  refine ⟨⟨⟨k23 _ _ hway, hR.later br3, htog, k43 _ _ hneed, hmv.below b23 hmv.lt, hfro⟩, ⟨by show B ≤ w4.heap.size; omega, hboB, by show B ≤ w2.heap.size + 1; omega⟩, by have := br3.size; show B ≤ _; omega, hld, own_later hown4 b43, k3 _ _ hob, ?_, ?_⟩, hbe⟩
  · intro e
    have e' : vo.ownBlock = some w4.heap.size := e
    obtain ⟨_, cur, hc⟩ := hor.block _ e'
    have := (Array.getElem?_eq_some_iff.1 hc).1
    omega
  · refine hor.move (fun k hk => ?_) (fun k cur _ hk => ⟨(k3 k _ hk).trans hk.symm, ?_⟩)
    · obtain ⟨_, cur, hc⟩ := hor.block _ hk
      exact (k3 k _ hc).trans hc.symm
    · have := (Array.getElem?_eq_some_iff.1 hk).1
      show k ≠ w2.heap.size + 1
      omega

def LoadsPost (os : List Int) (s : ByteArray) (ws : List (List (List Int))) (w : World) (e : Ending) (w' : World) : Prop :=
  ∃ A' c', e = .returned (.slice A' (loadsOf os s ws).length c') ∧ RowsAt w'.heap.size w' A' (loadsOf os s ws) ∧ Below w.heap.size w w'

set_option maxRecDepth 100000 in
set_option maxHeartbeats 1000000 in
theorem loads_any {A A2 : Option Addr} {os : List Int} {ws : List (List (List Int))} (s : ByteArray) (c c2 : Nat) (w : World) (hO : OversAt w.heap.size w A os) (hW : WaysAt w.heap.size w A2 ws) (hs : s.size ≤ 9223372036854775807) (h2 : ∀ ps ∈ ws, ∀ p ∈ ps, p.length ≤ 1000) (hos : os.length ≤ 1000) (hN : (ws.flatMap fun ps => dfs ps []).length ≤ 1000000) :
    Calls Try.prog 20 #[.slice A os.length c, .agg #[.string s, .slice A2 ws.length c2]] w (LoadsPost os s ws w) := by
  have HB0 := Lib.hid (alloc_below w (.cells #[.string s, .slice A2 ws.length c2] 24))
  have HO := Lib.hid hO
  have HW := Lib.hid hW
  have HN := Lib.hid hN
  cases hr : rightB os.length s ws with
  | false =>
    have HC := Lib.hid (right_near os.length s c2 (w.alloc (.cells #[.string s, .slice A2 ws.length c2] 24)) (hW.later HB0.out) hs h2 hr)
    have HL : Hid (loadsOf os s ws = []) := by show _ = _; unfold loadsOf; rw [hr]; rfl
    clear hr hO hW h2 hN
    go_enter Try.func20, Try.ntmps20
    go_wp2_with (go_at_call 11; refine HC.out.mono ?_; rintro e w1 ⟨rfl, hb1⟩; have HB1 := Lib.hid (HB0.out.trans (hb1.mono HB0.out.size)); clear hb1)
    go_ret
    exact ⟨none, 0, by rw [HL.out]; rfl, by rw [HL.out]; intro i hi; simp at hi, HB1.out⟩
  | true =>
    have HC := Lib.hid (right_near os.length s c2 (w.alloc (.cells #[.string s, .slice A2 ws.length c2] 24)) (hW.later HB0.out) hs h2 hr)
    have HL : Hid (loadsOf os s ws = ws.flatMap (wayLoads os)) := by show _ = _; unfold loadsOf; rw [if_pos hr]
    obtain ⟨hw4, hrp⟩ := right_parts hr
    have HRP := Lib.hid hrp
    have HBX : Hid ((w.alloc (.cells #[.string s, .slice A2 ws.length c2] 24)).cell? ⟨w.heap.size, 1, none⟩ = some (.slice A2 ws.length c2)) := by show _ = _; simp [go_sem]
    clear hr hO hW h2 hN hrp
    go_enter Try.func20, Try.ntmps20
    go_wp2_with (go_at_call 11; refine HC.out.mono ?_; rintro e w1 ⟨rfl, hb1⟩; have HB1 := Lib.hid (HB0.out.trans (hb1.mono HB0.out.size)); have hbx1 : (w1.alloc (.cells #[.slice none 0 0] 34)).cell? ⟨w.heap.size, 1, none⟩ = some (.slice A2 ws.length c2) := cell_alloc ((World.cell?_of_block (hb1.block _ (cell_lt HBX.out))).trans HBX.out) _; clear hb1)
    clear HBX HB0 HC
    have HOB : Hid ((w1.alloc (.cells #[.slice none 0 0] 34)).heap[w1.heap.size]? = some (.cells #[.slice none 0 0] 34 (0, 0))) := alloc_new _ _
    have HOR : Hid (OutRows w.heap.size (fun _ => True) (w1.alloc (.cells #[.slice none 0 0] 34)) (.slice none 0 0) ((ws.take 0).flatMap (wayLoads os))) := OutRows.start _ _ _
    have HBA : Hid (Below w.heap.size w (w1.alloc (.cells #[.slice none 0 0] 34))) := HB1.out.alloc HB1.out.size _
    have HW1 : Hid (w.heap.size ≤ w1.heap.size) := HB1.out.size
    clear hbx1 HB1
    go_loopw [20] (fun i wr => ∃ (k : Nat) (vo : Value), k ≤ ws.length ∧ i = .int .i64 (k : Nat) ∧ Hid (wr.heap[w1.heap.size]? = some (.cells #[vo] 34 (0, 0))) ∧ Hid (OutRows w.heap.size (fun _ => True) wr vo ((ws.take k).flatMap (wayLoads os))) ∧ Hid (Below w.heap.size w wr)) (fun i _ => ws.length - (intOf i).toNat)
    case atStart => exact ⟨0, _, Nat.zero_le _, rfl, HOB, HOR, HBA⟩
    case round =>
      clear HOB HOR HBA
      obtain ⟨k, vo, hk, rfl, HOB, HOR, HB⟩ := hrel
      by_cases hlt : k < ws.length
      · obtain ⟨ad, A1, c1, rfl, hadB, hc1, hl1, hR⟩ := (HW.out.later HB.out) k hlt
        obtain ⟨hp4, hp8, hin⟩ := HRP.out _ (List.getElem_mem hlt)
        obtain ⟨ps, hps⟩ : ∃ ps, ps = ws[k] := ⟨_, rfl⟩
        rw [← hps] at hc1 hR hp4 hp8 hin
        have HPE := Lib.hid hps
        have hba := alloc_below wr (.cells #[.slice A1 ps.length c1] 42)
        have HC := Lib.hid (over_any c c1 (wr.alloc (.cells #[.slice A1 ps.length c1] 42)) (((HO.out.later HB.out).later hba).now) ((hR.later hba).now) (by omega) (fun p hp => by have := hp8 p hp; omega) hin (by omega))
        have HR := Lib.hid hR
        have HP8 := Lib.hid hp8
        clear hps hl1 hR hp8 hin hba hadB
        have hpm : ps ∈ ws := by rw [HPE.out]; exact List.getElem_mem hlt
        have hNk : ((ws.take k).flatMap (wayLoads os)).length + (dfs ps []).length ≤ 1000000 := by
          have h1 := HN.out
          have h2 : ∀ (l : List (List (List Int))), (l.flatMap (wayLoads os)).length ≤ (l.flatMap fun ps => dfs ps []).length := by
            intro l
            induction l with
            | nil => simp
            | cons q l ih =>
              rw [List.flatMap_cons, List.flatMap_cons, List.length_append, List.length_append]
              have : (wayLoads os q).length ≤ (dfs q []).length := List.length_filter_le _ _
              omega
          have h3 := h2 (ws.take k)
          have h4 : ws = ws.take k ++ (ws[k] :: ws.drop (k + 1)) := by rw [← List.drop_eq_getElem_cons hlt, List.take_append_drop]
          have h5 : (ws.flatMap fun ps => dfs ps []).length = ((ws.take k).flatMap fun ps => dfs ps []).length + ((dfs ps []).length + ((ws.drop (k + 1)).flatMap fun ps => dfs ps []).length) := by
            rw [HPE.out]
            conv => lhs; rw [h4]
            rw [List.flatMap_append, List.flatMap_cons, List.length_append, List.length_append]
          omega
        have HNK := Lib.hid hNk
        have HTK : Hid ((ws.take (k + 1)).flatMap (wayLoads os) = (ws.take k).flatMap (wayLoads os) ++ (dfs ps []).filter (holdB (needOf os ps.flatten))) := by
          show _ = _
          rw [List.take_succ_eq_append_getElem hlt, List.flatMap_append, ← HPE.out]
          simp [wayLoads]
        clear hpm hNk
        go_wp2_with (first
          | (go_at_call 40; refine HC40.out.mono ?_; rintro e w9 ⟨rfl, ⟨vo9, hst9⟩, hb9⟩
             have HOB9 : Hid (w9.heap[w1.heap.size]? = some (.cells #[vo9] 34 (0, 0))) := hst9.box
             have HOR9 : Hid (OutRows w.heap.size (fun _ => True) w9 vo9 ((ws.take (k + 1)).flatMap (wayLoads os))) := by
               show OutRows _ _ _ _ _
               rw [HTK.out]
               exact hst9.out.move (fun _ _ => rfl) (fun _ _ _ _ => ⟨rfl, trivial⟩)
             have HB9 := Lib.hid (HB5.out.trans hb9)
             clear hst9 hb9)
          | (go_at_call 37; refine HC.out.mono ?_; rintro e w2 ⟨mo, rfl, hmo, hmv, hb2⟩
             have hway : w2.heap[wr.heap.size]? = some (.cells #[.slice A1 ps.length c1] 42 (0, 0)) := (hb2.block _ (by simp)).trans (alloc_new _ _)
             have hwb := cell_alloc (cell_one hway) (.cells #[.map (some mo)] 52)
             obtain ⟨w4, hmk, hown4, hg4⟩ := make_zero (P := Try.prog) (t := 29) (n := ps.length) (base := w.heap.size) (w := w2.alloc (.cells #[.map (some mo)] 52)) Try.underlying29 info_int (by omega) (by omega) (by have h1 := HB.out.size; have h2 := hb2.size; simp at h2 ⊢; omega)
             have hs2 : (w2.alloc (.cells #[.map (some mo)] 52)).heap.size = w2.heap.size + 1 := by simp
             rw [hs2] at hmk hown4
             obtain ⟨hst, hb5⟩ := ld_start HB.out.size HOB.out HW1.out HOR.out HR.out hb2 hmv hown4 hg4 _ rfl
             have hc40 := from_any _ (by show ps.length ≤ 1000; omega) (by intro p hp; have := HP8.out p hp; omega) ps.length 0 (by show 0 + ps.length = ps.length; omega) _ vo [] _ rfl hst (by show _ + (dfs (ps.drop 0) []).length ≤ _; rw [List.drop_zero]; exact HNK.out)
             have HC40 := Lib.hid hc40
             have HB5 := Lib.hid (HB.out.trans hb5)
             clear hmo hmv hb2 hown4 hg4 hs2 hway hst hb5 hc40))
        go_roundw
        case rel => exact ⟨k + 1, vo9, by omega, by go_num, HOB9, HOR9, HB9⟩
        case measure => simp [intOf]; omega
      · have HF : Hid (OutRows w.heap.size (fun _ => True) wr vo (loadsOf os s ws)) := by
          have := HOR.out
          rw [List.take_of_length_le (show ws.length ≤ k by omega), ← HL.out] at this
          exact this
        have hob := cell_one HOB.out
        obtain ⟨Ao, co, rfl, hro⟩ := HF.out.rows
        have HRO := Lib.hid hro
        clear hro HOR
        go_wp2
        go_ret
        exact ⟨Ao, co, rfl, HRO.out, HB.out⟩
end Go.Proofs.Ytebpdlnknfjoaaa
