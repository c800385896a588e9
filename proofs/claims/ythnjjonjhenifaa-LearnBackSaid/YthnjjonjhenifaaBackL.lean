/- The walk of LearnBack. -/
import Derived.Test.YthnjjonjhenifaaWalks
import Derived.Test.YthnjjonjhenifaaPLearnTellsAt
namespace Go.Proofs.Ythnjjonjhenifaa
set_option linter.unusedVariables false
set_option linter.unusedSimpArgs false
open Go.RowKit

theorem few_sized {ms : List Mk} {n : Nat} (h : fewB ms n = true) : Sized ms ∧ n ≤ 24 := by
  obtain ⟨h1, h2, h3⟩ := few_bounds h
  exact ⟨⟨by omega, fun i hi => by have := h3 i hi; omega⟩, h2⟩
theorem latest_ref {B : Nat} {A A2 : Option Addr} {ms : List Mk} {cl : List Int} {n : Nat} {L : Int} (c c2 : Nat) (w : World) (hM : MarksAt B w A ms) (hI : IntsAt B w A2 cl) (hz : Sized ms) (k1 : ms.length ≤ c) (hn : cl.length = n) (hn1 : n ≤ 1000) (k2 : n ≤ c2) (hf : Fal ms cl) (hL : latestP ms cl = L) :
    Calls Try.prog 20 #[.slice A ms.length c, .slice A2 n c2] w fun e w' => e = .returned (.int .i64 L) ∧ Below w.heap.size w w' := by
  subst hn hL
  obtain ⟨k, hk⟩ := (PLearnTells.latest_ev hz.1 hf).rounds
  have := PLearnTells.horariumref36_Latest.calls k A c (PLearnTells.tS ms) A2 c2 cl (latestP ms cl) w (PLearnTells.marks_C hM hz.1 hz.2) (by rw [PLearnTells.tS_len]; exact k1) (int_C hI (by omega)) k2 hk
  rw [PLearnTells.tS_len] at this
  refine this.mono ?_
  rintro e w' ⟨rfl, hd⟩
  exact ⟨rfl, by first | exact hd | exact hd.below⟩

/-- The literals of the first k marks up to a level. -/
def leftP (ms : List Mk) (b : Int) (k : Nat) : List Int := litsOf ((ms.take k).filter fun m => decide (m.lev ≤ b))
theorem left_snoc {ms : List Mk} {b : Int} {k : Nat} (hk : k < ms.length) : leftP ms b (k + 1) = if (atM ms k).lev ≤ b then leftP ms b k ++ [(atM ms k).lit] else leftP ms b k := by
  unfold leftP litsOf
  rw [List.take_succ_eq_append_getElem hk, List.filter_append, List.map_append, atM_eq hk]
  by_cases h : ms[k].lev ≤ b
  · simp [h]
  · simp [h]
theorem left_len {ms : List Mk} {b : Int} {k : Nat} : (leftP ms b k).length ≤ ms.length := by
  unfold leftP litsOf
  rw [List.length_map]
  refine Nat.le_trans (List.length_filter_le _ _) ?_
  rw [List.length_take]
  omega
theorem left_mem {ms : List Mk} {b : Int} {c : List Int} (h : Fal ms c) {x : Int} (hx : x ∈ c) : neg x ∈ leftP ms b ms.length ↔ levAt ms (posI ms x) ≤ b := by
  obtain ⟨p, hp, e1, e2, _⟩ := h.pos hx
  have hl : levAt ms (posI ms x) = (atM ms p).lev := by unfold levAt; rw [e1, Int.toNat_natCast]
  rw [hl]
  unfold leftP litsOf
  rw [List.take_length, List.mem_map]
  constructor
  · rintro ⟨m, hm, e⟩
    obtain ⟨hm, hlev⟩ := List.mem_filter.1 hm
    obtain ⟨j, hj, rfl⟩ := List.mem_iff_getElem.1 hm
    have : j = p := right_lit h.right hj hp (by rw [atM_eq hj, e, e2])
    subst this
    rw [atM_eq hj]
    simpa using hlev
  · intro hlev
    exact ⟨atM ms p, List.mem_filter.2 ⟨by rw [atM_eq hp]; exact List.getElem_mem hp, by simpa using hlev⟩, e2⟩
def openL (c left : List Int) : List Int := c.filter fun x => !decide (neg x ∈ left)
theorem open_snoc {c left : List Int} {k : Nat} (hk : k < c.length) : openL (c.take (k + 1)) left = if neg c[k] ∈ left then openL (c.take k) left else openL (c.take k) left ++ [c[k]] := by
  unfold openL
  rw [List.take_succ_eq_append_getElem hk, List.filter_append]
  by_cases h : neg c[k] ∈ left
  · simp [h]
  · simp [h]
theorem open_none {ms : List Mk} {c : List Int} (h : Fal ms c) {b : Int} (hb : ∀ x ∈ c, levAt ms (posI ms x) ≤ b) : (openL c (leftP ms b ms.length)).length = 0 := by
  rw [List.length_eq_zero_iff]
  unfold openL
  rw [List.filter_eq_nil_iff]
  intro x hx
  have := (left_mem (b := b) h hx).2 (hb x hx)
  simp [this]
theorem open_one {ms : List Mk} {c : List Int} (h : Fal ms c) (h0 : ¬ latestP ms c < 0) (hb : backP ms c < levAt ms (latestP ms c)) : (openL c (leftP ms (backP ms c) ms.length)).length = 1 := by
  have hc : c ≠ [] := fun e => h0 ((latest_neg h).2 e)
  obtain ⟨x, hx, ex⟩ := latest_mem h hc
  have hin : x ∈ openL c (leftP ms (backP ms c) ms.length) := by
    refine List.mem_filter.2 ⟨hx, ?_⟩
    have : ¬ neg x ∈ leftP ms (backP ms c) ms.length := fun q => by
      have := (left_mem h hx).1 q
      rw [ex] at this
      omega
    simp [this]
  have hnd : (openL c (leftP ms (backP ms c) ms.length)).Nodup := (asc_nodup h.asc).filter _
  have hall : ∀ y ∈ openL c (leftP ms (backP ms c) ms.length), y ∈ [x] := fun y hy => by
    obtain ⟨hyc, hyl⟩ := List.mem_filter.1 hy
    have hyl : ¬ neg y ∈ leftP ms (backP ms c) ms.length := by simpa using hyl
    rw [left_mem h hyc] at hyl
    have : posI ms y = latestP ms c := by
      apply Classical.byContradiction
      intro q
      exact hyl (back_ge hyc q)
    rw [h.inj hyc hx (this.trans ex.symm)]
    exact List.mem_singleton.2 rfl
  have h1 := nodup_le hnd hall
  have h2 := List.length_pos_of_mem hin
  simp at h1
  omega
theorem lev_zero {ms : List Mk} {c : List Int} (h : Fal ms c) (h1 : levAt ms (latestP ms c) = 0) : ∀ x ∈ c, levAt ms (posI ms x) ≤ backP ms c := by
  intro x hx
  have hb := back_nonneg (ms := ms) (c := c)
  have hge := latest_ge (ms := ms) hx
  have hlt := latest_lt h
  obtain ⟨p, hp, e1, _⟩ := h.pos hx
  obtain ⟨k, hk⟩ : ∃ k : Nat, latestP ms c = k := ⟨(latestP ms c).toNat, by omega⟩
  have := lev_mono h.right (show p ≤ k by omega) (show k < ms.length by omega)
  rw [← e1, ← hk, h1] at this
  omega

set_option maxRecDepth 100000 in
set_option maxHeartbeats 1000000 in
theorem backs_any (ms : List Mk) (cl : List Int) (A1 : Option Addr) (c1 : Nat) (A2 : Option Addr) (c2 : Nat) (w : World) (hM : MarksAt w.heap.size w A1 ms) (k1 : ms.length ≤ c1) (hms : MsOk ms) (hI : IntsAt w.heap.size w A2 cl) (k2 : cl.length ≤ c2) (hr : ∀ x ∈ cl, R64 x) :
    Calls Try.prog 7 #[.slice A1 ms.length c1, .slice A2 cl.length c2] w fun e w' => e = .returned (.bool true) ∧ Below w.heap.size w w' := by
  obtain ⟨n, hn⟩ : ∃ n, cl.length = n := ⟨_, rfl⟩
  rw [hn] at k2 ⊢
  have HF (q : Bool) (hq : fewB ms n = q) := few_any (A2 := A2) c1 c2 w hM hq
  cases hf : fewB ms n with
  | false =>
    have H1 := Lib.hid (HF false hf)
    have HH := Lib.hid (heads_any w)
    clear HF hM hI k1 k2 hn hr hms hf
    go_enter Try.func7, Try.ntmps7
    go_wp2_with (first
      | (go_at_call 10; refine H1.out.mono ?_; rintro e w' ⟨rfl, rfl⟩)
      | (go_at_call 11; refine HH.out.mono ?_; rintro e w' ⟨rfl, hb⟩; have HB := Lib.hid hb; clear hb))
    go_ret
    exact ⟨rfl, HB.out⟩
  | true =>
    have H1 := Lib.hid (HF true hf)
    obtain ⟨hz, hn24⟩ := few_sized hf
    have hn1 : n ≤ 1000 := by omega
    cases hfb : falseB ms cl with
    | false =>
      have HC := Lib.hid (learn_no c1 c2 w hM hI hz hn hn1 hfb)
      clear hn24 hn1 HF hM hI k1 k2 hn hr hms hf hz hfb
      go_enter Try.func7, Try.ntmps7
      go_wp2_with (first
        | (go_at_call 10; refine H1.out.mono ?_; rintro e w' ⟨rfl, rfl⟩)
        | (go_at_call 12; refine HC.out.mono ?_; rintro e w1 ⟨rfl, hb1⟩; have HB1 := Lib.hid hb1; have HH := Lib.hid (heads_any w1); clear hb1)
        | (go_at_call 11; refine HH.out.mono ?_; rintro e w2 ⟨rfl, hb2⟩; have HB2 := Lib.hid (HB1.out.trans (hb2.mono HB1.out.size)); clear hb2))
      go_ret
      exact ⟨rfl, HB2.out⟩
    | true =>
      have HC := Lib.hid (learn_yes c1 c2 w hM hI hz hn hn1 hms hr hfb)
      have HM : Hid (∀ w1, Below w.heap.size w w1 → MarksAt w1.heap.size w1 A1 ms) := fun w1 hb => (hM.later hb).mono hb.size
      have HZ := Lib.hid hz
      have hml := hz.1
      clear hn24 hn1 HF hM hI k2 hn hr hms hf hz hfb
      go_enter Try.func7, Try.ntmps7
      go_wp2_with (first
        | (go_at_call 10; refine H1.out.mono ?_; rintro e w' ⟨rfl, rfl⟩)
        | (go_at_call 12; refine HC.out.mono ?_; rintro e w1 ⟨r, Ar, cr, hl, hfal, hst, rfl, hca, hb1⟩; have HB1 := Lib.hid hb1; have HFA := Lib.hid hfal; have HST := Lib.hid hst; have HCA := Lib.hid hca; obtain ⟨b, hb⟩ : (∃ b, b = backP ms r) := ⟨_, rfl⟩; rw [← hb]; have HBE := Lib.hid hb; obtain ⟨L, hL⟩ : (∃ L, latestP ms r = L) := ⟨_, rfl⟩; have hrl : r.length ≤ 1000 := Nat.le_trans hfal.len hml; have HLA := Lib.hid (latest_ref c1 cr w1 (HM.out w1 hb1) hca.at_ HZ.out k1 rfl hrl hca.cap hfal hL); have HLE := Lib.hid hL; clear hl hfal hst hca hb1 hb hL)
        | (go_at_call 20; refine HLA.out.mono ?_; rintro e w2 ⟨rfl, hb2⟩; have HB2 := Lib.hid (HB1.out.trans (hb2.mono HB1.out.size)); have HI2 := Lib.hid ((HCA.out.at_.later hb2).mono hb2.size); clear hb2))
      obtain ⟨W, hW⟩ : ∃ W, W = w2.alloc (.cells #[] 3) := ⟨_, rfl⟩
      have hOW := World.ownsRow_lit (base := w2.heap.size) (e := 3) (size := 1) w2 (#[] : Array Value) 0 (Nat.le_refl _) (by decide) rfl
      have HO0 : Hid (W.ownsRow w2.heap.size 3 1 (.slice (some ⟨w2.heap.size, 0, none⟩) 0 0) (leftP ms b 0).length (ints (leftP ms b 0))) := by
        rw [hW]
        exact hOW
      have HBW : Hid (Below w2.heap.size w2 W) := by rw [hW]; exact alloc_below _ _
      rw [← hW]
      clear hW hOW
      go_loopw [9, 10] (fun o i wr => ∃ (k : Nat) (vo : Value) (wk : World), vo = o ∧ wk = wr ∧ k ≤ ms.length ∧ i = .int .i64 (k : Nat) ∧ Hid (wk.ownsRow w2.heap.size 3 1 vo (leftP ms b k).length (ints (leftP ms b k))) ∧ Hid (Below w2.heap.size w2 wk)) (fun _ i _ => ms.length - (intOf i).toNat)
      case atStart => exact ⟨0, _, _, rfl, rfl, Nat.zero_le _, rfl, HO0, HBW⟩
      case round =>
        clear HO0 HBW
        obtain ⟨k, vo, wk, rfl, rfl, hk, rfl, HO, HBK⟩ := hrel
        by_cases hlt : k < ms.length
        · have hmk := HM.out wk (HB2.out.trans (HBK.out.mono HB2.out.size))
          obtain ⟨ad, A', c', rfl, _, hm1, hm2, _, _, _⟩ := hmk k hlt
          have HS := Lib.hid (left_snoc (b := b) hlt)
          obtain ⟨x, hxe⟩ : ∃ x, x = (atM ms k).lit := ⟨_, rfl⟩
          obtain ⟨y, hye⟩ : ∃ y, y = (atM ms k).lev := ⟨_, rfl⟩
          rw [← hxe] at hm1 HS
          rw [← hye] at hm2 HS
          obtain ⟨T, hT⟩ : ∃ T, T = leftP ms b k := ⟨_, rfl⟩
          have hTl : T.length ≤ 1000 := by rw [hT]; exact Nat.le_trans left_len hml
          rw [← hT] at HO HS
          clear hxe hye hT hmk
          by_cases he : y ≤ b
          · obtain ⟨g1, cap1, w3, hap, hown, hgr⟩ := app_ints (ty := 23) Try.underlying23 info_int HO.out x (by omega) HBK.out.size
            have HAP := Lib.hid hap
            have HO' : Hid (w3.ownsRow w2.heap.size 3 1 (.slice (some ⟨g1, 0, none⟩) (T.length + 1) cap1) (leftP ms b (k + 1)).length (ints (leftP ms b (k + 1)))) := by show World.ownsRow _ _ _ _ _ _ _; rw [HS.out, if_pos he]; exact hown
            have HB' := Lib.hid (below_grown HBK.out hgr HBK.out.size (own_ge HO.out))
            clear hap hown hgr
            go_wp2_with (at_builtin; refine wpList_append_run rfl _ _ 23 rfl rfl rfl HAP.out ?_)
            go_roundw
            case rel => exact ⟨k + 1, _, _, rfl, rfl, by omega, by go_num, HO', HB'⟩
            case measure => simp [intOf]; omega
          · have HO' : Hid (wk.ownsRow w2.heap.size 3 1 vo (leftP ms b (k + 1)).length (ints (leftP ms b (k + 1)))) := by show World.ownsRow _ _ _ _ _ _ _; rw [HS.out, if_neg he]; exact HO.out
            go_wp2
            go_roundw
            case rel => exact ⟨k + 1, _, _, rfl, rfl, by omega, by go_num, HO', HBK⟩
            case measure => simp [intOf]; omega
        · have hf := HO.out
          have hke : k = ms.length := by omega
          rw [hke] at hf
          obtain ⟨Ao, co, rfl⟩ := own_slice hf
          have HT := Lib.hid (own_ints hf)
          have HTl : Hid ((leftP ms b ms.length).length ≤ 1000) := Nat.le_trans left_len hml
          have HB3 := Lib.hid (HB2.out.trans (HBK.out.mono HB2.out.size))
          have HI3 := Lib.hid ((HI2.out.later (HBK.out.mono (Nat.le_refl _))).mono HBK.out.size)
          obtain ⟨T, hT⟩ : ∃ T, T = leftP ms b ms.length := ⟨_, rfl⟩
          rw [← hT] at HT HTl ⊢
          have HTE := Lib.hid hT
          clear hf HO hke hT
          go_wp2
          go_loop [11, 12] (fun o i => ∃ k u : Nat, k ≤ r.length ∧ u ≤ k ∧ o = .int .i64 (u : Nat) ∧ i = .int .i64 (k : Nat) ∧ Hid ((openL (r.take k) T).length = u)) (fun _ i => r.length - (intOf i).toNat)
          case atStart => exact ⟨0, 0, Nat.zero_le _, Nat.le_refl _, rfl, rfl, rfl⟩
          case round =>
            obtain ⟨k2, u, hk2, hu, rfl, rfl, HU⟩ := hrel
            by_cases hlt2 : k2 < r.length
            · obtain ⟨ad, rfl, hx⟩ := HI3.out.cell k2 hlt2
              have HS := Lib.hid (open_snoc (left := T) hlt2)
              obtain ⟨x, hxe⟩ : ∃ x, x = r[k2] := ⟨_, rfl⟩
              rw [← hxe] at hx HS
              have HHA (q : Bool) (hq : decide (neg x ∈ T) = q) : Calls Try.prog 24 #[.slice Ao T.length co, .int .i64 (wrap64 (-x))] wk fun e w' => e = .returned (.bool q) ∧ wk = w' := has_near co T (neg x) wk HT.out rfl HTl.out hq
              clear hxe
              by_cases he : neg x ∈ T
              · have H2 := Lib.hid (HHA true (decide_eq_true he))
                have HU' : Hid ((openL (r.take (k2 + 1)) T).length = u) := by show _ = _; rw [HS.out, if_pos he]; exact HU.out
                clear HHA he
                go_wp2_with (go_at_call 24; refine H2.out.mono ?_; rintro e w' ⟨rfl, rfl⟩)
                go_round
                case rel => exact ⟨k2 + 1, u, by omega, by omega, rfl, by go_num, HU'⟩
                case measure => simp [intOf]; omega
              · have H2 := Lib.hid (HHA false (decide_eq_false he))
                have HU' : Hid ((openL (r.take (k2 + 1)) T).length = u + 1) := by show _ = _; rw [HS.out, if_neg he, List.length_append, HU.out]; rfl
                clear HHA he
                go_wp2_with (go_at_call 24; refine H2.out.mono ?_; rintro e w' ⟨rfl, rfl⟩)
                go_round
                case rel => exact ⟨k2 + 1, u + 1, by omega, by omega, by go_num, by go_num, HU'⟩
                case measure => simp [intOf]; omega
            · have hue := HU.out
              rw [List.take_of_length_le (by omega), HTE.out] at hue
              have HH := Lib.hid (heads_any wk)
              by_cases hL0 : L < 0
              · have hr0 : r = [] := (latest_neg HFA.out).1 (by rw [HLE.out]; exact hL0)
                have hu0 : u = 0 := by rw [← hue, hr0]; rfl
                subst hu0
                clear hr0 hue
                go_wp2_with (go_at_call 11; refine HH.out.mono ?_; rintro e w5 ⟨rfl, hb5⟩; have HB5 := Lib.hid (HB3.out.trans (hb5.mono HB3.out.size)); clear hb5)
                go_ret
                exact ⟨rfl, HB5.out⟩
              · obtain ⟨p, rfl⟩ : ∃ p : Nat, L = p := ⟨L.toNat, by omega⟩
                have hpm : p < ms.length := by have := latest_lt HFA.out; rw [HLE.out] at this; omega
                obtain ⟨ad, A', c', rfl, _, hm1, hm2, _, _, _⟩ := HM.out wk HB3.out p hpm
                have hlev : levAt ms (latestP ms r) = (atM ms p).lev := by rw [HLE.out]; unfold levAt; rw [Int.toNat_natCast]
                obtain ⟨y, hye⟩ : ∃ y, y = (atM ms p).lev := ⟨_, rfl⟩
                rw [← hye] at hm2 hlev
                by_cases hy0 : y = 0
                · have hu0 : u = 0 := by
                    rw [← hue, HBE.out]
                    exact open_none HFA.out (lev_zero HFA.out (by rw [hlev]; exact hy0))
                  subst hu0 hy0
                  clear hue hlev hye
                  go_wp2_with (go_at_call 11; refine HH.out.mono ?_; rintro e w5 ⟨rfl, hb5⟩; have HB5 := Lib.hid (HB3.out.trans (hb5.mono HB3.out.size)); clear hb5)
                  go_ret
                  exact ⟨rfl, HB5.out⟩
                · have hu1 : u = 1 := by
                    rw [← hue, HBE.out]
                    refine open_one HFA.out (by rw [HLE.out]; omega) ?_
                    have := HST.out
                    unfold stopB at this
                    rw [HLE.out] at this hlev
                    rw [HLE.out, hlev]
                    rw [hlev, decide_eq_false (by omega), decide_eq_false hy0] at this
                    simpa using this
                  subst hu1
                  have hbe : backOf ms r = b := by
                    rw [HBE.out]
                    unfold backOf
                    rw [if_pos HFA.out.false, HFA.out.sorted]
                  have HKB := backFn_any c1 cr wk (HM.out wk HB3.out) HI3.out HZ.out rfl hrl HFA.out.r64
                  rw [hbe] at HKB
                  have HKC := Lib.hid HKB
                  have hy1 : (y == 0) = false := by simpa using hy0
                  clear hue hlev hye hbe HKB HH
                  go_wp2_with (first
                    | (go_at_call 28; refine HKC.out.mono ?_; rintro e w5 ⟨rfl, hb5⟩; have HB5 := Lib.hid (HB3.out.trans (hb5.mono HB3.out.size)); have HH := Lib.hid (heads_any w5); clear hb5)
                    | (go_at_call 11; refine HH.out.mono ?_; rintro e w6 ⟨rfl, hb6⟩; have HB6 := Lib.hid (HB5.out.trans (hb6.mono HB5.out.size)); clear hb6))
                  go_ret
                  exact ⟨rfl, HB6.out⟩
end Go.Proofs.Ythnjjonjhenifaa
