/- What the reference's Latest and On answer (of the printed set PLearnFollows). -/
import Derived.Test.YthnjjonjhenifaaPLearnFollowsx8
import Derived.Test.YthnjjonjhenifaaPLearnFollowsAt1
namespace Go.Proofs.Ythnjjonjhenifaa.PLearnFollows
set_option linter.unusedVariables false
set_option linter.unusedSimpArgs false
open Go.RowKit Go.Proofs.YthnjjonjhenifaaW.PrintWords Go.Proofs.YthnjjonjhenifaaW.PrintLast Go.Proofs.YthnjjonjhenifaaW.PrintMore

theorem mx_max (a b : Int) : mx a b = max a b := by unfold mx; split <;> omega
theorem latest_l {ms : List Mk} (hl : ms.length ≤ 1000) {c : List Int} (h : Fal ms c) : ∀ d i (b : Int), i + d = c.length → Ev (fun k => horariumref36_Latest.l0 k (tS ms) c b (i : Int)) ((c.drop i).foldl (fun b x => max b (posI ms x)) b)
  | 0, i, b, e => by
    refine Ev.step (f := fun _ => some b) (fun k => ?_) ?_
    · simp only [horariumref36_Latest.l0]
      rw [if_neg (by omega)]
    · refine ev_eq (Ev.now _) ?_
      rw [List.drop_of_length_le (by omega)]
      rfl
  | d + 1, i, b, e => by
    have hi : i < c.length := by omega
    have hc := h.len
    refine Ev.step (f := fun k => (horariumref36_at.f k (tS ms) (neg c[i])).bind fun t => horariumref36_Latest.l0 k (tS ms) c (mx b t) ((i + 1 : Nat) : Int)) (fun k => ?_) ?_
    · simp only [horariumref36_Latest.l0]
      rw [if_pos (by omega), if_pos (by omega), rd_at hi, up1 (by omega)]
      rfl
    · rw [drop_at hi, List.foldl_cons, ← mx_max]
      exact Ev.bind (f := fun k t => horariumref36_Latest.l0 k (tS ms) c (mx b t) ((i + 1 : Nat) : Int)) (at_ev hl h (List.getElem_mem hi)) (latest_l hl h d (i + 1) _ (by omega))
theorem latest_ev {ms : List Mk} (hl : ms.length ≤ 1000) {c : List Int} (h : Fal ms c) : Ev (fun k => horariumref36_Latest.f k (tS ms) c) (latestP ms c) := latest_l hl h c.length 0 (-1) (by omega)
def onP (ms : List Mk) (c : List Int) (L : Int) : List Int := c.filter fun x => decide (levAt ms (posI ms x) = L)
theorem on_l {ms : List Mk} (hl : ms.length ≤ 1000) {c : List Int} (h : Fal ms c) (L : Int) : ∀ d i (b : Nat), i + d = c.length → b ≤ i → Ev (fun k => horariumref36_On.l0 k (tS ms) c L (b : Int) (i : Int)) ((b + (onP ms (c.drop i) L).length : Nat) : Int)
  | 0, i, b, e, hb => by
    refine Ev.step (f := fun _ => some (b : Int)) (fun k => ?_) ?_
    · simp only [horariumref36_On.l0]
      rw [if_neg (by omega)]
    · refine ev_eq (Ev.now _) ?_
      rw [List.drop_of_length_le (by omega)]
      rfl
  | d + 1, i, b, e, hb => by
    have hi : i < c.length := by omega
    have hc := h.len
    have hL := tS_len ms
    obtain ⟨p, hp, e1, e2, _⟩ := h.pos (List.getElem_mem hi)
    have hat := at_ev hl h (List.getElem_mem hi)
    rw [e1] at hat
    refine Ev.step (f := fun k => (horariumref36_at.f k (tS ms) (neg c[i])).bind fun t => if 0 ≤ t then (if t < ((tS ms).length : Int) then (if (rd_T37 (tS ms) t).f1 = L then horariumref36_On.l0 k (tS ms) c L ((b + 1 : Nat) : Int) ((i + 1 : Nat) : Int) else horariumref36_On.l0 k (tS ms) c L (b : Int) ((i + 1 : Nat) : Int)) else none) else none) (fun k => ?_) ?_
    · simp only [horariumref36_On.l0]
      rw [if_pos (by omega), if_pos (by omega), rd_at hi, up1 (by omega), up1 (by omega)]
      rfl
    · refine Ev.bind (f := fun k t => if 0 ≤ t then (if t < ((tS ms).length : Int) then (if (rd_T37 (tS ms) t).f1 = L then horariumref36_On.l0 k (tS ms) c L ((b + 1 : Nat) : Int) ((i + 1 : Nat) : Int) else horariumref36_On.l0 k (tS ms) c L (b : Int) ((i + 1 : Nat) : Int)) else none) else none) hat ?_
      have hlev : levAt ms (posI ms c[i]) = (atM ms p).lev := by unfold levAt; rw [e1, Int.toNat_natCast]
      have hs : onP ms (c.drop i) L = if (atM ms p).lev = L then c[i] :: onP ms (c.drop (i + 1)) L else onP ms (c.drop (i + 1)) L := by
        rw [drop_at hi]
        unfold onP
        rw [List.filter_cons, hlev]
        by_cases q : (atM ms p).lev = L
        · rw [if_pos q, if_pos (by simpa using q)]
        · rw [if_neg q, if_neg (by simpa using q)]
      by_cases q : (atM ms p).lev = L
      · refine ev_eq (Ev.congr (fun k => ?_) (on_l hl h L d (i + 1) (b + 1) (by omega) (by omega))) ?_
        · rw [if_pos (by omega), if_pos (by omega), rdm hp, if_pos (show (toS (atM ms p)).f1 = L from q)]
        · rw [hs, if_pos q, List.length_cons]
          omega
      · refine ev_eq (Ev.congr (fun k => ?_) (on_l hl h L d (i + 1) b (by omega) (by omega))) ?_
        · rw [if_pos (by omega), if_pos (by omega), rdm hp, if_neg (show ¬ (toS (atM ms p)).f1 = L from q)]
        · rw [hs, if_neg q]
theorem on_ev {ms : List Mk} (hl : ms.length ≤ 1000) {c : List Int} (h : Fal ms c) (L : Int) : Ev (fun k => horariumref36_On.f k (tS ms) c L) ((onP ms c L).length : Int) := ev_eq (on_l hl h L c.length 0 0 (by omega) (by omega)) (by rw [Nat.zero_add]; rfl)
/-- More than one literal of the latest one's level: the level to go back to is no lower. -/
theorem on_more {ms : List Mk} {c : List Int} (h : Fal ms c) (h0 : ¬ latestP ms c < 0) : 1 ≤ (onP ms c (levAt ms (latestP ms c))).length ∧ (0 < levAt ms (latestP ms c) → (1 < (onP ms c (levAt ms (latestP ms c))).length ↔ ¬ backP ms c < levAt ms (latestP ms c))) := by
  have hc : c ≠ [] := fun e => h0 ((latest_neg h).2 e)
  obtain ⟨x, hx, ex⟩ := latest_mem h hc
  have hin : x ∈ onP ms c (levAt ms (latestP ms c)) := List.mem_filter.2 ⟨hx, by rw [ex]; simp⟩
  have hnd : (onP ms c (levAt ms (latestP ms c))).Nodup := (asc_nodup h.asc).filter _
  refine ⟨List.length_pos_of_mem hin, fun hpos => ⟨fun h1 => ?_, fun h1 => ?_⟩⟩
  · -- another one
    have : ∃ y ∈ onP ms c (levAt ms (latestP ms c)), y ≠ x := by
      apply Classical.byContradiction
      intro hno
      have hall : ∀ y ∈ onP ms c (levAt ms (latestP ms c)), y ∈ [x] := fun y hy => by
        apply Classical.byContradiction
        intro q
        exact hno ⟨y, hy, fun e => q (by simp [e])⟩
      have := nodup_le hnd hall
      simp at this
      omega
    obtain ⟨y, hy, hne⟩ := this
    obtain ⟨hyc, hyl⟩ := List.mem_filter.1 hy
    have hyl : levAt ms (posI ms y) = levAt ms (latestP ms c) := by simpa using hyl
    have := back_ge hyc (fun e => hne (h.inj hyc hx (e.trans ex.symm)))
    omega
  · rcases back_mem (ms := ms) (c := c) with q | ⟨y, hy, h7, h8⟩
    · omega
    · obtain ⟨j, hj, h9, _⟩ := h.pos hy
      obtain ⟨k, hk, h10, _⟩ := h.pos hx
      have hge := latest_ge (ms := ms) hy
      have hle := lev_mono h.right (show j ≤ k by omega) hk
      rw [← h9, ← h10, ex] at hle
      have hyin : y ∈ onP ms c (levAt ms (latestP ms c)) := List.mem_filter.2 ⟨hy, by simp; omega⟩
      have hyx : y ≠ x := fun e => h7 (by rw [e]; exact ex)
      have h2 := nodup_le (a := [x, y]) (b := onP ms c (levAt ms (latestP ms c))) (by simp; exact fun e => hyx e.symm) (by simp; exact ⟨hin, hyin⟩)
      simp at h2
      omega
end Go.Proofs.Ythnjjonjhenifaa.PLearnFollows
