/- What the reference's Whys answers, and what follows by it (of the printed set PLearnFollows). -/
import Derived.Test.YthnjjonjhenifaaShortW
import Derived.Test.YthnjjonjhenifaaPLearnFollowsClose
import Derived.Test.YthnjjonjhenifaaPLearnFollowsAt
namespace Go.Proofs.Ythnjjonjhenifaa.PLearnFollows
set_option linter.unusedVariables false
set_option linter.unusedSimpArgs false
open Go.RowKit Go.Proofs.YthnjjonjhenifaaW.PrintWords Go.Proofs.YthnjjonjhenifaaW.PrintLast Go.Proofs.YthnjjonjhenifaaW.PrintMore

def whyL (ms : List Mk) : List (List Int) := (ms.filter fun m => decide (m.why ≠ [])).map Mk.why
def whysP (ms : List Mk) (cl : List Int) : List (List Int) := cl :: whyL ms
theorem whys_l {ms : List Mk} (hl : ms.length ≤ 1000) : ∀ d i (acc : List (List Int)), i + d = ms.length → acc.length ≤ i + 1 → Ev (fun k => horariumref36_Whys.l0 k (tS ms) acc (i : Int)) (acc ++ whyL (ms.drop i))
  | 0, i, acc, e, ha => by
    have hL := tS_len ms
    refine ev_eq (Ev.step (f := fun _ => some acc) (fun k => ?_) (Ev.now _)) ?_
    · simp only [horariumref36_Whys.l0]
      rw [if_neg (by omega)]
    · rw [List.drop_of_length_le (by omega)]
      simp [whyL]
  | d + 1, i, acc, e, ha => by
    have hi : i < ms.length := by omega
    have hL := tS_len ms
    have e1 : whyL (ms.drop i) = if (atM ms i).why = [] then whyL (ms.drop (i + 1)) else (atM ms i).why :: whyL (ms.drop (i + 1)) := by
      rw [List.drop_eq_getElem_cons hi, atM_eq hi]
      unfold whyL
      rw [List.filter_cons]
      by_cases q : ms[i].why = []
      · rw [if_pos q, if_neg (by simp [q])]
      · rw [if_neg q, if_pos (by simp [q])]
        rfl
    rw [e1]
    by_cases q : (atM ms i).why = []
    · rw [if_pos q]
      refine Ev.step (fun k => ?_) (whys_l hl d (i + 1) acc (by omega) (by omega))
      simp only [horariumref36_Whys.l0]
      rw [if_pos (by omega), if_pos (by omega), rdm hi, if_neg (show ¬ (((toS (atM ms i)).f2).length : Int) > 0 by show ¬ ((atM ms i).why.length : Int) > 0; rw [q]; decide), up1 (by omega)]
    · rw [if_neg q]
      have hp : 0 < (atM ms i).why.length := List.length_pos_iff.2 q
      refine ev_eq (Ev.step (f := fun k => horariumref36_Whys.l0 k (tS ms) (acc ++ [(atM ms i).why]) ((i + 1 : Nat) : Int)) (fun k => ?_) (whys_l hl d (i + 1) (acc ++ [(atM ms i).why]) (by omega) (by simp; omega))) ?_
      · simp only [horariumref36_Whys.l0]
        rw [if_pos (by omega), if_pos (by omega), rdm hi, if_pos (show (((toS (atM ms i)).f2).length : Int) > 0 by show ((atM ms i).why.length : Int) > 0; omega), if_pos (by omega), up1 (by omega)]
        rfl
      · rw [List.append_assoc]
        rfl
theorem whys_ev {ms : List Mk} (hl : ms.length ≤ 1000) (cl : List Int) : Ev (fun k => horariumref36_Whys.f k (tS ms) cl) (whysP ms cl) := whys_l hl ms.length 0 [cl] (by omega) (by simp)
theorem whys_len {ms : List Mk} {cl : List Int} : (whysP ms cl).length ≤ ms.length + 1 := by
  unfold whysP whyL
  rw [List.length_cons, List.length_map]
  have := List.length_filter_le (fun m : Mk => decide (m.why ≠ [])) ms
  omega
theorem whys_mem {ms : List Mk} {cl c : List Int} : c ∈ whysP ms cl ↔ c = cl ∨ ∃ p, p < ms.length ∧ (atM ms p).why ≠ [] ∧ (atM ms p).why = c := by
  unfold whysP whyL
  rw [List.mem_cons, List.mem_map]
  constructor
  · rintro (h | ⟨m, hm, rfl⟩)
    · exact .inl h
    · obtain ⟨hm, hw⟩ := List.mem_filter.1 hm
      obtain ⟨p, hp, rfl⟩ := List.mem_iff_getElem.1 hm
      exact .inr ⟨p, hp, by rw [atM_eq hp]; simpa using hw, by rw [atM_eq hp]⟩
  · rintro (h | ⟨p, hp, hw, rfl⟩)
    · exact .inl h
    · exact .inr ⟨atM ms p, List.mem_filter.2 ⟨by rw [atM_eq hp]; exact List.getElem_mem hp, by simpa using hw⟩, rfl⟩

/-- A reason all of whose other literals are false makes its own true. -/
theorem force {ms : List Mk} {cl o : List Int} (hr : rightB ms = true) (hs : Shut (whysP ms cl) o) {p : Nat} (hp : p < ms.length) (hne : (atM ms p).why ≠ []) (h : ∀ x ∈ (atM ms p).why, x ≠ (atM ms p).lit → neg x ∈ o) : (atM ms p).lit ∈ o := by
  obtain ⟨h1, h2⟩ := hs _ (whys_mem.2 (.inr ⟨p, hp, hne, rfl⟩))
  have hok := right_at hr hp
  have hin : (atM ms p).lit ∈ litsP (atM ms p).why := litsP_mem.2 ⟨hok.own hne, hok.nz, hok.nm⟩
  apply Classical.byContradiction
  intro hno
  by_cases hng : neg (atM ms p).lit ∈ o
  · have : falseP o (litsP (atM ms p).why) = true := by
      unfold falseP
      rw [List.all_eq_true]
      intro x hx
      have hx := (litsP_mem.1 hx).1
      by_cases e : x = (atM ms p).lit
      · rw [e]; simpa using hng
      · simpa using h x hx e
    rw [this] at h1
    cases h1
  · have hu : undet o (litsP (atM ms p).why) (atM ms p).lit = true := by
      unfold undet
      rw [decide_eq_false hno, decide_eq_false hng, Bool.not_false, Bool.true_and, Bool.true_and]
      unfold falseP
      rw [List.all_eq_true]
      intro x hx
      obtain ⟨hx, hxe⟩ := List.mem_filter.1 hx
      simpa using h x (litsP_mem.1 hx).1 (by simpa using hxe)
    unfold oneP at h2
    cases hf : (litsP (atM ms p).why).find? (undet o (litsP (atM ms p).why)) with
    | none =>
      have := List.find?_eq_none.1 hf _ hin
      exact this hu
    | some y =>
      rw [hf] at h2
      exact (litsP_mem.1 (List.mem_of_find?_eq_some hf)).2.1 h2
/-- What is resolved away was false, too. -/
theorem learn_back {ms : List Mk} {cl o : List Int} (hm : MsOk ms) (hs : Shut (whysP ms cl) o) : ∀ (f : Nat) (c r : List Int), Fal ms c → learnP ms f c = some r → (∀ x ∈ r, neg x ∈ o) → ∀ x ∈ c, neg x ∈ o
  | 0, c, r, h, e, hx => by cases e
  | f + 1, c, r, h, e, hx => by
    unfold learnP at e
    cases hst : stopB ms c with
    | true =>
      rw [hst] at e
      cases e
      exact hx
    | false =>
      rw [hst] at e
      have ih := learn_back hm hs f (stepP ms c) r (step_fal hm h hst).1 e hx
      obtain ⟨k, hk, hlk, hin, hne, _, _⟩ := step_at hm h hst
      have hlm : lastMk ms c = atM ms k := by unfold lastMk; rw [hlk, Int.toNat_natCast]
      have hok := right_at h.right hk
      have hst2 : ∀ n, n ∈ stepP ms c ↔ ((n ∈ c ∧ n ≠ neg (atM ms k).lit) ∨ (n ∈ (atM ms k).why ∧ n ≠ (atM ms k).lit)) ∧ n ≠ 0 := fun n => by
        unfold stepP
        rw [hlm, res_mem, neg_neg (hm.lit k hk)]
      have hlit : (atM ms k).lit ∈ o := force h.right hs hk hne (fun x hxw hxl => ih x ((hst2 x).2 ⟨.inr ⟨hxw, hxl⟩, fun e0 => by
        have hso := hok.sort hne
        rw [← hso] at hxw
        exact (sort_mem.1 hxw).2 e0⟩))
      intro x hxc
      by_cases e1 : x = neg (atM ms k).lit
      · rw [e1, neg_neg (hm.lit k hk)]
        exact hlit
      · exact ih x ((hst2 x).2 ⟨.inl ⟨hxc, e1⟩, fun e0 => h.nz (e0 ▸ hxc)⟩)
theorem short_back {ms : List Mk} {cl o : List Int} (hm : MsOk ms) (hs : Shut (whysP ms cl) o) : ∀ (n : Nat) (c : List Int), Fal ms c → n ≤ c.length → (∀ x ∈ shortTo ms n c, neg x ∈ o) → ∀ x ∈ c, neg x ∈ o
  | 0, c, h, hn, hx => hx
  | n + 1, c, h, hn, hx => by
    have hi : n < c.length := by omega
    have ih := short_back hm hs n (shortStep ms c n) (h.sub step_sub) (step_len hi) hx
    obtain ⟨p, hp, e1, e2, e3⟩ := h.pos (List.getElem_mem hi)
    have hg : c.getD n 0 = c[n] := by rw [List.getD_eq_getElem?_getD, List.getElem?_eq_getElem hi]; rfl
    by_cases q : (atM ms p).why ≠ [] ∧ withinB (atM ms p).why (atM ms p).lit c = true
    · have hst : shortStep ms c n = c.take n ++ c.drop (n + 1) := by
        unfold shortStep
        simp only
        rw [hg, e1, Int.toNat_natCast, if_pos q]
      rw [hst] at ih
      have hok := right_at h.right hp
      have hsplit : ∀ x ∈ c, x ≠ c[n] → x ∈ c.take n ++ c.drop (n + 1) := fun x hxc hne => by
        have h0 : c.take n ++ c[n] :: c.drop (n + 1) = c := by rw [← List.drop_eq_getElem_cons hi, List.take_append_drop]
        rw [← h0] at hxc
        rcases List.mem_append.1 hxc with hx1 | hx1
        · exact List.mem_append_left _ hx1
        · rcases List.mem_cons.1 hx1 with hx1 | hx1
          · exact absurd hx1 hne
          · exact List.mem_append_right _ hx1
      have hlit : (atM ms p).lit ∈ o := force h.right hs hp q.1 (fun x hxw hxl => by
        have hwi := List.all_eq_true.1 q.2 x hxw
        simp only [Bool.or_eq_true, decide_eq_true_eq] at hwi
        have hxc := hwi.resolve_left hxl
        refine ih x (hsplit x hxc (fun e => ?_))
        obtain ⟨j, hj, e4⟩ := hok.ahead q.1 x hxw hxl
        rw [e, e3, neg_neg (hm.lit p hp)] at e4
        have := right_lit h.right (show j < ms.length by omega) hp e4
        omega)
      intro x hxc
      by_cases e : x = c[n]
      · rw [e, ← e2]
        exact hlit
      · exact ih x (hsplit x hxc e)
    · have hst : shortStep ms c n = c := by
        unfold shortStep
        simp only
        rw [hg, e1, Int.toNat_natCast, if_neg q]
      rw [hst] at ih
      exact ih
/-- A clause that is false itself would be shut out. -/
theorem shut_false {ms : List Mk} {cl o : List Int} (hs : Shut (whysP ms cl) o) (h : ∀ x ∈ litSort cl, neg x ∈ o) : False := by
  obtain ⟨h1, _⟩ := hs cl (whys_mem.2 (.inl rfl))
  have : falseP o (litsP cl) = true := by
    unfold falseP
    rw [List.all_eq_true]
    intro x hx
    obtain ⟨hx, h0, _⟩ := litsP_mem.1 hx
    simpa using h x (sort_mem.2 ⟨hx, h0⟩)
  rw [this] at h1
  cases h1
section
variable {ms : List Mk} {cl : List Int}
theorem whys_bounds (hz : Sized ms) (hl : ms.length ≤ 90) (hc : cl.length ≤ 1000) : (whysP ms cl).length ≤ 100 ∧ ∀ c ∈ whysP ms cl, c.length ≤ 1000 := by
  refine ⟨by have := whys_len (ms := ms) (cl := cl); omega, fun c hm => ?_⟩
  rcases whys_mem.1 hm with rfl | ⟨p, hp, _, rfl⟩
  · exact hc
  · exact hz.2 p hp
theorem learn_follows (hz : Sized ms) (hl : ms.length ≤ 90) (hm : MsOk ms) (hc : cl.length ≤ 1000) (hr : ∀ x ∈ cl, R64 x) (hf : falseB ms cl = true) {f : Nat} {r : List Int} (h : learnP ms f (litSort cl) = some r) : Ev (fun k => horariumref30_Follows.f k (whysP ms cl) r) true := by
  obtain ⟨h1, h2⟩ := whys_bounds (cl := cl) hz hl hc
  have hfal := fal_of hr hf
  have hfr := (learn_fal hm _ _ _ hfal h).1
  have hlen := hfr.len
  refine follows_ev h1 h2 (by omega) hfr.r64 (fun o ho hs => shut_false hs (learn_back hm hs f _ r hfal h (fun x hx => ho x hx (fun e => hfr.nz (e ▸ hx)) (hfr.nomin hx))))
theorem short_follows (hz : Sized ms) (hl : ms.length ≤ 90) (hm : MsOk ms) (hc : cl.length ≤ 1000) (hr : ∀ x ∈ cl, R64 x) (hf : falseB ms cl = true) (hfr : Fal ms (shortP ms cl)) : Ev (fun k => horariumref30_Follows.f k (whysP ms cl) (shortP ms cl)) true := by
  obtain ⟨h1, h2⟩ := whys_bounds (cl := cl) hz hl hc
  have hfal := fal_of hr hf
  have hlen := hfr.len
  refine follows_ev h1 h2 (by omega) hfr.r64 (fun o ho hs => shut_false hs (short_back hm hs _ _ hfal (Nat.le_refl _) (fun x hx => ?_)))
  have hx' : x ∈ shortP ms cl := by unfold shortP; rw [if_pos hf]; exact hx
  exact ho x hx' (fun e => hfr.nz (e ▸ hx')) (hfr.nomin hx')
end
theorem marks_move {B : Nat} {w w' : World} {A : Option Addr} {ms : List Mk} (h : MarksAt B w A ms) (hm : ∀ k, k < w.heap.size → w'.heap[k]? = w.heap[k]?) : MarksAt B w' A ms := fun i hi =>
  let ⟨ad, A', c', e, hb', h1, h2, h3, hl, hi'⟩ := h i hi
  ⟨ad, A', c', e, hb', by rw [← h1]; exact World.cell?_of_block (hm _ (cell_lt h1)), by rw [← h2]; exact World.cell?_of_block (hm _ (cell_lt h2)), by rw [← h3]; exact World.cell?_of_block (hm _ (cell_lt h3)), hl, hi'.move (fun b _ hb => hm b hb)⟩
section
variable {B : Nat} {A A2 : Option Addr} {ms : List Mk} {cl : List Int} {n : Nat}
theorem whys_ref (c c2 : Nat) (w : World) (hM : MarksAt B w A ms) (hI : IntsAt B w A2 cl) (hz : Sized ms) (k1 : ms.length ≤ c) (hn : cl.length = n) (hn1 : n ≤ 1000) (k2 : n ≤ c2) :
    Calls Try.prog 17 #[.slice A ms.length c, .slice A2 n c2] w fun e w' => ∃ Aw cw, e = .returned (.slice Aw (whysP ms cl).length cw) ∧ (whysP ms cl).length ≤ cw ∧ Kd.C (Kd.slice 3 (Kd.int .i64)) w' Aw (whysP ms cl).length (whysP ms cl) ∧ Below w.heap.size w w' := by
  subst hn
  obtain ⟨k, hk⟩ := (whys_ev hz.1 cl).rounds
  have v0 : Kd.V k37 37 w w.heap.size (fun _ => True) (.slice A (tS ms).length c) (tS ms) := ⟨A, c, rfl, by rw [tS_len]; exact k1, fun W' hW => marks_C (marks_move hM (fun k hk => hW k trivial hk)) hz.1 hz.2⟩
  have v1 : Kd.V (Kd.int .i64) 3 w w.heap.size (fun _ => True) (.slice A2 cl.length c2) cl := ⟨A2, c2, rfl, k2, fun W' hW => int_C (hI.move (fun b _ hb => hW b trivial hb)) (by omega)⟩
  have := horariumref36_Whys.calls k (fun _ => True) A c (tS ms) (fun _ => True) A2 c2 cl (whysP ms cl) w v0 v1 hk
  rw [tS_len] at this
  refine this.mono ?_
  rintro e w' ⟨v, rfl, hN, hb⟩
  obtain ⟨Aw, cw, rfl, h1, h2⟩ := Kd.N_reads hN
  exact ⟨Aw, cw, rfl, h1, h2, hb⟩
theorem follows_ref {cls : List (List Int)} {c : List Int} {Aw : Option Addr} (cw c2 : Nat) (w : World) (hC : Kd.C (Kd.slice 3 (Kd.int .i64)) w Aw cls.length cls) (hcw : cls.length ≤ cw) (hI : IntsAt B w A2 c) (hn : c.length = n) (hn1 : n ≤ 1000) (k2 : n ≤ c2) (he : Ev (fun k => horariumref30_Follows.f k cls c) true) :
    Calls Try.prog 16 #[.slice Aw cls.length cw, .slice A2 n c2] w fun e w' => e = .returned (.bool true) ∧ Below w.heap.size w w' := by
  subst hn
  obtain ⟨k, hk⟩ := he.rounds
  exact horariumref30_Follows.calls k Aw cw cls A2 c2 c true w hC hcw (int_C hI (by omega)) k2 hk
theorem false_ref {q : Bool} (c c2 : Nat) (w : World) (hM : MarksAt B w A ms) (hI : IntsAt B w A2 cl) (hz : Sized ms) (k1 : ms.length ≤ c) (hn : cl.length = n) (hn1 : n ≤ 1000) (k2 : n ≤ c2) (hq : falseB ms cl = q) :
    Calls Try.prog 15 #[.slice A ms.length c, .slice A2 n c2] w fun e w' => e = .returned (.bool q) ∧ Below w.heap.size w w' := by
  subst hn hq
  obtain ⟨k, hk⟩ := (false_ev (cl := cl) hz hn1).rounds
  have := horariumref36_False.calls k A c (tS ms) A2 c2 cl (falseB ms cl) w (marks_C hM hz.1 hz.2) (by rw [tS_len]; exact k1) (int_C hI (by omega)) k2 hk
  rw [tS_len] at this
  exact this
theorem sort_ref (c2 : Nat) (w : World) (hI : IntsAt B w A2 cl) (hn : cl.length = n) (hn1 : n ≤ 1000) (k2 : n ≤ c2) :
    Calls Try.prog 19 #[.slice A2 n c2] w fun e w' => ∃ Ar cr, e = .returned (.slice Ar (litSort cl).length cr) ∧ IntsAt w'.heap.size w' Ar (litSort cl) ∧ Below w.heap.size w w' := by
  subst hn
  obtain ⟨k, hk⟩ := (sort_ev cl (by omega)).rounds
  refine (horariumref27_Sort.calls k A2 c2 cl (litSort cl) w (int_C hI (by omega)) k2 hk).mono ?_
  rintro e w' ⟨v, rfl, hR, hb⟩
  obtain ⟨Ar, cr, rfl, _, hi⟩ := int_R hR
  exact ⟨Ar, cr, rfl, hi, hb⟩
theorem latest_ref {L : Int} (c c2 : Nat) (w : World) (hM : MarksAt B w A ms) (hI : IntsAt B w A2 cl) (hz : Sized ms) (k1 : ms.length ≤ c) (hn : cl.length = n) (hn1 : n ≤ 1000) (k2 : n ≤ c2) (hf : Fal ms cl) (hL : latestP ms cl = L) :
    Calls Try.prog 20 #[.slice A ms.length c, .slice A2 n c2] w fun e w' => e = .returned (.int .i64 L) ∧ Below w.heap.size w w' := by
  subst hn hL
  obtain ⟨k, hk⟩ := (latest_ev hz.1 hf).rounds
  have := horariumref36_Latest.calls k A c (tS ms) A2 c2 cl (latestP ms cl) w (marks_C hM hz.1 hz.2) (by rw [tS_len]; exact k1) (int_C hI (by omega)) k2 hk
  rw [tS_len] at this
  refine this.mono ?_
  rintro e w' ⟨rfl, hd⟩
  exact ⟨rfl, by first | exact hd | exact hd.below⟩
theorem on_ref (c c2 : Nat) (w : World) (hM : MarksAt B w A ms) (hI : IntsAt B w A2 cl) (hz : Sized ms) (k1 : ms.length ≤ c) (hn : cl.length = n) (hn1 : n ≤ 1000) (k2 : n ≤ c2) (hf : Fal ms cl) (L u : Int) (hu : ((onP ms cl L).length : Int) = u) :
    Calls Try.prog 21 #[.slice A ms.length c, .slice A2 n c2, .int .i64 L] w fun e w' => e = .returned (.int .i64 u) ∧ Below w.heap.size w w' := by
  subst hn hu
  obtain ⟨k, hk⟩ := (on_ev hz.1 hf L).rounds
  have := horariumref36_On.calls k A c (tS ms) A2 c2 cl L ((onP ms cl L).length : Int) w (marks_C hM hz.1 hz.2) (by rw [tS_len]; exact k1) (int_C hI (by omega)) k2 hk
  rw [tS_len] at this
  refine this.mono ?_
  rintro e w' ⟨rfl, hd⟩
  exact ⟨rfl, by first | exact hd | exact hd.below⟩
end
end Go.Proofs.Ythnjjonjhenifaa.PLearnFollows
