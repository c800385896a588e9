/- The walk of match.rising: the numbers of a set, rising. -/
import Derived.Test.YtopjfnkcmdifhaaMapIt
import Derived.Test.YtopjfnkcmdifhaaReachF
namespace Go.Proofs.Ytopjfnkcmdifhaa
set_option linter.unusedVariables false
set_option linter.unusedSimpArgs false
open Go.RowKit Kuhn

theorem nodup_le {a b : List Int} (hn : a.Nodup) (hs : ∀ x ∈ a, x ∈ b) : a.length ≤ b.length :=
  card_le (fun x y => x = y) a b hn (fun x hx => ⟨x, hs x hx, rfl⟩) (fun _ _ _ _ _ h1 h2 => h1.trans h2.symm)

theorem sorted_perm (xs : List Int) : (sorted xs).Perm xs := List.mergeSort_perm xs _
theorem sorted_le (xs : List Int) : (sorted xs).Pairwise (· ≤ ·) := by
  have := List.pairwise_mergeSort (le := fun x y : Int => decide (x ≤ y)) (fun a b c h1 h2 => by simp only [decide_eq_true_eq] at *; omega) (fun a b => by simp only [Bool.or_eq_true, decide_eq_true_eq]; omega) xs
  exact this.imp (fun h => by simpa using h)
theorem sorted_lt {xs : List Int} (h : xs.Nodup) : (sorted xs).Pairwise (· < ·) := by
  have h1 := sorted_le xs
  have h2 : (sorted xs).Nodup := (sorted_perm xs).nodup_iff.2 h
  exact List.Pairwise.imp₂ (fun a b h1 h2 => by omega) h1 h2

/-- Strictly rising rows with the same numbers are one. -/
theorem rising_unique : ∀ {a b : List Int}, a.Pairwise (· < ·) → b.Pairwise (· < ·) → (∀ n, n ∈ a ↔ n ∈ b) → a = b := by
  intro a
  induction a with
  | nil =>
    intro b _ _ h
    cases b with
    | nil => rfl
    | cons y ys => exact absurd ((h y).2 (.head _)) (by simp)
  | cons x xs ih =>
    intro b ha hb h
    cases b with
    | nil => exact absurd ((h x).1 (.head _)) (by simp)
    | cons y ys =>
      rw [List.pairwise_cons] at ha hb
      have hxy : x = y := by
        rcases List.mem_cons.1 ((h x).1 (.head _)) with q | q
        · exact q
        · rcases List.mem_cons.1 ((h y).2 (.head _)) with q' | q'
          · exact q'.symm
          · have := hb.1 x q; have := ha.1 y q'; omega
      subst hxy
      rw [ih ha.2 hb.2 (fun n => ?_)]
      constructor
      · intro hn
        rcases List.mem_cons.1 ((h n).1 (.tail _ hn)) with q | q
        · have := ha.1 n hn; omega
        · exact q
      · intro hn
        rcases List.mem_cons.1 ((h n).2 (.tail _ hn)) with q | q
        · have := hb.1 n hn; omega
        · exact q

def RisingPost (s : List Int) (w : World) (e : Ending) (w' : World) : Prop :=
  ∃ A c ys, e = .returned (.slice A ys.length c) ∧ IntsAt w'.heap.size w' A ys ∧ ys.Pairwise (· < ·) ∧ (∀ n, n ∈ ys ↔ n ∈ s) ∧ Below w.heap.size w w'

set_option maxHeartbeats 1000000 in
theorem rising_any {b : Nat} {s : List Int} (w : World) (h : MapV w b (setF fun n => decide (n ∈ s))) (U : List Int) (hU : ∀ x ∈ s, x ∈ U) (hs : U.length ≤ 100000000) :
    Calls Try.prog 28 #[.map (some b)] w (RisingPost s w) := by
  obtain ⟨n0, w1, hrg, hit, hb1⟩ := h.run_range Try.underlying37
  have HIT := Lib.hid hit
  have HB1 := Lib.hid hb1
  have HLT := Lib.hid h.lt
  have HU := Lib.hid hU
  clear hU
  clear h hit hb1
  go_enter Try.func28, Try.ntmps28
  go_wp2
  go_loopg [3] n0 (fun n v wr => ∃ done, Hid (MapIt wr b w.heap.size (setF fun n => decide (n ∈ s)) done n) ∧ Hid (wr.ownsRow (w.heap.size + 1) 3 1 v done.length (ints done)) ∧ Hid (Below w.heap.size w wr) ∧ Hid (∀ x ∈ done, x ∈ s) ∧ Hid (w.heap.size + 1 ≤ wr.heap.size))
  case atStart => exact ⟨[], HIT, World.ownsRow_nil _ _ _ _, HB1, (by intro x hx; cases hx), (by have := HIT.out.lt; show _ ≤ _; omega)⟩
  case round =>
    clear HIT HB1 hrg
    obtain ⟨done, HIT, HO, HB, HS, HZ⟩ := hrel
    rcases HIT.out.next (P := Try.prog) 0 with ⟨-, hall, hrun⟩ | ⟨k, v, w2, n', hrun, hfk, hkd, hit2, hlt2, hg2, hsz2, hen⟩
    · have hdl : done.length ≤ U.length := nodup_le HIT.out.nodup (fun x hx => HU.out x (HS.out x hx))
      have HC := Lib.hid (sort_own HO.out (by omega))
      have HALL := Lib.hid hall
      have HND := Lib.hid HIT.out.nodup
      have HB' := HB
      have HO' := HO
      have HGE := Lib.hid (own_ge HO.out)
      clear hall HIT HO HZ
      go_wp2_with (go_at_call 33; refine HC.out.mono ?_; rintro e w3 ⟨rfl, ho3, hg3⟩; have HO3 := Lib.hid ho3; have HG3 := Lib.hid hg3; clear ho3 hg3)
      go_ret
      obtain ⟨A, c, hv, hc, hi⟩ := Ints.of_own HO3.out
      subst hv
      refine ⟨A, c, sorted done, rfl, hi, sorted_lt HND.out, fun n => ?_, ?_⟩
      · rw [(sorted_perm done).mem_iff]
        constructor
        · exact HS.out n
        · intro hn
          exact HALL.out n (by simp [setF, hn])
      · refine below_grown HB'.out HG3.out HB'.out.size (fun k hk => ?_)
        have := HGE.out k hk
        omega
    · have hdl : done.length ≤ U.length := nodup_le HIT.out.nodup (fun x hx => HU.out x (HS.out x hx))
      have hmem : k ∈ s := by
        by_cases hq : k ∈ s
        · exact hq
        · simp [setF, hq] at hfk
      have ho2 : w2.ownsRow (w.heap.size + 1) 3 1 u3 done.length (ints done) := own_move HO.out (fun j hj => hg2.block j (own_lt HO.out j hj) (by
        rintro e
        cases e
        have := own_ge HO.out _ hj
        omega))
      have hz2 : w.heap.size + 1 ≤ w2.heap.size := by rw [hsz2]; exact HZ.out
      obtain ⟨g', cap', w', hap, hown', hgr⟩ := app_ints (ty := 25) Try.underlying25 info3 ho2 k (by omega) hz2
      have HAP := Lib.hid hap
      have hge2 := own_ge ho2
      have hne : ∀ j, j < w.heap.size + 1 → some j ≠ u3.ownBlock := fun j hj e => by have := hge2 j e.symm; omega
      have hbl := HLT.out
      have HIT' : Hid (MapIt w' b w.heap.size (setF fun n => decide (n ∈ s)) (done ++ [k]) n') := hit2.move (hgr.block b (by omega) (hne b (by omega))) (hgr.block _ (by omega) (hne _ (by omega)))
      have HB' : Hid (Below w.heap.size w w') := below_grown (below_grown HB.out hg2 HB.out.size (fun j e => by cases e; exact Nat.le_refl _)) hgr (by omega) (fun j e => by have := hge2 j e; omega)
      have HO' := Lib.hid hown'
      have HS' : Hid (∀ x ∈ done ++ [k], x ∈ s) := by
        intro x hx
        rcases List.mem_append.1 hx with q | q
        · exact HS.out x q
        · rw [List.mem_singleton.1 q]; exact hmem
      have HZ' : Hid (w.heap.size + 1 ≤ w'.heap.size) := by have := hgr.size; show _ ≤ _; omega
      clear hap hown' hgr hge2 hne hbl ho2 hz2 hmem hdl hfk hkd hit2 hg2 hsz2 HIT HO HB HS HZ
      go_wp2_with (at_builtin; refine wpList_append_run rfl _ _ 25 rfl rfl rfl HAP.out ?_)
      go_roundg n'
      case measure => exact hlt2
      case rel => exact ⟨done ++ [k], HIT', HO', HB', HS', HZ'⟩
end Go.Proofs.Ytopjfnkcmdifhaa
