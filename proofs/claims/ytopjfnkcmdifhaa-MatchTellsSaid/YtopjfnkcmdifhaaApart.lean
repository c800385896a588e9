/- Where the row lies after one element was appended: where it lay, or in a new block. -/
import Derived.Test.YtopjfnkcmdifhaaOwn
namespace Go.Proofs.Ytopjfnkcmdifhaa
set_option linter.unusedVariables false
set_option linter.unusedSimpArgs false
open Go.RowKit

theorem app_place {P : Program} {t ty e bytes base g n' cap' : Nat} {z v x : Value} {w w' : World} {xs : List Value} (ht : P.underlying t = some (.slice e)) (hinfo : (P.info? e).map (fun i => (i.zero, i.size, i.bytes)) = some (some z, 1, bytes))
    (hz : z.cells.size = 1) (h : w.ownsRow base e 1 v xs.length xs) (hx : x.oneCell' = true) (hlen : xs.length < 1000000000000) (hby : bytes ≤ 64)
    (hrun : (Builtin.append_ #[t, t] ty #[v, .slice (some ⟨w.heap.size, 0, none⟩) 1 1]).run P (w.alloc (.cells #[x] e)) = .ok (.slice (some ⟨g, 0, none⟩) n' cap') w') :
    some g = v.ownBlock ∨ w.heap.size ≤ g := by
  obtain ⟨i, hi, h1, h2, h3⟩ := info_parts hinfo
  have hnews : ∀ j u, [x][j]? = some u → (w.alloc (.cells #[x] e)).cell? ((⟨w.heap.size, 0, none⟩ : Addr).add j) = some u := by
    intro j u hj
    cases j with
    | zero => simp at hj; subst hj; simp [Addr.add, go_sem]
    | succ j => simp at hj
  have hone : ∀ u ∈ [x], u.oneCell' = true := by intro u hu; rw [List.mem_singleton.1 hu]; exact hx
  have hbytes : (xs.length + 1) * bytes ≤ 140737488355328 := by
    have : (xs.length + 1) * bytes ≤ 1000000000000 * 64 := Nat.mul_le_mul (by omega) hby
    omega
  rcases h.2 with ⟨rfl, h0⟩ | ⟨g0, cap0, cur, rfl, hbg, hg, hnc, hcm, hcs, htake⟩
  · right
    have hx0 : xs = [] := List.eq_nil_of_length_eq_zero h0
    subst hx0
    obtain ⟨v', w2, hr, ho, _, _⟩ := run_append_own (P := P) (w := w.alloc (.cells #[x] e)) w.heap.size t ty e i z 1 bytes ht hi h1 h2 h3 hz (by omega) (.slice none 0 0) 0 [] (World.ownsRow_nil _ _ _ _) ⟨w.heap.size, 0, none⟩ 1 1 [x] rfl hnews hone (by unfold maxLen; omega) (by simpa using hbytes) (by simp)
    rw [hrun] at hr
    cases hr
    exact own_ge ho g rfl
  · by_cases hroom : xs.length + 1 ≤ cap0
    · left
      obtain ⟨w2, hr, _⟩ := run_append_fits (P := P) (w := w.alloc (.cells #[x] e)) base t ty e i 1 ht hi h2 g0 xs.length cap0 xs (h.alloc _) ⟨w.heap.size, 0, none⟩ 1 1 [x] rfl hnews hone hroom
      rw [hrun] at hr
      cases hr
      rfl
    · right
      have holds : ∀ j u, xs[j]? = some u → (w.alloc (.cells #[x] e)).cell? ((⟨g0, 0, none⟩ : Addr).add j) = some u := (h.alloc _).cells (g := g0) rfl
      have hr := run_append_grow (P := P) (w.alloc (.cells #[x] e)) t ty e i z ht hi h1 ⟨g0, 0, none⟩ xs.length cap0 xs (by rw [h2]; omega) holds ⟨w.heap.size, 0, none⟩ 1 1 [x] (by simp [h2]) hnews (by unfold maxLen at hcm; omega) (by omega) (growslice_fits (by omega) (by rw [h3]; exact hbytes))
      rw [hrun] at hr
      cases hr
      simp
end Go.Proofs.Ytopjfnkcmdifhaa
