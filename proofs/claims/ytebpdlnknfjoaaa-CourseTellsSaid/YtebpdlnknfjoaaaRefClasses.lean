/- The walk of the document's Classes. -/
import Derived.Test.YtebpdlnknfjoaaaClasses
namespace Go.Proofs.Ytebpdlnknfjoaaa
set_option linter.unusedVariables false
set_option linter.unusedSimpArgs false
open Go.RowKit

theorem insert_all {A : Option Addr} {L : List Int} {n : Int} {p : Nat} (c : Nat) (w : World) (hI : IntsAt w.heap.size w A L) (hp : L.length = p) (hc : p ≤ c) (hup : L.Pairwise (· < ·)) (hlen : p ≤ 1000) :
    Calls Try.prog 36 #[.slice A p c, .int .i64 n] w fun e w' => ∃ A' c' ys, e = .returned (.slice A' ys.length c') ∧ ys.length ≤ c' ∧ IntsAt w'.heap.size w' A' ys ∧ IsSet ys (fun x => x = n ∨ x ∈ L) ∧ Below w.heap.size w w' := by
  by_cases hn : n ∈ L
  · subst hp
    have HC := Lib.hid (has_near (q := true) c L n w hI rfl hlen (decide_eq_true hn))
    go_enter Try.func36, Try.ntmps36
    go_wp2_with (go_at_call 33; refine HC.out.mono ?_; rintro e w' ⟨rfl, rfl⟩)
    go_ret
    refine ⟨A, c, L, rfl, hc, hI, ⟨hup, fun x => ?_⟩, Below.refl _ _⟩
    constructor
    · exact fun h => .inr h
    · rintro (rfl | h)
      · exact hn
      · exact h
  · refine (insert_near c w hI hp hc hup hn hlen).mono ?_
    rintro e w' ⟨A', c', ys, h1, _, h2, h3, h4, h5⟩
    exact ⟨A', c', ys, h1, h2, h3, h4, h5⟩

theorem or_last {a b c : Prop} : a ∨ (b ∨ c) ↔ c ∨ (a ∨ b) := ⟨fun h => by rcases h with h | h | h <;> simp [h], fun h => by rcases h with h | h | h <;> simp [h]⟩
/-- What the row holds on the way. -/
structure Gather (L : List Int) (P : Int → Prop) (w0 w : World) (A : Option Addr) (c : Nat) : Prop where
  set : IsSet L P
  at_ : IntsAt w.heap.size w A L
  cap : L.length ≤ c
  below : Below w0.heap.size w0 w
theorem Gather.next {L ys : List Int} {P Q : Int → Prop} {w0 w w' : World} {A A' : Option Addr} {c c' : Nat} {n : Int} (h : Gather L P w0 w A c) (hs : IsSet ys (fun x => x = n ∨ x ∈ L)) (hi : IntsAt w'.heap.size w' A' ys) (hc : ys.length ≤ c') (hb : Below w.heap.size w w') (hPQ : ∀ x, Q x ↔ x = n ∨ P x) : Gather ys Q w0 w' A' c' :=
  ⟨⟨hs.1, fun x => (hs.2 x).trans ((or_congr Iff.rfl (h.set.2 x)).trans (hPQ x).symm)⟩, hi, hc, h.below.trans (hb.mono h.below.size)⟩
theorem Gather.same {L : List Int} {P Q : Int → Prop} {w0 w : World} {A : Option Addr} {c : Nat} (h : Gather L P w0 w A c) (hPQ : ∀ x, Q x ↔ P x) : Gather L Q w0 w A c :=
  ⟨⟨h.set.1, fun x => (h.set.2 x).trans (hPQ x).symm⟩, h.at_, h.cap, h.below⟩
theorem Gather.len {L U : List Int} {P : Int → Prop} {w0 w : World} {A : Option Addr} {c : Nat} (h : Gather L P w0 w A c) (hU : ∀ x, P x → x ∈ U) : L.length ≤ U.length :=
  nodup_le (rising_nodup h.set.1) (fun x hx => hU x ((h.set.2 x).1 hx))

set_option maxRecDepth 100000 in
set_option maxHeartbeats 800000 in
theorem refClasses_any {B : Nat} {A : Option Addr} {ws : List (List (List Int))} (s : ByteArray) (c : Nat) (w : World) (hW : WaysAt B w A ws) (hsm : Small ws) (hfl : (flatOf ws).length ≤ 1000) :
    Calls Try.prog 15 #[.agg #[.string s, .slice A ws.length c]] w fun e w' => ∃ A' c' ys, e = .returned (.slice A' ys.length c') ∧ IntsAt w'.heap.size w' A' ys ∧ IsSet ys (fun x => x ∈ flatOf ws) ∧ Below w.heap.size w w' := by
  obtain ⟨w1, hw1⟩ : ∃ w1, w1 = w.alloc (.cells #[.string s, .slice A ws.length c] 24) := ⟨_, rfl⟩
  have HB0 := Lib.hid (alloc_below w (.cells #[.string s, .slice A ws.length c] 24))
  have HG0 : Hid (Gather [] (fun x => x ∈ flatOf (ws.take 0)) w (w.alloc (.cells #[.string s, .slice A ws.length c] 24)) none 0) := ⟨⟨List.Pairwise.nil, fun x => by simp [flatOf]⟩, IntsAt.nil _ _ _, Nat.le_refl _, HB0.out⟩
  have HBX : Hid ((w.alloc (.cells #[.string s, .slice A ws.length c] 24)).cell? ⟨w.heap.size, 1, none⟩ = some (.slice A ws.length c)) := by show _ = _; simp [go_sem]
  have HW := Lib.hid hW
  have HSM := Lib.hid hsm.2
  have h1000 := hsm.1
  clear hW hsm hw1 HB0
  go_enter Try.func15, Try.ntmps15
  go_wp2
  go_loopw [3, 4] (fun v i wr => ∃ (k : Nat) (L : List Int) (Ao : Option Addr) (co : Nat), k ≤ ws.length ∧ v = .slice Ao (List.length L) co ∧ i = .int .i64 (k : Nat) ∧ Hid (Gather L (fun x => x ∈ flatOf (ws.take k)) w wr Ao co) ∧ Hid (wr.cell? ⟨w.heap.size, 1, none⟩ = some (.slice A ws.length c))) (fun _ i _ => ws.length - (intOf i).toNat)
  case atStart => exact ⟨0, [], none, 0, Nat.zero_le _, rfl, rfl, HG0, HBX⟩
  case round =>
    clear HG0 HBX
    obtain ⟨k, L, Ao, co, hk, rfl, rfl, HG, HBX⟩ := hrel
    have hbx := HBX.out
    by_cases hlt : k < ws.length
    · obtain ⟨ad, A1, c1, rfl, _, hc0, hl1, hR0⟩ := HW.out k hlt
      obtain ⟨hp1, hp2⟩ := HSM.out _ (List.getElem_mem hlt)
      have HSN := Lib.hid (flat_snoc hlt)
      have hin : ∀ x, x ∈ ws[k].flatten → x ∈ flatOf ws := fun x hx => by
        unfold flatOf
        rw [List.mem_flatten] at hx ⊢
        obtain ⟨p, hp, hx⟩ := hx
        exact ⟨p, List.mem_flatten.2 ⟨_, List.getElem_mem hlt, hp⟩, hx⟩
      obtain ⟨ps, hps⟩ : ∃ ps, ps = ws[k] := ⟨_, rfl⟩
      rw [← hps] at hp1 hp2 HSN hR0 hc0 hin
      have HR := Lib.hid hR0
      have HC0 := Lib.hid hc0
      have HP2 := Lib.hid hp2
      have HIN := Lib.hid hin
      have HTK : Hid (∀ x, x ∈ flatOf (ws.take k) → x ∈ flatOf ws) := fun x hx => by
        unfold flatOf at hx ⊢
        rw [List.mem_flatten] at hx ⊢
        obtain ⟨p, hp, hx⟩ := hx
        rw [List.mem_flatten] at hp
        obtain ⟨q, hq, hp⟩ := hp
        exact ⟨p, List.mem_flatten.2 ⟨q, List.mem_of_mem_take hq, hp⟩, hx⟩
      have HG1 : Hid (Gather L (fun x => x ∈ flatOf (ws.take k) ∨ x ∈ (ps.take 0).flatten) w wr Ao co) := HG.out.same (fun x => by simp)
      clear hps hp2 hc0 hl1 hR0 HG hin
      go_wp2
      clear hbx
      go_loopw [3, 5] (fun v i wr => ∃ (j : Nat) (L : List Int) (Ao : Option Addr) (co : Nat), j ≤ ps.length ∧ v = .slice Ao (List.length L) co ∧ i = .int .i64 (j : Nat) ∧ Hid (Gather L (fun x => x ∈ flatOf (ws.take k) ∨ x ∈ (ps.take j).flatten) w wr Ao co) ∧ Hid (wr.cell? ⟨w.heap.size, 1, none⟩ = some (.slice (some ad) ws.length c))) (fun _ i _ => ps.length - (intOf i).toNat)
      case atStart => exact ⟨0, L, Ao, co, Nat.zero_le _, rfl, rfl, HG1, HBX⟩
      case round =>
        clear HG1 HBX
        obtain ⟨j, L, Ao, co, hj, rfl, rfl, HG, HBX⟩ := hrel
        have hbx := HBX.out
        have hc1 : wr.cell? (ad.add k) = some (.slice A1 ps.length c1) := (World.cell?_of_block (HG.out.below.block _ (cell_lt HC0.out))).trans HC0.out
        by_cases hjl : j < ps.length
        · obtain ⟨ad2, A2, c2, rfl, hc2, hl2, hia⟩ := (HR.out.now).row j hjl
          have hpl := HP2.out _ (List.getElem_mem hjl)
          have HFS := Lib.hid (flatten_snoc hjl)
          have hpin : ∀ x, x ∈ ps[j] → x ∈ ps.flatten := fun x hx => List.mem_flatten.2 ⟨_, List.getElem_mem hjl, hx⟩
          obtain ⟨p, hp⟩ : ∃ p, p = ps[j] := ⟨_, rfl⟩
          rw [← hp] at hc2 hpl hia HFS hpin
          have HC2 := Lib.hid hc2
          have HIA := Lib.hid hia
          have HPIN := Lib.hid hpin
          have hc2' : wr.cell? (ad2.add j) = some (.slice A2 p.length c2) := (World.cell?_of_block (HG.out.below.block _ (cell_lt hc2))).trans hc2
          have HG2 : Hid (Gather L (fun x => (x ∈ flatOf (ws.take k) ∨ x ∈ (ps.take j).flatten) ∨ x ∈ p.take 0) w wr Ao co) := HG.out.same (fun x => by simp)
          clear hp hc2 hl2 hia hpin HG
          go_wp2
          clear hbx hc1 hc2'
          go_loopw [3, 7] (fun v i wr => ∃ (t : Nat) (L : List Int) (Ao : Option Addr) (co : Nat), t ≤ p.length ∧ v = .slice Ao (List.length L) co ∧ i = .int .i64 (t : Nat) ∧ Hid (Gather L (fun x => (x ∈ flatOf (ws.take k) ∨ x ∈ (ps.take j).flatten) ∨ x ∈ p.take t) w wr Ao co) ∧ Hid (wr.cell? ⟨w.heap.size, 1, none⟩ = some (.slice (some ad) ws.length c))) (fun _ i _ => p.length - (intOf i).toNat)
          case atStart => exact ⟨0, L, Ao, co, Nat.zero_le _, rfl, rfl, HG2, HBX⟩
          case round =>
            clear HG2 HBX
            obtain ⟨t, L, Ao, co, ht, rfl, rfl, HG, HBX⟩ := hrel
            by_cases htl : t < p.length
            · obtain ⟨ad3, rfl, hx⟩ := (HIA.out.later HG.out.below).cell t htl
              have htk : p.take (t + 1) = p.take t ++ [p[t]] := List.take_succ_eq_append_getElem htl
              have hLl : L.length ≤ 1000 := by
                refine Nat.le_trans (HG.out.len (U := flatOf ws) (fun x hx => ?_)) hfl
                rcases hx with (hx | hx) | hx
                · exact HTK.out x hx
                · exact HIN.out x (by
                    rw [List.mem_flatten] at hx ⊢
                    obtain ⟨q, hq, hx⟩ := hx
                    exact ⟨q, List.mem_of_mem_take hq, hx⟩)
                · exact HIN.out x (HPIN.out x (List.mem_of_mem_take hx))
              obtain ⟨x, hxe⟩ : ∃ x, x = p[t] := ⟨_, rfl⟩
              rw [← hxe] at hx htk
              have HC := Lib.hid (insert_all (n := x) co wr HG.out.at_ rfl HG.out.cap HG.out.set.1 hLl)
              have HTK2 := Lib.hid htk
              clear hxe htk
              go_wp2_with (go_at_call 36; refine HC.out.mono ?_; rintro e w3 ⟨A3, c3, ys, rfl, hy1, hy2, hy3, hy4⟩; have HG3 : Hid (Gather ys (fun x => (x ∈ flatOf (ws.take k) ∨ x ∈ (ps.take j).flatten) ∨ x ∈ p.take (t + 1)) w w3 A3 c3) := (HG.out.next hy3 hy2 hy1 hy4 (fun y => by rw [HTK2.out, List.mem_append, List.mem_singleton]; exact or_last)); have HBX3 : Hid (w3.cell? ⟨w.heap.size, 1, none⟩ = some (.slice (some ad) ws.length c)) := (World.cell?_of_block (hy4.block _ (cell_lt HBX.out))).trans HBX.out; clear hy1 hy2 hy3 hy4)
              go_roundw
              case rel => exact ⟨t + 1, ys, A3, c3, by omega, rfl, by go_num, HG3, HBX3⟩
              case measure => simp [intOf]; omega
            · have HG3 : Hid (Gather L (fun x => x ∈ flatOf (ws.take k) ∨ x ∈ (ps.take (j + 1)).flatten) w wr Ao co) := HG.out.same (fun x => by
                rw [HFS.out, List.mem_append, List.take_of_length_le (show p.length ≤ t by omega)]
                exact or_assoc.symm)
              go_wp2
              go_roundw
              case rel => exact ⟨j + 1, L, Ao, co, by omega, rfl, by go_num, HG3, HBX⟩
              case measure => simp [intOf]; omega
        · have HG3 : Hid (Gather L (fun x => x ∈ flatOf (ws.take (k + 1))) w wr Ao co) := HG.out.same (fun x => by
            rw [HSN.out, List.mem_append, List.take_of_length_le (show ps.length ≤ j by omega)])
          go_wp2
          go_roundw
          case rel => exact ⟨k + 1, L, Ao, co, by omega, rfl, by go_num, HG3, HBX⟩
          case measure => simp [intOf]; omega
    · have HG3 : Hid (Gather L (fun x => x ∈ flatOf ws) w wr Ao co) := HG.out.same (fun x => by rw [List.take_of_length_le (show ws.length ≤ k by omega)])
      go_wp2
      go_ret
      exact ⟨Ao, co, L, rfl, HG3.out.at_, HG3.out.set, HG3.out.below⟩
end Go.Proofs.Ytebpdlnknfjoaaa
