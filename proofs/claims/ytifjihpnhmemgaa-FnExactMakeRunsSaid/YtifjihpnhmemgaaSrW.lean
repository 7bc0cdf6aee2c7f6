/- The state of the stable sort of records, and the exchange of stretches (printed by gen_sr.py). -/
import Derived.Test.YtifjihpnhmemgaaSrM
import Derived.Test.YtifjihpnhmemgaaArgQQ
import Derived.IntWalk
import Derived.Deep.QuietTactic
import Derived.Deep.DeepCutAuto
import Derived.Deep.RegionLaw
import Derived.Deep.RegionHeld3
import Derived.Deep.LoopGhost
namespace Go.Proofs.Ytifjihpnhmemgaa
open Go.RowKit
set_option linter.unusedVariables false
abbrev Rcs := List (Int × Int)
/-- the row g of the records Q in the order D -/
structure SR (base : Nat) (tR : TypeId) (g n c : Nat) (Q : Rcs) (w : World) (D : List Int) : Prop where
  o : w.ownsRow base tR 2 (.slice (some ⟨g, 0, none⟩) n c) n (cmps (D.map (rgI Q)))
  dl : D.length = n
  rg : ∀ x ∈ D, 0 ≤ x ∧ x < (n : Int)
  n64 : n ≤ 64
section
variable {base g n c : Nat} {tR : TypeId} {Q : Rcs} {D : List Int} {w w' wr w1 : World} {row : Option Nat}
theorem SR.at_ (h : SR base tR g n c Q w D) {p : Nat} (hp : p < n) : w.cell? ⟨g, p * 2, none⟩ = some (.int .i64 (rgI Q (gt D p)).1) ∧ w.cell? ⟨g, p * 2 + 1, none⟩ = some (.int .i64 (rgI Q (gt D p)).2) ∧ w.frozen? ⟨g, p * 2, none⟩ = false ∧ w.frozen? ⟨g, p * 2 + 1, none⟩ = false := by
  have hpD : p < D.length := by rw [h.dl]; exact hp
  have hm : p < (D.map (rgI Q)).length := by simpa using hpD
  have hg := cmps_get hm
  have e : (D.map (rgI Q))[p] = rgI Q (gt D p) := by simp [gt, hpD]
  rw [e] at hg
  have c1 := h.o.cellAt (p * 2) (by omega)
  have c2 := h.o.cellAt (p * 2 + 1) (by omega)
  rw [hg.1] at c1
  rw [hg.2] at c2
  exact ⟨c1, c2, h.o.frozenAt _, h.o.frozenAt _⟩
theorem SR.rgp (h : SR base tR g n c Q w D) {p : Nat} (hp : p < n) : 0 ≤ gt D p ∧ gt D p < (n : Int) :=
  h.rg _ (by unfold gt; rw [List.getElem?_eq_getElem (by rw [h.dl]; exact hp)]; exact List.getElem_mem _)
theorem SR.below (h : SR base tR g n c Q w D) (hb : Below w.heap.size w w') : SR base tR g n c Q w' D := ⟨own_below h.o hb (Nat.le_refl _), h.dl, h.rg, h.n64⟩
theorem SR.drewN (h : SR base tR g n c Q w D) (k : Nat) : SR base tR g n c Q (w.drewN k) D := ⟨h.o, h.dl, h.rg, h.n64⟩
theorem SR.drew (h : SR base tR g n c Q w D) : SR base tR g n c Q w.drew D := ⟨h.o, h.dl, h.rg, h.n64⟩
theorem SR.cmp (h : SR base tR g n c Q wr D) (hb : Below (wr.drewN 1).heap.size (wr.drewN 1) w1) : SR base tR g n c Q w1 D := h.below (bthen (below_drewN (Below.refl _ _) 1) hb)
theorem near_cmp (h : w.grownBy wr row) (hb : Below (wr.drewN 1).heap.size (wr.drewN 1) w1) : w.grownBy w1 row := h.trans (grown_of_belowQ (bthen (below_drewN (Below.refl _ _) 1) hb) row)
theorem SR.set_ (h : SR base tR g n c Q w D) {p : Nat} {x : Int} (hp : p < n) (hx : 0 ≤ x ∧ x < (n : Int)) :
    SR base tR g n c Q ((w.setCell ⟨g, p * 2, none⟩ (.int .i64 (rgI Q x).1)).setCell ⟨g, p * 2 + 1, none⟩ (.int .i64 (rgI Q x).2)) (D.set p x) ∧
    w.grownBy ((w.setCell ⟨g, p * 2, none⟩ (.int .i64 (rgI Q x).1)).setCell ⟨g, p * 2 + 1, none⟩ (.int .i64 (rgI Q x).2)) (some g) := by
  have hm : p < (D.map (rgI Q)).length := by rw [List.length_map, h.dl]; exact hp
  have s1 := h.o.stored (p * 2) (.int .i64 (rgI Q x).1)
  rw [cmps_set1 _ _ _ hm] at s1
  have s2 := s1.1.stored (p * 2 + 1) (.int .i64 (rgI Q x).2)
  rw [cmps_set2 _ _ _ (by simpa using hm)] at s2
  simp only [List.getElem_set_self, List.set_set] at s2
  refine ⟨⟨?_, by rw [List.length_set]; exact h.dl, fun y hy => ?_, h.n64⟩, s1.2.trans s2.2⟩
  · rw [List.map_set]; exact s2.1
  · rcases List.mem_or_eq_of_mem_set hy with h3 | h3
    · exact h.rg y h3
    · rw [h3]; exact hx
theorem swp_comm {D : List Int} {i j : Nat} (h : i ≠ j) : swp D i j = swp D j i := by
  unfold swp
  exact List.set_comm _ _ h
/-- two records are exchanged -/
theorem SR.swap (h : SR base tR g n c Q w D) {p q : Nat} (hp : p < n) (hq : q < n) (hpq : p ≠ q) :
    SR base tR g n c Q ((((w.setCell ⟨g, p * 2, none⟩ (.int .i64 (rgI Q (gt D q)).1)).setCell ⟨g, p * 2 + 1, none⟩ (.int .i64 (rgI Q (gt D q)).2)).setCell ⟨g, q * 2, none⟩ (.int .i64 (rgI Q (gt D p)).1)).setCell ⟨g, q * 2 + 1, none⟩ (.int .i64 (rgI Q (gt D p)).2)) (swp D p q) ∧
    SR base tR g n c Q ((((w.setCell ⟨g, q * 2, none⟩ (.int .i64 (rgI Q (gt D p)).1)).setCell ⟨g, q * 2 + 1, none⟩ (.int .i64 (rgI Q (gt D p)).2)).setCell ⟨g, p * 2, none⟩ (.int .i64 (rgI Q (gt D q)).1)).setCell ⟨g, p * 2 + 1, none⟩ (.int .i64 (rgI Q (gt D q)).2)) (swp D p q) ∧
    w.grownBy ((((w.setCell ⟨g, p * 2, none⟩ (.int .i64 (rgI Q (gt D q)).1)).setCell ⟨g, p * 2 + 1, none⟩ (.int .i64 (rgI Q (gt D q)).2)).setCell ⟨g, q * 2, none⟩ (.int .i64 (rgI Q (gt D p)).1)).setCell ⟨g, q * 2 + 1, none⟩ (.int .i64 (rgI Q (gt D p)).2)) (some g) ∧
    w.grownBy ((((w.setCell ⟨g, q * 2, none⟩ (.int .i64 (rgI Q (gt D p)).1)).setCell ⟨g, q * 2 + 1, none⟩ (.int .i64 (rgI Q (gt D p)).2)).setCell ⟨g, p * 2, none⟩ (.int .i64 (rgI Q (gt D q)).1)).setCell ⟨g, p * 2 + 1, none⟩ (.int .i64 (rgI Q (gt D q)).2)) (some g) := by
  have h1 := h.rgp hp
  have h2 := h.rgp hq
  have a1 := h.set_ (p := p) (x := gt D q) hp h2
  have a2 := h.set_ (p := q) (x := gt D p) hq h1
  have b1 := a1.1.set_ (p := q) (x := gt D p) hq h1
  have b2 := a2.1.set_ (p := p) (x := gt D q) hp h2
  refine ⟨b1.1, ?_, a1.2.trans b1.2, a2.2.trans b2.2⟩
  rw [swp_comm hpq]
  exact b2.1
theorem SR.less (h : SR base tR g n c Q w D) {p q : Nat} (hp : p < n) (hq : q < n) (hlt : gt D q < gt D p) : cmpR (rgI Q (gt D p)).1 (rgI Q (gt D q)).1 < 0 ↔ fr Q (gt D p) < fr Q (gt D q) := by
  have h1 := h.rgp hp
  have h2 := h.rgp hq
  have h3 := h.n64
  exact fr_less h2.1 hlt (by omega)
theorem near_drewN_ {w w' : World} {row : Option Nat} (h : w.grownBy w' row) (k : Nat) : w.grownBy (w'.drewN k) row := ⟨h.os, h.tape, h.output, h.size, h.block⟩
theorem near_drew {w w' : World} {row : Option Nat} (h : w.grownBy w' row) : w.grownBy w'.drew row := ⟨h.os, h.tape, h.output, h.size, h.block⟩
theorem drew_near {w w' : World} {row : Option Nat} (h : w.drew.grownBy w' row) : w.grownBy w' row := ⟨h.os, h.tape, h.output, h.size, h.block⟩
end
set_option maxRecDepth 100000 in
set_option maxHeartbeats 1600000 in
theorem swapR_any {base g n c : Nat} {Q : Rcs} {D : List Int} {w : World} (h : SR base 47 g n c Q w D) (a b t : Nat) (hab : a + t ≤ b) (hb : b + t ≤ n) :
    Calls Try.prog 62 #[.slice (some ⟨g, 0, none⟩) n c, .int .i64 (a : Nat), .int .i64 (b : Nat), .int .i64 (t : Nat), .func (.func 45) #[] #[]] w fun e w' =>
      e = .returned (.tuple #[]) ∧ w.grownBy w' (some g) ∧ ∃ C, SR base 47 g n c Q w' C ∧ Sw D C a b t := by
  have H := Lib.hid h
  have hn := h.n64
  clear h
  go_enter Try.func62, Try.ntmps62
  go_wp2_with fail
  go_loopw [10] (fun vi wr => ∃ (k : Nat) (C : List Int), k ≤ t ∧ vi = .int .i64 (k : Nat) ∧ Hid (SR base 47 g n c Q wr C) ∧ Hid (Sw D C a b k) ∧ Hid (w.grownBy wr (some g))) (fun vi _ => t - (intOf vi).toNat)
  case atStart => exact ⟨0, D, by omega, rfl, H, Lib.hid (Sw.zero _ _ _), Lib.hid (World.grownBy.refl _ _)⟩
  case round =>
    obtain ⟨k, C, hk, rfl, HS, HW, HG⟩ := hrel
    by_cases hlt : k < t
    · have kI : (k : Int) < (t : Int) := by omega
      obtain ⟨p, hp⟩ : ∃ p, p = a + k := ⟨_, rfl⟩
      obtain ⟨q, hq⟩ : ∃ q, q = b + k := ⟨_, rfl⟩
      have ep : (a : Int) + (k : Int) = (p : Int) := by omega
      have eq_ : (b : Int) + (k : Int) = (q : Int) := by omega
      have hpn : p < n := by omega
      have hqn : q < n := by omega
      have pI : (p : Int) < (n : Int) := by omega
      have qI : (q : Int) < (n : Int) := by omega
      have wp : IntKind.i64.wrap (p : Int) = (p : Int) := IntWalk.i64_in _ ⟨by omega, by omega⟩
      have wq : IntKind.i64.wrap (q : Int) = (q : Int) := IntWalk.i64_in _ ⟨by omega, by omega⟩
      have hpq : p ≠ q := by omega
      obtain ⟨c1, c1p, f1, f1p⟩ := HS.out.at_ hpn
      obtain ⟨c2, c2p, f2, f2p⟩ := HS.out.at_ hqn
      obtain ⟨s1, s2, g1, g2⟩ := HS.out.drew.swap hpn hqn hpq
      have HWN := Lib.hid (HW.out.step (n := t) hlt hab (by rw [← HW.out.perm.length_eq, HS.out.dl]; exact hb))
      rw [← hp, ← hq] at HWN
      have S1 := Lib.hid s1
      have S2 := Lib.hid s2
      have G1 := Lib.hid (HG.out.trans (drew_near g1))
      have G2 := Lib.hid (HG.out.trans (drew_near g2))
      clear s1 s2 g1 g2 hp hq
      go_upto_region 3 with fail
      go_region_law (fail)
      all_goals
        go_wp2_with fail
        go_roundw
        case rel => first
          | exact ⟨k + 1, _, by omega, by go_num, S1, HWN, G1⟩
          | exact ⟨k + 1, _, by omega, by go_num, S2, HWN, G2⟩
        case measure => simp [intOf]; omega
    · have kI : ¬ (k : Int) < (t : Int) := by omega
      obtain rfl : k = t := by omega
      go_wp2_with fail
      exact bodyPost_end (results_none rfl _ _ _) rfl ⟨rfl, HG.out, C, HS.out, HW.out⟩
set_option maxRecDepth 100000 in
set_option maxHeartbeats 1600000 in
theorem rotate_any {base g n c : Nat} {Q : Rcs} {D : List Int} {w : World} (h : SR base 47 g n c Q w D) (a m b : Nat) (ham : a < m) (hmb : m < b) (hb : b ≤ n) :
    Calls Try.prog 61 #[.slice (some ⟨g, 0, none⟩) n c, .int .i64 (a : Nat), .int .i64 (m : Nat), .int .i64 (b : Nat), .func (.func 45) #[] #[]] w fun e w' =>
      e = .returned (.tuple #[]) ∧ w.grownBy w' (some g) ∧ ∃ C, SR base 47 g n c Q w' C ∧ Rt D C a m b := by
  have H := Lib.hid h
  have hn := h.n64
  clear h
  obtain ⟨i0, hi0⟩ : ∃ i0, i0 = m - a := ⟨_, rfl⟩
  obtain ⟨j0, hj0⟩ : ∃ j0, j0 = b - m := ⟨_, rfl⟩
  have e1 : (m : Int) - (a : Int) = (i0 : Int) := by omega
  have e2 : (b : Int) - (m : Int) = (j0 : Int) := by omega
  have HI : Hid (∀ R, Rt D R (m - i0) m (m + j0) → Rt D R a m b) := Lib.hid (fun R hR => by rw [show m - i0 = a by omega, show m + j0 = b by omega] at hR; exact hR)
  have hi1 : 1 ≤ i0 ∧ i0 ≤ m := by omega
  have hj1 : 1 ≤ j0 ∧ m + j0 ≤ n := by omega
  clear hi0 hj0
  have wi0 : IntKind.i64.wrap (i0 : Int) = (i0 : Int) := IntWalk.i64_in _ ⟨by omega, by omega⟩
  have wj0 : IntKind.i64.wrap (j0 : Int) = (j0 : Int) := IntWalk.i64_in _ ⟨by omega, by omega⟩
  go_enter Try.func61, Try.ntmps61
  go_wp2_with fail
  clear e1 e2 wi0 wj0
  go_loopw [10, 11] (fun vi vj wr => ∃ (i j : Nat) (C : List Int), 1 ≤ i ∧ i ≤ m ∧ 1 ≤ j ∧ m + j ≤ n ∧ vi = .int .i64 (i : Nat) ∧ vj = .int .i64 (j : Nat) ∧ Hid (SR base 47 g n c Q wr C) ∧ Hid (∀ R, Rt C R (m - i) m (m + j) → Rt D R a m b) ∧ Hid (w.grownBy wr (some g))) (fun vi vj _ => (intOf vi).toNat + (intOf vj).toNat)
  case atStart => exact ⟨i0, j0, D, hi1.1, hi1.2, hj1.1, hj1.2, rfl, rfl, H, HI, Lib.hid (World.grownBy.refl _ _)⟩
  case round =>
    clear H HI hi1 hj1
    obtain ⟨i, j, C, i1, im, j1, jn, rfl, rfl, HS, HI, HG⟩ := hrel
    obtain ⟨x, hx⟩ : ∃ x, x = m - i := ⟨_, rfl⟩
    have ex : (m : Int) - (i : Int) = (x : Int) := by omega
    have wx : IntKind.i64.wrap (x : Int) = (x : Int) := IntWalk.i64_in _ ⟨by omega, by omega⟩
    have HX := Lib.hid hx
    rcases Nat.lt_trichotomy i j with hij | hij | hij
    · have hne : ((i : Int) != (j : Int)) = true := by rw [bne_iff_ne]; omega
      have hgt : ¬ (i : Int) > (j : Int) := by omega
      have hlt2 : ¬ (j : Int) < (i : Int) := by omega
      obtain ⟨y, hy⟩ : ∃ y, y = m + j - i := ⟨_, rfl⟩
      obtain ⟨z, hz⟩ : ∃ z, z = m + j := ⟨_, rfl⟩
      obtain ⟨d, hd⟩ : ∃ d, d = j - i := ⟨_, rfl⟩
      have ez : (m : Int) + (j : Int) = (z : Int) := by omega
      have ey : (z : Int) - (i : Int) = (y : Int) := by omega
      have ed : (j : Int) - (i : Int) = (d : Int) := by omega
      have wz : IntKind.i64.wrap (z : Int) = (z : Int) := IntWalk.i64_in _ ⟨by omega, by omega⟩
      have wy : IntKind.i64.wrap (y : Int) = (y : Int) := IntWalk.i64_in _ ⟨by omega, by omega⟩
      have wd : IntKind.i64.wrap (d : Int) = (d : Int) := IntWalk.i64_in _ ⟨by omega, by omega⟩
      have HP := Lib.hid (swapR_any HS.out x y i (by omega) (by omega))
      have HY := Lib.hid hy
      have HD := Lib.hid hd
      clear hx hy hz hd
      go_wp2_with fail
      refine HP.out.mono ?_
      rintro e w1 ⟨rfl, g1, C1, s1, sw1⟩
      have HS1 := Lib.hid s1
      have HG1 := Lib.hid (HG.out.trans g1)
      have HI1 : Hid (∀ R, Rt C1 R (m - i) m (m + d) → Rt D R a m b) := Lib.hid (fun R hR => by
        rw [HX.out, HY.out] at sw1
        exact HI.out R (Rt.right sw1 im hij (by rw [← HD.out]; exact hR)))
      have hd1 : 1 ≤ d := by have := HD.out; omega
      have hdn : m + d ≤ n := by have := HD.out; omega
      have hdj : d < j := by have := HD.out; omega
      clear s1 g1 sw1
      go_wp2_with fail
      go_roundw
      case rel => exact ⟨i, d, C1, i1, im, hd1, hdn, rfl, rfl, HS1, HI1, HG1⟩
      case measure => simp [intOf]; omega
    · subst hij
      have hne : ((i : Int) != (i : Int)) = false := by simp
      have HP := Lib.hid (swapR_any HS.out x m i (by omega) (by omega))
      clear hx
      go_wp2_with fail
      refine HP.out.mono ?_
      rintro e w1 ⟨rfl, g1, C1, s1, sw1⟩
      have HS1 := Lib.hid s1
      have HG1 := Lib.hid (HG.out.trans g1)
      have HR : Hid (Rt D C1 a m b) := Lib.hid (HI.out C1 (Rt.last (by rw [← HX.out]; exact sw1) im))
      clear s1 g1 sw1
      go_wp2_with fail
      exact bodyPost_end (results_none rfl _ _ _) rfl ⟨rfl, HG1.out, C1, HS1.out, HR.out⟩
    · have hne : ((i : Int) != (j : Int)) = true := by rw [bne_iff_ne]; omega
      have hgt : (i : Int) > (j : Int) := by omega
      have hlt2 : (j : Int) < (i : Int) := by omega
      obtain ⟨d, hd⟩ : ∃ d, d = i - j := ⟨_, rfl⟩
      have ed : (i : Int) - (j : Int) = (d : Int) := by omega
      have wd : IntKind.i64.wrap (d : Int) = (d : Int) := IntWalk.i64_in _ ⟨by omega, by omega⟩
      have HP := Lib.hid (swapR_any HS.out x m j (by omega) (by omega))
      have HD := Lib.hid hd
      clear hx hd
      go_wp2_with fail
      refine HP.out.mono ?_
      rintro e w1 ⟨rfl, g1, C1, s1, sw1⟩
      have HS1 := Lib.hid s1
      have HG1 := Lib.hid (HG.out.trans g1)
      have HI1 : Hid (∀ R, Rt C1 R (m - d) m (m + j) → Rt D R a m b) := Lib.hid (fun R hR => by
        rw [HX.out] at sw1
        exact HI.out R (Rt.left sw1 im hij (by rw [← HD.out]; exact hR)))
      have hd1 : 1 ≤ d := by have := HD.out; omega
      have hdm : d ≤ m := by have := HD.out; omega
      have hdi : d < i := by have := HD.out; omega
      clear s1 g1 sw1
      go_wp2_with fail
      go_roundw
      case rel => exact ⟨d, j, C1, hd1, hdm, j1, jn, rfl, rfl, HS1, HI1, HG1⟩
      case measure => simp [intOf]; omega
end Go.Proofs.Ytifjihpnhmemgaa
