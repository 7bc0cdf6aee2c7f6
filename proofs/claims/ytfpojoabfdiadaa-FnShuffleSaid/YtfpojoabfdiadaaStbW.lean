/- The state of the stable sort, its comparing, and the exchange of stretches. -/
import Derived.Test.YtfpojoabfdiadaaShfM
import Derived.Test.YtfpojoabfdiadaaCore
import Derived.Test.YtfpojoabfdiadaaPush
import Derived.IntWalk
import Derived.Deep.QuietTactic
import Derived.Deep.DeepCutAuto
import Derived.Deep.RegionLaw
import Derived.Deep.LoopGhost
namespace Go.Proofs.Ytfpojoabfdiadaa
open Go.RowKit
set_option linter.unusedVariables false
def cmpV (x y : Int) : Int := if x < y then -1 else if y < x then 1 else 0
theorem cmpV_lt {x y : Int} (h : x < y) : cmpV x y < 0 := by simp [cmpV, h]
theorem cmpV_ge {x y : Int} (h : ¬ x < y) : ¬ cmpV x y < 0 := by
  unfold cmpV
  rw [if_neg h]
  split <;> omega
theorem cmpV_bd (x y : Int) : -1 ≤ cmpV x y ∧ cmpV x y ≤ 1 := by
  unfold cmpV
  split
  · omega
  · split <;> omega
/-- the row g of indices, the keys behind the box gk -/
structure SS (base : Nat) (tI : TypeId) (g n c gk gK ck : Nat) (K : List Int) (w : World) (D : List Int) : Prop where
  o : w.ownsRow base tI 1 (.slice (some ⟨g, 0, none⟩) n c) n (ints D)
  dl : D.length = n
  bx : w.cell? ⟨gk, 0, none⟩ = some (.slice (some ⟨gK, 0, none⟩) n ck)
  ky : ∀ i (h : i < K.length), w.cell? ⟨gK, i, none⟩ = some (.int .i64 K[i])
  kl : K.length = n
  n1 : gk ≠ g
  n2 : gK ≠ g
  rg : ∀ x ∈ D, 0 ≤ x ∧ x < (n : Int)
  n64 : n ≤ 64
section
variable {base g n c gk gK ck : Nat} {tI : TypeId} {K D E : List Int} {w w' : World}
theorem SS.at_ (h : SS base tI g n c gk gK ck K w D) {p : Nat} (hp : p < n) : w.cell? ⟨g, p, none⟩ = some (.int .i64 (gt D p)) ∧ w.frozen? ⟨g, p, none⟩ = false ∧ ∃ i : Nat, gt D p = (i : Int) ∧ i < n := by
  have hl := h.dl
  have hpD : p < D.length := by omega
  have c1 := h.o.cellAt p (by omega)
  have e : (ints D)[p]? = some (.int .i64 (gt D p)) := by simp [ints, gt, hpD]
  rw [e] at c1
  refine ⟨c1, h.o.frozenAt p, (gt D p).toNat, ?_, ?_⟩ <;>
  · have := h.rg (gt D p) (by unfold gt; rw [List.getElem?_eq_getElem hpD]; exact List.getElem_mem hpD)
    omega
theorem SS.drewN (h : SS base tI g n c gk gK ck K w D) (k : Nat) : SS base tI g n c gk gK ck K (w.drewN k) D := ⟨h.o, h.dl, h.bx, h.ky, h.kl, h.n1, h.n2, h.rg, h.n64⟩
theorem SS.drew (h : SS base tI g n c gk gK ck K w D) : SS base tI g n c gk gK ck K w.drew D := ⟨h.o, h.dl, h.bx, h.ky, h.kl, h.n1, h.n2, h.rg, h.n64⟩
theorem SS.set_ (h : SS base tI g n c gk gK ck K w D) {p : Nat} {x : Int} (hx : 0 ≤ x ∧ x < (n : Int)) : SS base tI g n c gk gK ck K (w.setCell ⟨g, p, none⟩ (.int .i64 x)) (D.set p x) := by
  obtain ⟨h1, h2⟩ := h.o.stored p (.int .i64 x)
  rw [ints_set] at h1
  refine ⟨h1, by rw [List.length_set]; exact h.dl, ?_, fun i hi => ?_, h.kl, h.n1, h.n2, fun y hy => ?_, h.n64⟩
  · rw [World.cell?_setCell_other w _ _ _ (fun e => h.n1 (by injection e with e1; exact e1.symm))]; exact h.bx
  · rw [World.cell?_setCell_other w _ _ _ (fun e => h.n2 (by injection e with e1; exact e1.symm))]; exact h.ky i hi
  · rcases List.mem_or_eq_of_mem_set hy with h3 | h3
    · exact h.rg y h3
    · rw [h3]; exact hx
theorem swp_comm {D : List Int} {i j : Nat} (h : i ≠ j) : swp D i j = swp D j i := by
  unfold swp
  exact List.set_comm _ _ h
/-- two elements are exchanged -/
theorem SS.swap (h : SS base tI g n c gk gK ck K w D) {p q : Nat} (hp : p < n) (hq : q < n) (hpq : p ≠ q) :
    SS base tI g n c gk gK ck K ((w.setCell ⟨g, p, none⟩ (.int .i64 (gt D q))).setCell ⟨g, q, none⟩ (.int .i64 (gt D p))) (swp D p q) ∧
    SS base tI g n c gk gK ck K ((w.setCell ⟨g, q, none⟩ (.int .i64 (gt D p))).setCell ⟨g, p, none⟩ (.int .i64 (gt D q))) (swp D p q) ∧
    w.grownBy ((w.setCell ⟨g, p, none⟩ (.int .i64 (gt D q))).setCell ⟨g, q, none⟩ (.int .i64 (gt D p))) (some g) ∧
    w.grownBy ((w.setCell ⟨g, q, none⟩ (.int .i64 (gt D p))).setCell ⟨g, p, none⟩ (.int .i64 (gt D q))) (some g) := by
  obtain ⟨-, -, i, e1, h1⟩ := h.at_ hp
  obtain ⟨-, -, j, e2, h2⟩ := h.at_ hq
  have a1 := h.set_ (p := p) (x := gt D q) (by omega)
  have a2 := h.set_ (p := q) (x := gt D p) (by omega)
  refine ⟨a1.set_ (by omega), ?_, (h.o.stored p _).2.trans (a1.o.stored q _).2, (h.o.stored q _).2.trans (a2.o.stored p _).2⟩
  rw [swp_comm hpq]
  exact a2.set_ (by omega)
theorem near_drewN_ {w w' : World} {row : Option Nat} (h : w.grownBy w' row) (k : Nat) : w.grownBy (w'.drewN k) row := ⟨h.os, h.tape, h.output, h.size, h.block⟩
theorem near_drew {w w' : World} {row : Option Nat} (h : w.grownBy w' row) : w.grownBy w'.drew row := ⟨h.os, h.tape, h.output, h.size, h.block⟩
theorem drew_near {w w' : World} {row : Option Nat} (h : w.drew.grownBy w' row) : w.grownBy w' row := ⟨h.os, h.tape, h.output, h.size, h.block⟩
theorem drewN_near {w w' : World} {row : Option Nat} {k : Nat} (h : (w.drewN k).grownBy w' row) : w.grownBy w' row := ⟨h.os, h.tape, h.output, h.size, h.block⟩
end
theorem isNaN_any (x : Int) (w : World) : Calls Try.prog 37 #[.int .i64 x] w fun e w' => e = .returned (.bool false) ∧ w = w' := by
  have e3 : (x != x) = false := by simp
  go_enter Try.func37, Try.ntmps37
  go_wp2_with fail
  go_ret
  exact ⟨rfl, rfl⟩
theorem Compare_any (x y : Int) (w : World) : Calls Try.prog 27 #[.int .i64 x, .int .i64 y] w fun e w' => e = .returned (.int .i64 (cmpV x y)) ∧ w' = w := by
  by_cases h1 : x < y
  · have HE := Lib.hid (show cmpV x y = -1 from by simp [cmpV, h1])
    go_enter Try.func27, Try.ntmps27
    go_wp2_with (go_at_call 37; refine (isNaN_any _ _).mono ?_; rintro e w' ⟨rfl, rfl⟩)
    go_ret
    exact ⟨reti HE.out.symm, rfl⟩
  · by_cases h2 : y < x
    · have h3 : x > y := h2
      have HE := Lib.hid (show cmpV x y = 1 from by unfold cmpV; rw [if_neg h1, if_pos h2])
      go_enter Try.func27, Try.ntmps27
      go_wp2_with (go_at_call 37; refine (isNaN_any _ _).mono ?_; rintro e w' ⟨rfl, rfl⟩)
      go_ret
      exact ⟨reti HE.out.symm, rfl⟩
    · have h3 : ¬ x > y := h2
      have HE := Lib.hid (show cmpV x y = 0 from by unfold cmpV; rw [if_neg h1, if_neg h2])
      go_enter Try.func27, Try.ntmps27
      go_wp2_with (go_at_call 37; refine (isNaN_any _ _).mono ?_; rintro e w' ⟨rfl, rfl⟩)
      go_ret
      exact ⟨reti HE.out.symm, rfl⟩
theorem clo_any {base g n c gk gK ck : Nat} {K D : List Int} {w : World} (h : SS base 3 g n c gk gK ck K w D) {p q : Nat} (hp : p < n) (hq : q < n) :
    Calls Try.prog 26 #[.int .i64 (gt D p), .int .i64 (gt D q), .pointer (some ⟨gk, 0, none⟩)] w fun e w' => e = .returned (.int .i64 (cmpV (kf K (gt D p)) (kf K (gt D q)))) ∧ ∃ m, w' = w.drewN m := by
  obtain ⟨-, -, i, e1, h1⟩ := h.at_ hp
  obtain ⟨-, -, j, e2, h2⟩ := h.at_ hq
  rw [e1, e2]
  have hk1 : i < K.length := by rw [h.kl]; exact h1
  have hk2 : j < K.length := by rw [h.kl]; exact h2
  have c1 := h.ky i hk1
  have c2 := h.ky j hk2
  have cb := h.bx
  have i1 : (i : Int) < (n : Int) := by omega
  have i2 : (j : Int) < (n : Int) := by omega
  have f1 : kf K (i : Int) = K[i] := by simp [kf, hk1]
  have f2 : kf K (j : Int) = K[j] := by simp [kf, hk2]
  rw [f1, f2]
  generalize K[i] = x at *
  generalize K[j] = y at *
  clear h e1 e2 f1 f2 hk1 hk2
  go_enter Try.func26, Try.ntmps26
  go_upto_region 1 with fail
  go_quiet ((go_at_call 27; exact Calls.quiet_of_same (Compare_any x y _)))
  go_wp2_with fail
  go_ret
  exact ⟨rfl, _, rfl⟩
set_option maxRecDepth 100000 in
set_option maxHeartbeats 1600000 in
theorem swapR_any {base g n c gk gK ck : Nat} {K D : List Int} {w : World} (h : SS base 3 g n c gk gK ck K w D) (a b t : Nat) (hab : a + t ≤ b) (hb : b + t ≤ n) :
    Calls Try.prog 52 #[.slice (some ⟨g, 0, none⟩) n c, .int .i64 (a : Nat), .int .i64 (b : Nat), .int .i64 (t : Nat), .func (.func 26) #[] #[.pointer (some ⟨gk, 0, none⟩)]] w fun e w' =>
      e = .returned (.tuple #[]) ∧ w.grownBy w' (some g) ∧ ∃ C, SS base 3 g n c gk gK ck K w' C ∧ Sw D C a b t := by
  have H := Lib.hid h
  have hn := h.n64
  clear h
  go_enter Try.func52, Try.ntmps52
  go_wp2_with fail
  go_loopw [10] (fun vi wr => ∃ (k : Nat) (C : List Int), k ≤ t ∧ vi = .int .i64 (k : Nat) ∧ Hid (SS base 3 g n c gk gK ck K wr C) ∧ Hid (Sw D C a b k) ∧ Hid (w.grownBy wr (some g))) (fun vi _ => t - (intOf vi).toNat)
  case atStart => exact ⟨0, D, by omega, rfl, H, Lib.hid (Sw.zero _ _ _), Lib.hid (World.grownBy.refl _ _)⟩
  case round =>
    obtain ⟨k, C, hk, rfl, HS, HW, HG⟩ := hrel
    by_cases hlt : k < t
    · have kI : (k : Int) < (t : Int) := by omega
      obtain ⟨p, hp⟩ : ∃ p, p = a + k := ⟨_, rfl⟩
      obtain ⟨q, hq⟩ : ∃ q, q = b + k := ⟨_, rfl⟩
      have ep : (a : Int) + (k : Int) = (p : Int) := by omega
      have eq_ : (b : Int) + (k : Int) = (q : Int) := by omega
      have hpn : p < n := by omega
      have hqn : q < n := by omega
      have pI : (p : Int) < (n : Int) := by omega
      have qI : (q : Int) < (n : Int) := by omega
      have wp : IntKind.i64.wrap (p : Int) = (p : Int) := IntWalk.i64_in _ ⟨by omega, by omega⟩
      have wq : IntKind.i64.wrap (q : Int) = (q : Int) := IntWalk.i64_in _ ⟨by omega, by omega⟩
      have hpq : p ≠ q := by omega
      obtain ⟨c1, f1, -⟩ := HS.out.at_ hpn
      obtain ⟨c2, f2, -⟩ := HS.out.at_ hqn
      obtain ⟨s1, s2, g1, g2⟩ := HS.out.drew.swap hpn hqn hpq
      have HWN := Lib.hid (HW.out.step (n := t) hlt hab (by rw [← HW.out.perm.length_eq, HS.out.dl]; exact hb))
      rw [← hp, ← hq] at HWN
      have S1 := Lib.hid s1
      have S2 := Lib.hid s2
      have G1 := Lib.hid (HG.out.trans (drew_near g1))
      have G2 := Lib.hid (HG.out.trans (drew_near g2))
      clear s1 s2 g1 g2 hp hq
      go_upto_region 3 with fail
      go_region_law (fail)
      all_goals
        go_wp2_with fail
        go_roundw
        case rel => first
          | exact ⟨k + 1, _, by omega, by go_num, S1, HWN, G1⟩
          | exact ⟨k + 1, _, by omega, by go_num, S2, HWN, G2⟩
        case measure => simp [intOf]; omega
    · have kI : ¬ (k : Int) < (t : Int) := by omega
      obtain rfl : k = t := by omega
      go_wp2_with fail
      exact bodyPost_end (results_none rfl _ _ _) rfl ⟨rfl, HG.out, C, HS.out, HW.out⟩
set_option maxRecDepth 100000 in
set_option maxHeartbeats 1600000 in
theorem rotate_any {base g n c gk gK ck : Nat} {K D : List Int} {w : World} (h : SS base 3 g n c gk gK ck K w D) (a m b : Nat) (ham : a < m) (hmb : m < b) (hb : b ≤ n) :
    Calls Try.prog 51 #[.slice (some ⟨g, 0, none⟩) n c, .int .i64 (a : Nat), .int .i64 (m : Nat), .int .i64 (b : Nat), .func (.func 26) #[] #[.pointer (some ⟨gk, 0, none⟩)]] w fun e w' =>
      e = .returned (.tuple #[]) ∧ w.grownBy w' (some g) ∧ ∃ C, SS base 3 g n c gk gK ck K w' C ∧ Rt D C a m b := by
  have H := Lib.hid h
  have hn := h.n64
  clear h
  obtain ⟨i0, hi0⟩ : ∃ i0, i0 = m - a := ⟨_, rfl⟩
  obtain ⟨j0, hj0⟩ : ∃ j0, j0 = b - m := ⟨_, rfl⟩
  have e1 : (m : Int) - (a : Int) = (i0 : Int) := by omega
  have e2 : (b : Int) - (m : Int) = (j0 : Int) := by omega
  have HI : Hid (∀ R, Rt D R (m - i0) m (m + j0) → Rt D R a m b) := Lib.hid (fun R hR => by rw [show m - i0 = a by omega, show m + j0 = b by omega] at hR; exact hR)
  have hi1 : 1 ≤ i0 ∧ i0 ≤ m := by omega
  have hj1 : 1 ≤ j0 ∧ m + j0 ≤ n := by omega
  clear hi0 hj0
  have wi0 : IntKind.i64.wrap (i0 : Int) = (i0 : Int) := IntWalk.i64_in _ ⟨by omega, by omega⟩
  have wj0 : IntKind.i64.wrap (j0 : Int) = (j0 : Int) := IntWalk.i64_in _ ⟨by omega, by omega⟩
  go_enter Try.func51, Try.ntmps51
  go_wp2_with fail
  clear e1 e2 wi0 wj0
  go_loopw [10, 11] (fun vi vj wr => ∃ (i j : Nat) (C : List Int), 1 ≤ i ∧ i ≤ m ∧ 1 ≤ j ∧ m + j ≤ n ∧ vi = .int .i64 (i : Nat) ∧ vj = .int .i64 (j : Nat) ∧ Hid (SS base 3 g n c gk gK ck K wr C) ∧ Hid (∀ R, Rt C R (m - i) m (m + j) → Rt D R a m b) ∧ Hid (w.grownBy wr (some g))) (fun vi vj _ => (intOf vi).toNat + (intOf vj).toNat)
  case atStart => exact ⟨i0, j0, D, hi1.1, hi1.2, hj1.1, hj1.2, rfl, rfl, H, HI, Lib.hid (World.grownBy.refl _ _)⟩
  case round =>
    clear H HI hi1 hj1
    obtain ⟨i, j, C, i1, im, j1, jn, rfl, rfl, HS, HI, HG⟩ := hrel
    obtain ⟨x, hx⟩ : ∃ x, x = m - i := ⟨_, rfl⟩
    have ex : (m : Int) - (i : Int) = (x : Int) := by omega
    have wx : IntKind.i64.wrap (x : Int) = (x : Int) := IntWalk.i64_in _ ⟨by omega, by omega⟩
    have HX := Lib.hid hx
    rcases Nat.lt_trichotomy i j with hij | hij | hij
    · have hne : ((i : Int) != (j : Int)) = true := by rw [bne_iff_ne]; omega
      have hgt : ¬ (i : Int) > (j : Int) := by omega
      have hlt2 : ¬ (j : Int) < (i : Int) := by omega
      obtain ⟨y, hy⟩ : ∃ y, y = m + j - i := ⟨_, rfl⟩
      obtain ⟨z, hz⟩ : ∃ z, z = m + j := ⟨_, rfl⟩
      obtain ⟨d, hd⟩ : ∃ d, d = j - i := ⟨_, rfl⟩
      have ez : (m : Int) + (j : Int) = (z : Int) := by omega
      have ey : (z : Int) - (i : Int) = (y : Int) := by omega
      have ed : (j : Int) - (i : Int) = (d : Int) := by omega
      have wz : IntKind.i64.wrap (z : Int) = (z : Int) := IntWalk.i64_in _ ⟨by omega, by omega⟩
      have wy : IntKind.i64.wrap (y : Int) = (y : Int) := IntWalk.i64_in _ ⟨by omega, by omega⟩
      have wd : IntKind.i64.wrap (d : Int) = (d : Int) := IntWalk.i64_in _ ⟨by omega, by omega⟩
      have HP := Lib.hid (swapR_any HS.out x y i (by omega) (by omega))
      have HY := Lib.hid hy
      have HD := Lib.hid hd
      clear hx hy hz hd
      go_wp2_with fail
      refine HP.out.mono ?_
      rintro e w1 ⟨rfl, g1, C1, s1, sw1⟩
      have HS1 := Lib.hid s1
      have HG1 := Lib.hid (HG.out.trans g1)
      have HI1 : Hid (∀ R, Rt C1 R (m - i) m (m + d) → Rt D R a m b) := Lib.hid (fun R hR => by
        rw [HX.out, HY.out] at sw1
        exact HI.out R (Rt.right sw1 im hij (by rw [← HD.out]; exact hR)))
      have hd1 : 1 ≤ d := by have := HD.out; omega
      have hdn : m + d ≤ n := by have := HD.out; omega
      have hdj : d < j := by have := HD.out; omega
      clear s1 g1 sw1
      go_wp2_with fail
      go_roundw
      case rel => exact ⟨i, d, C1, i1, im, hd1, hdn, rfl, rfl, HS1, HI1, HG1⟩
      case measure => simp [intOf]; omega
    · subst hij
      have hne : ((i : Int) != (i : Int)) = false := by simp
      have HP := Lib.hid (swapR_any HS.out x m i (by omega) (by omega))
      clear hx
      go_wp2_with fail
      refine HP.out.mono ?_
      rintro e w1 ⟨rfl, g1, C1, s1, sw1⟩
      have HS1 := Lib.hid s1
      have HG1 := Lib.hid (HG.out.trans g1)
      have HR : Hid (Rt D C1 a m b) := Lib.hid (HI.out C1 (Rt.last (by rw [← HX.out]; exact sw1) im))
      clear s1 g1 sw1
      go_wp2_with fail
      exact bodyPost_end (results_none rfl _ _ _) rfl ⟨rfl, HG1.out, C1, HS1.out, HR.out⟩
    · have hne : ((i : Int) != (j : Int)) = true := by rw [bne_iff_ne]; omega
      have hgt : (i : Int) > (j : Int) := by omega
      have hlt2 : (j : Int) < (i : Int) := by omega
      obtain ⟨d, hd⟩ : ∃ d, d = i - j := ⟨_, rfl⟩
      have ed : (i : Int) - (j : Int) = (d : Int) := by omega
      have wd : IntKind.i64.wrap (d : Int) = (d : Int) := IntWalk.i64_in _ ⟨by omega, by omega⟩
      have HP := Lib.hid (swapR_any HS.out x m j (by omega) (by omega))
      have HD := Lib.hid hd
      clear hx hd
      go_wp2_with fail
      refine HP.out.mono ?_
      rintro e w1 ⟨rfl, g1, C1, s1, sw1⟩
      have HS1 := Lib.hid s1
      have HG1 := Lib.hid (HG.out.trans g1)
      have HI1 : Hid (∀ R, Rt C1 R (m - d) m (m + j) → Rt D R a m b) := Lib.hid (fun R hR => by
        rw [HX.out] at sw1
        exact HI.out R (Rt.left sw1 im hij (by rw [← HD.out]; exact hR)))
      have hd1 : 1 ≤ d := by have := HD.out; omega
      have hdm : d ≤ m := by have := HD.out; omega
      have hdi : d < i := by have := HD.out; omega
      clear s1 g1 sw1
      go_wp2_with fail
      go_roundw
      case rel => exact ⟨d, j, C1, hd1, hdm, j1, jn, rfl, rfl, HS1, HI1, HG1⟩
      case measure => simp [intOf]; omega
end Go.Proofs.Ytfpojoabfdiadaa
