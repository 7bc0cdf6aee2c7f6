/- The program's routing of a Benes network. -/
import Derived.Test.YtmeaipickolhfaaRtH
import Derived.Test.YtmeaipickolhfaaFlatB
import Derived.Test.YtmeaipickolhfaaInv
import Derived.Deep.LoopGhost
import Derived.Deep.DeepCutAuto
namespace Go.Proofs.Ytmeaipickolhfaa
open Go.RowKit
set_option linter.unusedVariables false
theorem own_ofB {w : World} {base g h : Nat} {e : TypeId} (hb : Blk w g e (madeCells #[.bool false] h)) (hg : base ≤ g) (hm : h ≤ maxLen) : w.ownsRow base e 1 (.slice (some ⟨g, 0, none⟩) h h) h (bools (List.replicate h false)) := by
  have e2 : (madeCells #[Value.bool false] h).toList = bools (List.replicate h false) := by simp [bools, toList_madeCells_one]
  refine ⟨by simp, .inr ⟨g, h, _, rfl, hg, hb, Nat.le_refl _, hm, by simp [size_madeCells], ?_⟩⟩
  rw [e2]
  exact List.take_of_length_le (by simp)
/-- the state behind the routing of a stage -/
structure RtV (w0 w : World) (A : Option Addr) (P : List Nat) (n h gI gO : Nat) (ins outs : List Bool) : Prop where
  b : Below w0.heap.size w0 w
  p : Reads w w0.heap.size 1 A n (nats P)
  i : w.ownsRow w0.heap.size 4 1 (.slice (some ⟨gI, 0, none⟩) h h) h (bools ins)
  o : w.ownsRow w0.heap.size 4 1 (.slice (some ⟨gO, 0, none⟩) h h) h (bools outs)
section
variable {w0 w w' : World} {A : Option Addr} {P : List Nat} {n h gQ gI gO gK : Nat} {ins outs kn : List Bool}
theorem RtW.v (hR : RtW w0 w A P n h gQ gI gO gK ins outs kn) : RtV w0 w A P n h gI gO ins outs := ⟨hR.b, hR.p, hR.i, hR.o⟩
theorem RtV.alloc (hR : RtV w0 w A P n h gI gO ins outs) (o : Obj) : RtV w0 (w.alloc o) A P n h gI gO ins outs := ⟨alloc_ hR.b o, hR.p.alloc hR.b.size o, hR.i.alloc o, hR.o.alloc o⟩
theorem RtV.drewN (hR : RtV w0 w A P n h gI gO ins outs) (k : Nat) : RtV w0 (w.drewN k) A P n h gI gO ins outs := ⟨below_drewN hR.b k, hR.p, hR.i, hR.o⟩
theorem RtV.below (hR : RtV w0 w A P n h gI gO ins outs) (hb : Below w.heap.size w w') : RtV w0 w' A P n h gI gO ins outs := ⟨bthen hR.b hb, hR.p.below (hb.mono hR.b.size), own_below hR.i hb (Nat.le_refl _), own_below hR.o hb (Nat.le_refl _)⟩
theorem RtV.grown {x : Value} {m : Nat} {xs : List Value} (hR : RtV w0 w A P n h gI gO ins outs) (ho : w.ownsRow w0.heap.size 3 1 x m xs) (hg : w.grownBy w' x.ownBlock) : RtV w0 w' A P n h gI gO ins outs :=
  ⟨hR.b.trans (below_of_grown hg hR.b.size (fun q hq => (own_lt ho q hq).1)), hR.p.grown hg hR.b.size (fun q hq => (own_lt ho q hq).1), hR.i.kept hg (own_ne_type hR.i ho (by decide)), hR.o.kept hg (own_ne_type hR.o ho (by decide))⟩
end
theorem upP_succ (P : List Nat) (outs : List Bool) (k : Nat) : upP P outs (k + 1) = upP P outs k ++ [(if gb outs k then atN P (2 * k + 1) else atN P (2 * k)) / 2] := by simp [upP, upx, List.range_succ]
theorem loP_succ (P : List Nat) (outs : List Bool) (k : Nat) : loP P outs (k + 1) = loP P outs k ++ [(if gb outs k then atN P (2 * k) else atN P (2 * k + 1)) / 2] := by simp [loP, lox, List.range_succ]
theorem rb_four {w : World} {B g n1 n2 n3 n4 c1 c2 c3 c4 : Nat} {T : TypeId} {A1 A2 A3 A4 : Option Addr} {z1 z2 z3 z4 : List Bool} (hb : Blk w g T #[.slice A1 n1 c1, .slice A2 n2 c2, .slice A3 n3 c3, .slice A4 n4 c4])
    (h1 : Reads w B 1 A1 n1 (bools z1)) (e1 : z1.length = n1) (h2 : Reads w B 1 A2 n2 (bools z2)) (e2 : z2.length = n2) (h3 : Reads w B 1 A3 n3 (bools z3)) (e3 : z3.length = n3) (h4 : Reads w B 1 A4 n4 (bools z4)) (e4 : z4.length = n4) (hg : g < B) :
    ReadsRB w B (some ⟨g, 0, none⟩) [z1, z2, z3, z4] := by
  subst e1 e2 e3 e4
  intro _
  refine ⟨_, rfl, hg, fun k hk => ?_⟩
  have hk : k < 4 := hk
  obtain rfl | rfl | rfl | rfl : k = 0 ∨ k = 1 ∨ k = 2 ∨ k = 3 := by omega
  · exact ⟨A1, c1, hb.cell 0, h1⟩
  · exact ⟨A2, c2, hb.cell 1, h2⟩
  · exact ⟨A3, c3, hb.cell 2, h3⟩
  · exact ⟨A4, c4, hb.cell 3, h4⟩
def RtReg (w : World) (ad : Addr) (P : List Nat) (h c : Nat) (L : Nat → Bool) (wr : World) (v0 v1 v2 v3 v4 v5 v6 v7 v8 v9 v10 v11 : Value) : Prop :=
  (Below w.heap.size w wr) ∧
  (L 1 = true → L 0 = true) ∧
  (L 3 = true → L 2 = true) ∧
  (L 5 = true → L 4 = true) ∧
  (L 7 = true → L 6 = true) ∧
  (L 8 = true → L 1 = true) ∧
  (L 9 = true → L 3 = true) ∧
  (L 10 = true → L 5 = true) ∧
  (L 11 = true → L 7 = true) ∧
  (L 0 = true → v0 = .slice (some ad) (2 * h) c) ∧
  (L 1 = true → ∃ g : Nat, v1 = .slice (some ⟨g, 0, none⟩) (2 * h) (2 * h) ∧ wr.ownsRow w.heap.size 3 1 v1 (2 * h) (nats (invL P))) ∧
  (L 2 = true → v2 = .int .i64 (h : Nat)) ∧
  (L 3 = true → ∃ g : Nat, v3 = .slice (some ⟨g, 0, none⟩) h h ∧ w.heap.size ≤ g ∧ Blk wr g 4 (madeCells #[.bool false] h)) ∧
  (L 4 = true → v4 = .int .i64 (h : Nat)) ∧
  (L 5 = true → ∃ g : Nat, v5 = .slice (some ⟨g, 0, none⟩) h h ∧ w.heap.size ≤ g ∧ Blk wr g 4 (madeCells #[.bool false] h)) ∧
  (L 6 = true → v6 = .int .i64 (h : Nat)) ∧
  (L 7 = true → ∃ g : Nat, v7 = .slice (some ⟨g, 0, none⟩) h h ∧ w.heap.size ≤ g ∧ Blk wr g 4 (madeCells #[.bool false] h)) ∧
  (L 8 = true → v8 = v1) ∧
  (L 9 = true → v9 = v3) ∧
  (L 10 = true → v10 = v5) ∧
  (L 11 = true → v11 = v7) ∧
  (L 3 = true → L 5 = true → v3 ≠ v5) ∧
  (L 3 = true → L 7 = true → v3 ≠ v7) ∧
  (L 5 = true → L 7 = true → v5 ≠ v7)
set_option maxRecDepth 100000 in
set_option maxHeartbeats 6400000 in
theorem route_succ (f h z : Nat) (ad : Addr) (P : List Nat) (c : Nat) (w : World) (h1 : 2 ≤ h) (h2 : h ≤ 32) (hz : z ≤ 352) (hP : PermN P (2 * h)) (hx : Reads w w.heap.size 1 (some ad) (2 * h) (nats P))
    (HM : Hid (rtF (f + 1) P = (rtA P h).1 ++ rtF f (upP P (rtA P h).2.1 h) ++ rtF f (loP P (rtA P h).2.1 h) ++ (rtA P h).2.1))
    (HZ : Hid (∀ P, PermN P h → (rtF f P).length = z))
    (IH : Hid (∀ (A : Option Addr) (P : List Nat) (c : Nat) (w : World), PermN P h → Reads w w.heap.size 1 A h (nats P) →
      Calls Try.prog 35 #[.slice A h c] w fun e w' => ∃ v, e = .returned v ∧ w'.ownsRow w.heap.size 4 1 v z (bools (rtF f P)) ∧ Below w.heap.size w w')) :
    Calls Try.prog 35 #[.slice (some ad) (2 * h) c] w fun e w' => ∃ v, e = .returned v ∧ w'.ownsRow w.heap.size 4 1 v (2 * h + 2 * z) (bools (rtF (f + 1) P)) ∧ Below w.heap.size w w' := by
  have HX := Lib.hid hx; have HP := Lib.hid hP
  have HP2 := Lib.hid hP.two
  obtain ⟨i0, hi, hz0, hz1, hz2⟩ := info_parts (show (Try.prog.info? 3).map (fun i => (i.zero, i.size, i.bytes)) = some (some (.int .i64 0), 1, 8) by kernel_rfl)
  obtain ⟨i1, hj, hy0, hy1, hy2⟩ := info_parts (show (Try.prog.info? 4).map (fun i => (i.zero, i.size, i.bytes)) = some (some (.bool false), 1, 1) by kernel_rfl)
  have hmk := run_make_row (P := Try.prog) 23 4 i1 (.bool false) Try.underlying23 hj hy0 hy1 rfl .i64 .i64 h (by rw [hy2]; omega) (by omega)
  have hn2 : ((2 : Int) * (h : Int) == 2) = false := by rw [beq_eq_false_iff_ne]; omega
  clear hx hP
  go_enter Try.func35, Try.ntmps35
  go_upto_region 4 with fail
  refine wp_region_inv' (fun a0 L a wr => St a0 a [31, 32, 33, 34, 35, 36, 37, 38, 5, 6, 7, 8] ∧ 38 < a.tmps.size ∧ a.eval (.tmp 0) = .slice (some ad) (2 * h) c ∧ a.eval (.tmp 4) = .int .i64 (h : Nat) ∧ RtReg w ad P h c L wr (a.eval (.tmp 31)) (a.eval (.tmp 32)) (a.eval (.tmp 33)) (a.eval (.tmp 34)) (a.eval (.tmp 35)) (a.eval (.tmp 36)) (a.eval (.tmp 37)) (a.eval (.tmp 38)) (a.eval (.tmp 5)) (a.eval (.tmp 6)) (a.eval (.tmp 7)) (a.eval (.tmp 8))) (by kernel_rfl) (by kernel_rfl) ?start ?steps ?ends
  case start =>
    refine ⟨St.refl _ _, Nat.le_of_ble_eq_true rfl, rfl, rfl, bdrew (Below.refl _ _), ?_, ?_, ?_, ?_, ?_, ?_, ?_, ?_, ?_, ?_, ?_, ?_, ?_, ?_, ?_, ?_, ?_, ?_, ?_, ?_, ?_, ?_, ?_⟩
    all_goals (intro e; first | (cases e; done) | rfl | assumption)
  case ends =>
    rintro L a wr ⟨hst, hsz, q0, q4, b, h1, h3, h5, h7, h8, h9, h10, h11, f0, f1, f2, f3, f4, f5, f6, f7, f8, f9, f10, f11, n35, n37, n57⟩ hall
    obtain ⟨gQ, e1, oQ⟩ := f1 (hall 1 (by decide))
    obtain ⟨gI, e3, hgI, bI⟩ := f3 (hall 3 (by decide))
    obtain ⟨gO, e5, hgO, bO⟩ := f5 (hall 5 (by decide))
    obtain ⟨gK, e7, hgK, bK⟩ := f7 (hall 7 (by decide))
    have e8 := f8 (hall 8 (by decide))
    have e9 := f9 (hall 9 (by decide))
    have e10 := f10 (hall 10 (by decide))
    have e11 := f11 (hall 11 (by decide))
    have m1 := n35 (hall 3 (by decide)) (hall 5 (by decide))
    have m2 := n37 (hall 3 (by decide)) (hall 7 (by decide))
    have m3 := n57 (hall 5 (by decide)) (hall 7 (by decide))
    rw [e1] at e8 oQ
    rw [e3] at e9 m1 m2
    rw [e5] at e10 m1 m3
    rw [e7] at e11 m2 m3
    have hR0 : RtW w wr (some ad) P (2 * h) h gQ gI gO gK (List.replicate h false) (List.replicate h false) (List.replicate h false) :=
      ⟨b, HX.out.below b, oQ, own_ofB bI hgI (by unfold maxLen; omega), own_ofB bO hgO (by unfold maxLen; omega), own_ofB bK hgK (by unfold maxLen; omega), fun e => m1 (by rw [e]), fun e => m2 (by rw [e]), fun e => m3 (by rw [e])⟩
    have heq := hst.eq
    simp only [List.foldl_cons, List.foldl_nil] at heq
    rw [e8, e9, e10, e11, e1, e3, e5, e7] at heq
    clear hst hall hsz q0 q4 b h1 h3 h5 h7 h8 h9 h10 h11 f0 f1 f2 f3 f4 f5 f6 f7 f8 f9 f10 f11 n35 n37 n57 e1 e3 e5 e7 e8 e9 e10 e11 m1 m2 m3 oQ bI bO bK hgI hgO hgK
    generalize a.eval (.tmp 31) = u31 at *
    generalize a.eval (.tmp 33) = u33 at *
    generalize a.eval (.tmp 35) = u35 at *
    generalize a.eval (.tmp 37) = u37 at *
    simp only [Act.put, List.setIfInBounds_toArray, List.set_cons_zero, List.set_cons_succ] at heq
    subst heq
    clear hmk
    go_wp2_with fail
    obtain ⟨X0, hRB0, -⟩ := rtI_rb HP2.out 0 (Nat.zero_le _)
    have HRB0 := Lib.hid hRB0
    clear hRB0
    go_loopw [40] (fun vi wr => ∃ (k : Nat) (ins outs kn : List Bool), k ≤ h ∧ vi = .int .i64 (k : Nat) ∧ Hid (rtI (atN P) (atN (invL P)) h k = (ins, outs, kn)) ∧ RtW w wr (some ad) P (2 * h) h gQ gI gO gK ins outs kn) (fun vi _ => h - (intOf vi).toNat)
    case atStart => exact ⟨0, _, _, _, by omega, rfl, Lib.hid rfl, hR0⟩
    case round =>
      clear hR0 HRB0
      obtain ⟨k, ins, outs, kn, hk, rfl, HRT, hR⟩ := hrel
      by_cases hkh : k < h
      · have kI : (k : Int) < (h : Int) := by omega
        obtain ⟨X, hRB, -⟩ := rtI_rb HP2.out k hk
        rw [HRT.out] at hRB
        have hlk : kn.length = h := hRB.lk
        have ck := hR.k.cellAt k (by omega)
        have fk := hR.k.frozenAt k
        rw [bools_get (by omega), gb_mem (by omega)] at ck
        have HRB := Lib.hid hRB
        have HR := Lib.hid hR
        clear hRB hlk hR
        cases hkk : gb kn k
        case true =>
          have HKK := Lib.hid hkk
          rw [hkk] at ck
          clear hkk
          go_wp2_with fail
          go_roundw
          case rel => exact ⟨k + 1, ins, outs, kn, by omega, by go_num, Lib.hid (by rw [rtI, HRT.out]; exact if_pos HKK.out), HR.out⟩
          case measure => simp [intOf]; omega
        case false =>
          have HKK := Lib.hid hkk
          rw [hkk] at ck
          clear hkk
          have HT : Hid (rtI (atN P) (atN (invL P)) h (k + 1) = cyc (atN P) (atN (invL P)) (2 * k) h ins outs (kn.set k true) (2 * k)) := Lib.hid (by rw [rtI, HRT.out]; exact if_neg (by rw [HKK.out]; decide))
          have HS := Lib.hid (HRB.out.start hkh HKK.out)
          have HR1 := Lib.hid (HR.out.setK k true)
          go_upto_region 10 with fail
          generalize wr.setCell ⟨gK, k, none⟩ (.bool true) = w3 at *
          clear ck fk HR HRB HKK HRT
          have ew1 : IntKind.i64.wrap (2 * (k : Int)) = 2 * (k : Int) := IntWalk.i64_in _ (by omega)
          go_wp2_with fail
          go_loopg [10] h (fun F vx wr => ∃ (ins outs kn : List Bool) (X : List Nat) (x : Nat), vx = .int .i64 (x : Nat) ∧ x < 2 * h ∧ Hid (RC (atN P) (atN (invL P)) h (2 * k) ins outs kn X x) ∧
            Hid (cyc (atN P) (atN (invL P)) (2 * k) F ins outs kn x = rtI (atN P) (atN (invL P)) h (k + 1)) ∧ Hid (h ≤ X.length + F) ∧ Hid (RtW w wr (some ad) P (2 * h) h gQ gI gO gK ins outs kn))
          case atStart => exact ⟨ins, outs, kn.set k true, _, 2 * k, by go_num, by omega, HS, Lib.hid HT.out.symm, Lib.hid (by omega), HR1⟩
          case round =>
            clear HS HR1 HT
            obtain ⟨ins, outs, kn, X, x, rfl, hx2, HC, HCY, HF, HR⟩ := hrel
            obtain ⟨F, rfl⟩ : ∃ F, gk = F + 1 := ⟨gk - 1, by have := HC.out.len; have := HF.out; omega⟩
            have hR := HR.out
            have cq := hR.q.cellAt x (by omega)
            have HPN := HP.out
            have hil : x < (invL P).length := by unfold invL; rw [List.length_map, List.length_range, HP.out.len]; exact hx2
            rw [nats_get hil, ← atN_mem hil] at cq
            have hy2 := HP2.out.ql x hx2
            obtain ⟨y, hY⟩ : ∃ y, atN (invL P) x = y := ⟨_, rfl⟩
            rw [hY] at cq hy2
            have HY := Lib.hid hY
            have xI : (x : Int) < 2 * (h : Int) := by omega
            clear hY hil HPN hR
            go_upto_region 12 with fail
            obtain ⟨y2, r, z1, z2, z3, z4, z5⟩ := half_fact y
            have HY2 := Lib.hid z3
            have hy3 : y2 < h := by omega
            have yI : (y2 : Int) < (h : Int) := by omega
            clear z3 z4
            obtain ⟨b, hb⟩ : ∃ b, (y % 2 == 1) = b := ⟨_, rfl⟩
            have HBB := Lib.hid hb
            rw [hb] at z5
            clear hb
            have co := HR.out.o.cellAt y2 (by omega)
            have fo := HR.out.o.frozenAt y2
            rw [bools_get (by rw [HC.out.lo]; exact hy3)] at co
            generalize outs[y2]'(by rw [HC.out.lo]; exact hy3) = ob at *
            go_upto_region 13 with fail
            have HR2 := Lib.hid (HR.out.setO y2 b)
            generalize wr.setCell ⟨gO, y2, none⟩ (.bool b) = w4 at *
            clear co fo HR cq z1 z2 z5
            have hny : nx y < 2 * h := nx_lt hy2
            have E1 := xor_fact (y := y) (by omega)
            have hpl : nx y < P.length := by rw [HP.out.len]; exact hny
            obtain ⟨ad9, u0, hA, -, hu, cp⟩ := HR2.out.p.at_ hny
            rw [nats_get hpl, ← atN_mem hpl] at hu
            cases hu
            cases hA
            have hu2 := HP2.out.pl _ hny
            obtain ⟨u, hU⟩ : ∃ u, atN P (nx y) = u := ⟨_, rfl⟩
            rw [hU] at cp hu2
            have HU := Lib.hid hU
            clear hU hpl
            have E2 := xor_fact (y := u) (by omega)
            obtain ⟨ny, hNY⟩ : ∃ ny, nx y = ny := ⟨_, rfl⟩
            rw [hNY] at E1 cp hny
            have HNY := Lib.hid hNY
            clear hNY
            obtain ⟨v, hV⟩ : ∃ v, nx u = v := ⟨_, rfl⟩
            have hv2 : v < 2 * h := by rw [← hV]; exact nx_lt hu2
            rw [hV] at E2
            have HV := Lib.hid hV
            clear hV
            have nyI : (ny : Int) < 2 * (h : Int) := by omega
            go_upto_region 14 with fail
            clear E1 E2 cp
            obtain ⟨v2, r2, z1, z2, z3, z4, z5⟩ := half_fact v
            have HV2 := Lib.hid z3
            have hv3 : v2 < h := by omega
            have vI : (v2 : Int) < (h : Int) := by omega
            clear z3 z4
            obtain ⟨d, hd⟩ : ∃ d, (v % 2 == 1) = d := ⟨_, rfl⟩
            have HDD := Lib.hid hd
            rw [hd] at z5
            clear hd
            have ci := HR2.out.i.cellAt v2 (by omega)
            have fi := HR2.out.i.frozenAt v2
            rw [bools_get (by rw [HC.out.li]; exact hv3)] at ci
            generalize ins[v2]'(by rw [HC.out.li]; exact hv3) = ib at *
            have ck := HR2.out.k.cellAt v2 (by omega)
            have fk := HR2.out.k.frozenAt v2
            rw [bools_get (by rw [HC.out.lk]; exact hv3)] at ck
            generalize kn[v2]'(by rw [HC.out.lk]; exact hv3) = kb at *
            have nik := HR2.out.ik
            go_upto_region 15 with fail
            have HR3 := Lib.hid ((HR2.out.setI v2 d).setK v2 true)
            generalize (w4.setCell ⟨gI, v2, none⟩ (.bool d)).setCell ⟨gK, v2, none⟩ (.bool true) = w5 at *
            clear ci fi ck fk z1 z2 z5 HR2 nik
            have HSG : Hid (sg (atN P) (atN (invL P)) x = v) := Lib.hid (by unfold sg; rw [HY.out, HU.out]; exact HV.out)
            have HST := Lib.hid (HC.out.step HP2.out)
            have HCY2 : Hid (cyc (atN P) (atN (invL P)) (2 * k) (F + 1) ins outs kn x = if v = 2 * k then (ins.set v2 d, outs.set y2 b, kn.set v2 true) else cyc (atN P) (atN (invL P)) (2 * k) F (ins.set v2 d) (outs.set y2 b) (kn.set v2 true) v) := Lib.hid (by
              rw [cyc, HSG.out, HY.out, HDD.out, HBB.out, ← HV2.out, ← HY2.out])
            by_cases hvk : v = 2 * k
            · have e1 : ((v : Int) == 2 * (k : Int)) = true := by rw [beq_iff_eq]; omega
              have HE := Lib.hid hvk
              clear hvk
              go_wp2_with fail
              go_roundw
              case rel => exact ⟨k + 1, _, _, _, by omega, by go_num, Lib.hid (by rw [← HCY.out, HCY2.out]; exact if_pos HE.out), HR3.out⟩
              case measure => simp [intOf]; omega
            · have e1 : ((v : Int) == 2 * (k : Int)) = false := by rw [beq_eq_false_iff_ne]; omega
              have HE := Lib.hid hvk
              clear hvk
              go_wp2_with fail
              go_roundg F
              case measure => omega
              case rel =>
                have h9 := HST.out.2
                rw [HSG.out, HY.out, HDD.out, HBB.out, ← HV2.out, ← HY2.out] at h9
                exact ⟨_, _, _, _, v, rfl, hv2, Lib.hid (h9 HE.out), Lib.hid (by rw [← HCY.out, HCY2.out]; exact (if_neg HE.out).symm), Lib.hid (by have := HF.out; simp; omega), HR3⟩
      · have kI : ¬ (k : Int) < (h : Int) := by omega
        obtain rfl : h = k := by omega
        have hRO := routed_of HP2.out
        rw [HRT.out] at hRO
        have HRO := Lib.hid hRO
        have HPU := Lib.hid (routed_perm hRO).1
        have HPL := Lib.hid (routed_perm hRO).2
        have HLI := Lib.hid hRO.li
        have HLO := Lib.hid hRO.lo
        have HM2 : Hid (rtF (f + 1) P = ins ++ rtF f (upP P outs h) ++ rtF f (loP P outs h) ++ outs) := Lib.hid (by rw [HM.out, rtA, HRT.out])
        have hV := hR.v
        have hbs := hR.b.size
        have h70 := World.ownsRow.alloc (made_at (w := wr) (base := w.heap.size) (g := wr.heap.size) (size := 1) (e := 3) hbs rfl) (.cells #[] 3)
        have h80 := made_at (w := wr.alloc (.cells #[] 3)) (base := w.heap.size) (g := wr.heap.size + 1) (size := 1) (e := 3) (by simp; omega) (by simp)
        have hV0 := (hV.alloc (.cells #[] 3)).alloc (.cells #[] 3)
        clear hR hRO hV HRT HM
        go_wp2_with fail
        generalize (wr.alloc (.cells #[] 3)).alloc (.cells #[] 3) = wA at *
        generalize hgA : wr.heap.size = gA at *
        clear hgA hbs
        go_loopw [13, 14, 90] (fun v7 v8 vi wr => ∃ j g7 c7 g8 c8 : Nat, j ≤ h ∧ v7 = .slice (some ⟨g7, 0, none⟩) j c7 ∧ v8 = .slice (some ⟨g8, 0, none⟩) j c8 ∧ vi = .int .i64 (j : Nat) ∧ g7 ≠ g8 ∧
            wr.ownsRow w.heap.size 3 1 (.slice (some ⟨g7, 0, none⟩) j c7) j (nats (upP P outs j)) ∧ wr.ownsRow w.heap.size 3 1 (.slice (some ⟨g8, 0, none⟩) j c8) j (nats (loP P outs j)) ∧ RtV w wr (some ad) P (2 * h) h gI gO ins outs) (fun _ _ vi _ => h - (intOf vi).toNat)
        case atStart => exact ⟨0, _, 0, _, 0, by omega, rfl, rfl, rfl, by omega, h70, h80, hV0⟩
        case round =>
          clear h70 h80 hV0
          obtain ⟨k, g7, c7, g8, c8, hk, rfl, rfl, rfl, h78, o7, o8, hV⟩ := hrel
          by_cases hkh : k < h
          · have i7 : (k : Int) < h := by omega
            have ck := hV.o.cellAt k (by omega)
            have hlo : outs.length = h := HLO.out
            rw [bools_get (by omega), gb_mem (by omega)] at ck
            clear hlo
            have hpl : 2 * k + 1 < P.length := by rw [HP.out.len]; omega
            obtain ⟨ad9, u0, hA, -, hu, a0⟩ := hV.p.at_ (k := 2 * k) (by omega)
            cases hA
            rw [nats_get (by omega), ← atN_mem (by omega)] at hu
            cases hu
            obtain ⟨ad9, u0, hA, -, hu, a1⟩ := hV.p.at_ (k := 2 * k + 1) (by omega)
            cases hA
            rw [nats_get hpl, ← atN_mem hpl] at hu
            cases hu
            rw [bn_succ] at a1
            have HUP := Lib.hid (show upP P outs (k + 1) = upP P outs k ++ [(if gb outs k then atN P (2 * k + 1) else atN P (2 * k)) / 2] from upP_succ P outs k)
            have HLW := Lib.hid (show loP P outs (k + 1) = loP P outs k ++ [(if gb outs k then atN P (2 * k) else atN P (2 * k + 1)) / 2] from loP_succ P outs k)
            obtain ⟨x2, -, z1, -, z3, -⟩ := half_fact (atN P (2 * k))
            obtain ⟨y2, -, z2, -, z4, -⟩ := half_fact (atN P (2 * k + 1))
            have hxb := HP2.out.pl (2 * k) (by omega)
            have hyb := HP2.out.pl (2 * k + 1) (by omega)
            have xI : (x2 : Int) < (h : Int) := by omega
            have yI : (y2 : Int) < (h : Int) := by omega
            have HX2 := Lib.hid z3
            have HY2 := Lib.hid z4
            clear z3 z4 hpl hxb hyb
            generalize atN P (2 * k) = x at *
            generalize atN P (2 * k + 1) = y at *
            generalize gb outs k = b at *
            have ew1 : IntKind.i64.wrap (2 * (k : Int)) = 2 * (k : Int) := IntWalk.i64_in _ (by omega)
            have ew2 : IntKind.i64.wrap (2 * (k : Int) + 1) = 2 * (k : Int) + 1 := IntWalk.i64_in _ (by omega)
            have i1 : (0 : Int) ≤ 2 * (k : Int) := by omega
            have i2 : 2 * (k : Int) < 2 * (h : Int) := by omega
            have i3 : (2 * (k : Int)).toNat = 2 * k := by omega
            have i4 : (0 : Int) ≤ 2 * (k : Int) + 1 := by omega
            have i5 : 2 * (k : Int) + 1 < 2 * (h : Int) := by omega
            have i6 : (2 * (k : Int) + 1).toNat = 2 * k + 1 := by omega
            go_wp2_with fail
            go_quiet (fail)
            have o7' : (wr.drewN nq).ownsRow w.heap.size 3 1 (.slice (some ⟨g7, 0, none⟩) k c7) k (nats (upP P outs k)) := o7
            have o8' : (wr.drewN nq).ownsRow w.heap.size 3 1 (.slice (some ⟨g8, 0, none⟩) k c8) k (nats (loP P outs k)) := o8
            have hV' := hV.drewN nq
            generalize wr.drewN nq = w5 at *
            clear o7 o8 hV a0 a1 ck z1 z2 ew1 ew2 i1 i2 i3 i4 i5 i6
            have s8 := own_lt o8' g8 rfl
            cases b
            case true =>
              go_wp2_with (first
                | (at_builtin; (refine wpList_push' _ rfl (.tmp 111) (.tmp 113) 22 rfl w.heap.size 3 i0 _ 1 8 Try.underlying22 hi hz0 hz1 hz2 rfl (by decide) (.slice (some ⟨g7, 0, none⟩) k c7) k _ rfl (World.ownsRow.alloc o7' _) #[.int .i64 (y2 : Nat)] w5.heap.size rfl (Blk.new _ _ _) rfl (by simp [Value.oneCell']) (by omega) (by unfold maxLen; omega) (by rw [World.size_alloc]; have := hV'.b.size; omega) ?_; intro q7 d7 w6 p7 gr7 bl7 at7; have p8 := World.ownsRow.kept (World.ownsRow.alloc o8' (.cells #[.int .i64 (y2 : Nat)] 3)) gr7 (.inr (by intro e; exact h78 (Option.some.inj e).symm)); have hV6 := (hV'.alloc (.cells #[.int .i64 (y2 : Nat)] 3)).grown (World.ownsRow.alloc o7' (.cells #[.int .i64 (y2 : Nat)] 3)) gr7; have n78 : q7 ≠ g8 := (by rcases at7 with e | e; exact (fun e2 => h78 ((Option.some.inj e).trans e2)); (rw [World.size_alloc] at e; omega)); have s7 := own_lt p7 q7 rfl))
                | (at_builtin; refine wpList_push' _ rfl (.tmp 115) (.tmp 117) 22 rfl w.heap.size 3 i0 _ 1 8 Try.underlying22 hi hz0 hz1 hz2 rfl (by decide) (.slice (some ⟨g8, 0, none⟩) k c8) k _ rfl (World.ownsRow.alloc p8 _) #[.int .i64 (x2 : Nat)] w6.heap.size rfl (Blk.new _ _ _) rfl (by simp [Value.oneCell']) (by omega) (by unfold maxLen; omega) (by rw [World.size_alloc]; have := hV6.b.size; omega) ?_; intro q8 d8 w7 r8 gr8 bl8 at8))
              have r7 := World.ownsRow.kept (World.ownsRow.alloc p7 (.cells #[.int .i64 (x2 : Nat)] 3)) gr8 (.inr (by intro e; exact n78 (Option.some.inj e)))
              have hV7 := (hV6.alloc (.cells #[.int .i64 (x2 : Nat)] 3)).grown (World.ownsRow.alloc p8 (.cells #[.int .i64 (x2 : Nat)] 3)) gr8
              have m78 : q7 ≠ q8 := by
                rcases at8 with e | e
                · exact fun e2 => n78 (e2.trans (Option.some.inj e).symm)
                · rw [World.size_alloc] at e; omega
              have R7 := Lib.hid (show w7.ownsRow w.heap.size 3 1 (.slice (some ⟨q7, 0, none⟩) (k + 1) d7) (k + 1) (nats (upP P outs (k + 1))) by rw [HUP.out]; simpa [nats, ints, HY2.out] using r7)
              have R8 := Lib.hid (show w7.ownsRow w.heap.size 3 1 (.slice (some ⟨q8, 0, none⟩) (k + 1) d8) (k + 1) (nats (loP P outs (k + 1))) by rw [HLW.out]; simpa [nats, ints, HX2.out] using r8)
              clear r7 r8 p7 p8 gr7 gr8 at7 at8
              go_roundw
              case rel => exact ⟨k + 1, q7, d7, q8, d8, by omega, rfl, rfl, by go_num, m78, R7.out, R8.out, hV7⟩
              case measure => simp [intOf]; omega
            case false =>
              go_wp2_with (first
                | (at_builtin; (refine wpList_push' _ rfl (.tmp 111) (.tmp 113) 22 rfl w.heap.size 3 i0 _ 1 8 Try.underlying22 hi hz0 hz1 hz2 rfl (by decide) (.slice (some ⟨g7, 0, none⟩) k c7) k _ rfl (World.ownsRow.alloc o7' _) #[.int .i64 (x2 : Nat)] w5.heap.size rfl (Blk.new _ _ _) rfl (by simp [Value.oneCell']) (by omega) (by unfold maxLen; omega) (by rw [World.size_alloc]; have := hV'.b.size; omega) ?_; intro q7 d7 w6 p7 gr7 bl7 at7; have p8 := World.ownsRow.kept (World.ownsRow.alloc o8' (.cells #[.int .i64 (x2 : Nat)] 3)) gr7 (.inr (by intro e; exact h78 (Option.some.inj e).symm)); have hV6 := (hV'.alloc (.cells #[.int .i64 (x2 : Nat)] 3)).grown (World.ownsRow.alloc o7' (.cells #[.int .i64 (x2 : Nat)] 3)) gr7; have n78 : q7 ≠ g8 := (by rcases at7 with e | e; exact (fun e2 => h78 ((Option.some.inj e).trans e2)); (rw [World.size_alloc] at e; omega)); have s7 := own_lt p7 q7 rfl))
                | (at_builtin; refine wpList_push' _ rfl (.tmp 115) (.tmp 117) 22 rfl w.heap.size 3 i0 _ 1 8 Try.underlying22 hi hz0 hz1 hz2 rfl (by decide) (.slice (some ⟨g8, 0, none⟩) k c8) k _ rfl (World.ownsRow.alloc p8 _) #[.int .i64 (y2 : Nat)] w6.heap.size rfl (Blk.new _ _ _) rfl (by simp [Value.oneCell']) (by omega) (by unfold maxLen; omega) (by rw [World.size_alloc]; have := hV6.b.size; omega) ?_; intro q8 d8 w7 r8 gr8 bl8 at8))
              have r7 := World.ownsRow.kept (World.ownsRow.alloc p7 (.cells #[.int .i64 (y2 : Nat)] 3)) gr8 (.inr (by intro e; exact n78 (Option.some.inj e)))
              have hV7 := (hV6.alloc (.cells #[.int .i64 (y2 : Nat)] 3)).grown (World.ownsRow.alloc p8 (.cells #[.int .i64 (y2 : Nat)] 3)) gr8
              have m78 : q7 ≠ q8 := by
                rcases at8 with e | e
                · exact fun e2 => n78 (e2.trans (Option.some.inj e).symm)
                · rw [World.size_alloc] at e; omega
              have R7 := Lib.hid (show w7.ownsRow w.heap.size 3 1 (.slice (some ⟨q7, 0, none⟩) (k + 1) d7) (k + 1) (nats (upP P outs (k + 1))) by rw [HUP.out]; simpa [nats, ints, HX2.out] using r7)
              have R8 := Lib.hid (show w7.ownsRow w.heap.size 3 1 (.slice (some ⟨q8, 0, none⟩) (k + 1) d8) (k + 1) (nats (loP P outs (k + 1))) by rw [HLW.out]; simpa [nats, ints, HY2.out] using r8)
              clear r7 r8 p7 p8 gr7 gr8 at7 at8
              go_roundw
              case rel => exact ⟨k + 1, q7, d7, q8, d8, by omega, rfl, rfl, by go_num, m78, R7.out, R8.out, hV7⟩
              case measure => simp [intOf]; omega
          · have i7 : ¬ (k : Int) < h := by omega
            obtain rfl : h = k := by omega
            go_wp2_with fail
            refine (IH.out _ (upP P outs h) c7 wr HPU.out (Reads.of_own o7)).mono ?_
            rintro e w1 ⟨U, rfl, oU, hb1⟩
            obtain ⟨UA, UC, rfl⟩ := own_slice oU
            have hV1 := hV.below hb1
            have o8b := own_below o8 hb1 (Nat.le_refl _)
            clear hV o8 o7
            go_wp2_with fail
            refine (IH.out _ (loP P outs h) c8 w1 HPL.out (Reads.of_own o8b)).mono ?_
            rintro e w3 ⟨V, rfl, oV, hb2⟩
            obtain ⟨VA, VC, rfl⟩ := own_slice oV
            have hV3 := hV1.below hb2
            have oU3 := own_below oU hb2 (Nat.le_refl _)
            have HZU := Lib.hid (HZ.out _ HPU.out)
            have HZL := Lib.hid (HZ.out _ HPL.out)
            clear hV1 o8b oU
            generalize rtF f (upP P outs h) = s1 at *
            generalize rtF f (loP P outs h) = s2 at *
            have hRR := rb_four (w := w3.alloc (.cells #[.slice (some ⟨gI, 0, none⟩) h h, .slice UA z UC, .slice VA z VC, .slice (some ⟨gO, 0, none⟩) h h] 23)) (Blk.new w3 23 #[.slice (some ⟨gI, 0, none⟩) h h, .slice UA z UC, .slice VA z VC, .slice (some ⟨gO, 0, none⟩) h h]) (Reads.of_own (hV3.i.alloc _)) HLI.out (Reads.of_own (oU3.alloc _)) HZU.out (Reads.of_own (oV.alloc _)) HZL.out (Reads.of_own (hV3.o.alloc _)) HLO.out (by simp)
            have HB3 := Lib.hid (alloc_ hV3.b (.cells #[.slice (some ⟨gI, 0, none⟩) h h, .slice UA z UC, .slice VA z VC, .slice (some ⟨gO, 0, none⟩) h h] 23))
            clear hV3 oU3 oV
            go_wp2_with fail
            refine (Concat_anyB (some ⟨w3.heap.size, 0, none⟩) [ins, s1, s2, outs] 4 _ hRR (by simp) (by simp [HLI.out, HZU.out, HZL.out, HLO.out]; omega)).mono ?_
            rintro e w4 ⟨v, rfl, oF, hb4⟩
            go_wp2_with fail
            go_ret
            refine ⟨_, rfl, ?_, bthen HB3.out hb4⟩
            have hfl : [ins, s1, s2, outs].flatten = ins ++ s1 ++ s2 ++ outs := by simp
            have hle : (ins ++ s1 ++ s2 ++ outs).length = 2 * h + 2 * z := by simp only [List.length_append, HLI.out, HZU.out, HZL.out, HLO.out]; omega
            rw [hfl, hle] at oF
            rw [HM2.out]
            exact own_base oF HB3.out.size
  case steps =>
    refine ⟨?s0, ?s1, ?s2, ?s3, ?s4, ?s5, ?s6, ?s7, ?s8, ?s9, ?s10, ?s11, trivial⟩
    case s0 =>
      rintro L a wr ⟨hst, hsz, q0, q4, hF⟩ hL hdp K hK
      have ev := fun (d t : Nat) (v : Value) (hd : d < 39) => eval_put a d t v (by omega)
      obtain ⟨b, h1, h3, h5, h7, h8, h9, h10, h11, f0, f1, f2, f3, f4, f5, f6, f7, f8, f9, f10, f11, n35, n37, n57⟩ := hF
      have t0 := q0
      rw [eval_tmp, Array.getD_eq_getD_getElem?] at t0
      refine step_value (v := .slice (some ad) (2 * h) c) (w' := wr) rfl (by go_simp) ?_
      refine hK _ _ ⟨hst.put 31 _ (by decide), by simpa [Act.put] using hsz, (ev 31 0 _ (by decide)).trans q0, (ev 31 4 _ (by decide)).trans q4, ?_⟩
      simp only [ev 31 _ _ (by decide)]
      exact ⟨b, fun e => absurd ((h1 e).symm.trans hL) (by decide), h3, h5, h7, h8, h9, h10, h11, fun _ => rfl, f1, f2, f3, f4, f5, f6, f7, f8, f9, f10, f11, n35, n37, n57⟩
    case s1 =>
      rintro L a wr ⟨hst, hsz, q0, q4, hF⟩ hL hdp K hK
      have ev := fun (d t : Nat) (v : Value) (hd : d < 39) => eval_put a d t v (by omega)
      have d0 : L 0 = true := hdp ⟨0, .data⟩ (by simp) rfl
      obtain ⟨b, h1, h3, h5, h7, h8, h9, h10, h11, f0, f1, f2, f3, f4, f5, f6, f7, f8, f9, f10, f11, n35, n37, n57⟩ := hF
      have t31 := f0 d0
      have t31 := f0 d0
      rw [eval_tmp, Array.getD_eq_getD_getElem?] at t31
      refine step_enter (f := 52) (args := #[.slice (some ad) (2 * h) c]) (w' := wr) rfl (by go_simp) ?_
      refine (inverse_any (some ad) P (2 * h) c wr HP.out (by omega) ((HX.out.below b).more b.size)).mono ?_
      rintro e w9 ⟨g, rfl, o9, b9⟩
      refine ⟨_, rfl, ?_⟩
      refine hK _ _ ⟨hst.put 32 _ (by decide), by simpa [Act.put] using hsz, (ev 32 0 _ (by decide)).trans q0, (ev 32 4 _ (by decide)).trans q4, ?_⟩
      simp only [ev 32 _ _ (by decide)]
      exact ⟨bthen b b9, fun _ => d0, h3, h5, h7, fun e => absurd ((h8 e).symm.trans hL) (by decide), h9, h10, h11, f0, fun _ => ⟨g, rfl, own_base o9 b.size⟩, f2, fun e => by obtain ⟨g, e2, h6, h7⟩ := f3 e; exact ⟨g, e2, h6, h7.below_ b9⟩, f4, fun e => by obtain ⟨g, e2, h6, h7⟩ := f5 e; exact ⟨g, e2, h6, h7.below_ b9⟩, f6, fun e => by obtain ⟨g, e2, h6, h7⟩ := f7 e; exact ⟨g, e2, h6, h7.below_ b9⟩, fun e => absurd ((h8 e).symm.trans hL) (by decide), f9, f10, f11, n35, n37, n57⟩
    case s2 =>
      rintro L a wr ⟨hst, hsz, q0, q4, hF⟩ hL hdp K hK
      have ev := fun (d t : Nat) (v : Value) (hd : d < 39) => eval_put a d t v (by omega)
      obtain ⟨b, h1, h3, h5, h7, h8, h9, h10, h11, f0, f1, f2, f3, f4, f5, f6, f7, f8, f9, f10, f11, n35, n37, n57⟩ := hF
      have t4 := q4
      rw [eval_tmp, Array.getD_eq_getD_getElem?] at t4
      refine step_value (v := .int .i64 (h : Nat)) (w' := wr) rfl (by go_simp) ?_
      refine hK _ _ ⟨hst.put 33 _ (by decide), by simpa [Act.put] using hsz, (ev 33 0 _ (by decide)).trans q0, (ev 33 4 _ (by decide)).trans q4, ?_⟩
      simp only [ev 33 _ _ (by decide)]
      exact ⟨b, h1, fun e => absurd ((h3 e).symm.trans hL) (by decide), h5, h7, h8, h9, h10, h11, f0, f1, fun _ => rfl, f3, f4, f5, f6, f7, f8, f9, f10, f11, n35, n37, n57⟩
    case s3 =>
      rintro L a wr ⟨hst, hsz, q0, q4, hF⟩ hL hdp K hK
      have ev := fun (d t : Nat) (v : Value) (hd : d < 39) => eval_put a d t v (by omega)
      have d2 : L 2 = true := hdp ⟨2, .data⟩ (by simp) rfl
      obtain ⟨b, h1, h3, h5, h7, h8, h9, h10, h11, f0, f1, f2, f3, f4, f5, f6, f7, f8, f9, f10, f11, n35, n37, n57⟩ := hF
      have t33 := f2 d2
      have t33 := f2 d2
      have hsz1 := b.size
      refine step_value (v := .slice (some ⟨wr.heap.size, 0, none⟩) h h) (w' := wr.alloc (.cells (madeCells #[.bool false] h) 4)) rfl (by simp only [execOp, t33]; simp only [Sem.run_bind, hmk]; go_simp) ?_
      refine hK _ _ ⟨hst.put 34 _ (by decide), by simpa [Act.put] using hsz, (ev 34 0 _ (by decide)).trans q0, (ev 34 4 _ (by decide)).trans q4, ?_⟩
      simp only [ev 34 _ _ (by decide)]
      exact ⟨alloc_ b _, h1, fun _ => d2, h5, h7, h8, fun e => absurd ((h9 e).symm.trans hL) (by decide), h10, h11, f0, fun e => by obtain ⟨g, e2, h6⟩ := f1 e; exact ⟨g, e2, h6.alloc _⟩, f2, fun _ => ⟨wr.heap.size, rfl, hsz1, Blk.new _ _ _⟩, f4, fun e => by obtain ⟨g, e2, h6, h7⟩ := f5 e; exact ⟨g, e2, h6, h7.alloc _⟩, f6, fun e => by obtain ⟨g, e2, h6, h7⟩ := f7 e; exact ⟨g, e2, h6, h7.alloc _⟩, f8, fun e => absurd ((h9 e).symm.trans hL) (by decide), f10, f11, fun _ e => by obtain ⟨g, e2, _, h7⟩ := f5 e; have := h7.lt; rw [e2]; intro e3; injection e3 with e4; have := congrArg (fun x : Option Addr => (x.map (·.block)).getD 0) e4; simp at this; omega, fun _ e => by obtain ⟨g, e2, _, h7⟩ := f7 e; have := h7.lt; rw [e2]; intro e3; injection e3 with e4; have := congrArg (fun x : Option Addr => (x.map (·.block)).getD 0) e4; simp at this; omega, n57⟩
    case s4 =>
      rintro L a wr ⟨hst, hsz, q0, q4, hF⟩ hL hdp K hK
      have ev := fun (d t : Nat) (v : Value) (hd : d < 39) => eval_put a d t v (by omega)
      obtain ⟨b, h1, h3, h5, h7, h8, h9, h10, h11, f0, f1, f2, f3, f4, f5, f6, f7, f8, f9, f10, f11, n35, n37, n57⟩ := hF
      have t4 := q4
      rw [eval_tmp, Array.getD_eq_getD_getElem?] at t4
      refine step_value (v := .int .i64 (h : Nat)) (w' := wr) rfl (by go_simp) ?_
      refine hK _ _ ⟨hst.put 35 _ (by decide), by simpa [Act.put] using hsz, (ev 35 0 _ (by decide)).trans q0, (ev 35 4 _ (by decide)).trans q4, ?_⟩
      simp only [ev 35 _ _ (by decide)]
      exact ⟨b, h1, h3, fun e => absurd ((h5 e).symm.trans hL) (by decide), h7, h8, h9, h10, h11, f0, f1, f2, f3, fun _ => rfl, f5, f6, f7, f8, f9, f10, f11, n35, n37, n57⟩
    case s5 =>
      rintro L a wr ⟨hst, hsz, q0, q4, hF⟩ hL hdp K hK
      have ev := fun (d t : Nat) (v : Value) (hd : d < 39) => eval_put a d t v (by omega)
      have d4 : L 4 = true := hdp ⟨4, .data⟩ (by simp) rfl
      obtain ⟨b, h1, h3, h5, h7, h8, h9, h10, h11, f0, f1, f2, f3, f4, f5, f6, f7, f8, f9, f10, f11, n35, n37, n57⟩ := hF
      have t35 := f4 d4
      have t35 := f4 d4
      have hsz1 := b.size
      refine step_value (v := .slice (some ⟨wr.heap.size, 0, none⟩) h h) (w' := wr.alloc (.cells (madeCells #[.bool false] h) 4)) rfl (by simp only [execOp, t35]; simp only [Sem.run_bind, hmk]; go_simp) ?_
      refine hK _ _ ⟨hst.put 36 _ (by decide), by simpa [Act.put] using hsz, (ev 36 0 _ (by decide)).trans q0, (ev 36 4 _ (by decide)).trans q4, ?_⟩
      simp only [ev 36 _ _ (by decide)]
      exact ⟨alloc_ b _, h1, h3, fun _ => d4, h7, h8, h9, fun e => absurd ((h10 e).symm.trans hL) (by decide), h11, f0, fun e => by obtain ⟨g, e2, h6⟩ := f1 e; exact ⟨g, e2, h6.alloc _⟩, f2, fun e => by obtain ⟨g, e2, h6, h7⟩ := f3 e; exact ⟨g, e2, h6, h7.alloc _⟩, f4, fun _ => ⟨wr.heap.size, rfl, hsz1, Blk.new _ _ _⟩, f6, fun e => by obtain ⟨g, e2, h6, h7⟩ := f7 e; exact ⟨g, e2, h6, h7.alloc _⟩, f8, f9, fun e => absurd ((h10 e).symm.trans hL) (by decide), f11, fun e _ => by obtain ⟨g, e2, _, h7⟩ := f3 e; have := h7.lt; rw [e2]; intro e3; injection e3 with e4; have := congrArg (fun x : Option Addr => (x.map (·.block)).getD 0) e4; simp at this; omega, n37, fun _ e => by obtain ⟨g, e2, _, h7⟩ := f7 e; have := h7.lt; rw [e2]; intro e3; injection e3 with e4; have := congrArg (fun x : Option Addr => (x.map (·.block)).getD 0) e4; simp at this; omega⟩
    case s6 =>
      rintro L a wr ⟨hst, hsz, q0, q4, hF⟩ hL hdp K hK
      have ev := fun (d t : Nat) (v : Value) (hd : d < 39) => eval_put a d t v (by omega)
      obtain ⟨b, h1, h3, h5, h7, h8, h9, h10, h11, f0, f1, f2, f3, f4, f5, f6, f7, f8, f9, f10, f11, n35, n37, n57⟩ := hF
      have t4 := q4
      rw [eval_tmp, Array.getD_eq_getD_getElem?] at t4
      refine step_value (v := .int .i64 (h : Nat)) (w' := wr) rfl (by go_simp) ?_
      refine hK _ _ ⟨hst.put 37 _ (by decide), by simpa [Act.put] using hsz, (ev 37 0 _ (by decide)).trans q0, (ev 37 4 _ (by decide)).trans q4, ?_⟩
      simp only [ev 37 _ _ (by decide)]
      exact ⟨b, h1, h3, h5, fun e => absurd ((h7 e).symm.trans hL) (by decide), h8, h9, h10, h11, f0, f1, f2, f3, f4, f5, fun _ => rfl, f7, f8, f9, f10, f11, n35, n37, n57⟩
    case s7 =>
      rintro L a wr ⟨hst, hsz, q0, q4, hF⟩ hL hdp K hK
      have ev := fun (d t : Nat) (v : Value) (hd : d < 39) => eval_put a d t v (by omega)
      have d6 : L 6 = true := hdp ⟨6, .data⟩ (by simp) rfl
      obtain ⟨b, h1, h3, h5, h7, h8, h9, h10, h11, f0, f1, f2, f3, f4, f5, f6, f7, f8, f9, f10, f11, n35, n37, n57⟩ := hF
      have t37 := f6 d6
      have t37 := f6 d6
      have hsz1 := b.size
      refine step_value (v := .slice (some ⟨wr.heap.size, 0, none⟩) h h) (w' := wr.alloc (.cells (madeCells #[.bool false] h) 4)) rfl (by simp only [execOp, t37]; simp only [Sem.run_bind, hmk]; go_simp) ?_
      refine hK _ _ ⟨hst.put 38 _ (by decide), by simpa [Act.put] using hsz, (ev 38 0 _ (by decide)).trans q0, (ev 38 4 _ (by decide)).trans q4, ?_⟩
      simp only [ev 38 _ _ (by decide)]
      exact ⟨alloc_ b _, h1, h3, h5, fun _ => d6, h8, h9, h10, fun e => absurd ((h11 e).symm.trans hL) (by decide), f0, fun e => by obtain ⟨g, e2, h6⟩ := f1 e; exact ⟨g, e2, h6.alloc _⟩, f2, fun e => by obtain ⟨g, e2, h6, h7⟩ := f3 e; exact ⟨g, e2, h6, h7.alloc _⟩, f4, fun e => by obtain ⟨g, e2, h6, h7⟩ := f5 e; exact ⟨g, e2, h6, h7.alloc _⟩, f6, fun _ => ⟨wr.heap.size, rfl, hsz1, Blk.new _ _ _⟩, f8, f9, f10, fun e => absurd ((h11 e).symm.trans hL) (by decide), n35, fun e _ => by obtain ⟨g, e2, _, h7⟩ := f3 e; have := h7.lt; rw [e2]; intro e3; injection e3 with e4; have := congrArg (fun x : Option Addr => (x.map (·.block)).getD 0) e4; simp at this; omega, fun e _ => by obtain ⟨g, e2, _, h7⟩ := f5 e; have := h7.lt; rw [e2]; intro e3; injection e3 with e4; have := congrArg (fun x : Option Addr => (x.map (·.block)).getD 0) e4; simp at this; omega⟩
    case s8 =>
      rintro L a wr ⟨hst, hsz, q0, q4, hF⟩ hL hdp K hK
      have ev := fun (d t : Nat) (v : Value) (hd : d < 39) => eval_put a d t v (by omega)
      have d1 : L 1 = true := hdp ⟨1, .data⟩ (by simp) rfl
      obtain ⟨b, h1, h3, h5, h7, h8, h9, h10, h11, f0, f1, f2, f3, f4, f5, f6, f7, f8, f9, f10, f11, n35, n37, n57⟩ := hF
      refine step_value (v := a.eval (.tmp 32)) (w' := wr) rfl (by go_simp) ?_
      refine hK _ _ ⟨hst.put 5 _ (by decide), by simpa [Act.put] using hsz, (ev 5 0 _ (by decide)).trans q0, (ev 5 4 _ (by decide)).trans q4, ?_⟩
      simp only [ev 5 _ _ (by decide)]
      exact ⟨b, h1, h3, h5, h7, fun _ => d1, h9, h10, h11, f0, f1, f2, f3, f4, f5, f6, f7, fun _ => rfl, f9, f10, f11, n35, n37, n57⟩
    case s9 =>
      rintro L a wr ⟨hst, hsz, q0, q4, hF⟩ hL hdp K hK
      have ev := fun (d t : Nat) (v : Value) (hd : d < 39) => eval_put a d t v (by omega)
      have d3 : L 3 = true := hdp ⟨3, .data⟩ (by simp) rfl
      obtain ⟨b, h1, h3, h5, h7, h8, h9, h10, h11, f0, f1, f2, f3, f4, f5, f6, f7, f8, f9, f10, f11, n35, n37, n57⟩ := hF
      refine step_value (v := a.eval (.tmp 34)) (w' := wr) rfl (by go_simp) ?_
      refine hK _ _ ⟨hst.put 6 _ (by decide), by simpa [Act.put] using hsz, (ev 6 0 _ (by decide)).trans q0, (ev 6 4 _ (by decide)).trans q4, ?_⟩
      simp only [ev 6 _ _ (by decide)]
      exact ⟨b, h1, h3, h5, h7, h8, fun _ => d3, h10, h11, f0, f1, f2, f3, f4, f5, f6, f7, f8, fun _ => rfl, f10, f11, n35, n37, n57⟩
    case s10 =>
      rintro L a wr ⟨hst, hsz, q0, q4, hF⟩ hL hdp K hK
      have ev := fun (d t : Nat) (v : Value) (hd : d < 39) => eval_put a d t v (by omega)
      have d5 : L 5 = true := hdp ⟨5, .data⟩ (by simp) rfl
      obtain ⟨b, h1, h3, h5, h7, h8, h9, h10, h11, f0, f1, f2, f3, f4, f5, f6, f7, f8, f9, f10, f11, n35, n37, n57⟩ := hF
      refine step_value (v := a.eval (.tmp 36)) (w' := wr) rfl (by go_simp) ?_
      refine hK _ _ ⟨hst.put 7 _ (by decide), by simpa [Act.put] using hsz, (ev 7 0 _ (by decide)).trans q0, (ev 7 4 _ (by decide)).trans q4, ?_⟩
      simp only [ev 7 _ _ (by decide)]
      exact ⟨b, h1, h3, h5, h7, h8, h9, fun _ => d5, h11, f0, f1, f2, f3, f4, f5, f6, f7, f8, f9, fun _ => rfl, f11, n35, n37, n57⟩
    case s11 =>
      rintro L a wr ⟨hst, hsz, q0, q4, hF⟩ hL hdp K hK
      have ev := fun (d t : Nat) (v : Value) (hd : d < 39) => eval_put a d t v (by omega)
      have d7 : L 7 = true := hdp ⟨7, .data⟩ (by simp) rfl
      obtain ⟨b, h1, h3, h5, h7, h8, h9, h10, h11, f0, f1, f2, f3, f4, f5, f6, f7, f8, f9, f10, f11, n35, n37, n57⟩ := hF
      refine step_value (v := a.eval (.tmp 38)) (w' := wr) rfl (by go_simp) ?_
      refine hK _ _ ⟨hst.put 8 _ (by decide), by simpa [Act.put] using hsz, (ev 8 0 _ (by decide)).trans q0, (ev 8 4 _ (by decide)).trans q4, ?_⟩
      simp only [ev 8 _ _ (by decide)]
      exact ⟨b, h1, h3, h5, h7, h8, h9, h10, fun _ => d7, f0, f1, f2, f3, f4, f5, f6, f7, f8, f9, f10, fun _ => rfl, n35, n37, n57⟩
theorem route_zero (A : Option Addr) (P : List Nat) (c : Nat) (w : World) (hP : PermN P 2) (hx : Reads w w.heap.size 1 A 2 (nats P)) :
    Calls Try.prog 35 #[.slice A 2 c] w fun e w' => ∃ v, e = .returned v ∧ w'.ownsRow w.heap.size 4 1 v 1 (bools (rtF 0 P)) ∧ Below w.heap.size w w' := by
  have hl := hP.len
  obtain ⟨ad, u, rfl, -, hu, hc⟩ := hx.at_ (k := 0) (by omega)
  rw [nats_get (by omega), ← atN_mem (by omega)] at hu
  cases hu
  have hadd : ad.add 0 = ad := by simp [Addr.add]
  rw [hadd] at hc
  have HR : Hid (rtF 0 P = [atN P 0 == 1]) := Lib.hid rfl
  obtain ⟨b, hb⟩ : ∃ b, (((atN P 0 : Nat) : Int) == 1) = b := ⟨_, rfl⟩
  have HBB : Hid ((atN P 0 == 1) = b) := Lib.hid (by rw [← hb]; simp [Bool.beq_eq_decide_eq]; omega)
  generalize atN P 0 = x at *
  have HX := Lib.hid hx
  clear hP hl hx hadd
  go_enter Try.func35, Try.ntmps35
  go_wp2_with fail
  go_ret
  have ho := own_full (base := w.heap.size) (e := 4) (size := 1) w #[.bool b] 1 (Nat.le_refl _) (by decide) rfl
  exact ⟨_, rfl, by rw [HR.out, HBB.out]; exact ho, alloc_ (Below.refl _ _) _⟩
theorem route_all : ∀ (f : Nat), f ≤ 5 → ∀ (A : Option Addr) (P : List Nat) (c : Nat) (w : World), PermN P (2 ^ (f + 1)) → Reads w w.heap.size 1 A (2 ^ (f + 1)) (nats P) →
    Calls Try.prog 35 #[.slice A (2 ^ (f + 1)) c] w fun e w' => ∃ v, e = .returned v ∧ w'.ownsRow w.heap.size 4 1 v (bsz f) (bools (rtF f P)) ∧ Below w.heap.size w w'
  | 0, _, A, P, c, w, hP, hx => route_zero A P c w hP hx
  | f + 1, hf, A, P, c, w, hP, hx => by
    have hpow : 2 ^ (f + 1 + 1) = 2 * 2 ^ (f + 1) := by rw [Nat.pow_succ 2 (f + 1)]; omega
    have hb := bsz_bd ⟨f, by omega⟩
    have hb5 := bsz_bd ⟨f + 1, by omega⟩
    simp only at hb hb5
    have hz : bsz (f + 1) = 2 * 2 ^ (f + 1) + 2 * bsz f := by rw [← hpow]; rfl
    have h2p : 2 ≤ 2 ^ (f + 1) := by have := Nat.one_le_two_pow (n := f); rw [Nat.pow_succ]; omega
    obtain ⟨ad, u, rfl, -⟩ := hx.at_ (k := 0) (by omega)
    rw [hpow] at hP hx ⊢
    rw [hz]
    exact route_succ f (2 ^ (f + 1)) (bsz f) ad P c w h2p hb5.2 hb.1 hP hx (Lib.hid rfl) (Lib.hid (rtF_len f)) (Lib.hid fun A P c w h3 h4 => route_all f (by omega) A P c w h3 h4)
end Go.Proofs.Ytmeaipickolhfaa
