/- The draw of the law on dropped wires. -/
import Derived.Test.YtkhfilkikpiepaaDrawN
import Derived.Test.YtkhfilkikpiepaaVN
import Derived.Test.YtkhfilkikpiepaaBuildN
import Derived.Test.YtkhfilkikpiepaaInv
import Derived.Deep.DeepCutAuto
namespace Go.Proofs.Ytkhfilkikpiepaa
open Go.RowKit
set_option linter.unusedVariables false
def GotDrop (w : World) (e : Ending) (w' : World) : Prop := ∃ (W : Int) (D : Option Addr) (cs : List (Int × Int)) (d : Nat) (x : Int), e = .returned (.tuple #[.agg #[.int .i64 W, .slice D cs.length d], .int .i64 x]) ∧
  w'.ownsRow w.heap.size 54 2 (.slice D cs.length d) cs.length (cmps cs) ∧ (0 ≤ W ∧ W ≤ 17) ∧ cs.length ≤ 4096 ∧ Below w.heap.size w w'
theorem GotDrop.mk {w : World} {e : Ending} {w' : World} (h : ∃ (W : Int) (D : Option Addr) (cs : List (Int × Int)) (d : Nat) (x : Int), e = .returned (.tuple #[.agg #[.int .i64 W, .slice D cs.length d], .int .i64 x]) ∧
  w'.ownsRow w.heap.size 54 2 (.slice D cs.length d) cs.length (cmps cs) ∧ (0 ≤ W ∧ W ≤ 17) ∧ cs.length ≤ 4096 ∧ Below w.heap.size w w') : GotDrop w e w' := h
def DrDrop (w : World) (A : Option Addr) (bs : List Nat) (c gN n : Nat) (W : Int) (D : Option Addr) (cs : List (Int × Int)) (d : Nat) (L : Nat → Bool) (wr : World) (v0 v1 v2 v3 v4 v5 v6 v7 v8 v10 : Value) : Prop :=
  (Below w.heap.size w wr) ∧
  (L 3 = true → L 2 = true) ∧
  (L 4 = true → L 3 = true) ∧
  (L 5 = true → L 1 = true ∧ L 4 = true) ∧
  (L 7 = true → L 5 = true ∧ L 6 = true) ∧
  (L 8 = true → L 5 = true ∧ L 7 = true) ∧
  (L 9 = true → L 0 = true) ∧
  (L 10 = true → L 8 = true) ∧
  (L 0 = true → v0 = .agg #[.int .i64 W, .slice D n d]) ∧
  (L 1 = true → v1 = .pointer (some ⟨w.heap.size + 1, 0, none⟩)) ∧
  (L 2 = true → v2 = .pointer (some ⟨gN, 0, none⟩)) ∧
  (L 3 = true → v3 = .int .i64 W) ∧
  (L 4 = true → v4 = .int .i64 (W + 2)) ∧
  (L 5 = true → ∃ z : Nat, v5 = .int .i64 (z : Nat) ∧ z ≤ 20) ∧
  (L 6 = true → v6 = .pointer (some ⟨w.heap.size + 1, 0, none⟩)) ∧
  (L 7 = true → ∃ z : Nat, v7 = .int .i64 (z : Nat) ∧ z ≤ 20) ∧
  (L 8 = true → ∃ z : Int, v8 = .int .i64 z) ∧
  (L 10 = true → ∃ z : Int, v10 = .int .i64 z) ∧
  (Blk wr gN 28 #[.int .i64 W, .slice D n d]) ∧
  (L 9 = false → Blk wr w.heap.size 28 #[.int .i64 0, .slice none 0 0]) ∧
  (L 9 = true → Blk wr w.heap.size 28 #[.int .i64 W, .slice D n d]) ∧
  (wr.ownsRow w.heap.size 54 2 (.slice D n d) n (cmps cs)) ∧
  (L 5 = false → ∃ (a : Nat) (s : Int), Blk wr (w.heap.size + 1) 60 #[.slice A bs.length c, .int .i64 a, .int .u64 s] ∧ a ≤ 3000 ∧ 0 ≤ s ∧ s ≤ 18446744073709551615) ∧
  (L 5 = true → L 7 = false → ∃ (a : Nat) (s : Int), Blk wr (w.heap.size + 1) 60 #[.slice A bs.length c, .int .i64 a, .int .u64 s] ∧ a ≤ 3002 ∧ 0 ≤ s ∧ s ≤ 18446744073709551615)
set_option maxRecDepth 100000 in
set_option maxHeartbeats 6400000 in
theorem DrawDropWire_any (A : Option Addr) (bs : List Nat) (c : Nat) (w : World) (hr : Reads w w.heap.size 1 A bs.length (byts bs)) (hb : ∀ b ∈ bs, b ≤ 255) (hl : bs.length ≤ 65536) :
    Calls Try.prog 18 #[.slice A bs.length c] w (GotDrop w) := by
  have hB00 := alloc_ (Below.refl w.heap.size w) (.cells #[.int .i64 0, .slice none 0 0] 28)
  have HC0 := Lib.hid (cur_box (w := w.alloc (.cells #[.int .i64 0, .slice none 0 0] 28)) (c := c) ((hr.below hB00).more hB00.size) hb hl)
  have hBa := alloc_ hB00 (.cells #[.slice A bs.length c, .int .i64 0, .int .u64 0] 60)
  have hRa := (Blk.new w 28 #[.int .i64 0, .slice none 0 0]).alloc (.cells #[.slice A bs.length c, .int .i64 0, .int .u64 0] 60)
  have hsz0 : (w.alloc (.cells #[.int .i64 0, .slice none 0 0] 28)).heap.size = w.heap.size + 1 := by simp
  rw [hsz0] at HC0
  have HR := Lib.hid hr
  have HBY := Lib.hid hb
  clear hr hb hB00 hsz0
  go_enter Try.func18, Try.ntmps18
  go_wp2_with fail
  refine (anyNetwork_any (w.heap.size + 1) A bs c _ _ HC0.out (by omega)).mono ?_
  rintro e w1 ⟨W, D, cs, d, rfl, hO1, hW, hl1, hsm, hc1, hg1⟩
  clear hsm
  replace hl1 : cs.length ≤ 4096 := by omega
  have hOb := own_base hO1 hBa.size
  have hRb := Cur.blk_ HC0.out hRa hg1 (by decide)
  have hBb := hBa.trans (below_near hg1 (by omega) hBa.size)
  clear hRa hBa
  have HC1 := Lib.hid hc1
  clear hc1 hg1 hO1 HC0
  have hgw1 : w.heap.size + 1 < w1.heap.size := HC1.out.lt
  have hRc := hRb.alloc (.cells #[.int .i64 W, .slice D cs.length d] 28)
  have hBc := alloc_ hBb (.cells #[.int .i64 W, .slice D cs.length d] 28)
  have hOc := hOb.alloc (.cells #[.int .i64 W, .slice D cs.length d] 28)
  clear hRb hBb hOb
  have hNc := Blk.new w1 28 #[.int .i64 W, .slice D cs.length d]
  have HC2 := Lib.hid (HC1.out.alloc (.cells #[.int .i64 W, .slice D cs.length d] 28))
  clear HC1
  generalize hgN : w1.heap.size = gN at *
  go_wp2_with fail
  refine (one_any (w.heap.size + 1) A bs c _ 2 _ HC2.out (by omega) (by omega) (by omega)).mono ?_
  rintro e w3 ⟨b, rfl, hc1, hg1⟩
  have hRz := Cur.blk_ HC2.out hRc hg1 (by decide)
  have hBz := hBc.trans (below_near hg1 (by omega) hBc.size)
  have hOz := Cur.row HC2.out hOc hg1 (by decide)
  have hNz := Cur.blk_ HC2.out hNc hg1 (by decide)
  clear hRc hBc hOc hNc
  have HCz := Lib.hid hc1
  clear hc1 hg1 HC2 hgN
  cases b
  case false =>
    go_upto_region 5 with fail
    have hNq : Blk (w3).drew gN 28 #[.int .i64 W, .slice D cs.length d] := hNz
    have hRq : Blk (w3).drew w.heap.size 28 #[.int .i64 0, .slice none 0 0] := hRz
    have hOq : (w3).drew.ownsRow w.heap.size 54 2 (.slice D cs.length d) cs.length (cmps cs) := hOz
    have hBq : Below w.heap.size w (w3).drew := bdrew hBz
    have hCq := (show ∃ (a : Nat) (s : Int), Blk (w3).drew (w.heap.size + 1) 60 #[.slice A bs.length c, .int .i64 a, .int .u64 s] ∧ a ≤ 3000 ∧ 0 ≤ s ∧ s ≤ 18446744073709551615 from by obtain ⟨a1, s1, h1, h2, h3⟩ := HCz.out.blk; exact ⟨a1, s1, h1, by omega, h3⟩)
    obtain ⟨wq, hwq⟩ : ∃ wq, (w3).drew = wq := ⟨_, rfl⟩
    rw [hwq] at hNq hRq hOq hBq hCq
    clear hNz hRz hOz hBz HCz
    have hnp : gN ≠ w.heap.size + 1 := by omega
    have hnr : gN ≠ w.heap.size := by omega
    have hwW : IntKind.i64.wrap (W + 2) = W + 2 := IntWalk.i64_in _ ⟨by omega, by omega⟩
    refine wp_region_inv' (fun a0 L a wr => St a0 a [23, 24, 25, 26, 27, 28, 29, 30, 31, 3] ∧ 31 < a.tmps.size ∧ a.eval (.tmp 5) = .pointer (some ⟨gN, 0, none⟩) ∧ a.eval (.tmp 4) = .pointer (some ⟨w.heap.size + 1, 0, none⟩) ∧ a.eval (.tmp 2) = .pointer (some ⟨w.heap.size, 0, none⟩) ∧ DrDrop w A bs c gN cs.length W D cs d L wr (a.eval (.tmp 23)) (a.eval (.tmp 24)) (a.eval (.tmp 25)) (a.eval (.tmp 26)) (a.eval (.tmp 27)) (a.eval (.tmp 28)) (a.eval (.tmp 29)) (a.eval (.tmp 30)) (a.eval (.tmp 31)) (a.eval (.tmp 3))) (by kernel_rfl) (by kernel_rfl) ?start ?steps ?ends
    case start =>
      subst hwq
      refine ⟨St.refl _ _, Nat.le_of_ble_eq_true rfl, rfl, rfl, rfl, hBq, ?_, ?_, ?_, ?_, ?_, ?_, ?_, ?_, ?_, ?_, ?_, ?_, ?_, ?_, ?_, ?_, ?_, hNq, fun _ => hRq, ?_, hOq, fun _ => hCq, ?_⟩
      all_goals (intro e; first | (cases e; done) | rfl | assumption)
    case ends =>
      rintro L a wr ⟨hst, hsz, q5, q4, q2, b, h3, h4, h5, h7, h8, h9, h10, f0, f1, f2, f3, f4, f5, f6, f7, f8, f10, kn, kr, kr2, ko, kq, kq2⟩ hall
      obtain ⟨z, ez⟩ := f10 (hall 10 (by decide))
      have k9 := kr2 (hall 9 (by decide))
      obtain ⟨r0, r1⟩ := k9.two
      have R0 := Lib.hid r0; have R1 := Lib.hid r1
      have HOF := Lib.hid ko
      have HBF := Lib.hid b
      have heq := hst.eq
      simp only [List.foldl_cons, List.foldl_nil] at heq
      rw [ez] at heq
      clear hst hall hsz q5 q4 q2 h3 h4 h5 h7 h8 h9 h10 f0 f1 f2 f3 f4 f5 f6 f7 f8 f10 kn kr kr2 ko kq kq2 ez r0 r1 k9 b
      generalize a.eval (.tmp 23) = u23 at *
      generalize a.eval (.tmp 24) = u24 at *
      generalize a.eval (.tmp 25) = u25 at *
      generalize a.eval (.tmp 26) = u26 at *
      generalize a.eval (.tmp 27) = u27 at *
      generalize a.eval (.tmp 28) = u28 at *
      generalize a.eval (.tmp 29) = u29 at *
      generalize a.eval (.tmp 30) = u30 at *
      generalize a.eval (.tmp 31) = u31 at *
      simp only [Act.put, List.setIfInBounds_toArray, List.set_cons_zero, List.set_cons_succ] at heq
      subst heq
      go_wp2_with fail
      exact bodyPost_ret (v := .tuple #[.agg #[.int .i64 W, .slice D cs.length d], .int .i64 z]) (by simp [results, Try.results18, go_sem, R0.out, R1.out]) rfl (GotDrop.mk ⟨W, D, cs, d, z, rfl, HOF.out, by omega, hl1, HBF.out⟩)
    case steps =>
      refine ⟨?s0, ?s1, ?s2, ?s3, ?s4, ?s5, ?s6, ?s7, ?s8, ?s9, ?s10, trivial⟩
      case s0 =>
        rintro L a wr ⟨hst, hsz, q5, q4, q2, hF⟩ hL hdp K hK
        have ev := fun (d t : Nat) (v : Value) (hd : d < 32) => eval_put a d t v (by omega)
        obtain ⟨b, h3, h4, h5, h7, h8, h9, h10, f0, f1, f2, f3, f4, f5, f6, f7, f8, f10, kn, kr, kr2, ko, kq, kq2⟩ := hF
        have t5 := q5
        rw [eval_tmp, Array.getD_eq_getD_getElem?] at t5
        obtain ⟨hcn0, hcn1⟩ := kn.two
        refine step_value (v := .agg #[.int .i64 W, .slice D cs.length d]) (w' := wr) rfl (by go_simp) ?_
        refine hK _ _ ⟨hst.put 23 _ (by decide), by simpa [Act.put] using hsz, (ev 23 5 _ (by decide)).trans q5, (ev 23 4 _ (by decide)).trans q4, (ev 23 2 _ (by decide)).trans q2, ?_⟩
        simp only [ev 23 _ _ (by decide)]
        exact ⟨b, h3, h4, h5, h7, h8, fun e => absurd ((h9 e).symm.trans hL) (by decide), h10, fun _ => rfl, f1, f2, f3, f4, f5, f6, f7, f8, f10, kn, kr, kr2, ko, kq, kq2⟩
      case s1 =>
        rintro L a wr ⟨hst, hsz, q5, q4, q2, hF⟩ hL hdp K hK
        have ev := fun (d t : Nat) (v : Value) (hd : d < 32) => eval_put a d t v (by omega)
        obtain ⟨b, h3, h4, h5, h7, h8, h9, h10, f0, f1, f2, f3, f4, f5, f6, f7, f8, f10, kn, kr, kr2, ko, kq, kq2⟩ := hF
        have t4 := q4
        rw [eval_tmp, Array.getD_eq_getD_getElem?] at t4
        refine step_value (v := .pointer (some ⟨w.heap.size + 1, 0, none⟩)) (w' := wr) rfl (by go_simp) ?_
        refine hK _ _ ⟨hst.put 24 _ (by decide), by simpa [Act.put] using hsz, (ev 24 5 _ (by decide)).trans q5, (ev 24 4 _ (by decide)).trans q4, (ev 24 2 _ (by decide)).trans q2, ?_⟩
        simp only [ev 24 _ _ (by decide)]
        exact ⟨b, h3, h4, fun e => absurd ((h5 e).1.symm.trans hL) (by decide), h7, h8, h9, h10, f0, fun _ => rfl, f2, f3, f4, f5, f6, f7, f8, f10, kn, kr, kr2, ko, kq, kq2⟩
      case s2 =>
        rintro L a wr ⟨hst, hsz, q5, q4, q2, hF⟩ hL hdp K hK
        have ev := fun (d t : Nat) (v : Value) (hd : d < 32) => eval_put a d t v (by omega)
        obtain ⟨b, h3, h4, h5, h7, h8, h9, h10, f0, f1, f2, f3, f4, f5, f6, f7, f8, f10, kn, kr, kr2, ko, kq, kq2⟩ := hF
        have t5 := q5
        rw [eval_tmp, Array.getD_eq_getD_getElem?] at t5
        refine step_value (v := .pointer (some ⟨gN, 0, none⟩)) (w' := wr) rfl (by go_simp) ?_
        refine hK _ _ ⟨hst.put 25 _ (by decide), by simpa [Act.put] using hsz, (ev 25 5 _ (by decide)).trans q5, (ev 25 4 _ (by decide)).trans q4, (ev 25 2 _ (by decide)).trans q2, ?_⟩
        simp only [ev 25 _ _ (by decide)]
        exact ⟨b, fun e => absurd ((h3 e).symm.trans hL) (by decide), h4, h5, h7, h8, h9, h10, f0, f1, fun _ => rfl, f3, f4, f5, f6, f7, f8, f10, kn, kr, kr2, ko, kq, kq2⟩
      case s3 =>
        rintro L a wr ⟨hst, hsz, q5, q4, q2, hF⟩ hL hdp K hK
        have ev := fun (d t : Nat) (v : Value) (hd : d < 32) => eval_put a d t v (by omega)
        have d2 : L 2 = true := hdp ⟨2, .data⟩ (by simp) rfl
        obtain ⟨b, h3, h4, h5, h7, h8, h9, h10, f0, f1, f2, f3, f4, f5, f6, f7, f8, f10, kn, kr, kr2, ko, kq, kq2⟩ := hF
        have t25 := f2 d2
        rw [eval_tmp, Array.getD_eq_getD_getElem?] at t25
        obtain ⟨hcn0, hcn1⟩ := kn.two
        refine step_value (v := .int .i64 W) (w' := wr) rfl (by go_simp) ?_
        refine hK _ _ ⟨hst.put 26 _ (by decide), by simpa [Act.put] using hsz, (ev 26 5 _ (by decide)).trans q5, (ev 26 4 _ (by decide)).trans q4, (ev 26 2 _ (by decide)).trans q2, ?_⟩
        simp only [ev 26 _ _ (by decide)]
        exact ⟨b, fun _ => d2, fun e => absurd ((h4 e).symm.trans hL) (by decide), h5, h7, h8, h9, h10, f0, f1, f2, fun _ => rfl, f4, f5, f6, f7, f8, f10, kn, kr, kr2, ko, kq, kq2⟩
      case s4 =>
        rintro L a wr ⟨hst, hsz, q5, q4, q2, hF⟩ hL hdp K hK
        have ev := fun (d t : Nat) (v : Value) (hd : d < 32) => eval_put a d t v (by omega)
        have d3 : L 3 = true := hdp ⟨3, .data⟩ (by simp) rfl
        obtain ⟨b, h3, h4, h5, h7, h8, h9, h10, f0, f1, f2, f3, f4, f5, f6, f7, f8, f10, kn, kr, kr2, ko, kq, kq2⟩ := hF
        have t26 := f3 d3
        rw [eval_tmp, Array.getD_eq_getD_getElem?] at t26
        refine step_value (v := .int .i64 (W + 2)) (w' := wr) rfl (by go_simp) ?_
        refine hK _ _ ⟨hst.put 27 _ (by decide), by simpa [Act.put] using hsz, (ev 27 5 _ (by decide)).trans q5, (ev 27 4 _ (by decide)).trans q4, (ev 27 2 _ (by decide)).trans q2, ?_⟩
        simp only [ev 27 _ _ (by decide)]
        exact ⟨b, h3, fun _ => d3, fun e => absurd ((h5 e).2.symm.trans hL) (by decide), h7, h8, h9, h10, f0, f1, f2, f3, fun _ => rfl, f5, f6, f7, f8, f10, kn, kr, kr2, ko, kq, kq2⟩
      case s5 =>
        rintro L a wr ⟨hst, hsz, q5, q4, q2, hF⟩ hL hdp K hK
        have ev := fun (d t : Nat) (v : Value) (hd : d < 32) => eval_put a d t v (by omega)
        have d1 : L 1 = true := hdp ⟨1, .data⟩ (by simp) rfl
        have d4 : L 4 = true := hdp ⟨4, .data⟩ (by simp) rfl
        obtain ⟨b, h3, h4, h5, h7, h8, h9, h10, f0, f1, f2, f3, f4, f5, f6, f7, f8, f10, kn, kr, kr2, ko, kq, kq2⟩ := hF
        have t24 := f1 d1
        have t27 := f4 d4
        have t24 := f1 d1
        have t27 := f4 d4
        rw [eval_tmp, Array.getD_eq_getD_getElem?] at t24 t27
        have hkq := kq hL
        refine step_enter (f := 36) (args := #[.pointer (some ⟨w.heap.size + 1, 0, none⟩), .int .i64 (W + 2)]) (w' := wr) rfl (by go_simp) ?_
        refine (pick_any (w.heap.size + 1) A bs c 3000 (W + 2) wr ⟨hkq, (HR.out.below b).more (by omega), HBY.out, hl⟩ (by omega) (by omega) (by omega)).mono ?_
        rintro e w9 ⟨z, hz, rfl, hc9, hg9⟩
        refine ⟨_, rfl, ?_⟩
        refine hK _ _ ⟨hst.put 28 _ (by decide), by simpa [Act.put] using hsz, (ev 28 5 _ (by decide)).trans q5, (ev 28 4 _ (by decide)).trans q4, (ev 28 2 _ (by decide)).trans q2, ?_⟩
        simp only [ev 28 _ _ (by decide)]
        exact ⟨b.trans (below_near hg9 (by omega) b.size), h3, h4, fun _ => ⟨d1, d4⟩, fun e => absurd ((h7 e).1.symm.trans hL) (by decide), fun e => absurd ((h8 e).1.symm.trans hL) (by decide), h9, h10, f0, f1, f2, f3, f4, fun _ => ⟨z, rfl, by omega⟩, f6, fun e => absurd ((h7 e).1.symm.trans hL) (by decide), fun e => absurd ((h8 e).1.symm.trans hL) (by decide), fun e => absurd ((h8 (h10 e)).1.symm.trans hL) (by decide), kn.grown hg9 (fun e => hnp (Option.some.inj e)), fun e => (kr e).grown hg9 (fun e => by have := Option.some.inj e; omega), fun e => (kr2 e).grown hg9 (fun e => by have := Option.some.inj e; omega), own_kept ko hg9 (by obtain ⟨a1, s1, h1, -⟩ := hkq; exact own_blk_ne ko h1 (by decide)), fun e => absurd ((upd_self L 5).symm.trans e) (by decide), fun _ _ => hc9.blk⟩
      case s6 =>
        rintro L a wr ⟨hst, hsz, q5, q4, q2, hF⟩ hL hdp K hK
        have ev := fun (d t : Nat) (v : Value) (hd : d < 32) => eval_put a d t v (by omega)
        obtain ⟨b, h3, h4, h5, h7, h8, h9, h10, f0, f1, f2, f3, f4, f5, f6, f7, f8, f10, kn, kr, kr2, ko, kq, kq2⟩ := hF
        have t4 := q4
        rw [eval_tmp, Array.getD_eq_getD_getElem?] at t4
        refine step_value (v := .pointer (some ⟨w.heap.size + 1, 0, none⟩)) (w' := wr) rfl (by go_simp) ?_
        refine hK _ _ ⟨hst.put 29 _ (by decide), by simpa [Act.put] using hsz, (ev 29 5 _ (by decide)).trans q5, (ev 29 4 _ (by decide)).trans q4, (ev 29 2 _ (by decide)).trans q2, ?_⟩
        simp only [ev 29 _ _ (by decide)]
        exact ⟨b, h3, h4, h5, fun e => absurd ((h7 e).2.symm.trans hL) (by decide), h8, h9, h10, f0, f1, f2, f3, f4, f5, fun _ => rfl, f7, f8, f10, kn, kr, kr2, ko, kq, kq2⟩
      case s7 =>
        rintro L a wr ⟨hst, hsz, q5, q4, q2, hF⟩ hL hdp K hK
        have ev := fun (d t : Nat) (v : Value) (hd : d < 32) => eval_put a d t v (by omega)
        have d5 : L 5 = true := hdp ⟨5, .chain⟩ (by simp) rfl
        have d6 : L 6 = true := hdp ⟨6, .data⟩ (by simp) rfl
        obtain ⟨b, h3, h4, h5, h7, h8, h9, h10, f0, f1, f2, f3, f4, f5, f6, f7, f8, f10, kn, kr, kr2, ko, kq, kq2⟩ := hF
        have t29 := f6 d6
        have t29 := f6 d6
        rw [eval_tmp, Array.getD_eq_getD_getElem?] at t29
        have hkq := kq2 d5 hL
        refine step_enter (f := 36) (args := #[.pointer (some ⟨w.heap.size + 1, 0, none⟩), .int .i64 2]) (w' := wr) rfl (by go_simp) ?_
        refine (pick_any (w.heap.size + 1) A bs c 3002 2 wr ⟨hkq, (HR.out.below b).more (by omega), HBY.out, hl⟩ (by omega) (by omega) (by omega)).mono ?_
        rintro e w9 ⟨z, hz, rfl, hc9, hg9⟩
        refine ⟨_, rfl, ?_⟩
        refine hK _ _ ⟨hst.put 30 _ (by decide), by simpa [Act.put] using hsz, (ev 30 5 _ (by decide)).trans q5, (ev 30 4 _ (by decide)).trans q4, (ev 30 2 _ (by decide)).trans q2, ?_⟩
        simp only [ev 30 _ _ (by decide)]
        exact ⟨b.trans (below_near hg9 (by omega) b.size), h3, h4, h5, fun _ => ⟨d5, d6⟩, fun e => absurd ((h8 e).2.symm.trans hL) (by decide), h9, h10, f0, f1, f2, f3, f4, f5, f6, fun _ => ⟨z, rfl, by omega⟩, fun e => absurd ((h8 e).2.symm.trans hL) (by decide), fun e => absurd ((h8 (h10 e)).2.symm.trans hL) (by decide), kn.grown hg9 (fun e => hnp (Option.some.inj e)), fun e => (kr e).grown hg9 (fun e => by have := Option.some.inj e; omega), fun e => (kr2 e).grown hg9 (fun e => by have := Option.some.inj e; omega), own_kept ko hg9 (by obtain ⟨a1, s1, h1, -⟩ := hkq; exact own_blk_ne ko h1 (by decide)), fun e => absurd (d5.symm.trans e) (by decide), fun _ e => absurd ((upd_self L 7).symm.trans e) (by decide)⟩
      case s8 =>
        rintro L a wr ⟨hst, hsz, q5, q4, q2, hF⟩ hL hdp K hK
        have ev := fun (d t : Nat) (v : Value) (hd : d < 32) => eval_put a d t v (by omega)
        have d5 : L 5 = true := hdp ⟨5, .data⟩ (by simp) rfl
        have d7 : L 7 = true := hdp ⟨7, .data⟩ (by simp) rfl
        obtain ⟨b, h3, h4, h5, h7, h8, h9, h10, f0, f1, f2, f3, f4, f5, f6, f7, f8, f10, kn, kr, kr2, ko, kq, kq2⟩ := hF
        obtain ⟨z, ez, hz⟩ := f5 d5
        obtain ⟨y, ey, hy⟩ := f7 d7
        have t28 := ez
        have t30 := ey
        rw [eval_tmp, Array.getD_eq_getD_getElem?] at t28 t30
        have hwz : IntKind.i64.wrap ((z : Int) - (y : Int)) = (z : Int) - (y : Int) := IntWalk.i64_in _ ⟨by omega, by omega⟩
        refine step_value (v := .int .i64 ((z : Int) - (y : Int))) (w' := wr) rfl (by go_simp) ?_
        refine hK _ _ ⟨hst.put 31 _ (by decide), by simpa [Act.put] using hsz, (ev 31 5 _ (by decide)).trans q5, (ev 31 4 _ (by decide)).trans q4, (ev 31 2 _ (by decide)).trans q2, ?_⟩
        simp only [ev 31 _ _ (by decide)]
        exact ⟨b, h3, h4, h5, h7, fun _ => ⟨d5, d7⟩, h9, fun e => absurd ((h10 e).symm.trans hL) (by decide), f0, f1, f2, f3, f4, f5, f6, f7, fun _ => ⟨_, rfl⟩, fun e => absurd ((h10 e).symm.trans hL) (by decide), kn, kr, kr2, ko, kq, kq2⟩
      case s9 =>
        rintro L a wr ⟨hst, hsz, q5, q4, q2, hF⟩ hL hdp K hK
        have ev := fun (d t : Nat) (v : Value) (hd : d < 32) => eval_put a d t v (by omega)
        have d0 : L 0 = true := hdp ⟨0, .data⟩ (by simp) rfl
        obtain ⟨b, h3, h4, h5, h7, h8, h9, h10, f0, f1, f2, f3, f4, f5, f6, f7, f8, f10, kn, kr, kr2, ko, kq, kq2⟩ := hF
        have t2 := q2
        have t23 := f0 d0
        have t23 := f0 d0
        rw [eval_tmp, Array.getD_eq_getD_getElem?] at t23 t2
        have hkb := kr hL
        have hfz0 := hkb.frozen 0
        have hfz1 := hkb.frozen 1
        obtain ⟨hcl0, hcl1⟩ := hkb.two
        have hlt := hkb.lt
        refine step_skip (w' := (wr.setCell ⟨w.heap.size, 0, none⟩ (.int .i64 W)).setCell ⟨w.heap.size, 1, none⟩ (.slice D cs.length d)) rfl (by go_simp) ?_
        refine hK _ _ ⟨hst.put_none _, hsz, q5, q4, q2, ?_⟩
        exact ⟨Below.setCell (Below.setCell b (Nat.le_refl _) _) (Nat.le_refl _) _, h3, h4, h5, h7, h8, fun _ => d0, h10, f0, f1, f2, f3, f4, f5, f6, f7, f8, f10, (kn.far (by show _ ≠ w.heap.size; omega) _).far (by show _ ≠ w.heap.size; omega) _, fun e => absurd ((upd_self L 9).symm.trans e) (by decide), fun _ => by simpa using (hkb.set_ 0 (.int .i64 W)).set_ 1 (.slice D cs.length d), own_setCell (own_setCell ko (own_blk_ne ko hkb (by decide)) _) (own_blk_ne ko hkb (by decide)) _, fun e => by obtain ⟨a1, s1, h1, h2⟩ := kq e; exact ⟨a1, s1, (h1.far (by show _ ≠ w.heap.size; omega) _).far (by show _ ≠ w.heap.size; omega) _, h2⟩, fun e e2 => by obtain ⟨a1, s1, h1, h2⟩ := kq2 e e2; exact ⟨a1, s1, (h1.far (by show _ ≠ w.heap.size; omega) _).far (by show _ ≠ w.heap.size; omega) _, h2⟩⟩
      case s10 =>
        rintro L a wr ⟨hst, hsz, q5, q4, q2, hF⟩ hL hdp K hK
        have ev := fun (d t : Nat) (v : Value) (hd : d < 32) => eval_put a d t v (by omega)
        have d8 : L 8 = true := hdp ⟨8, .data⟩ (by simp) rfl
        obtain ⟨b, h3, h4, h5, h7, h8, h9, h10, f0, f1, f2, f3, f4, f5, f6, f7, f8, f10, kn, kr, kr2, ko, kq, kq2⟩ := hF
        obtain ⟨z, ez⟩ := f8 d8
        refine step_value (v := a.eval (.tmp 31)) (w' := wr) rfl (by go_simp) ?_
        refine hK _ _ ⟨hst.put 3 _ (by decide), by simpa [Act.put] using hsz, (ev 3 5 _ (by decide)).trans q5, (ev 3 4 _ (by decide)).trans q4, (ev 3 2 _ (by decide)).trans q2, ?_⟩
        simp only [ev 3 _ _ (by decide)]
        exact ⟨b, h3, h4, h5, h7, h8, h9, fun _ => d8, f0, f1, f2, f3, f4, f5, f6, f7, f8, fun _ => ⟨z, ez⟩, kn, kr, kr2, ko, kq, kq2⟩
  case true =>
    clear hOz
    go_wp2_with fail
    refine (pick_any (w.heap.size + 1) A bs c _ 3 _ HCz.out (by omega) (by omega) (by omega)).mono ?_
    rintro e w4 ⟨x, hx, rfl, hc1, hg1⟩
    have hx3 : x ≤ 3 := by omega
    clear hx
    have hRy := Cur.blk_ HCz.out hRz hg1 (by decide)
    have hBy := hBz.trans (below_near hg1 (by omega) hBz.size)
    have hNy := Cur.blk_ HCz.out hNz hg1 (by decide)
    clear hRz hBz hNz
    have HCy := Lib.hid hc1
    clear hc1 hg1 HCz
    go_wp2_with fail
    refine (pick_any (w.heap.size + 1) A bs c _ 6 _ HCy.out (by omega) (by omega) (by omega)).mono ?_
    rintro e w5 ⟨y, hy, rfl, hc1, hg1⟩
    have hy3 : y ≤ 6 := by omega
    clear hy
    have hRx := Cur.blk_ HCy.out hRy hg1 (by decide)
    have hBx := hBy.trans (below_near hg1 (by omega) hBy.size)
    have hNx := Cur.blk_ HCy.out hNy hg1 (by decide)
    clear hRy hBy hNy
    have HCx := Lib.hid hc1
    clear hc1 hg1 HCy
    go_wp2_with fail
    refine (sBuildNetwork_any (1 + (x : Int)) (1 + (y : Int)) _).mono ?_
    rintro e w6 ⟨G, g, rfl, oG, b6⟩
    have hlg := bn_len (1 + (x : Int)) (1 + (y : Int))
    have hWg : 0 ≤ bnW (1 + (x : Int)) (1 + (y : Int)) ∧ bnW (1 + (x : Int)) (1 + (y : Int)) ≤ 17 := by
      unfold bnW
      split <;> omega
    generalize bnV (1 + (x : Int)) (1 + (y : Int)) = es at *
    generalize bnW (1 + (x : Int)) (1 + (y : Int)) = V at *
    generalize bnOk (1 + (x : Int)) (1 + (y : Int)) = ok at *
    have hOw := own_base oG hBx.size
    have hRw := hRx.below_ b6
    have hNw := hNx.below_ b6
    have hBw := hBx.trans (b6.mono hBx.size)
    have HCw := Lib.hid (HCx.out.below b6 HCx.out.lt)
    clear oG hRx hNx hBx HCx b6
    obtain ⟨q0, q1⟩ := hNw.two
    have ql := hNw.lt
    have fz0 := hNw.frozen 0
    have fz1 := hNw.frozen 1
    have hgs := near_set (near_set (near_refl w6 (some gN)) 0 (.int .i64 V)) 1 (.slice G es.length g)
    have hNz : Blk ((w6.setCell ⟨gN, 0, none⟩ (.int .i64 V)).setCell ⟨gN, 1, none⟩ (.slice G es.length g)) gN 28 #[.int .i64 V, .slice G es.length g] := by
      simpa using (hNw.set_ 0 (.int .i64 V)).set_ 1 (.slice G es.length g)
    have hRz := (hRw.far (p := ⟨gN, 0, none⟩) (by show _ ≠ gN; omega) (.int .i64 V)).far (p := ⟨gN, 1, none⟩) (by show _ ≠ gN; omega) (.slice G es.length g)
    have hOz := own_setCell (p := ⟨gN, 1, none⟩) (own_setCell (p := ⟨gN, 0, none⟩) hOw (own_blk_ne hOw hNw (by decide)) (.int .i64 V)) (own_blk_ne hOw hNw (by decide)) (.slice G es.length g)
    have hBz := Below.setCell (p := ⟨gN, 1, none⟩) (Below.setCell (p := ⟨gN, 0, none⟩) hBw (by show _ ≤ gN; omega) (.int .i64 V)) (by show _ ≤ gN; omega) (.slice G es.length g)
    have HCz := Lib.hid (show Cur ((w6.setCell ⟨gN, 0, none⟩ (.int .i64 V)).setCell ⟨gN, 1, none⟩ (.slice G es.length g)) (w.heap.size + 1) A bs c _ from by
      obtain ⟨a1, s1, h1, h2⟩ := HCw.out.blk
      exact ⟨⟨a1, s1, (h1.far (p := ⟨gN, 0, none⟩) (by show _ ≠ gN; omega) _).far (p := ⟨gN, 1, none⟩) (by show _ ≠ gN; omega) _, h2⟩, HCw.out.code.below (below_near hgs (by omega) (Nat.le_of_lt HCw.out.lt)), HCw.out.byte, HCw.out.len⟩)
    clear hNw hRw hOw hBw HCw hgs
    go_upto_region 5 with fail
    have hNq : Blk (((w6.setCell ⟨gN, 0, none⟩ (.int .i64 V)).setCell ⟨gN, 1, none⟩ (.slice G es.length g))).drew gN 28 #[.int .i64 V, .slice G es.length g] := hNz
    have hRq : Blk (((w6.setCell ⟨gN, 0, none⟩ (.int .i64 V)).setCell ⟨gN, 1, none⟩ (.slice G es.length g))).drew w.heap.size 28 #[.int .i64 0, .slice none 0 0] := hRz
    have hOq : (((w6.setCell ⟨gN, 0, none⟩ (.int .i64 V)).setCell ⟨gN, 1, none⟩ (.slice G es.length g))).drew.ownsRow w.heap.size 54 2 (.slice G es.length g) es.length (cmps es) := hOz
    have hBq : Below w.heap.size w (((w6.setCell ⟨gN, 0, none⟩ (.int .i64 V)).setCell ⟨gN, 1, none⟩ (.slice G es.length g))).drew := bdrew hBz
    have hCq := (show ∃ (a : Nat) (s : Int), Blk (((w6.setCell ⟨gN, 0, none⟩ (.int .i64 V)).setCell ⟨gN, 1, none⟩ (.slice G es.length g))).drew (w.heap.size + 1) 60 #[.slice A bs.length c, .int .i64 a, .int .u64 s] ∧ a ≤ 3000 ∧ 0 ≤ s ∧ s ≤ 18446744073709551615 from by obtain ⟨a1, s1, h1, h2, h3⟩ := HCz.out.blk; exact ⟨a1, s1, h1, by omega, h3⟩)
    obtain ⟨wq, hwq⟩ : ∃ wq, (((w6.setCell ⟨gN, 0, none⟩ (.int .i64 V)).setCell ⟨gN, 1, none⟩ (.slice G es.length g))).drew = wq := ⟨_, rfl⟩
    rw [hwq] at hNq hRq hOq hBq hCq
    clear hNz hRz hOz hBz HCz
    have hnp : gN ≠ w.heap.size + 1 := by omega
    have hnr : gN ≠ w.heap.size := by omega
    have hwW : IntKind.i64.wrap (V + 2) = V + 2 := IntWalk.i64_in _ ⟨by omega, by omega⟩
    refine wp_region_inv' (fun a0 L a wr => St a0 a [23, 24, 25, 26, 27, 28, 29, 30, 31, 3] ∧ 31 < a.tmps.size ∧ a.eval (.tmp 5) = .pointer (some ⟨gN, 0, none⟩) ∧ a.eval (.tmp 4) = .pointer (some ⟨w.heap.size + 1, 0, none⟩) ∧ a.eval (.tmp 2) = .pointer (some ⟨w.heap.size, 0, none⟩) ∧ DrDrop w A bs c gN es.length V G es g L wr (a.eval (.tmp 23)) (a.eval (.tmp 24)) (a.eval (.tmp 25)) (a.eval (.tmp 26)) (a.eval (.tmp 27)) (a.eval (.tmp 28)) (a.eval (.tmp 29)) (a.eval (.tmp 30)) (a.eval (.tmp 31)) (a.eval (.tmp 3))) (by kernel_rfl) (by kernel_rfl) ?start ?steps ?ends
    case start =>
      subst hwq
      refine ⟨St.refl _ _, Nat.le_of_ble_eq_true rfl, rfl, rfl, rfl, hBq, ?_, ?_, ?_, ?_, ?_, ?_, ?_, ?_, ?_, ?_, ?_, ?_, ?_, ?_, ?_, ?_, ?_, hNq, fun _ => hRq, ?_, hOq, fun _ => hCq, ?_⟩
      all_goals (intro e; first | (cases e; done) | rfl | assumption)
    case ends =>
      rintro L a wr ⟨hst, hsz, q5, q4, q2, b, h3, h4, h5, h7, h8, h9, h10, f0, f1, f2, f3, f4, f5, f6, f7, f8, f10, kn, kr, kr2, ko, kq, kq2⟩ hall
      obtain ⟨z, ez⟩ := f10 (hall 10 (by decide))
      have k9 := kr2 (hall 9 (by decide))
      obtain ⟨r0, r1⟩ := k9.two
      have R0 := Lib.hid r0; have R1 := Lib.hid r1
      have HOF := Lib.hid ko
      have HBF := Lib.hid b
      have heq := hst.eq
      simp only [List.foldl_cons, List.foldl_nil] at heq
      rw [ez] at heq
      clear hst hall hsz q5 q4 q2 h3 h4 h5 h7 h8 h9 h10 f0 f1 f2 f3 f4 f5 f6 f7 f8 f10 kn kr kr2 ko kq kq2 ez r0 r1 k9 b
      generalize a.eval (.tmp 23) = u23 at *
      generalize a.eval (.tmp 24) = u24 at *
      generalize a.eval (.tmp 25) = u25 at *
      generalize a.eval (.tmp 26) = u26 at *
      generalize a.eval (.tmp 27) = u27 at *
      generalize a.eval (.tmp 28) = u28 at *
      generalize a.eval (.tmp 29) = u29 at *
      generalize a.eval (.tmp 30) = u30 at *
      generalize a.eval (.tmp 31) = u31 at *
      simp only [Act.put, List.setIfInBounds_toArray, List.set_cons_zero, List.set_cons_succ] at heq
      subst heq
      go_wp2_with fail
      exact bodyPost_ret (v := .tuple #[.agg #[.int .i64 V, .slice G es.length g], .int .i64 z]) (by simp [results, Try.results18, go_sem, R0.out, R1.out]) rfl (GotDrop.mk ⟨V, G, es, g, z, rfl, HOF.out, by omega, hlg, HBF.out⟩)
    case steps =>
      refine ⟨?s0, ?s1, ?s2, ?s3, ?s4, ?s5, ?s6, ?s7, ?s8, ?s9, ?s10, trivial⟩
      case s0 =>
        rintro L a wr ⟨hst, hsz, q5, q4, q2, hF⟩ hL hdp K hK
        have ev := fun (g t : Nat) (v : Value) (hd : g < 32) => eval_put a g t v (by omega)
        obtain ⟨b, h3, h4, h5, h7, h8, h9, h10, f0, f1, f2, f3, f4, f5, f6, f7, f8, f10, kn, kr, kr2, ko, kq, kq2⟩ := hF
        have t5 := q5
        rw [eval_tmp, Array.getD_eq_getD_getElem?] at t5
        obtain ⟨hcn0, hcn1⟩ := kn.two
        refine step_value (v := .agg #[.int .i64 V, .slice G es.length g]) (w' := wr) rfl (by go_simp) ?_
        refine hK _ _ ⟨hst.put 23 _ (by decide), by simpa [Act.put] using hsz, (ev 23 5 _ (by decide)).trans q5, (ev 23 4 _ (by decide)).trans q4, (ev 23 2 _ (by decide)).trans q2, ?_⟩
        simp only [ev 23 _ _ (by decide)]
        exact ⟨b, h3, h4, h5, h7, h8, fun e => absurd ((h9 e).symm.trans hL) (by decide), h10, fun _ => rfl, f1, f2, f3, f4, f5, f6, f7, f8, f10, kn, kr, kr2, ko, kq, kq2⟩
      case s1 =>
        rintro L a wr ⟨hst, hsz, q5, q4, q2, hF⟩ hL hdp K hK
        have ev := fun (g t : Nat) (v : Value) (hd : g < 32) => eval_put a g t v (by omega)
        obtain ⟨b, h3, h4, h5, h7, h8, h9, h10, f0, f1, f2, f3, f4, f5, f6, f7, f8, f10, kn, kr, kr2, ko, kq, kq2⟩ := hF
        have t4 := q4
        rw [eval_tmp, Array.getD_eq_getD_getElem?] at t4
        refine step_value (v := .pointer (some ⟨w.heap.size + 1, 0, none⟩)) (w' := wr) rfl (by go_simp) ?_
        refine hK _ _ ⟨hst.put 24 _ (by decide), by simpa [Act.put] using hsz, (ev 24 5 _ (by decide)).trans q5, (ev 24 4 _ (by decide)).trans q4, (ev 24 2 _ (by decide)).trans q2, ?_⟩
        simp only [ev 24 _ _ (by decide)]
        exact ⟨b, h3, h4, fun e => absurd ((h5 e).1.symm.trans hL) (by decide), h7, h8, h9, h10, f0, fun _ => rfl, f2, f3, f4, f5, f6, f7, f8, f10, kn, kr, kr2, ko, kq, kq2⟩
      case s2 =>
        rintro L a wr ⟨hst, hsz, q5, q4, q2, hF⟩ hL hdp K hK
        have ev := fun (g t : Nat) (v : Value) (hd : g < 32) => eval_put a g t v (by omega)
        obtain ⟨b, h3, h4, h5, h7, h8, h9, h10, f0, f1, f2, f3, f4, f5, f6, f7, f8, f10, kn, kr, kr2, ko, kq, kq2⟩ := hF
        have t5 := q5
        rw [eval_tmp, Array.getD_eq_getD_getElem?] at t5
        refine step_value (v := .pointer (some ⟨gN, 0, none⟩)) (w' := wr) rfl (by go_simp) ?_
        refine hK _ _ ⟨hst.put 25 _ (by decide), by simpa [Act.put] using hsz, (ev 25 5 _ (by decide)).trans q5, (ev 25 4 _ (by decide)).trans q4, (ev 25 2 _ (by decide)).trans q2, ?_⟩
        simp only [ev 25 _ _ (by decide)]
        exact ⟨b, fun e => absurd ((h3 e).symm.trans hL) (by decide), h4, h5, h7, h8, h9, h10, f0, f1, fun _ => rfl, f3, f4, f5, f6, f7, f8, f10, kn, kr, kr2, ko, kq, kq2⟩
      case s3 =>
        rintro L a wr ⟨hst, hsz, q5, q4, q2, hF⟩ hL hdp K hK
        have ev := fun (g t : Nat) (v : Value) (hd : g < 32) => eval_put a g t v (by omega)
        have d2 : L 2 = true := hdp ⟨2, .data⟩ (by simp) rfl
        obtain ⟨b, h3, h4, h5, h7, h8, h9, h10, f0, f1, f2, f3, f4, f5, f6, f7, f8, f10, kn, kr, kr2, ko, kq, kq2⟩ := hF
        have t25 := f2 d2
        rw [eval_tmp, Array.getD_eq_getD_getElem?] at t25
        obtain ⟨hcn0, hcn1⟩ := kn.two
        refine step_value (v := .int .i64 V) (w' := wr) rfl (by go_simp) ?_
        refine hK _ _ ⟨hst.put 26 _ (by decide), by simpa [Act.put] using hsz, (ev 26 5 _ (by decide)).trans q5, (ev 26 4 _ (by decide)).trans q4, (ev 26 2 _ (by decide)).trans q2, ?_⟩
        simp only [ev 26 _ _ (by decide)]
        exact ⟨b, fun _ => d2, fun e => absurd ((h4 e).symm.trans hL) (by decide), h5, h7, h8, h9, h10, f0, f1, f2, fun _ => rfl, f4, f5, f6, f7, f8, f10, kn, kr, kr2, ko, kq, kq2⟩
      case s4 =>
        rintro L a wr ⟨hst, hsz, q5, q4, q2, hF⟩ hL hdp K hK
        have ev := fun (g t : Nat) (v : Value) (hd : g < 32) => eval_put a g t v (by omega)
        have d3 : L 3 = true := hdp ⟨3, .data⟩ (by simp) rfl
        obtain ⟨b, h3, h4, h5, h7, h8, h9, h10, f0, f1, f2, f3, f4, f5, f6, f7, f8, f10, kn, kr, kr2, ko, kq, kq2⟩ := hF
        have t26 := f3 d3
        rw [eval_tmp, Array.getD_eq_getD_getElem?] at t26
        refine step_value (v := .int .i64 (V + 2)) (w' := wr) rfl (by go_simp) ?_
        refine hK _ _ ⟨hst.put 27 _ (by decide), by simpa [Act.put] using hsz, (ev 27 5 _ (by decide)).trans q5, (ev 27 4 _ (by decide)).trans q4, (ev 27 2 _ (by decide)).trans q2, ?_⟩
        simp only [ev 27 _ _ (by decide)]
        exact ⟨b, h3, fun _ => d3, fun e => absurd ((h5 e).2.symm.trans hL) (by decide), h7, h8, h9, h10, f0, f1, f2, f3, fun _ => rfl, f5, f6, f7, f8, f10, kn, kr, kr2, ko, kq, kq2⟩
      case s5 =>
        rintro L a wr ⟨hst, hsz, q5, q4, q2, hF⟩ hL hdp K hK
        have ev := fun (g t : Nat) (v : Value) (hd : g < 32) => eval_put a g t v (by omega)
        have d1 : L 1 = true := hdp ⟨1, .data⟩ (by simp) rfl
        have d4 : L 4 = true := hdp ⟨4, .data⟩ (by simp) rfl
        obtain ⟨b, h3, h4, h5, h7, h8, h9, h10, f0, f1, f2, f3, f4, f5, f6, f7, f8, f10, kn, kr, kr2, ko, kq, kq2⟩ := hF
        have t24 := f1 d1
        have t27 := f4 d4
        have t24 := f1 d1
        have t27 := f4 d4
        rw [eval_tmp, Array.getD_eq_getD_getElem?] at t24 t27
        have hkq := kq hL
        refine step_enter (f := 36) (args := #[.pointer (some ⟨w.heap.size + 1, 0, none⟩), .int .i64 (V + 2)]) (w' := wr) rfl (by go_simp) ?_
        refine (pick_any (w.heap.size + 1) A bs c 3000 (V + 2) wr ⟨hkq, (HR.out.below b).more (by omega), HBY.out, hl⟩ (by omega) (by omega) (by omega)).mono ?_
        rintro e w9 ⟨z, hz, rfl, hc9, hg9⟩
        refine ⟨_, rfl, ?_⟩
        refine hK _ _ ⟨hst.put 28 _ (by decide), by simpa [Act.put] using hsz, (ev 28 5 _ (by decide)).trans q5, (ev 28 4 _ (by decide)).trans q4, (ev 28 2 _ (by decide)).trans q2, ?_⟩
        simp only [ev 28 _ _ (by decide)]
        exact ⟨b.trans (below_near hg9 (by omega) b.size), h3, h4, fun _ => ⟨d1, d4⟩, fun e => absurd ((h7 e).1.symm.trans hL) (by decide), fun e => absurd ((h8 e).1.symm.trans hL) (by decide), h9, h10, f0, f1, f2, f3, f4, fun _ => ⟨z, rfl, by omega⟩, f6, fun e => absurd ((h7 e).1.symm.trans hL) (by decide), fun e => absurd ((h8 e).1.symm.trans hL) (by decide), fun e => absurd ((h8 (h10 e)).1.symm.trans hL) (by decide), kn.grown hg9 (fun e => hnp (Option.some.inj e)), fun e => (kr e).grown hg9 (fun e => by have := Option.some.inj e; omega), fun e => (kr2 e).grown hg9 (fun e => by have := Option.some.inj e; omega), own_kept ko hg9 (by obtain ⟨a1, s1, h1, -⟩ := hkq; exact own_blk_ne ko h1 (by decide)), fun e => absurd ((upd_self L 5).symm.trans e) (by decide), fun _ _ => hc9.blk⟩
      case s6 =>
        rintro L a wr ⟨hst, hsz, q5, q4, q2, hF⟩ hL hdp K hK
        have ev := fun (g t : Nat) (v : Value) (hd : g < 32) => eval_put a g t v (by omega)
        obtain ⟨b, h3, h4, h5, h7, h8, h9, h10, f0, f1, f2, f3, f4, f5, f6, f7, f8, f10, kn, kr, kr2, ko, kq, kq2⟩ := hF
        have t4 := q4
        rw [eval_tmp, Array.getD_eq_getD_getElem?] at t4
        refine step_value (v := .pointer (some ⟨w.heap.size + 1, 0, none⟩)) (w' := wr) rfl (by go_simp) ?_
        refine hK _ _ ⟨hst.put 29 _ (by decide), by simpa [Act.put] using hsz, (ev 29 5 _ (by decide)).trans q5, (ev 29 4 _ (by decide)).trans q4, (ev 29 2 _ (by decide)).trans q2, ?_⟩
        simp only [ev 29 _ _ (by decide)]
        exact ⟨b, h3, h4, h5, fun e => absurd ((h7 e).2.symm.trans hL) (by decide), h8, h9, h10, f0, f1, f2, f3, f4, f5, fun _ => rfl, f7, f8, f10, kn, kr, kr2, ko, kq, kq2⟩
      case s7 =>
        rintro L a wr ⟨hst, hsz, q5, q4, q2, hF⟩ hL hdp K hK
        have ev := fun (g t : Nat) (v : Value) (hd : g < 32) => eval_put a g t v (by omega)
        have d5 : L 5 = true := hdp ⟨5, .chain⟩ (by simp) rfl
        have d6 : L 6 = true := hdp ⟨6, .data⟩ (by simp) rfl
        obtain ⟨b, h3, h4, h5, h7, h8, h9, h10, f0, f1, f2, f3, f4, f5, f6, f7, f8, f10, kn, kr, kr2, ko, kq, kq2⟩ := hF
        have t29 := f6 d6
        have t29 := f6 d6
        rw [eval_tmp, Array.getD_eq_getD_getElem?] at t29
        have hkq := kq2 d5 hL
        refine step_enter (f := 36) (args := #[.pointer (some ⟨w.heap.size + 1, 0, none⟩), .int .i64 2]) (w' := wr) rfl (by go_simp) ?_
        refine (pick_any (w.heap.size + 1) A bs c 3002 2 wr ⟨hkq, (HR.out.below b).more (by omega), HBY.out, hl⟩ (by omega) (by omega) (by omega)).mono ?_
        rintro e w9 ⟨z, hz, rfl, hc9, hg9⟩
        refine ⟨_, rfl, ?_⟩
        refine hK _ _ ⟨hst.put 30 _ (by decide), by simpa [Act.put] using hsz, (ev 30 5 _ (by decide)).trans q5, (ev 30 4 _ (by decide)).trans q4, (ev 30 2 _ (by decide)).trans q2, ?_⟩
        simp only [ev 30 _ _ (by decide)]
        exact ⟨b.trans (below_near hg9 (by omega) b.size), h3, h4, h5, fun _ => ⟨d5, d6⟩, fun e => absurd ((h8 e).2.symm.trans hL) (by decide), h9, h10, f0, f1, f2, f3, f4, f5, f6, fun _ => ⟨z, rfl, by omega⟩, fun e => absurd ((h8 e).2.symm.trans hL) (by decide), fun e => absurd ((h8 (h10 e)).2.symm.trans hL) (by decide), kn.grown hg9 (fun e => hnp (Option.some.inj e)), fun e => (kr e).grown hg9 (fun e => by have := Option.some.inj e; omega), fun e => (kr2 e).grown hg9 (fun e => by have := Option.some.inj e; omega), own_kept ko hg9 (by obtain ⟨a1, s1, h1, -⟩ := hkq; exact own_blk_ne ko h1 (by decide)), fun e => absurd (d5.symm.trans e) (by decide), fun _ e => absurd ((upd_self L 7).symm.trans e) (by decide)⟩
      case s8 =>
        rintro L a wr ⟨hst, hsz, q5, q4, q2, hF⟩ hL hdp K hK
        have ev := fun (g t : Nat) (v : Value) (hd : g < 32) => eval_put a g t v (by omega)
        have d5 : L 5 = true := hdp ⟨5, .data⟩ (by simp) rfl
        have d7 : L 7 = true := hdp ⟨7, .data⟩ (by simp) rfl
        obtain ⟨b, h3, h4, h5, h7, h8, h9, h10, f0, f1, f2, f3, f4, f5, f6, f7, f8, f10, kn, kr, kr2, ko, kq, kq2⟩ := hF
        obtain ⟨z, ez, hz⟩ := f5 d5
        obtain ⟨y, ey, hy⟩ := f7 d7
        have t28 := ez
        have t30 := ey
        rw [eval_tmp, Array.getD_eq_getD_getElem?] at t28 t30
        have hwz : IntKind.i64.wrap ((z : Int) - (y : Int)) = (z : Int) - (y : Int) := IntWalk.i64_in _ ⟨by omega, by omega⟩
        refine step_value (v := .int .i64 ((z : Int) - (y : Int))) (w' := wr) rfl (by go_simp) ?_
        refine hK _ _ ⟨hst.put 31 _ (by decide), by simpa [Act.put] using hsz, (ev 31 5 _ (by decide)).trans q5, (ev 31 4 _ (by decide)).trans q4, (ev 31 2 _ (by decide)).trans q2, ?_⟩
        simp only [ev 31 _ _ (by decide)]
        exact ⟨b, h3, h4, h5, h7, fun _ => ⟨d5, d7⟩, h9, fun e => absurd ((h10 e).symm.trans hL) (by decide), f0, f1, f2, f3, f4, f5, f6, f7, fun _ => ⟨_, rfl⟩, fun e => absurd ((h10 e).symm.trans hL) (by decide), kn, kr, kr2, ko, kq, kq2⟩
      case s9 =>
        rintro L a wr ⟨hst, hsz, q5, q4, q2, hF⟩ hL hdp K hK
        have ev := fun (g t : Nat) (v : Value) (hd : g < 32) => eval_put a g t v (by omega)
        have d0 : L 0 = true := hdp ⟨0, .data⟩ (by simp) rfl
        obtain ⟨b, h3, h4, h5, h7, h8, h9, h10, f0, f1, f2, f3, f4, f5, f6, f7, f8, f10, kn, kr, kr2, ko, kq, kq2⟩ := hF
        have t2 := q2
        have t23 := f0 d0
        have t23 := f0 d0
        rw [eval_tmp, Array.getD_eq_getD_getElem?] at t23 t2
        have hkb := kr hL
        have hfz0 := hkb.frozen 0
        have hfz1 := hkb.frozen 1
        obtain ⟨hcl0, hcl1⟩ := hkb.two
        have hlt := hkb.lt
        refine step_skip (w' := (wr.setCell ⟨w.heap.size, 0, none⟩ (.int .i64 V)).setCell ⟨w.heap.size, 1, none⟩ (.slice G es.length g)) rfl (by go_simp) ?_
        refine hK _ _ ⟨hst.put_none _, hsz, q5, q4, q2, ?_⟩
        exact ⟨Below.setCell (Below.setCell b (Nat.le_refl _) _) (Nat.le_refl _) _, h3, h4, h5, h7, h8, fun _ => d0, h10, f0, f1, f2, f3, f4, f5, f6, f7, f8, f10, (kn.far (by show _ ≠ w.heap.size; omega) _).far (by show _ ≠ w.heap.size; omega) _, fun e => absurd ((upd_self L 9).symm.trans e) (by decide), fun _ => by simpa using (hkb.set_ 0 (.int .i64 V)).set_ 1 (.slice G es.length g), own_setCell (own_setCell ko (own_blk_ne ko hkb (by decide)) _) (own_blk_ne ko hkb (by decide)) _, fun e => by obtain ⟨a1, s1, h1, h2⟩ := kq e; exact ⟨a1, s1, (h1.far (by show _ ≠ w.heap.size; omega) _).far (by show _ ≠ w.heap.size; omega) _, h2⟩, fun e e2 => by obtain ⟨a1, s1, h1, h2⟩ := kq2 e e2; exact ⟨a1, s1, (h1.far (by show _ ≠ w.heap.size; omega) _).far (by show _ ≠ w.heap.size; omega) _, h2⟩⟩
      case s10 =>
        rintro L a wr ⟨hst, hsz, q5, q4, q2, hF⟩ hL hdp K hK
        have ev := fun (g t : Nat) (v : Value) (hd : g < 32) => eval_put a g t v (by omega)
        have d8 : L 8 = true := hdp ⟨8, .data⟩ (by simp) rfl
        obtain ⟨b, h3, h4, h5, h7, h8, h9, h10, f0, f1, f2, f3, f4, f5, f6, f7, f8, f10, kn, kr, kr2, ko, kq, kq2⟩ := hF
        obtain ⟨z, ez⟩ := f8 d8
        refine step_value (v := a.eval (.tmp 31)) (w' := wr) rfl (by go_simp) ?_
        refine hK _ _ ⟨hst.put 3 _ (by decide), by simpa [Act.put] using hsz, (ev 3 5 _ (by decide)).trans q5, (ev 3 4 _ (by decide)).trans q4, (ev 3 2 _ (by decide)).trans q2, ?_⟩
        simp only [ev 3 _ _ (by decide)]
        exact ⟨b, h3, h4, h5, h7, h8, h9, fun _ => d8, f0, f1, f2, f3, f4, f5, f6, f7, f8, fun _ => ⟨z, ez⟩, kn, kr, kr2, ko, kq, kq2⟩
end Go.Proofs.Ytkhfilkikpiepaa
