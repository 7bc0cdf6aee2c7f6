/- Walks of exact laws, printed by lawgen.py. -/
import Derived.Test.YtkhfilkikpiepaaCat
namespace Go.Proofs.Ytkhfilkikpiepaa
open Go.RowKit
set_option linter.unusedVariables false
def TwoFnExactConcatNetworksW (wq : World) (W0 : Int) (A0 : Option Addr) (z0 : List (Int × Int)) (c0 : Nat) (W1 : Int) (A1 : Option Addr) (z1 : List (Int × Int)) (c1 : Nat) (L : Nat → Bool) (wr : World) (v0 v1 v2 v3 v4 v5 v6 v7 v8 v10 : Value) : Prop :=
  (Below wq.heap.size wq wr) ∧
  (L 1 = true → L 0 = true) ∧
  (L 3 = true → L 2 = true) ∧
  (L 4 = true → L 1 = true ∧ L 3 = true) ∧
  (L 5 = true → L 4 = true) ∧
  (L 6 = true → L 5 = true) ∧
  (L 7 = true → L 5 = true) ∧
  (L 9 = true → L 8 = true ∧ L 6 = true) ∧
  (L 10 = true → L 7 = true) ∧
  (L 0 = true → v0 = .agg #[.int .i64 W0, .slice A0 z0.length c0]) ∧
  (L 1 = true → ∃ g : Nat, v1 = .agg #[.int .i64 W0, .slice (some ⟨g, 0, none⟩) z0.length z0.length] ∧ wr.ownsRow wq.heap.size 54 2 (.slice (some ⟨g, 0, none⟩) z0.length z0.length) z0.length (cmps z0)) ∧
  (L 2 = true → v2 = .agg #[.int .i64 W1, .slice A1 z1.length c1]) ∧
  (L 3 = true → ∃ g : Nat, v3 = .agg #[.int .i64 W1, .slice (some ⟨g, 0, none⟩) z1.length z1.length] ∧ wr.ownsRow wq.heap.size 54 2 (.slice (some ⟨g, 0, none⟩) z1.length z1.length) z1.length (cmps z1)) ∧
  (L 4 = true → ∃ (G : Option Addr) (g : Nat), v4 = .tuple #[.agg #[.int .i64 (ccW W0 W1 z0 z1), .slice G (ccV W0 W1 z0 z1).length g], .bool (ccOk W0 W1 z0 z1)] ∧ wr.ownsRow wq.heap.size 54 2 (.slice G (ccV W0 W1 z0 z1).length g) (ccV W0 W1 z0 z1).length (cmps (ccV W0 W1 z0 z1))) ∧
  (L 5 = true → ∃ (G : Option Addr) (g : Nat), v5 = .tuple #[.agg #[.int .i64 (ccW W0 W1 z0 z1), .slice G (ccV W0 W1 z0 z1).length g], .bool (ccOk W0 W1 z0 z1)] ∧ wr.ownsRow wq.heap.size 54 2 (.slice G (ccV W0 W1 z0 z1).length g) (ccV W0 W1 z0 z1).length (cmps (ccV W0 W1 z0 z1))) ∧
  (L 6 = true → ∃ (G : Option Addr) (g : Nat), v6 = .agg #[.int .i64 (ccW W0 W1 z0 z1), .slice G (ccV W0 W1 z0 z1).length g] ∧ wr.ownsRow wq.heap.size 54 2 (.slice G (ccV W0 W1 z0 z1).length g) (ccV W0 W1 z0 z1).length (cmps (ccV W0 W1 z0 z1))) ∧
  (L 7 = true → v7 = .bool (ccOk W0 W1 z0 z1)) ∧
  (L 8 = true → ∃ g : Nat, v8 = .pointer (some ⟨g, 0, none⟩) ∧ wq.heap.size ≤ g ∧ (L 9 = false → Blk wr g 28 #[.int .i64 0, .slice none 0 0]) ∧ (L 9 = true → ∃ (G : Option Addr) (c : Nat), Blk wr g 28 #[.int .i64 (ccW W0 W1 z0 z1), .slice G (ccV W0 W1 z0 z1).length c] ∧ wr.ownsRow wq.heap.size 54 2 (.slice G (ccV W0 W1 z0 z1).length c) (ccV W0 W1 z0 z1).length (cmps (ccV W0 W1 z0 z1)))) ∧
  (L 10 = true → v10 = .bool (ccOk W0 W1 z0 z1))
def TwoFnExactConcatNetworksH (wq : World) (W0 : Int) (A0 : Option Addr) (z0 : List (Int × Int)) (c0 : Nat) (W1 : Int) (A1 : Option Addr) (z1 : List (Int × Int)) (c1 : Nat) (L : Nat → Bool) (wr : World) (v0 v1 v2 v3 v4 v5 v6 v7 v8 v10 : Value) : Prop :=
  (Below wq.heap.size wq wr) ∧
  (L 1 = true → L 0 = true) ∧
  (L 3 = true → L 2 = true) ∧
  (L 4 = true → L 1 = true ∧ L 3 = true) ∧
  (L 5 = true → L 4 = true) ∧
  (L 6 = true → L 5 = true) ∧
  (L 7 = true → L 5 = true) ∧
  (L 9 = true → L 8 = true ∧ L 6 = true) ∧
  (L 10 = true → L 7 = true) ∧
  (L 0 = true → v0 = .agg #[.int .i64 W0, .slice A0 z0.length c0]) ∧
  (L 1 = true → ∃ g : Nat, v1 = .agg #[.int .i64 W0, .slice (some ⟨g, 0, none⟩) z0.length z0.length] ∧ wr.ownsRow wq.heap.size 54 2 (.slice (some ⟨g, 0, none⟩) z0.length z0.length) z0.length (cmps z0)) ∧
  (L 2 = true → v2 = .agg #[.int .i64 W1, .slice A1 z1.length c1]) ∧
  (L 3 = true → ∃ g : Nat, v3 = .agg #[.int .i64 W1, .slice (some ⟨g, 0, none⟩) z1.length z1.length] ∧ wr.ownsRow wq.heap.size 54 2 (.slice (some ⟨g, 0, none⟩) z1.length z1.length) z1.length (cmps z1)) ∧
  (L 4 = true → ∃ (G : Option Addr) (g : Nat), v4 = .tuple #[.agg #[.int .i64 (ccW W0 W1 z0 z1), .slice G (ccV W0 W1 z0 z1).length g], .bool (ccOk W0 W1 z0 z1)] ∧ wr.ownsRow wq.heap.size 54 2 (.slice G (ccV W0 W1 z0 z1).length g) (ccV W0 W1 z0 z1).length (cmps (ccV W0 W1 z0 z1))) ∧
  (L 5 = true → ∃ (G : Option Addr) (g : Nat), v5 = .tuple #[.agg #[.int .i64 (ccW W0 W1 z0 z1), .slice G (ccV W0 W1 z0 z1).length g], .bool (ccOk W0 W1 z0 z1)] ∧ wr.ownsRow wq.heap.size 54 2 (.slice G (ccV W0 W1 z0 z1).length g) (ccV W0 W1 z0 z1).length (cmps (ccV W0 W1 z0 z1))) ∧
  (L 6 = true → ∃ (G : Option Addr) (g : Nat), v6 = .agg #[.int .i64 (ccW W0 W1 z0 z1), .slice G (ccV W0 W1 z0 z1).length g] ∧ wr.ownsRow wq.heap.size 54 2 (.slice G (ccV W0 W1 z0 z1).length g) (ccV W0 W1 z0 z1).length (cmps (ccV W0 W1 z0 z1))) ∧
  (L 7 = true → v7 = .bool (ccOk W0 W1 z0 z1)) ∧
  (L 8 = true → ∃ g : Nat, v8 = .pointer (some ⟨g, 0, none⟩) ∧ wq.heap.size ≤ g ∧ (L 9 = false → Blk wr g 28 #[.int .i64 0, .slice none 0 0]) ∧ (L 9 = true → ∃ (G : Option Addr) (c : Nat), Blk wr g 28 #[.int .i64 (ccW W0 W1 z0 z1), .slice G (ccV W0 W1 z0 z1).length c] ∧ wr.ownsRow wq.heap.size 54 2 (.slice G (ccV W0 W1 z0 z1).length c) (ccV W0 W1 z0 z1).length (cmps (ccV W0 W1 z0 z1)))) ∧
  (L 10 = true → v10 = .bool (ccOk W0 W1 z0 z1))
set_option maxRecDepth 100000 in
set_option maxHeartbeats 6400000 in
theorem FnExactConcatNetworks_any (W0 : Int) (A0 : Option Addr) (z0 : List (Int × Int)) (c0 : Nat) (W1 : Int) (A1 : Option Addr) (z1 : List (Int × Int)) (c1 : Nat) (w : World) (hx0 : Reads w w.heap.size 2 A0 z0.length (cmps z0)) (hm0 : z0.length ≤ maxLen) (hx1 : Reads w w.heap.size 2 A1 z1.length (cmps z1)) (hm1 : z1.length ≤ maxLen) :
    Calls Try.prog 3 #[.agg #[.int .i64 W0, .slice A0 z0.length c0], .agg #[.int .i64 W1, .slice A1 z1.length c1]] w fun e w' => e = .returned (.bool true) ∧ Below w.heap.size w w' := by
  have e1 : ∀ x : Int, (x != x) = false := by simp
  have e2 : ∀ x : Bool, (x != x) = false := by simp
  rcases szv_cases z0.length 1048576 (by omega) (by omega) with hz0 | ⟨hl0, hze0, hzp0⟩
  case inl =>
    go_enter Try.func3, Try.ntmps3
    go_wp2_with fail
    refine (szNetwork_any W0 A0 z0.length c0 1048576 _ hm0 (by omega) (by omega)).mono ?_
    rintro e w1 ⟨rfl, b1⟩
    obtain ⟨B1, k1, k1'⟩ := step_box2 b1
    go_wp2_with fail
    go_ret
    exact ⟨rfl, B1⟩
  have hzn0 : ¬ (szv z0.length 1048576) < 0 := by omega
  have HZ0 := Lib.hid hze0; clear hze0
  have hzu0 : (szv z0.length 1048576) ≤ 1048576 := by have := HZ0.out; omega
  rcases szv_cases z1.length (szv z0.length 1048576) (by omega) (by omega) with hz1 | ⟨hl1, hze1, hzp1⟩
  case inl =>
    go_enter Try.func3, Try.ntmps3
    go_wp2_with fail
    refine (szNetwork_any W0 A0 z0.length c0 1048576 _ hm0 (by omega) (by omega)).mono ?_
    rintro e w2 ⟨rfl, b2⟩
    obtain ⟨B2, k2, k2'⟩ := step_box2 b2
    have q3 := (k2).two
    have q3l := (k2).lt
    have q4 := (k2').two
    have q4l := (k2').lt
    go_wp2_with fail
    clear q3 q3l q4 q4l
    refine (szNetwork_any W1 A1 z1.length c1 (szv z0.length 1048576) _ hm1 (by omega) (by omega)).mono ?_
    rintro e w5 ⟨rfl, b5⟩
    have c5_w := bthen B2 b5
    go_wp2_with fail
    go_ret
    exact ⟨rfl, c5_w⟩
  have hzn1 : ¬ (szv z1.length (szv z0.length 1048576)) < 0 := by omega
  have HZ1 := Lib.hid hze1; clear hze1
  have hzu1 : (szv z1.length (szv z0.length 1048576)) ≤ 1048576 := by have := HZ1.out; omega
  have hlenA := cc_len W0 W1 z0 z1
  go_enter Try.func3, Try.ntmps3
  go_wp2_with fail
  refine (szNetwork_any W0 A0 z0.length c0 1048576 _ hm0 (by omega) (by omega)).mono ?_
  rintro e w6 ⟨rfl, b6⟩
  obtain ⟨B6, k6, k6'⟩ := step_box2 b6
  have q7 := (k6).two
  have q7l := (k6).lt
  have q8 := (k6').two
  have q8l := (k6').lt
  go_wp2_with fail
  clear q7 q7l q8 q8l
  refine (szNetwork_any W1 A1 z1.length c1 (szv z0.length 1048576) _ hm1 (by omega) (by omega)).mono ?_
  rintro e w9 ⟨rfl, b9⟩
  have c9_w := bthen B6 b9
  have q11 := ((Blk.below_ k6 b9)).two
  have q11l := ((Blk.below_ k6 b9)).lt
  have q12 := ((Blk.below_ k6' b9)).two
  have q12l := ((Blk.below_ k6' b9)).lt
  go_upto_region 8 with fail
  clear q11 q11l q12 q12l
  obtain ⟨q10w, hq10w⟩ : ∃ x, World.drew w9 = x := ⟨_, rfl⟩
  have hAq0 : Blk q10w w.heap.size 24 #[.int .i64 W0, .slice A0 z0.length c0] := by rw [← hq10w]; exact (show Blk w9 _ _ _ from (Blk.below_ k6 b9))
  have hxq0 : Reads q10w q10w.heap.size 2 A0 z0.length (cmps z0) := by rw [← hq10w]; exact (show Reads w9 w9.heap.size _ _ _ _ from (Reads.more (Reads.below hx0 c9_w) (Below.size c9_w)))
  have hAq1 : Blk q10w (w.heap.size + 1) 24 #[.int .i64 W1, .slice A1 z1.length c1] := by rw [← hq10w]; exact (show Blk w9 _ _ _ from (Blk.below_ k6' b9))
  have hxq1 : Reads q10w q10w.heap.size 2 A1 z1.length (cmps z1) := by rw [← hq10w]; exact (show Reads w9 w9.heap.size _ _ _ _ from (Reads.more (Reads.below hx1 c9_w) (Below.size c9_w)))
  refine wp_region_inv' (fun a0 L a wr => St a0 a [28, 29, 30, 31, 32, 27, 33, 34, 6, 7] ∧ 118 < a.tmps.size ∧ a.eval (.tmp 2) = .pointer (some ⟨w.heap.size, 0, none⟩) ∧ a.eval (.tmp 3) = .pointer (some ⟨w.heap.size + 1, 0, none⟩) ∧ TwoFnExactConcatNetworksW q10w W0 A0 z0 c0 W1 A1 z1 c1 L wr (a.eval (.tmp 28)) (a.eval (.tmp 29)) (a.eval (.tmp 30)) (a.eval (.tmp 31)) (a.eval (.tmp 32)) (a.eval (.tmp 27)) (a.eval (.tmp 33)) (a.eval (.tmp 34)) (a.eval (.tmp 6)) (a.eval (.tmp 7))) (by kernel_rfl) (by kernel_rfl) ?start ?steps ?ends
  case start =>
    subst hq10w
    refine ⟨St.refl _ _, Nat.le_of_ble_eq_true rfl, rfl, rfl, Below.refl _ _, ?_, ?_, ?_, ?_, ?_, ?_, ?_, ?_, ?_, ?_, ?_, ?_, ?_, ?_, ?_, ?_, ?_, ?_⟩
    all_goals (intro e; first | (cases e; done) | rfl | assumption)
  case steps =>
    refine ⟨?s0, ?s1, ?s2, ?s3, ?s4, ?s5, ?s6, ?s7, ?s8, ?s9, ?s10, trivial⟩
    case s0 =>
      rintro L a wr ⟨hst, hsz, q2, q3, hF⟩ hL hdp K hK
      have ev := fun (d t : Nat) (v : Value) (hd : d < 119) => eval_put a d t v (by omega)
      obtain ⟨b, h1, h3, h4, h5, h6, h7, h9, h10, f0, f1, f2, f3, f4, f5, f6, f7, f8, f10⟩ := hF
      have t2 := q2
      rw [eval_tmp, Array.getD_eq_getD_getElem?] at t2
      obtain ⟨hcn0, hcn1⟩ := (hAq0.below b hAq0.lt).two
      refine step_value (v := .agg #[.int .i64 W0, .slice A0 z0.length c0]) (w' := wr) rfl (by go_simp) ?_
      refine hK _ _ ⟨hst.put 28 _ (by decide), by simpa [Act.put] using hsz, (ev 28 2 _ (by decide)).trans q2, (ev 28 3 _ (by decide)).trans q3, ?_⟩
      simp only [ev 28 _ _ (by decide)]
      exact ⟨b, fun e => absurd ((h1 e).symm.trans hL) (by decide), h3, h4, h5, h6, h7, h9, h10, fun _ => rfl, f1, f2, f3, f4, f5, f6, f7, f8, f10⟩
    case s1 =>
      rintro L a wr ⟨hst, hsz, q2, q3, hF⟩ hL hdp K hK
      have ev := fun (d t : Nat) (v : Value) (hd : d < 119) => eval_put a d t v (by omega)
      have d0 : L 0 = true := hdp ⟨0, .data⟩ (by simp) rfl
      obtain ⟨b, h1, h3, h4, h5, h6, h7, h9, h10, f0, f1, f2, f3, f4, f5, f6, f7, f8, f10⟩ := hF
      have t28 := f0 d0
      have t28 := f0 d0
      rw [eval_tmp, Array.getD_eq_getD_getElem?] at t28
      refine step_enter (f := 7) (args := #[.agg #[.int .i64 W0, .slice A0 z0.length c0]]) (w' := wr) rfl (by go_simp) ?_
      refine (toNetwork_any W0 A0 z0 c0 wr ((hxq0.below b).more b.size) (by omega)).mono ?_
      rintro e w9 ⟨gg, rfl, o9, b9⟩
      refine ⟨_, rfl, ?_⟩
      refine hK _ _ ⟨hst.put 29 _ (by decide), by simpa [Act.put] using hsz, (ev 29 2 _ (by decide)).trans q2, (ev 29 3 _ (by decide)).trans q3, ?_⟩
      simp only [ev 29 _ _ (by decide)]
      exact ⟨b.trans (b9.mono b.size), fun _ => d0, h3, fun e => absurd ((h4 e).1.symm.trans hL) (by decide), h5, h6, h7, h9, h10, f0, fun _ => ⟨gg, rfl, own_base o9 b.size⟩, f2, fun e => (f3 e).imp fun g h => ⟨h.1, own_below (h.2) b9 (Nat.le_refl _)⟩, fun e => (f4 e).imp fun G h => h.imp fun g h => ⟨h.1, own_below (h.2) b9 (Nat.le_refl _)⟩, fun e => (f5 e).imp fun G h => h.imp fun g h => ⟨h.1, own_below (h.2) b9 (Nat.le_refl _)⟩, fun e => (f6 e).imp fun G h => h.imp fun g h => ⟨h.1, own_below (h.2) b9 (Nat.le_refl _)⟩, f7, fun e => (f8 e).imp fun g h => ⟨h.1, h.2.1, fun e2 => ((h.2.2.1 e2)).below_ b9, fun e2 => (h.2.2.2 e2).imp fun G h => h.imp fun c h => ⟨(h.1).below_ b9, own_below (h.2) b9 (Nat.le_refl _)⟩⟩, f10⟩
    case s2 =>
      rintro L a wr ⟨hst, hsz, q2, q3, hF⟩ hL hdp K hK
      have ev := fun (d t : Nat) (v : Value) (hd : d < 119) => eval_put a d t v (by omega)
      obtain ⟨b, h1, h3, h4, h5, h6, h7, h9, h10, f0, f1, f2, f3, f4, f5, f6, f7, f8, f10⟩ := hF
      have t3 := q3
      rw [eval_tmp, Array.getD_eq_getD_getElem?] at t3
      obtain ⟨hcn0, hcn1⟩ := (hAq1.below b hAq1.lt).two
      refine step_value (v := .agg #[.int .i64 W1, .slice A1 z1.length c1]) (w' := wr) rfl (by go_simp) ?_
      refine hK _ _ ⟨hst.put 30 _ (by decide), by simpa [Act.put] using hsz, (ev 30 2 _ (by decide)).trans q2, (ev 30 3 _ (by decide)).trans q3, ?_⟩
      simp only [ev 30 _ _ (by decide)]
      exact ⟨b, h1, fun e => absurd ((h3 e).symm.trans hL) (by decide), h4, h5, h6, h7, h9, h10, f0, f1, fun _ => rfl, f3, f4, f5, f6, f7, f8, f10⟩
    case s3 =>
      rintro L a wr ⟨hst, hsz, q2, q3, hF⟩ hL hdp K hK
      have ev := fun (d t : Nat) (v : Value) (hd : d < 119) => eval_put a d t v (by omega)
      have d2 : L 2 = true := hdp ⟨2, .data⟩ (by simp) rfl
      obtain ⟨b, h1, h3, h4, h5, h6, h7, h9, h10, f0, f1, f2, f3, f4, f5, f6, f7, f8, f10⟩ := hF
      have t30 := f2 d2
      have t30 := f2 d2
      rw [eval_tmp, Array.getD_eq_getD_getElem?] at t30
      refine step_enter (f := 7) (args := #[.agg #[.int .i64 W1, .slice A1 z1.length c1]]) (w' := wr) rfl (by go_simp) ?_
      refine (toNetwork_any W1 A1 z1 c1 wr ((hxq1.below b).more b.size) (by omega)).mono ?_
      rintro e w9 ⟨gg, rfl, o9, b9⟩
      refine ⟨_, rfl, ?_⟩
      refine hK _ _ ⟨hst.put 31 _ (by decide), by simpa [Act.put] using hsz, (ev 31 2 _ (by decide)).trans q2, (ev 31 3 _ (by decide)).trans q3, ?_⟩
      simp only [ev 31 _ _ (by decide)]
      exact ⟨b.trans (b9.mono b.size), h1, fun _ => d2, fun e => absurd ((h4 e).2.symm.trans hL) (by decide), h5, h6, h7, h9, h10, f0, fun e => (f1 e).imp fun g h => ⟨h.1, own_below (h.2) b9 (Nat.le_refl _)⟩, f2, fun _ => ⟨gg, rfl, own_base o9 b.size⟩, fun e => (f4 e).imp fun G h => h.imp fun g h => ⟨h.1, own_below (h.2) b9 (Nat.le_refl _)⟩, fun e => (f5 e).imp fun G h => h.imp fun g h => ⟨h.1, own_below (h.2) b9 (Nat.le_refl _)⟩, fun e => (f6 e).imp fun G h => h.imp fun g h => ⟨h.1, own_below (h.2) b9 (Nat.le_refl _)⟩, f7, fun e => (f8 e).imp fun g h => ⟨h.1, h.2.1, fun e2 => ((h.2.2.1 e2)).below_ b9, fun e2 => (h.2.2.2 e2).imp fun G h => h.imp fun c h => ⟨(h.1).below_ b9, own_below (h.2) b9 (Nat.le_refl _)⟩⟩, f10⟩
    case s4 =>
      rintro L a wr ⟨hst, hsz, q2, q3, hF⟩ hL hdp K hK
      have ev := fun (d t : Nat) (v : Value) (hd : d < 119) => eval_put a d t v (by omega)
      have d1 : L 1 = true := hdp ⟨1, .data⟩ (by simp) rfl
      have d3 : L 3 = true := hdp ⟨3, .data⟩ (by simp) rfl
      obtain ⟨b, h1, h3, h4, h5, h6, h7, h9, h10, f0, f1, f2, f3, f4, f5, f6, f7, f8, f10⟩ := hF
      obtain ⟨g1, y1, o1⟩ := f1 d1
      obtain ⟨g3, y3, o3⟩ := f3 d3
      have t29 := y1
      have t31 := y3
      rw [eval_tmp, Array.getD_eq_getD_getElem?] at t29 t31
      refine step_enter (f := 6) (args := #[.agg #[.int .i64 W0, .slice (some ⟨g1, 0, none⟩) z0.length z0.length], .agg #[.int .i64 W1, .slice (some ⟨g3, 0, none⟩) z1.length z1.length]]) (w' := wr) rfl (by go_simp) ?_
      refine (sConcatNetworks_any W0 (some ⟨g1, 0, none⟩) z0 z0.length W1 (some ⟨g3, 0, none⟩) z1 z1.length wr (Reads.of_own o1) (by omega) (Reads.of_own o3) (by omega)).mono ?_
      rintro e w9 ⟨GG, gg, rfl, o9, b9⟩
      refine ⟨_, rfl, ?_⟩
      refine hK _ _ ⟨hst.put 32 _ (by decide), by simpa [Act.put] using hsz, (ev 32 2 _ (by decide)).trans q2, (ev 32 3 _ (by decide)).trans q3, ?_⟩
      simp only [ev 32 _ _ (by decide)]
      exact ⟨b.trans (b9.mono b.size), h1, h3, fun _ => ⟨d1, d3⟩, fun e => absurd ((h5 e).symm.trans hL) (by decide), h6, h7, h9, h10, f0, fun e => (f1 e).imp fun g h => ⟨h.1, own_below (h.2) b9 (Nat.le_refl _)⟩, f2, fun e => (f3 e).imp fun g h => ⟨h.1, own_below (h.2) b9 (Nat.le_refl _)⟩, fun _ => ⟨GG, gg, rfl, own_base o9 b.size⟩, fun e => (f5 e).imp fun G h => h.imp fun g h => ⟨h.1, own_below (h.2) b9 (Nat.le_refl _)⟩, fun e => (f6 e).imp fun G h => h.imp fun g h => ⟨h.1, own_below (h.2) b9 (Nat.le_refl _)⟩, f7, fun e => (f8 e).imp fun g h => ⟨h.1, h.2.1, fun e2 => ((h.2.2.1 e2)).below_ b9, fun e2 => (h.2.2.2 e2).imp fun G h => h.imp fun c h => ⟨(h.1).below_ b9, own_below (h.2) b9 (Nat.le_refl _)⟩⟩, f10⟩
    case s5 =>
      rintro L a wr ⟨hst, hsz, q2, q3, hF⟩ hL hdp K hK
      have ev := fun (d t : Nat) (v : Value) (hd : d < 119) => eval_put a d t v (by omega)
      have d4 : L 4 = true := hdp ⟨4, .data⟩ (by simp) rfl
      obtain ⟨b, h1, h3, h4, h5, h6, h7, h9, h10, f0, f1, f2, f3, f4, f5, f6, f7, f8, f10⟩ := hF
      obtain ⟨G, g, y4, o4⟩ := f4 d4
      have t32 := y4
      rw [eval_tmp, Array.getD_eq_getD_getElem?] at t32
      refine step_value (v := .tuple #[.agg #[.int .i64 (ccW W0 W1 z0 z1), .slice G (ccV W0 W1 z0 z1).length g], .bool (ccOk W0 W1 z0 z1)]) (w' := wr) rfl (by go_simp) ?_
      refine hK _ _ ⟨hst.put 27 _ (by decide), by simpa [Act.put] using hsz, (ev 27 2 _ (by decide)).trans q2, (ev 27 3 _ (by decide)).trans q3, ?_⟩
      simp only [ev 27 _ _ (by decide)]
      exact ⟨b, h1, h3, h4, fun _ => d4, fun e => absurd ((h6 e).symm.trans hL) (by decide), fun e => absurd ((h7 e).symm.trans hL) (by decide), h9, h10, f0, f1, f2, f3, f4, fun _ => ⟨G, g, rfl, o4⟩, f6, f7, f8, f10⟩
    case s6 =>
      rintro L a wr ⟨hst, hsz, q2, q3, hF⟩ hL hdp K hK
      have ev := fun (d t : Nat) (v : Value) (hd : d < 119) => eval_put a d t v (by omega)
      have d5 : L 5 = true := hdp ⟨5, .data⟩ (by simp) rfl
      obtain ⟨b, h1, h3, h4, h5, h6, h7, h9, h10, f0, f1, f2, f3, f4, f5, f6, f7, f8, f10⟩ := hF
      obtain ⟨G, g, y5, o5⟩ := f5 d5
      have t27 := y5
      rw [eval_tmp, Array.getD_eq_getD_getElem?] at t27
      refine step_value (v := .agg #[.int .i64 (ccW W0 W1 z0 z1), .slice G (ccV W0 W1 z0 z1).length g]) (w' := wr) rfl (by go_simp) ?_
      refine hK _ _ ⟨hst.put 33 _ (by decide), by simpa [Act.put] using hsz, (ev 33 2 _ (by decide)).trans q2, (ev 33 3 _ (by decide)).trans q3, ?_⟩
      simp only [ev 33 _ _ (by decide)]
      exact ⟨b, h1, h3, h4, h5, fun _ => d5, h7, fun e => absurd ((h9 e).2.symm.trans hL) (by decide), h10, f0, f1, f2, f3, f4, f5, fun _ => ⟨G, g, rfl, o5⟩, f7, f8, f10⟩
    case s7 =>
      rintro L a wr ⟨hst, hsz, q2, q3, hF⟩ hL hdp K hK
      have ev := fun (d t : Nat) (v : Value) (hd : d < 119) => eval_put a d t v (by omega)
      have d5 : L 5 = true := hdp ⟨5, .data⟩ (by simp) rfl
      obtain ⟨b, h1, h3, h4, h5, h6, h7, h9, h10, f0, f1, f2, f3, f4, f5, f6, f7, f8, f10⟩ := hF
      obtain ⟨G, g, y5, o5⟩ := f5 d5
      have t27 := y5
      rw [eval_tmp, Array.getD_eq_getD_getElem?] at t27
      refine step_value (v := .bool (ccOk W0 W1 z0 z1)) (w' := wr) rfl (by go_simp) ?_
      refine hK _ _ ⟨hst.put 34 _ (by decide), by simpa [Act.put] using hsz, (ev 34 2 _ (by decide)).trans q2, (ev 34 3 _ (by decide)).trans q3, ?_⟩
      simp only [ev 34 _ _ (by decide)]
      exact ⟨b, h1, h3, h4, h5, h6, fun _ => d5, h9, fun e => absurd ((h10 e).symm.trans hL) (by decide), f0, f1, f2, f3, f4, f5, f6, fun _ => rfl, f8, f10⟩
    case s8 =>
      rintro L a wr ⟨hst, hsz, q2, q3, hF⟩ hL hdp K hK
      have ev := fun (d t : Nat) (v : Value) (hd : d < 119) => eval_put a d t v (by omega)
      obtain ⟨b, h1, h3, h4, h5, h6, h7, h9, h10, f0, f1, f2, f3, f4, f5, f6, f7, f8, f10⟩ := hF
      refine step_value (v := .pointer (some ⟨wr.heap.size, 0, none⟩)) (w' := wr.alloc (.cells #[.int .i64 0, .slice none 0 0] 28)) rfl (by go_simp) ?_
      refine hK _ _ ⟨hst.put 6 _ (by decide), by simpa [Act.put] using hsz, (ev 6 2 _ (by decide)).trans q2, (ev 6 3 _ (by decide)).trans q3, ?_⟩
      simp only [ev 6 _ _ (by decide)]
      exact ⟨alloc_ b _, h1, h3, h4, h5, h6, h7, fun e => absurd ((h9 e).1.symm.trans hL) (by decide), h10, f0, fun e => (f1 e).imp fun g h => ⟨h.1, (h.2).alloc _⟩, f2, fun e => (f3 e).imp fun g h => ⟨h.1, (h.2).alloc _⟩, fun e => (f4 e).imp fun G h => h.imp fun g h => ⟨h.1, (h.2).alloc _⟩, fun e => (f5 e).imp fun G h => h.imp fun g h => ⟨h.1, (h.2).alloc _⟩, fun e => (f6 e).imp fun G h => h.imp fun g h => ⟨h.1, (h.2).alloc _⟩, f7, fun _ => ⟨wr.heap.size, rfl, b.size, fun _ => Blk.new _ _ _, fun e2 => absurd ((h9 e2).1.symm.trans hL) (by decide)⟩, f10⟩
    case s9 =>
      rintro L a wr ⟨hst, hsz, q2, q3, hF⟩ hL hdp K hK
      have ev := fun (d t : Nat) (v : Value) (hd : d < 119) => eval_put a d t v (by omega)
      have d8 : L 8 = true := hdp ⟨8, .data⟩ (by simp) rfl
      have d6 : L 6 = true := hdp ⟨6, .data⟩ (by simp) rfl
      obtain ⟨b, h1, h3, h4, h5, h6, h7, h9, h10, f0, f1, f2, f3, f4, f5, f6, f7, f8, f10⟩ := hF
      obtain ⟨g8, y8, hg8, hz8, -⟩ := f8 d8
      obtain ⟨G, g, y6, o6⟩ := f6 d6
      have t6 := y8
      have t33 := y6
      rw [eval_tmp, Array.getD_eq_getD_getElem?] at t6 t33
      have hkb := hz8 hL
      have hfz0 := hkb.frozen 0
      have hfz1 := hkb.frozen 1
      obtain ⟨hcl0, hcl1⟩ := hkb.two
      have hlt := hkb.lt
      refine step_skip (w' := (wr.setCell ⟨g8, 0, none⟩ (.int .i64 (ccW W0 W1 z0 z1))).setCell ⟨g8, 1, none⟩ (.slice G (ccV W0 W1 z0 z1).length g)) rfl (by go_simp) ?_
      refine hK _ _ ⟨hst.put_none _, hsz, q2, q3, ?_⟩
      exact ⟨Below.setCell (Below.setCell b hg8 _) hg8 _, h1, h3, h4, h5, h6, h7, fun _ => ⟨d8, d6⟩, h10, f0, fun e => (f1 e).imp fun g h => ⟨h.1, own_setCell (own_setCell (h.2) (own_blk_ne (h.2) hkb (by decide)) _) (own_blk_ne (h.2) hkb (by decide)) _⟩, f2, fun e => (f3 e).imp fun g h => ⟨h.1, own_setCell (own_setCell (h.2) (own_blk_ne (h.2) hkb (by decide)) _) (own_blk_ne (h.2) hkb (by decide)) _⟩, fun e => (f4 e).imp fun G h => h.imp fun g h => ⟨h.1, own_setCell (own_setCell (h.2) (own_blk_ne (h.2) hkb (by decide)) _) (own_blk_ne (h.2) hkb (by decide)) _⟩, fun e => (f5 e).imp fun G h => h.imp fun g h => ⟨h.1, own_setCell (own_setCell (h.2) (own_blk_ne (h.2) hkb (by decide)) _) (own_blk_ne (h.2) hkb (by decide)) _⟩, fun e => (f6 e).imp fun G h => h.imp fun g h => ⟨h.1, own_setCell (own_setCell (h.2) (own_blk_ne (h.2) hkb (by decide)) _) (own_blk_ne (h.2) hkb (by decide)) _⟩, f7, fun _ => ⟨g8, y8, hg8, fun e => absurd ((upd_self L 9).symm.trans e) (by decide), fun _ => ⟨G, g, by simpa using (hkb.set_ 0 (.int .i64 (ccW W0 W1 z0 z1))).set_ 1 (.slice G (ccV W0 W1 z0 z1).length g), own_setCell (own_setCell o6 (own_blk_ne o6 hkb (by decide)) _) (own_blk_ne o6 hkb (by decide)) _⟩⟩, f10⟩
    case s10 =>
      rintro L a wr ⟨hst, hsz, q2, q3, hF⟩ hL hdp K hK
      have ev := fun (d t : Nat) (v : Value) (hd : d < 119) => eval_put a d t v (by omega)
      have d7 : L 7 = true := hdp ⟨7, .data⟩ (by simp) rfl
      obtain ⟨b, h1, h3, h4, h5, h6, h7, h9, h10, f0, f1, f2, f3, f4, f5, f6, f7, f8, f10⟩ := hF
      have t34 := f7 d7
      rw [eval_tmp, Array.getD_eq_getD_getElem?] at t34
      refine step_value (v := .bool (ccOk W0 W1 z0 z1)) (w' := wr) rfl (by go_simp) ?_
      refine hK _ _ ⟨hst.put 7 _ (by decide), by simpa [Act.put] using hsz, (ev 7 2 _ (by decide)).trans q2, (ev 7 3 _ (by decide)).trans q3, ?_⟩
      simp only [ev 7 _ _ (by decide)]
      exact ⟨b, h1, h3, h4, h5, h6, h7, h9, fun _ => d7, f0, f1, f2, f3, f4, f5, f6, f7, f8, fun _ => rfl⟩
  case ends =>
    rintro L a w10 ⟨hst, hsz, q2, q3, b, h1, h3, h4, h5, h6, h7, h9, h10, f0, f1, f2, f3, f4, f5, f6, f7, f8, f10⟩ hall
    obtain ⟨g10X, y8, hg8, -, hk8⟩ := f8 (hall 8 (by decide))
    obtain ⟨AW0, CW0, k10, oW0⟩ := hk8 (hall 9 (by decide))
    have y10 := f10 (hall 10 (by decide))
    have heq := hst.eq
    simp only [List.foldl_cons, List.foldl_nil] at heq
    rw [y8, y10] at heq
    clear hst hall hsz q2 q3 hk8 hg8 h1 h3 h4 h5 h6 h7 h9 h10 f0 f1 f2 f3 f4 f5 f6 f7 f8 f10 y8 y10 hAq0 hAq1 hxq0 hxq1
    generalize a.eval (.tmp 28) = u28 at *
    generalize a.eval (.tmp 29) = u29 at *
    generalize a.eval (.tmp 30) = u30 at *
    generalize a.eval (.tmp 31) = u31 at *
    generalize a.eval (.tmp 32) = u32 at *
    generalize a.eval (.tmp 27) = u27 at *
    generalize a.eval (.tmp 33) = u33 at *
    generalize a.eval (.tmp 34) = u34 at *
    simp only [Act.put, List.setIfInBounds_toArray, List.set_cons_zero, List.set_cons_succ] at heq
    subst heq
    subst hq10w
    have B10 := undrew b
    clear b
    have c10_w := bthen c9_w B10
    have c10_w6 := bthen b9 B10
    have oW0B := own_base (base' := w9.heap.size) oW0 (by first | exact Nat.le_refl _ | (simp only [World.size_alloc]; omega))
    have q11 := ((Blk.below_ k6 c10_w6)).two
    have q11l := ((Blk.below_ k6 c10_w6)).lt
    have q12 := ((Blk.below_ k6' c10_w6)).two
    have q12l := ((Blk.below_ k6' c10_w6)).lt
    have q13 := (k10).two
    have q13l := (k10).lt
    go_wp2_with fail
    clear q11 q11l q12 q12l q13 q13l
    refine (toNetwork_any W0 A0 z0 c0 _ (by exact (Reads.more (Reads.below hx0 c10_w) (Below.size c10_w))) (by omega)).mono ?_
    rintro e w14 ⟨gx0, rfl, ox0, b14⟩
    have c14_w := bthen c10_w b14
    have c14_w6 := bthen c10_w6 b14
    have ox0B := own_base (base' := w10.heap.size) ox0 (by first | exact Nat.le_refl _ | (simp only [World.size_alloc]; omega))
    have q15 := ((Blk.below_ k6 c14_w6)).two
    have q15l := ((Blk.below_ k6 c14_w6)).lt
    have q16 := ((Blk.below_ k6' c14_w6)).two
    have q16l := ((Blk.below_ k6' c14_w6)).lt
    have q17 := ((Blk.below_ k10 b14)).two
    have q17l := ((Blk.below_ k10 b14)).lt
    go_wp2_with fail
    clear q15 q15l q16 q16l q17 q17l
    refine (toNetwork_any W1 A1 z1 c1 _ (by exact (Reads.more (Reads.below hx1 (alloc_ c14_w _)) (Below.size (alloc_ c14_w _)))) (by omega)).mono ?_
    rintro e w18 ⟨gx1, rfl, ox1, b18⟩
    obtain ⟨B18, k18⟩ := step_box b18
    have c18_w := bthen c14_w B18
    have c18_w6 := bthen c14_w6 B18
    have c18_w10 := bthen b14 B18
    have ox1B := own_base (base' := w14.heap.size) ox1 (by first | exact Nat.le_refl _ | (simp only [World.size_alloc]; omega))
    have q19 := ((Blk.below_ k6 c18_w6)).two
    have q19l := ((Blk.below_ k6 c18_w6)).lt
    have q20 := ((Blk.below_ k6' c18_w6)).two
    have q20l := ((Blk.below_ k6' c18_w6)).lt
    have q21 := ((Blk.below_ k10 c18_w10)).two
    have q21l := ((Blk.below_ k10 c18_w10)).lt
    have q22 := (k18).two
    have q22l := (k18).lt
    go_wp2_with fail
    clear q19 q19l q20 q20l q21 q21l q22 q22l
    refine (ConcatNetworks_any W0 (some ⟨gx0, 0, none⟩) z0 z0.length W1 (some ⟨gx1, 0, none⟩) z1 z1.length _ (by exact (Reads.of_own (own_below ox0B (alloc_ B18 _) (Nat.le_refl _)))) (by omega) (by exact (Reads.of_own (own_below ox1B (alloc_ (Below.refl _ _) _) (Nat.le_refl _)))) (by omega)).mono ?_
    rintro e w23 ⟨AG0, CG0, rfl, oG0, b23⟩
    obtain ⟨B23, k23⟩ := step_box b23
    have c23_w := bthen c18_w B23
    have c23_w6 := bthen c18_w6 B23
    have c23_w10 := bthen c18_w10 B23
    have c23_w14 := bthen B18 B23
    have oG0B := own_base (base' := w18.heap.size) oG0 (by first | exact Nat.le_refl _ | (simp only [World.size_alloc]; omega))
    have q24 := ((Blk.below_ k6 c23_w6)).two
    have q24l := ((Blk.below_ k6 c23_w6)).lt
    have q25 := ((Blk.below_ k6' c23_w6)).two
    have q25l := ((Blk.below_ k6' c23_w6)).lt
    have q26 := ((Blk.below_ k10 c23_w10)).two
    have q26l := ((Blk.below_ k10 c23_w10)).lt
    have q27 := ((Blk.below_ k18 B23)).two
    have q27l := ((Blk.below_ k18 B23)).lt
    have q28 := (k23).two
    have q28l := (k23).lt
    go_wp2_with fail
    clear q24 q24l q25 q25l q26 q26l q27 q27l q28 q28l
    refine (eqNetwork_any (ccW W0 W1 z0 z1) (ccW W0 W1 z0 z1) AG0 AW0 (ccV W0 W1 z0 z1) (ccV W0 W1 z0 z1) CG0 CW0 _ (by exact (Reads.of_own (own_below oG0B (alloc_ (Below.refl _ _) _) (Nat.le_refl _)))) (by exact (Reads.of_own (own_below oW0B (alloc_ c23_w10 _) (Nat.le_refl _)))) (by omega) (by omega)).mono ?_
    rintro e w29 ⟨rfl, b29⟩
    obtain ⟨B29, k29⟩ := step_box b29
    have c29_w := bthen c23_w B29
    have c29_w6 := bthen c23_w6 B29
    have c29_w10 := bthen c23_w10 B29
    have c29_w14 := bthen c23_w14 B29
    have c29_w18 := bthen B23 B29
    have q30 := ((Blk.below_ k6 c29_w6)).two
    have q30l := ((Blk.below_ k6 c29_w6)).lt
    have q31 := ((Blk.below_ k6' c29_w6)).two
    have q31l := ((Blk.below_ k6' c29_w6)).lt
    have q32 := ((Blk.below_ k10 c29_w10)).two
    have q32l := ((Blk.below_ k10 c29_w10)).lt
    have q33 := ((Blk.below_ k18 c29_w18)).two
    have q33l := ((Blk.below_ k18 c29_w18)).lt
    have q34 := ((Blk.below_ k23 B29)).two
    have q34l := ((Blk.below_ k23 B29)).lt
    have q35 := (k29).two
    have q35l := (k29).lt
    go_wp2_with fail
    have r36 := (Reads.more (Reads.below hx0 c29_w) (Below.size c29_w))
    go_region_held3 (fun w' => w'.cell? ⟨w14.heap.size, 0, none⟩ = some (.int .i64 W0) ∧ w'.cell? ⟨w14.heap.size, 1, none⟩ = some (.slice (some ⟨gx0, 0, none⟩) z0.length z0.length) ∧ w'.cell? ⟨w.heap.size, 0, none⟩ = some (.int .i64 W0) ∧ w'.cell? ⟨w.heap.size, 1, none⟩ = some (.slice A0 z0.length c0)) (first | go_keep | (go_split_ands; refine ⟨?_, ?_, ?_, ?_⟩ <;> (first | (rw [Below.cell b36B (by simp; omega)]; assumption) | (rw [Below.cell b36A (by simp; omega)]; assumption)))) (first | (go_at_call 7; refine (toNetwork_any W0 A0 z0 c0 _ (by exact r36) (by omega)).mono ?_; rintro e w36A ⟨g36A, rfl, o36A, b36A⟩; have l36A := b36A.size; simp only [World.size_drew] at l36A) | (go_at_call 9; refine (eqNetwork_any W0 W0 (some ⟨gx0, 0, none⟩) (some ⟨g36A, 0, none⟩) z0 z0 z0.length z0.length _ (by exact Reads.of_own (own_below (own_below ox0B c29_w14 (Nat.le_refl _)) (undrew b36A) (Nat.le_refl _))) (by exact Reads.of_own o36A) (by omega) (by omega)).mono ?_; rintro e w36B ⟨rfl, b36B⟩))
    clear q30 q30l q31 q31l q32 q32l q33 q33l q34 q34l q35 q35l
    have b36 := bthen (undrew b36A) b36B
    have c36_w := bthen c29_w b36
    have c36_w6 := bthen c29_w6 b36
    have c36_w10 := bthen c29_w10 b36
    have c36_w14 := bthen c29_w14 b36
    have c36_w18 := bthen c29_w18 b36
    have c36_w23 := bthen B29 b36
    have q37 := ((Blk.below_ k6 c36_w6)).two
    have q37l := ((Blk.below_ k6 c36_w6)).lt
    have q38 := ((Blk.below_ k6' c36_w6)).two
    have q38l := ((Blk.below_ k6' c36_w6)).lt
    have q39 := ((Blk.below_ k10 c36_w10)).two
    have q39l := ((Blk.below_ k10 c36_w10)).lt
    have q40 := ((Blk.below_ k18 c36_w18)).two
    have q40l := ((Blk.below_ k18 c36_w18)).lt
    have q41 := ((Blk.below_ k23 c36_w23)).two
    have q41l := ((Blk.below_ k23 c36_w23)).lt
    have q42 := ((Blk.below_ k29 b36)).two
    have q42l := ((Blk.below_ k29 b36)).lt
    go_wp2_with fail
    have r43 := (Reads.more (Reads.below hx1 c36_w) (Below.size c36_w))
    go_region_held3 (fun w' => w'.cell? ⟨w18.heap.size, 0, none⟩ = some (.int .i64 W1) ∧ w'.cell? ⟨w18.heap.size, 1, none⟩ = some (.slice (some ⟨gx1, 0, none⟩) z1.length z1.length) ∧ w'.cell? ⟨(w.heap.size + 1), 0, none⟩ = some (.int .i64 W1) ∧ w'.cell? ⟨(w.heap.size + 1), 1, none⟩ = some (.slice A1 z1.length c1)) (first | go_keep | (go_split_ands; refine ⟨?_, ?_, ?_, ?_⟩ <;> (first | (rw [Below.cell b43B (by simp; omega)]; assumption) | (rw [Below.cell b43A (by simp; omega)]; assumption)))) (first | (go_at_call 7; refine (toNetwork_any W1 A1 z1 c1 _ (by exact r43) (by omega)).mono ?_; rintro e w43A ⟨g43A, rfl, o43A, b43A⟩; have l43A := b43A.size; simp only [World.size_drew] at l43A) | (go_at_call 9; refine (eqNetwork_any W1 W1 (some ⟨gx1, 0, none⟩) (some ⟨g43A, 0, none⟩) z1 z1 z1.length z1.length _ (by exact Reads.of_own (own_below (own_below ox1B c36_w18 (Nat.le_refl _)) (undrew b43A) (Nat.le_refl _))) (by exact Reads.of_own o43A) (by omega) (by omega)).mono ?_; rintro e w43B ⟨rfl, b43B⟩))
    clear q37 q37l q38 q38l q39 q39l q40 q40l q41 q41l q42 q42l
    have b43 := bthen (undrew b43A) b43B
    have c43_w := bthen c36_w b43
    have c43_w6 := bthen c36_w6 b43
    have c43_w10 := bthen c36_w10 b43
    have c43_w14 := bthen c36_w14 b43
    have c43_w18 := bthen c36_w18 b43
    have c43_w23 := bthen c36_w23 b43
    have c43_w29 := bthen b36 b43
    have q44 := ((Blk.below_ k6 c43_w6)).two
    have q44l := ((Blk.below_ k6 c43_w6)).lt
    have q45 := ((Blk.below_ k6' c43_w6)).two
    have q45l := ((Blk.below_ k6' c43_w6)).lt
    have q46 := ((Blk.below_ k10 c43_w10)).two
    have q46l := ((Blk.below_ k10 c43_w10)).lt
    have q47 := ((Blk.below_ k18 c43_w18)).two
    have q47l := ((Blk.below_ k18 c43_w18)).lt
    have q48 := ((Blk.below_ k23 c43_w23)).two
    have q48l := ((Blk.below_ k23 c43_w23)).lt
    have q49 := ((Blk.below_ k29 c43_w29)).two
    have q49l := ((Blk.below_ k29 c43_w29)).lt
    go_wp2_with fail
    clear q44 q44l q45 q45l q46 q46l q47 q47l q48 q48l q49 q49l
    refine (markNetwork_any w10.heap.size W0 (some ⟨gx0, 0, none⟩) z0 z0.length 1 _ (by omega) (by omega) (by omega) (by exact (own_below ox0B c43_w14 (Nat.le_refl _)))).mono ?_
    rintro e w50 ⟨rfl, o50, g50⟩
    have o50_W0 := World.ownsRow.kept (own_below oW0B c43_w10 (Nat.le_refl _)) g50 (own_ne_new oW0B ox0B (Nat.le_refl _))
    have o50_x1 := World.ownsRow.kept (own_below ox1B c43_w18 (Nat.le_refl _)) g50 (own_ne_old ox0B ox1B (Nat.le_refl _))
    have o50_G0 := World.ownsRow.kept (own_below oG0B c43_w23 (Nat.le_refl _)) g50 (own_ne_old ox0B oG0B (Below.size B18))
    have k50_a0 := Blk.grown (Blk.below_ k6 c43_w6) g50 (fun e => own_blk_ne (own_below ox0B c43_w14 (Nat.le_refl _)) (Blk.below_ k6 c43_w6) (by decide) e.symm)
    have k50_a1 := Blk.grown (Blk.below_ k6' c43_w6) g50 (fun e => own_blk_ne (own_below ox0B c43_w14 (Nat.le_refl _)) (Blk.below_ k6' c43_w6) (by decide) e.symm)
    have k50_W0 := Blk.grown (Blk.below_ k10 c43_w10) g50 (fun e => own_blk_ne (own_below ox0B c43_w14 (Nat.le_refl _)) (Blk.below_ k10 c43_w10) (by decide) e.symm)
    have k50_x0 := Blk.grown (Blk.below_ k18 c43_w18) g50 (fun e => own_blk_ne (own_below ox0B c43_w14 (Nat.le_refl _)) (Blk.below_ k18 c43_w18) (by decide) e.symm)
    have k50_x1 := Blk.grown (Blk.below_ k23 c43_w23) g50 (fun e => own_blk_ne (own_below ox0B c43_w14 (Nat.le_refl _)) (Blk.below_ k23 c43_w23) (by decide) e.symm)
    have k50_G0 := Blk.grown (Blk.below_ k29 c43_w29) g50 (fun e => own_blk_ne (own_below ox0B c43_w14 (Nat.le_refl _)) (Blk.below_ k29 c43_w29) (by decide) e.symm)
    have c50_w := Below.trans c43_w (below_of_grown g50 (Below.size c43_w) (fun k hk => Nat.le_trans (Below.size c10_w) (own_lt ox0B k hk).1))
    have q51 := (k50_a0).two
    have q51l := (k50_a0).lt
    have q52 := (k50_a1).two
    have q52l := (k50_a1).lt
    have q53 := (k50_W0).two
    have q53l := (k50_W0).lt
    have q54 := (k50_x0).two
    have q54l := (k50_x0).lt
    have q55 := (k50_x1).two
    have q55l := (k50_x1).lt
    have q56 := (k50_G0).two
    have q56l := (k50_G0).lt
    go_wp2_with fail
    clear q51 q51l q52 q52l q53 q53l q54 q54l q55 q55l q56 q56l
    refine (markNetwork_any w14.heap.size W1 (some ⟨gx1, 0, none⟩) z1 z1.length (1 + 2 * z0.length) _ (by omega) (by omega) (by omega) (by exact o50_x1)).mono ?_
    rintro e w57 ⟨rfl, o57, g57⟩
    have o57_W0 := World.ownsRow.kept o50_W0 g57 (own_ne_new oW0B ox1B (Below.size b14))
    have o57_x0 := World.ownsRow.kept o50 g57 (own_ne_new ox0B ox1B (Nat.le_refl _))
    have o57_G0 := World.ownsRow.kept o50_G0 g57 (own_ne_old ox1B oG0B (Nat.le_refl _))
    have k57_a0 := Blk.grown k50_a0 g57 (fun e => own_blk_ne o50_x1 k50_a0 (by decide) e.symm)
    have k57_a1 := Blk.grown k50_a1 g57 (fun e => own_blk_ne o50_x1 k50_a1 (by decide) e.symm)
    have k57_W0 := Blk.grown k50_W0 g57 (fun e => own_blk_ne o50_x1 k50_W0 (by decide) e.symm)
    have k57_x0 := Blk.grown k50_x0 g57 (fun e => own_blk_ne o50_x1 k50_x0 (by decide) e.symm)
    have k57_x1 := Blk.grown k50_x1 g57 (fun e => own_blk_ne o50_x1 k50_x1 (by decide) e.symm)
    have k57_G0 := Blk.grown k50_G0 g57 (fun e => own_blk_ne o50_x1 k50_G0 (by decide) e.symm)
    have c57_w := Below.trans c50_w (below_of_grown g57 (Below.size c50_w) (fun k hk => Nat.le_trans (Below.size c14_w) (own_lt ox1B k hk).1))
    have hk0 : ¬ (((1 + 2 * z0.length) + 2 * z1.length) : Int) < 0 := by omega
    have q58 := (k57_a0).two
    have q58l := (k57_a0).lt
    have q59 := (k57_a1).two
    have q59l := (k57_a1).lt
    have q60 := (k57_W0).two
    have q60l := (k57_W0).lt
    have q61 := (k57_G0).two
    have q61l := (k57_G0).lt
    go_wp2_with fail
    clear q58 q58l q59 q59l q60 q60l q61 q61l
    refine (eqNetwork_any (ccW W0 W1 z0 z1) (ccW W0 W1 z0 z1) AG0 AW0 (ccV W0 W1 z0 z1) (ccV W0 W1 z0 z1) CG0 CW0 _ (by exact (Reads.of_own o57_G0)) (by exact (Reads.of_own o57_W0)) (by omega) (by omega)).mono ?_
    rintro e w62 ⟨rfl, b62⟩
    have c62_w := bthen c57_w b62
    have q63 := ((Blk.below_ k57_a0 b62)).two
    have q63l := ((Blk.below_ k57_a0 b62)).lt
    have q64 := ((Blk.below_ k57_a1 b62)).two
    have q64l := ((Blk.below_ k57_a1 b62)).lt
    have q65 := ((Blk.below_ k57_W0 b62)).two
    have q65l := ((Blk.below_ k57_W0 b62)).lt
    have q66 := ((Blk.below_ k57_G0 b62)).two
    have q66l := ((Blk.below_ k57_G0 b62)).lt
    go_wp2_with fail
    clear q63 q63l q64 q64l q65 q65l q66 q66l
    refine (markNetwork_any w18.heap.size (ccW W0 W1 z0 z1) AG0 (ccV W0 W1 z0 z1) CG0 1 _ (by omega) (by omega) (by omega) (by exact (own_below o57_G0 b62 (Nat.le_refl _)))).mono ?_
    rintro e w67 ⟨rfl, o67, g67⟩
    have o67_W0 := World.ownsRow.kept (own_below o57_W0 b62 (Nat.le_refl _)) g67 (own_ne_new oW0B oG0B (Below.size c18_w10))
    have k67_a0 := Blk.grown (Blk.below_ k57_a0 b62) g67 (fun e => own_blk_ne (own_below o57_G0 b62 (Nat.le_refl _)) (Blk.below_ k57_a0 b62) (by decide) e.symm)
    have k67_a1 := Blk.grown (Blk.below_ k57_a1 b62) g67 (fun e => own_blk_ne (own_below o57_G0 b62 (Nat.le_refl _)) (Blk.below_ k57_a1 b62) (by decide) e.symm)
    have k67_W0 := Blk.grown (Blk.below_ k57_W0 b62) g67 (fun e => own_blk_ne (own_below o57_G0 b62 (Nat.le_refl _)) (Blk.below_ k57_W0 b62) (by decide) e.symm)
    have k67_G0 := Blk.grown (Blk.below_ k57_G0 b62) g67 (fun e => own_blk_ne (own_below o57_G0 b62 (Nat.le_refl _)) (Blk.below_ k57_G0 b62) (by decide) e.symm)
    have c67_w := Below.trans c62_w (below_of_grown g67 (Below.size c62_w) (fun k hk => Nat.le_trans (Below.size c18_w) (own_lt oG0B k hk).1))
    have hq0 : ¬ ((1 + 2 * (ccV W0 W1 z0 z1).length) : Int) < 0 := by omega
    have hqm : (((1 + 2 * (ccV W0 W1 z0 z1).length) : Int) != (1 + 2 * (ccV W0 W1 z0 z1).length)) = false := by simp
    have q68 := (k67_a0).two
    have q68l := (k67_a0).lt
    have q69 := (k67_a1).two
    have q69l := (k67_a1).lt
    have q70 := (k67_W0).two
    have q70l := (k67_W0).lt
    have q71 := (k67_G0).two
    have q71l := (k67_G0).lt
    go_wp2_with fail
    clear q68 q68l q69 q69l q70 q70l q71 q71l
    refine (heldNetwork_any (ccW W0 W1 z0 z1) AG0 (ccV W0 W1 z0 z1).length CG0 1 _ (by omega) (by omega) (by omega) (by exact (Reads.of_own o67))).mono ?_
    rintro e w72 ⟨rfl, b72⟩
    have c72_w := bthen c67_w b72
    have q74 := ((Blk.below_ k67_a0 b72)).two
    have q74l := ((Blk.below_ k67_a0 b72)).lt
    have q75 := ((Blk.below_ k67_a1 b72)).two
    have q75l := ((Blk.below_ k67_a1 b72)).lt
    have q76 := ((Blk.below_ k67_W0 b72)).two
    have q76l := ((Blk.below_ k67_W0 b72)).lt
    have q77 := ((Blk.below_ k67_G0 b72)).two
    have q77l := ((Blk.below_ k67_G0 b72)).lt
    go_upto_region 31 with fail
    clear q74 q74l q75 q75l q76 q76l q77 q77l
    obtain ⟨q73w, hq73w⟩ : ∃ x, World.drew w72 = x := ⟨_, rfl⟩
    have hAq0 : Blk q73w w.heap.size 24 #[.int .i64 W0, .slice A0 z0.length c0] := by rw [← hq73w]; exact (show Blk w72 _ _ _ from (Blk.below_ k67_a0 b72))
    have hxq0 : Reads q73w q73w.heap.size 2 A0 z0.length (cmps z0) := by rw [← hq73w]; exact (show Reads w72 w72.heap.size _ _ _ _ from (Reads.more (Reads.below hx0 c72_w) (Below.size c72_w)))
    have hAq1 : Blk q73w (w.heap.size + 1) 24 #[.int .i64 W1, .slice A1 z1.length c1] := by rw [← hq73w]; exact (show Blk w72 _ _ _ from (Blk.below_ k67_a1 b72))
    have hxq1 : Reads q73w q73w.heap.size 2 A1 z1.length (cmps z1) := by rw [← hq73w]; exact (show Reads w72 w72.heap.size _ _ _ _ from (Reads.more (Reads.below hx1 c72_w) (Below.size c72_w)))
    refine wp_region_inv' (fun a0 L a wr => St a0 a [95, 96, 97, 98, 99, 94, 100, 101, 15, 16] ∧ 118 < a.tmps.size ∧ a.eval (.tmp 2) = .pointer (some ⟨w.heap.size, 0, none⟩) ∧ a.eval (.tmp 3) = .pointer (some ⟨w.heap.size + 1, 0, none⟩) ∧ TwoFnExactConcatNetworksH q73w W0 A0 z0 c0 W1 A1 z1 c1 L wr (a.eval (.tmp 95)) (a.eval (.tmp 96)) (a.eval (.tmp 97)) (a.eval (.tmp 98)) (a.eval (.tmp 99)) (a.eval (.tmp 94)) (a.eval (.tmp 100)) (a.eval (.tmp 101)) (a.eval (.tmp 15)) (a.eval (.tmp 16))) (by kernel_rfl) (by kernel_rfl) ?start ?steps ?ends
    case start =>
      subst hq73w
      refine ⟨St.refl _ _, Nat.le_of_ble_eq_true rfl, rfl, rfl, Below.refl _ _, ?_, ?_, ?_, ?_, ?_, ?_, ?_, ?_, ?_, ?_, ?_, ?_, ?_, ?_, ?_, ?_, ?_, ?_⟩
      all_goals (intro e; first | (cases e; done) | rfl | assumption)
    case steps =>
      refine ⟨?s0, ?s1, ?s2, ?s3, ?s4, ?s5, ?s6, ?s7, ?s8, ?s9, ?s10, trivial⟩
      case s0 =>
        rintro L a wr ⟨hst, hsz, q2, q3, hF⟩ hL hdp K hK
        have ev := fun (d t : Nat) (v : Value) (hd : d < 119) => eval_put a d t v (by omega)
        obtain ⟨b, h1, h3, h4, h5, h6, h7, h9, h10, f0, f1, f2, f3, f4, f5, f6, f7, f8, f10⟩ := hF
        have t2 := q2
        rw [eval_tmp, Array.getD_eq_getD_getElem?] at t2
        obtain ⟨hcn0, hcn1⟩ := (hAq0.below b hAq0.lt).two
        refine step_value (v := .agg #[.int .i64 W0, .slice A0 z0.length c0]) (w' := wr) rfl (by go_simp) ?_
        refine hK _ _ ⟨hst.put 95 _ (by decide), by simpa [Act.put] using hsz, (ev 95 2 _ (by decide)).trans q2, (ev 95 3 _ (by decide)).trans q3, ?_⟩
        simp only [ev 95 _ _ (by decide)]
        exact ⟨b, fun e => absurd ((h1 e).symm.trans hL) (by decide), h3, h4, h5, h6, h7, h9, h10, fun _ => rfl, f1, f2, f3, f4, f5, f6, f7, f8, f10⟩
      case s1 =>
        rintro L a wr ⟨hst, hsz, q2, q3, hF⟩ hL hdp K hK
        have ev := fun (d t : Nat) (v : Value) (hd : d < 119) => eval_put a d t v (by omega)
        have d0 : L 0 = true := hdp ⟨0, .data⟩ (by simp) rfl
        obtain ⟨b, h1, h3, h4, h5, h6, h7, h9, h10, f0, f1, f2, f3, f4, f5, f6, f7, f8, f10⟩ := hF
        have t95 := f0 d0
        have t95 := f0 d0
        rw [eval_tmp, Array.getD_eq_getD_getElem?] at t95
        refine step_enter (f := 7) (args := #[.agg #[.int .i64 W0, .slice A0 z0.length c0]]) (w' := wr) rfl (by go_simp) ?_
        refine (toNetwork_any W0 A0 z0 c0 wr ((hxq0.below b).more b.size) (by omega)).mono ?_
        rintro e w9 ⟨gg, rfl, o9, b9⟩
        refine ⟨_, rfl, ?_⟩
        refine hK _ _ ⟨hst.put 96 _ (by decide), by simpa [Act.put] using hsz, (ev 96 2 _ (by decide)).trans q2, (ev 96 3 _ (by decide)).trans q3, ?_⟩
        simp only [ev 96 _ _ (by decide)]
        exact ⟨b.trans (b9.mono b.size), fun _ => d0, h3, fun e => absurd ((h4 e).1.symm.trans hL) (by decide), h5, h6, h7, h9, h10, f0, fun _ => ⟨gg, rfl, own_base o9 b.size⟩, f2, fun e => (f3 e).imp fun g h => ⟨h.1, own_below (h.2) b9 (Nat.le_refl _)⟩, fun e => (f4 e).imp fun G h => h.imp fun g h => ⟨h.1, own_below (h.2) b9 (Nat.le_refl _)⟩, fun e => (f5 e).imp fun G h => h.imp fun g h => ⟨h.1, own_below (h.2) b9 (Nat.le_refl _)⟩, fun e => (f6 e).imp fun G h => h.imp fun g h => ⟨h.1, own_below (h.2) b9 (Nat.le_refl _)⟩, f7, fun e => (f8 e).imp fun g h => ⟨h.1, h.2.1, fun e2 => ((h.2.2.1 e2)).below_ b9, fun e2 => (h.2.2.2 e2).imp fun G h => h.imp fun c h => ⟨(h.1).below_ b9, own_below (h.2) b9 (Nat.le_refl _)⟩⟩, f10⟩
      case s2 =>
        rintro L a wr ⟨hst, hsz, q2, q3, hF⟩ hL hdp K hK
        have ev := fun (d t : Nat) (v : Value) (hd : d < 119) => eval_put a d t v (by omega)
        obtain ⟨b, h1, h3, h4, h5, h6, h7, h9, h10, f0, f1, f2, f3, f4, f5, f6, f7, f8, f10⟩ := hF
        have t3 := q3
        rw [eval_tmp, Array.getD_eq_getD_getElem?] at t3
        obtain ⟨hcn0, hcn1⟩ := (hAq1.below b hAq1.lt).two
        refine step_value (v := .agg #[.int .i64 W1, .slice A1 z1.length c1]) (w' := wr) rfl (by go_simp) ?_
        refine hK _ _ ⟨hst.put 97 _ (by decide), by simpa [Act.put] using hsz, (ev 97 2 _ (by decide)).trans q2, (ev 97 3 _ (by decide)).trans q3, ?_⟩
        simp only [ev 97 _ _ (by decide)]
        exact ⟨b, h1, fun e => absurd ((h3 e).symm.trans hL) (by decide), h4, h5, h6, h7, h9, h10, f0, f1, fun _ => rfl, f3, f4, f5, f6, f7, f8, f10⟩
      case s3 =>
        rintro L a wr ⟨hst, hsz, q2, q3, hF⟩ hL hdp K hK
        have ev := fun (d t : Nat) (v : Value) (hd : d < 119) => eval_put a d t v (by omega)
        have d2 : L 2 = true := hdp ⟨2, .data⟩ (by simp) rfl
        obtain ⟨b, h1, h3, h4, h5, h6, h7, h9, h10, f0, f1, f2, f3, f4, f5, f6, f7, f8, f10⟩ := hF
        have t97 := f2 d2
        have t97 := f2 d2
        rw [eval_tmp, Array.getD_eq_getD_getElem?] at t97
        refine step_enter (f := 7) (args := #[.agg #[.int .i64 W1, .slice A1 z1.length c1]]) (w' := wr) rfl (by go_simp) ?_
        refine (toNetwork_any W1 A1 z1 c1 wr ((hxq1.below b).more b.size) (by omega)).mono ?_
        rintro e w9 ⟨gg, rfl, o9, b9⟩
        refine ⟨_, rfl, ?_⟩
        refine hK _ _ ⟨hst.put 98 _ (by decide), by simpa [Act.put] using hsz, (ev 98 2 _ (by decide)).trans q2, (ev 98 3 _ (by decide)).trans q3, ?_⟩
        simp only [ev 98 _ _ (by decide)]
        exact ⟨b.trans (b9.mono b.size), h1, fun _ => d2, fun e => absurd ((h4 e).2.symm.trans hL) (by decide), h5, h6, h7, h9, h10, f0, fun e => (f1 e).imp fun g h => ⟨h.1, own_below (h.2) b9 (Nat.le_refl _)⟩, f2, fun _ => ⟨gg, rfl, own_base o9 b.size⟩, fun e => (f4 e).imp fun G h => h.imp fun g h => ⟨h.1, own_below (h.2) b9 (Nat.le_refl _)⟩, fun e => (f5 e).imp fun G h => h.imp fun g h => ⟨h.1, own_below (h.2) b9 (Nat.le_refl _)⟩, fun e => (f6 e).imp fun G h => h.imp fun g h => ⟨h.1, own_below (h.2) b9 (Nat.le_refl _)⟩, f7, fun e => (f8 e).imp fun g h => ⟨h.1, h.2.1, fun e2 => ((h.2.2.1 e2)).below_ b9, fun e2 => (h.2.2.2 e2).imp fun G h => h.imp fun c h => ⟨(h.1).below_ b9, own_below (h.2) b9 (Nat.le_refl _)⟩⟩, f10⟩
      case s4 =>
        rintro L a wr ⟨hst, hsz, q2, q3, hF⟩ hL hdp K hK
        have ev := fun (d t : Nat) (v : Value) (hd : d < 119) => eval_put a d t v (by omega)
        have d1 : L 1 = true := hdp ⟨1, .data⟩ (by simp) rfl
        have d3 : L 3 = true := hdp ⟨3, .data⟩ (by simp) rfl
        obtain ⟨b, h1, h3, h4, h5, h6, h7, h9, h10, f0, f1, f2, f3, f4, f5, f6, f7, f8, f10⟩ := hF
        obtain ⟨g1, y1, o1⟩ := f1 d1
        obtain ⟨g3, y3, o3⟩ := f3 d3
        have t96 := y1
        have t98 := y3
        rw [eval_tmp, Array.getD_eq_getD_getElem?] at t96 t98
        refine step_enter (f := 8) (args := #[.agg #[.int .i64 W0, .slice (some ⟨g1, 0, none⟩) z0.length z0.length], .agg #[.int .i64 W1, .slice (some ⟨g3, 0, none⟩) z1.length z1.length]]) (w' := wr) rfl (by go_simp) ?_
        refine (ConcatNetworks_any W0 (some ⟨g1, 0, none⟩) z0 z0.length W1 (some ⟨g3, 0, none⟩) z1 z1.length wr (Reads.of_own o1) (by omega) (Reads.of_own o3) (by omega)).mono ?_
        rintro e w9 ⟨GG, gg, rfl, o9, b9⟩
        refine ⟨_, rfl, ?_⟩
        refine hK _ _ ⟨hst.put 99 _ (by decide), by simpa [Act.put] using hsz, (ev 99 2 _ (by decide)).trans q2, (ev 99 3 _ (by decide)).trans q3, ?_⟩
        simp only [ev 99 _ _ (by decide)]
        exact ⟨b.trans (b9.mono b.size), h1, h3, fun _ => ⟨d1, d3⟩, fun e => absurd ((h5 e).symm.trans hL) (by decide), h6, h7, h9, h10, f0, fun e => (f1 e).imp fun g h => ⟨h.1, own_below (h.2) b9 (Nat.le_refl _)⟩, f2, fun e => (f3 e).imp fun g h => ⟨h.1, own_below (h.2) b9 (Nat.le_refl _)⟩, fun _ => ⟨GG, gg, rfl, own_base o9 b.size⟩, fun e => (f5 e).imp fun G h => h.imp fun g h => ⟨h.1, own_below (h.2) b9 (Nat.le_refl _)⟩, fun e => (f6 e).imp fun G h => h.imp fun g h => ⟨h.1, own_below (h.2) b9 (Nat.le_refl _)⟩, f7, fun e => (f8 e).imp fun g h => ⟨h.1, h.2.1, fun e2 => ((h.2.2.1 e2)).below_ b9, fun e2 => (h.2.2.2 e2).imp fun G h => h.imp fun c h => ⟨(h.1).below_ b9, own_below (h.2) b9 (Nat.le_refl _)⟩⟩, f10⟩
      case s5 =>
        rintro L a wr ⟨hst, hsz, q2, q3, hF⟩ hL hdp K hK
        have ev := fun (d t : Nat) (v : Value) (hd : d < 119) => eval_put a d t v (by omega)
        have d4 : L 4 = true := hdp ⟨4, .data⟩ (by simp) rfl
        obtain ⟨b, h1, h3, h4, h5, h6, h7, h9, h10, f0, f1, f2, f3, f4, f5, f6, f7, f8, f10⟩ := hF
        obtain ⟨G, g, y4, o4⟩ := f4 d4
        have t99 := y4
        rw [eval_tmp, Array.getD_eq_getD_getElem?] at t99
        refine step_value (v := .tuple #[.agg #[.int .i64 (ccW W0 W1 z0 z1), .slice G (ccV W0 W1 z0 z1).length g], .bool (ccOk W0 W1 z0 z1)]) (w' := wr) rfl (by go_simp) ?_
        refine hK _ _ ⟨hst.put 94 _ (by decide), by simpa [Act.put] using hsz, (ev 94 2 _ (by decide)).trans q2, (ev 94 3 _ (by decide)).trans q3, ?_⟩
        simp only [ev 94 _ _ (by decide)]
        exact ⟨b, h1, h3, h4, fun _ => d4, fun e => absurd ((h6 e).symm.trans hL) (by decide), fun e => absurd ((h7 e).symm.trans hL) (by decide), h9, h10, f0, f1, f2, f3, f4, fun _ => ⟨G, g, rfl, o4⟩, f6, f7, f8, f10⟩
      case s6 =>
        rintro L a wr ⟨hst, hsz, q2, q3, hF⟩ hL hdp K hK
        have ev := fun (d t : Nat) (v : Value) (hd : d < 119) => eval_put a d t v (by omega)
        have d5 : L 5 = true := hdp ⟨5, .data⟩ (by simp) rfl
        obtain ⟨b, h1, h3, h4, h5, h6, h7, h9, h10, f0, f1, f2, f3, f4, f5, f6, f7, f8, f10⟩ := hF
        obtain ⟨G, g, y5, o5⟩ := f5 d5
        have t94 := y5
        rw [eval_tmp, Array.getD_eq_getD_getElem?] at t94
        refine step_value (v := .agg #[.int .i64 (ccW W0 W1 z0 z1), .slice G (ccV W0 W1 z0 z1).length g]) (w' := wr) rfl (by go_simp) ?_
        refine hK _ _ ⟨hst.put 100 _ (by decide), by simpa [Act.put] using hsz, (ev 100 2 _ (by decide)).trans q2, (ev 100 3 _ (by decide)).trans q3, ?_⟩
        simp only [ev 100 _ _ (by decide)]
        exact ⟨b, h1, h3, h4, h5, fun _ => d5, h7, fun e => absurd ((h9 e).2.symm.trans hL) (by decide), h10, f0, f1, f2, f3, f4, f5, fun _ => ⟨G, g, rfl, o5⟩, f7, f8, f10⟩
      case s7 =>
        rintro L a wr ⟨hst, hsz, q2, q3, hF⟩ hL hdp K hK
        have ev := fun (d t : Nat) (v : Value) (hd : d < 119) => eval_put a d t v (by omega)
        have d5 : L 5 = true := hdp ⟨5, .data⟩ (by simp) rfl
        obtain ⟨b, h1, h3, h4, h5, h6, h7, h9, h10, f0, f1, f2, f3, f4, f5, f6, f7, f8, f10⟩ := hF
        obtain ⟨G, g, y5, o5⟩ := f5 d5
        have t94 := y5
        rw [eval_tmp, Array.getD_eq_getD_getElem?] at t94
        refine step_value (v := .bool (ccOk W0 W1 z0 z1)) (w' := wr) rfl (by go_simp) ?_
        refine hK _ _ ⟨hst.put 101 _ (by decide), by simpa [Act.put] using hsz, (ev 101 2 _ (by decide)).trans q2, (ev 101 3 _ (by decide)).trans q3, ?_⟩
        simp only [ev 101 _ _ (by decide)]
        exact ⟨b, h1, h3, h4, h5, h6, fun _ => d5, h9, fun e => absurd ((h10 e).symm.trans hL) (by decide), f0, f1, f2, f3, f4, f5, f6, fun _ => rfl, f8, f10⟩
      case s8 =>
        rintro L a wr ⟨hst, hsz, q2, q3, hF⟩ hL hdp K hK
        have ev := fun (d t : Nat) (v : Value) (hd : d < 119) => eval_put a d t v (by omega)
        obtain ⟨b, h1, h3, h4, h5, h6, h7, h9, h10, f0, f1, f2, f3, f4, f5, f6, f7, f8, f10⟩ := hF
        refine step_value (v := .pointer (some ⟨wr.heap.size, 0, none⟩)) (w' := wr.alloc (.cells #[.int .i64 0, .slice none 0 0] 28)) rfl (by go_simp) ?_
        refine hK _ _ ⟨hst.put 15 _ (by decide), by simpa [Act.put] using hsz, (ev 15 2 _ (by decide)).trans q2, (ev 15 3 _ (by decide)).trans q3, ?_⟩
        simp only [ev 15 _ _ (by decide)]
        exact ⟨alloc_ b _, h1, h3, h4, h5, h6, h7, fun e => absurd ((h9 e).1.symm.trans hL) (by decide), h10, f0, fun e => (f1 e).imp fun g h => ⟨h.1, (h.2).alloc _⟩, f2, fun e => (f3 e).imp fun g h => ⟨h.1, (h.2).alloc _⟩, fun e => (f4 e).imp fun G h => h.imp fun g h => ⟨h.1, (h.2).alloc _⟩, fun e => (f5 e).imp fun G h => h.imp fun g h => ⟨h.1, (h.2).alloc _⟩, fun e => (f6 e).imp fun G h => h.imp fun g h => ⟨h.1, (h.2).alloc _⟩, f7, fun _ => ⟨wr.heap.size, rfl, b.size, fun _ => Blk.new _ _ _, fun e2 => absurd ((h9 e2).1.symm.trans hL) (by decide)⟩, f10⟩
      case s9 =>
        rintro L a wr ⟨hst, hsz, q2, q3, hF⟩ hL hdp K hK
        have ev := fun (d t : Nat) (v : Value) (hd : d < 119) => eval_put a d t v (by omega)
        have d8 : L 8 = true := hdp ⟨8, .data⟩ (by simp) rfl
        have d6 : L 6 = true := hdp ⟨6, .data⟩ (by simp) rfl
        obtain ⟨b, h1, h3, h4, h5, h6, h7, h9, h10, f0, f1, f2, f3, f4, f5, f6, f7, f8, f10⟩ := hF
        obtain ⟨g8, y8, hg8, hz8, -⟩ := f8 d8
        obtain ⟨G, g, y6, o6⟩ := f6 d6
        have t15 := y8
        have t100 := y6
        rw [eval_tmp, Array.getD_eq_getD_getElem?] at t15 t100
        have hkb := hz8 hL
        have hfz0 := hkb.frozen 0
        have hfz1 := hkb.frozen 1
        obtain ⟨hcl0, hcl1⟩ := hkb.two
        have hlt := hkb.lt
        refine step_skip (w' := (wr.setCell ⟨g8, 0, none⟩ (.int .i64 (ccW W0 W1 z0 z1))).setCell ⟨g8, 1, none⟩ (.slice G (ccV W0 W1 z0 z1).length g)) rfl (by go_simp) ?_
        refine hK _ _ ⟨hst.put_none _, hsz, q2, q3, ?_⟩
        exact ⟨Below.setCell (Below.setCell b hg8 _) hg8 _, h1, h3, h4, h5, h6, h7, fun _ => ⟨d8, d6⟩, h10, f0, fun e => (f1 e).imp fun g h => ⟨h.1, own_setCell (own_setCell (h.2) (own_blk_ne (h.2) hkb (by decide)) _) (own_blk_ne (h.2) hkb (by decide)) _⟩, f2, fun e => (f3 e).imp fun g h => ⟨h.1, own_setCell (own_setCell (h.2) (own_blk_ne (h.2) hkb (by decide)) _) (own_blk_ne (h.2) hkb (by decide)) _⟩, fun e => (f4 e).imp fun G h => h.imp fun g h => ⟨h.1, own_setCell (own_setCell (h.2) (own_blk_ne (h.2) hkb (by decide)) _) (own_blk_ne (h.2) hkb (by decide)) _⟩, fun e => (f5 e).imp fun G h => h.imp fun g h => ⟨h.1, own_setCell (own_setCell (h.2) (own_blk_ne (h.2) hkb (by decide)) _) (own_blk_ne (h.2) hkb (by decide)) _⟩, fun e => (f6 e).imp fun G h => h.imp fun g h => ⟨h.1, own_setCell (own_setCell (h.2) (own_blk_ne (h.2) hkb (by decide)) _) (own_blk_ne (h.2) hkb (by decide)) _⟩, f7, fun _ => ⟨g8, y8, hg8, fun e => absurd ((upd_self L 9).symm.trans e) (by decide), fun _ => ⟨G, g, by simpa using (hkb.set_ 0 (.int .i64 (ccW W0 W1 z0 z1))).set_ 1 (.slice G (ccV W0 W1 z0 z1).length g), own_setCell (own_setCell o6 (own_blk_ne o6 hkb (by decide)) _) (own_blk_ne o6 hkb (by decide)) _⟩⟩, f10⟩
      case s10 =>
        rintro L a wr ⟨hst, hsz, q2, q3, hF⟩ hL hdp K hK
        have ev := fun (d t : Nat) (v : Value) (hd : d < 119) => eval_put a d t v (by omega)
        have d7 : L 7 = true := hdp ⟨7, .data⟩ (by simp) rfl
        obtain ⟨b, h1, h3, h4, h5, h6, h7, h9, h10, f0, f1, f2, f3, f4, f5, f6, f7, f8, f10⟩ := hF
        have t101 := f7 d7
        rw [eval_tmp, Array.getD_eq_getD_getElem?] at t101
        refine step_value (v := .bool (ccOk W0 W1 z0 z1)) (w' := wr) rfl (by go_simp) ?_
        refine hK _ _ ⟨hst.put 16 _ (by decide), by simpa [Act.put] using hsz, (ev 16 2 _ (by decide)).trans q2, (ev 16 3 _ (by decide)).trans q3, ?_⟩
        simp only [ev 16 _ _ (by decide)]
        exact ⟨b, h1, h3, h4, h5, h6, h7, h9, fun _ => d7, f0, f1, f2, f3, f4, f5, f6, f7, f8, fun _ => rfl⟩
    case ends =>
      rintro L a w73 ⟨hst, hsz, q2, q3, b, h1, h3, h4, h5, h6, h7, h9, h10, f0, f1, f2, f3, f4, f5, f6, f7, f8, f10⟩ hall
      obtain ⟨g73X, y8, hg8, -, hk8⟩ := f8 (hall 8 (by decide))
      obtain ⟨AH0, CH0, k73, oH0⟩ := hk8 (hall 9 (by decide))
      have y10 := f10 (hall 10 (by decide))
      have heq := hst.eq
      simp only [List.foldl_cons, List.foldl_nil] at heq
      rw [y8, y10] at heq
      clear hst hall hsz q2 q3 hk8 hg8 h1 h3 h4 h5 h6 h7 h9 h10 f0 f1 f2 f3 f4 f5 f6 f7 f8 f10 y8 y10 hAq0 hAq1 hxq0 hxq1
      generalize a.eval (.tmp 95) = u95 at *
      generalize a.eval (.tmp 96) = u96 at *
      generalize a.eval (.tmp 97) = u97 at *
      generalize a.eval (.tmp 98) = u98 at *
      generalize a.eval (.tmp 99) = u99 at *
      generalize a.eval (.tmp 94) = u94 at *
      generalize a.eval (.tmp 100) = u100 at *
      generalize a.eval (.tmp 101) = u101 at *
      simp only [Act.put, List.setIfInBounds_toArray, List.set_cons_zero, List.set_cons_succ] at heq
      subst heq
      subst hq73w
      have B73 := undrew b
      clear b
      have c73_w := bthen c72_w B73
      have c73_w67 := bthen b72 B73
      have oH0B := own_base (base' := w72.heap.size) oH0 (by first | exact Nat.le_refl _ | (simp only [World.size_alloc]; omega))
      have q74 := ((Blk.below_ k67_a0 c73_w67)).two
      have q74l := ((Blk.below_ k67_a0 c73_w67)).lt
      have q75 := ((Blk.below_ k67_a1 c73_w67)).two
      have q75l := ((Blk.below_ k67_a1 c73_w67)).lt
      have q76 := ((Blk.below_ k67_W0 c73_w67)).two
      have q76l := ((Blk.below_ k67_W0 c73_w67)).lt
      have q77 := ((Blk.below_ k67_G0 c73_w67)).two
      have q77l := ((Blk.below_ k67_G0 c73_w67)).lt
      have q78 := (k73).two
      have q78l := (k73).lt
      go_wp2_with fail
      clear q74 q74l q75 q75l q76 q76l q77 q77l q78 q78l
      refine (eqNetwork_any (ccW W0 W1 z0 z1) (ccW W0 W1 z0 z1) AH0 AW0 (ccV W0 W1 z0 z1) (ccV W0 W1 z0 z1) CH0 CW0 _ (by exact (Reads.of_own oH0B)) (by exact (Reads.of_own (own_below o67_W0 c73_w67 (Nat.le_refl _)))) (by omega) (by omega)).mono ?_
      rintro e w79 ⟨rfl, b79⟩
      have c79_w := bthen c73_w b79
      have c79_w67 := bthen c73_w67 b79
      have q80 := ((Blk.below_ k67_a0 c79_w67)).two
      have q80l := ((Blk.below_ k67_a0 c79_w67)).lt
      have q81 := ((Blk.below_ k67_a1 c79_w67)).two
      have q81l := ((Blk.below_ k67_a1 c79_w67)).lt
      have q82 := ((Blk.below_ k67_W0 c79_w67)).two
      have q82l := ((Blk.below_ k67_W0 c79_w67)).lt
      have q83 := ((Blk.below_ k67_G0 c79_w67)).two
      have q83l := ((Blk.below_ k67_G0 c79_w67)).lt
      have q84 := ((Blk.below_ k73 b79)).two
      have q84l := ((Blk.below_ k73 b79)).lt
      go_wp2_with fail
      clear q80 q80l q81 q81l q82 q82l q83 q83l q84 q84l
      refine (heldNetwork_any (ccW W0 W1 z0 z1) AG0 (ccV W0 W1 z0 z1).length CG0 1 _ (by omega) (by omega) (by omega) (by exact (Reads.of_own (own_below o67 c79_w67 (Nat.le_refl _))))).mono ?_
      rintro e w85 ⟨rfl, b85⟩
      have c85_w := bthen c79_w b85
      have c85_w67 := bthen c79_w67 b85
      have c85_w73 := bthen b79 b85
      go_wp2_with fail
      go_ret
      exact ⟨rfl, c85_w⟩
end Go.Proofs.Ytkhfilkikpiepaa
