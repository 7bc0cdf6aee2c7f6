/- The draws of the law on merge networks. -/
import Derived.Test.YteigceeghnphmaaDrawM
import Derived.Test.YteigceeghnphmaaVN
import Derived.Test.YteigceeghnphmaaLayers
import Derived.Test.YteigceeghnphmaaInv
import Derived.Deep.DeepCutAuto
namespace Go.Proofs.Yteigceeghnphmaa
open Go.RowKit
set_option linter.unusedVariables false
theorem creads_pre {w : World} {base g N c k : Nat} {cs : List (Int × Int)} (h : w.ownsRow base 32 2 (.slice (some ⟨g, 0, none⟩) N c) N (cmps cs)) (hk : k ≤ N) : Reads w w.heap.size 2 (some ⟨g, 0, none⟩) k (cmps (cs.take k)) := by
  have hl : cs.length * 2 = N * 2 := by have := h.1; simpa using this
  refine ⟨by simp; omega, fun _ => ⟨⟨g, 0, none⟩, rfl, (own_lt h g rfl).2, fun j u hu => ?_⟩⟩
  have hj : j < k * 2 := by have := (List.getElem?_eq_some_iff.1 hu).1; simp at this; omega
  rw [Addr.add_lit, Nat.zero_add, h.cellAt j (by omega)]
  rw [← hu]
  conv => lhs; rw [← List.take_append_drop k cs, cmps_append]
  rw [List.getElem?_append_left (by simp; omega)]
theorem creads_off {w : World} {base g N c k : Nat} {cs : List (Int × Int)} (h : w.ownsRow base 32 2 (.slice (some ⟨g, 0, none⟩) N c) N (cmps cs)) (hk : k ≤ N) : Reads w w.heap.size 2 (some ⟨g, k * 2, none⟩) (N - k) (cmps (cs.drop k)) := by
  have hl : cs.length * 2 = N * 2 := by have := h.1; simpa using this
  refine ⟨by simp; omega, fun _ => ⟨⟨g, k * 2, none⟩, rfl, (own_lt h g rfl).2, fun j u hu => ?_⟩⟩
  have hj : j < (N - k) * 2 := by have := (List.getElem?_eq_some_iff.1 hu).1; simp at this; omega
  rw [Addr.add_lit, h.cellAt (k * 2 + j) (by omega)]
  rw [← hu]
  conv => lhs; rw [← List.take_append_drop k cs, cmps_append]
  rw [List.getElem?_append_right (by simp; omega)]
  congr 1
  simp
  omega
theorem creads_none {w : World} {base g N c : Nat} {cs : List (Int × Int)} (h : w.ownsRow base 32 2 (.slice (some ⟨g, 0, none⟩) N c) N (cmps cs)) (o : Nat) : Reads w w.heap.size 2 (some ⟨g, o, none⟩) (N - N) (cmps (cs.drop N)) := by
  have hl : cs.length * 2 = N * 2 := by have := h.1; simpa using this
  exact ⟨by simp; omega, fun h0 => by omega⟩
def GotS (w : World) (e : Ending) (w' : World) : Prop := ∃ (W : Int) (D : Option Addr) (cs : List (Int × Int)) (d : Nat) (k : Int), e = .returned (.tuple #[.agg #[.int .i64 W, .slice D cs.length d], .int .i64 k]) ∧ w'.ownsRow w.heap.size 32 2 (.slice D cs.length d) cs.length (cmps cs) ∧
  cs.length ≤ 300 ∧ Below w.heap.size w w'
theorem GotS.mk {w : World} {e : Ending} {w' : World} (h : ∃ (W : Int) (D : Option Addr) (cs : List (Int × Int)) (d : Nat) (k : Int), e = .returned (.tuple #[.agg #[.int .i64 W, .slice D cs.length d], .int .i64 k]) ∧ w'.ownsRow w.heap.size 32 2 (.slice D cs.length d) cs.length (cmps cs) ∧
  cs.length ≤ 300 ∧ Below w.heap.size w w') : GotS w e w' := h
set_option maxRecDepth 100000 in
theorem DrawMergeNetwork_any (A : Option Addr) (bs : List Nat) (c : Nat) (w : World) (hr : Reads w w.heap.size 1 A bs.length (byts bs)) (hb : ∀ b ∈ bs, b ≤ 255) (hl : bs.length ≤ 65536) :
    Calls Try.prog 17 #[.slice A bs.length c] w fun e w' => ∃ a b : Nat, a ≤ 9 ∧ b ≤ 9 ∧ e = .returned (.tuple #[.int .i64 (a : Nat), .int .i64 (b : Nat)]) ∧ Below w.heap.size w w' := by
  have HC0 := Lib.hid (cur_box (c := c) hr hb hl)
  have hG0 : w.grownBy (w.alloc (.cells #[.slice A bs.length c, .int .i64 0, .int .u64 0] 73)) (some w.heap.size) := World.grownBy_alloc _ _ _
  clear hr hb
  go_enter Try.func17, Try.ntmps17
  go_wp2_with fail
  refine (pick_any w.heap.size A bs c 0 10 _ HC0.out (by omega) (by omega) (by omega)).mono ?_
  rintro e w1 ⟨x, hx, rfl, hc1, hg1⟩
  have hG1 := near_step hG0 hg1 (fun k hk => .inl hk.symm)
  have HC1 := Lib.hid hc1
  have hx2 : x ≤ 9 := by omega
  clear hx hc1 hg1 hG0
  go_wp2_with fail
  refine (pick_any w.heap.size A bs c _ 10 _ HC1.out (by omega) (by omega) (by omega)).mono ?_
  rintro e w2 ⟨y, hy, rfl, hc2, hg2⟩
  have hG2 := near_step hG1 hg2 (fun k hk => .inl hk.symm)
  have hy2 : y ≤ 9 := by omega
  clear hy hc2
  go_wp2_with fail
  exact bodyPost_ret (v := .tuple #[.int .i64 (x : Nat), .int .i64 (y : Nat)]) (by simp [results, Try.results17, go_sem]) rfl ⟨x, y, hx2, hy2, rfl, below_near hG2 (Nat.le_refl _) (Nat.le_refl _)⟩
def TakN (w : World) (A : Option Addr) (bs : List Nat) (c gN n : Nat) (W : Int) (D : Option Addr) (cs : List (Int × Int)) (d : Nat) (L : Nat → Bool) (wr : World) (v0 v1 v2 v3 v4 v5 v6 v8 : Value) : Prop :=
  (Below w.heap.size w wr) ∧
  (L 3 = true → L 2 = true) ∧
  (L 4 = true → L 3 = true) ∧
  (L 5 = true → L 1 = true ∧ L 4 = true) ∧
  (L 6 = true → L 5 = true) ∧
  (L 7 = true → L 0 = true) ∧
  (L 8 = true → L 6 = true) ∧
  (L 0 = true → v0 = .agg #[.int .i64 W, .slice D n d]) ∧
  (L 1 = true → v1 = .pointer (some ⟨w.heap.size + 1, 0, none⟩)) ∧
  (L 2 = true → v2 = .pointer (some ⟨gN, 0, none⟩)) ∧
  (L 3 = true → v3 = .int .i64 W) ∧
  (L 4 = true → v4 = .int .i64 (W + 3)) ∧
  (L 5 = true → ∃ z : Nat, v5 = .int .i64 (z : Nat) ∧ z ≤ 20) ∧
  (L 6 = true → ∃ z : Int, v6 = .int .i64 z) ∧
  (L 8 = true → ∃ z : Int, v8 = .int .i64 z) ∧
  (Blk wr gN 26 #[.int .i64 W, .slice D n d]) ∧
  (L 7 = false → Blk wr w.heap.size 26 #[.int .i64 0, .slice none 0 0]) ∧
  (L 7 = true → Blk wr w.heap.size 26 #[.int .i64 W, .slice D n d]) ∧
  (wr.ownsRow w.heap.size 32 2 (.slice D n d) n (cmps cs)) ∧
  (L 5 = false → ∃ (a : Nat) (s : Int), Blk wr (w.heap.size + 1) 73 #[.slice A bs.length c, .int .i64 a, .int .u64 s] ∧ a ≤ 3000 ∧ 0 ≤ s ∧ s ≤ 18446744073709551615)
def DelC (wq : World) (gB gR cR n x : Nat) (W : Int) (cs : List (Int × Int)) (L : Nat → Bool) (wr : World) (v0 v1 v2 v3 v4 v5 v6 v7 v8 v9 v10 v11 v12 : Value) : Prop :=
  (wq.grownBy wr (some gB)) ∧
  (L 2 = true → L 1 = true) ∧
  (L 4 = true → L 2 = true ∧ L 3 = true) ∧
  (L 5 = true → L 0 = true ∧ L 4 = true) ∧
  (L 7 = true → L 6 = true) ∧
  (L 9 = true → L 8 = true) ∧
  (L 10 = true → L 7 = true ∧ L 9 = true) ∧
  (L 11 = true → L 5 = true ∧ L 10 = true) ∧
  (L 13 = true → L 12 = true ∧ L 11 = true) ∧
  (L 0 = true → L 5 = false → ∃ g, v0 = .slice (some ⟨g, 0, none⟩) 0 0 ∧ wr.ownsRow wq.heap.size 32 2 v0 0 []) ∧
  (L 1 = true → v1 = .pointer (some ⟨gB, 1, none⟩)) ∧
  (L 2 = true → v2 = .slice (some ⟨gR, 0, none⟩) n cR) ∧
  (L 3 = true → v3 = .int .i64 (x : Nat)) ∧
  (L 4 = true → v4 = .slice (some ⟨gR, 0, none⟩) x cR) ∧
  (L 5 = true → L 11 = false → wr.ownsRow wq.heap.size 32 2 v5 x (cmps (cs.take x))) ∧
  (L 6 = true → v6 = .pointer (some ⟨gB, 1, none⟩)) ∧
  (L 7 = true → v7 = .slice (some ⟨gR, 0, none⟩) n cR) ∧
  (L 8 = true → v8 = .int .i64 (x : Nat)) ∧
  (L 9 = true → v9 = .int .i64 ((x : Int) + 1)) ∧
  (L 10 = true → ∃ o : Nat, v10 = .slice (some ⟨gR, o, none⟩) (n - (x + 1)) (cR - (x + 1)) ∧ (o = (x + 1) * 2 ∨ x + 1 = n)) ∧
  (L 11 = true → wr.ownsRow wq.heap.size 32 2 v11 (n - 1) (cmps (cs.eraseIdx x))) ∧
  (L 12 = true → v12 = .pointer (some ⟨gB, 1, none⟩)) ∧
  (L 13 = false → Blk wr gB 26 #[.int .i64 W, .slice (some ⟨gR, 0, none⟩) n cR]) ∧
  (L 13 = true → Blk wr gB 26 #[.int .i64 W, v11])
set_option maxRecDepth 100000 in
set_option maxHeartbeats 6400000 in
theorem DrawMergesSorted_any (A : Option Addr) (bs : List Nat) (c : Nat) (w : World) (hr : Reads w w.heap.size 1 A bs.length (byts bs)) (hb : ∀ b ∈ bs, b ≤ 255) (hl : bs.length ≤ 65536) :
    Calls Try.prog 20 #[.slice A bs.length c] w (GotS w) := by
  obtain ⟨i1, hj, hy0, hy1, hy2⟩ := info_parts info_cmp
  have hi' := Lib.hid (And.intro hj (And.intro hy0 (And.intro hy1 hy2)))
  have hB0 := alloc_ (Below.refl w.heap.size w) (.cells #[.int .i64 0, .slice none 0 0] 26)
  have HC0 := Lib.hid (cur_box (w := w.alloc (.cells #[.int .i64 0, .slice none 0 0] 26)) (c := c) ((hr.below hB0).more hB0.size) hb hl)
  have hB1 := alloc_ hB0 (.cells #[.slice A bs.length c, .int .i64 0, .int .u64 0] 73)
  have hR0 := (Blk.new w 26 #[.int .i64 0, .slice none 0 0]).alloc (.cells #[.slice A bs.length c, .int .i64 0, .int .u64 0] 73)
  have hsz0 : (w.alloc (.cells #[.int .i64 0, .slice none 0 0] 26)).heap.size = w.heap.size + 1 := by simp
  have hsz1 : w.heap.size + 1 ≤ ((w.alloc (.cells #[.int .i64 0, .slice none 0 0] 26)).alloc (.cells #[.slice A bs.length c, .int .i64 0, .int .u64 0] 73)).heap.size := by simp
  rw [hsz0] at HC0
  have HR := Lib.hid hr
  have HBY := Lib.hid hb
  clear hr hb hB0 hsz0
  have hRa := hR0; have hBa := hB1
  clear hR0 hB1
  go_enter Try.func20, Try.ntmps20
  go_wp2_with fail
  refine (one_any (w.heap.size + 1) A bs c _ 2 _ HC0.out (by omega) (by omega) (by omega)).mono ?_
  rintro e w1 ⟨b, rfl, hc6, hg6⟩
  have hRb := Cur.blk_ HC0.out hRa hg6 (by decide)
  have hBb := hBa.trans (below_near hg6 (by omega) hBa.size)
  have HCb := Lib.hid hc6
  clear hc6 hg6 hRa hBa
  cases b
  case false =>
    go_wp2_with fail
    refine (anyNetwork_any (w.heap.size + 1) A bs c _ _ HCb.out (by omega)).mono ?_
    rintro e w2 ⟨W, D, cs, d, rfl, hO1, hW, hl1, hsm, hc1, hg1⟩
    have hRc := Cur.blk_ HCb.out hRb hg1 (by decide)
    have hBc := hBb.trans (below_near hg1 (by omega) hBb.size)
    have hOc := own_base hO1 hBb.size
    have HCc := Lib.hid hc1
    clear hc1 hO1 hg1 hsm hRb hBb
    have hRd := hRc.alloc (.cells #[.int .i64 W, .slice D cs.length d] 26)
    have hOd := hOc.alloc (.cells #[.int .i64 W, .slice D cs.length d] 26)
    have hBd := alloc_ hBc (.cells #[.int .i64 W, .slice D cs.length d] 26)
    have hNd := Blk.new w2 26 #[.int .i64 W, .slice D cs.length d]
    have HCd := Lib.hid (HCc.out.alloc (.cells #[.int .i64 W, .slice D cs.length d] 26))
    have hwl : w.heap.size + 1 < w2.heap.size := HCc.out.lt
    clear hRc hOc hBc HCc
    have hgw : w.heap.size + 1 < w2.heap.size := hwl
    go_upto_region 10 with fail
    have hNq : Blk (w2.alloc (.cells #[.int .i64 W, .slice D cs.length d] 26)).drew w2.heap.size 26 #[.int .i64 W, .slice D cs.length d] := hNd
    have hRq : Blk (w2.alloc (.cells #[.int .i64 W, .slice D cs.length d] 26)).drew w.heap.size 26 #[.int .i64 0, .slice none 0 0] := hRd
    have hOq : (w2.alloc (.cells #[.int .i64 W, .slice D cs.length d] 26)).drew.ownsRow w.heap.size 32 2 (.slice D cs.length d) cs.length (cmps cs) := hOd
    have hBq : Below w.heap.size w (w2.alloc (.cells #[.int .i64 W, .slice D cs.length d] 26)).drew := bdrew hBd
    have hCq := (show ∃ (a : Nat) (s : Int), Blk (w2.alloc (.cells #[.int .i64 W, .slice D cs.length d] 26)).drew (w.heap.size + 1) 73 #[.slice A bs.length c, .int .i64 a, .int .u64 s] ∧ a ≤ 3000 ∧ 0 ≤ s ∧ s ≤ 18446744073709551615 from by obtain ⟨a1, s1, h1, h2, h3⟩ := HCd.out.blk; exact ⟨a1, s1, h1, by omega, h3⟩)
    obtain ⟨wq, hwq⟩ : ∃ wq, (w2.alloc (.cells #[.int .i64 W, .slice D cs.length d] 26)).drew = wq := ⟨_, rfl⟩
    rw [hwq] at hNq hRq hOq hBq hCq
    clear hNd hRd hOd hBd HCd
    generalize hgN : w2.heap.size = gN at *
    have hnp : gN ≠ w.heap.size + 1 := by omega
    have hwW : IntKind.i64.wrap (W + 3) = W + 3 := IntWalk.i64_in _ ⟨by omega, by omega⟩
    have hnr : gN ≠ w.heap.size := by omega
    refine wp_region_inv' (fun a0 L a wr => St a0 a [52, 53, 54, 55, 56, 57, 58, 3] ∧ 58 < a.tmps.size ∧ a.eval (.tmp 10) = .pointer (some ⟨gN, 0, none⟩) ∧ a.eval (.tmp 4) = .pointer (some ⟨w.heap.size + 1, 0, none⟩) ∧ a.eval (.tmp 2) = .pointer (some ⟨w.heap.size, 0, none⟩) ∧ TakN w A bs c gN cs.length W D cs d L wr (a.eval (.tmp 52)) (a.eval (.tmp 53)) (a.eval (.tmp 54)) (a.eval (.tmp 55)) (a.eval (.tmp 56)) (a.eval (.tmp 57)) (a.eval (.tmp 58)) (a.eval (.tmp 3))) (by kernel_rfl) (by kernel_rfl) ?start ?steps ?ends
    case start =>
      subst hwq
      refine ⟨St.refl _ _, Nat.le_of_ble_eq_true rfl, rfl, rfl, rfl, hBq, ?_, ?_, ?_, ?_, ?_, ?_, ?_, ?_, ?_, ?_, ?_, ?_, ?_, ?_, hNq, fun _ => hRq, ?_, hOq, fun _ => hCq⟩
      all_goals (intro e; first | (cases e; done) | rfl | assumption)
    case ends =>
      rintro L a wr ⟨hst, hsz, q10, q4, q2, b, h3, h4, h5, h6, h7, h8, f0, f1, f2, f3, f4, f5, f6, f8, kn, kr, kr2, ko, kq⟩ hall
      obtain ⟨z, ez⟩ := f8 (hall 8 (by decide))
      have k7 := kr2 (hall 7 (by decide))
      obtain ⟨r0, r1⟩ := k7.two
      have R0 := Lib.hid r0; have R1 := Lib.hid r1
      have HOF := Lib.hid ko
      have HBF := Lib.hid b
      have heq := hst.eq
      simp only [List.foldl_cons, List.foldl_nil] at heq
      rw [ez] at heq
      clear hst hall hsz q10 q4 q2 h3 h4 h5 h6 h7 h8 f0 f1 f2 f3 f4 f5 f6 f8 kn kr kr2 kq ez r0 r1 k7 ko b
      generalize a.eval (.tmp 52) = u52 at *
      generalize a.eval (.tmp 53) = u53 at *
      generalize a.eval (.tmp 54) = u54 at *
      generalize a.eval (.tmp 55) = u55 at *
      generalize a.eval (.tmp 56) = u56 at *
      generalize a.eval (.tmp 57) = u57 at *
      generalize a.eval (.tmp 58) = u58 at *
      simp only [Act.put, List.setIfInBounds_toArray, List.set_cons_zero, List.set_cons_succ] at heq
      subst heq
      go_wp2_with fail
      exact bodyPost_ret (v := .tuple #[.agg #[.int .i64 W, .slice D cs.length d], .int .i64 z]) (by simp [results, Try.results20, go_sem, R0.out, R1.out]) rfl (GotS.mk ⟨W, D, cs, d, z, rfl, HOF.out, by omega, HBF.out⟩)
    case steps =>
      refine ⟨?s0, ?s1, ?s2, ?s3, ?s4, ?s5, ?s6, ?s7, ?s8, trivial⟩
      case s0 =>
        rintro L a wr ⟨hst, hsz, q10, q4, q2, hF⟩ hL hdp K hK
        have ev := fun (d t : Nat) (v : Value) (hd : d < 59) => eval_put a d t v (by omega)
        obtain ⟨b, h3, h4, h5, h6, h7, h8, f0, f1, f2, f3, f4, f5, f6, f8, kn, kr, kr2, ko, kq⟩ := hF
        have t10 := q10
        rw [eval_tmp, Array.getD_eq_getD_getElem?] at t10
        obtain ⟨hcn0, hcn1⟩ := kn.two
        refine step_value (v := .agg #[.int .i64 W, .slice D cs.length d]) (w' := wr) rfl (by go_simp) ?_
        refine hK _ _ ⟨hst.put 52 _ (by decide), by simpa [Act.put] using hsz, (ev 52 10 _ (by decide)).trans q10, (ev 52 4 _ (by decide)).trans q4, (ev 52 2 _ (by decide)).trans q2, ?_⟩
        simp only [ev 52 _ _ (by decide)]
        exact ⟨b, h3, h4, h5, h6, fun e => absurd ((h7 e).symm.trans hL) (by decide), h8, fun _ => rfl, f1, f2, f3, f4, f5, f6, f8, kn, kr, kr2, ko, kq⟩
      case s1 =>
        rintro L a wr ⟨hst, hsz, q10, q4, q2, hF⟩ hL hdp K hK
        have ev := fun (d t : Nat) (v : Value) (hd : d < 59) => eval_put a d t v (by omega)
        obtain ⟨b, h3, h4, h5, h6, h7, h8, f0, f1, f2, f3, f4, f5, f6, f8, kn, kr, kr2, ko, kq⟩ := hF
        have t4 := q4
        rw [eval_tmp, Array.getD_eq_getD_getElem?] at t4
        refine step_value (v := .pointer (some ⟨w.heap.size + 1, 0, none⟩)) (w' := wr) rfl (by go_simp) ?_
        refine hK _ _ ⟨hst.put 53 _ (by decide), by simpa [Act.put] using hsz, (ev 53 10 _ (by decide)).trans q10, (ev 53 4 _ (by decide)).trans q4, (ev 53 2 _ (by decide)).trans q2, ?_⟩
        simp only [ev 53 _ _ (by decide)]
        exact ⟨b, h3, h4, fun e => absurd ((h5 e).1.symm.trans hL) (by decide), h6, h7, h8, f0, fun _ => rfl, f2, f3, f4, f5, f6, f8, kn, kr, kr2, ko, kq⟩
      case s2 =>
        rintro L a wr ⟨hst, hsz, q10, q4, q2, hF⟩ hL hdp K hK
        have ev := fun (d t : Nat) (v : Value) (hd : d < 59) => eval_put a d t v (by omega)
        obtain ⟨b, h3, h4, h5, h6, h7, h8, f0, f1, f2, f3, f4, f5, f6, f8, kn, kr, kr2, ko, kq⟩ := hF
        have t10 := q10
        rw [eval_tmp, Array.getD_eq_getD_getElem?] at t10
        refine step_value (v := .pointer (some ⟨gN, 0, none⟩)) (w' := wr) rfl (by go_simp) ?_
        refine hK _ _ ⟨hst.put 54 _ (by decide), by simpa [Act.put] using hsz, (ev 54 10 _ (by decide)).trans q10, (ev 54 4 _ (by decide)).trans q4, (ev 54 2 _ (by decide)).trans q2, ?_⟩
        simp only [ev 54 _ _ (by decide)]
        exact ⟨b, fun e => absurd ((h3 e).symm.trans hL) (by decide), h4, h5, h6, h7, h8, f0, f1, fun _ => rfl, f3, f4, f5, f6, f8, kn, kr, kr2, ko, kq⟩
      case s3 =>
        rintro L a wr ⟨hst, hsz, q10, q4, q2, hF⟩ hL hdp K hK
        have ev := fun (d t : Nat) (v : Value) (hd : d < 59) => eval_put a d t v (by omega)
        have d2 : L 2 = true := hdp ⟨2, .data⟩ (by simp) rfl
        obtain ⟨b, h3, h4, h5, h6, h7, h8, f0, f1, f2, f3, f4, f5, f6, f8, kn, kr, kr2, ko, kq⟩ := hF
        have t54 := f2 d2
        rw [eval_tmp, Array.getD_eq_getD_getElem?] at t54
        obtain ⟨hcn0, hcn1⟩ := kn.two
        refine step_value (v := .int .i64 W) (w' := wr) rfl (by go_simp) ?_
        refine hK _ _ ⟨hst.put 55 _ (by decide), by simpa [Act.put] using hsz, (ev 55 10 _ (by decide)).trans q10, (ev 55 4 _ (by decide)).trans q4, (ev 55 2 _ (by decide)).trans q2, ?_⟩
        simp only [ev 55 _ _ (by decide)]
        exact ⟨b, fun _ => d2, fun e => absurd ((h4 e).symm.trans hL) (by decide), h5, h6, h7, h8, f0, f1, f2, fun _ => rfl, f4, f5, f6, f8, kn, kr, kr2, ko, kq⟩
      case s4 =>
        rintro L a wr ⟨hst, hsz, q10, q4, q2, hF⟩ hL hdp K hK
        have ev := fun (d t : Nat) (v : Value) (hd : d < 59) => eval_put a d t v (by omega)
        have d3 : L 3 = true := hdp ⟨3, .data⟩ (by simp) rfl
        obtain ⟨b, h3, h4, h5, h6, h7, h8, f0, f1, f2, f3, f4, f5, f6, f8, kn, kr, kr2, ko, kq⟩ := hF
        have t55 := f3 d3
        rw [eval_tmp, Array.getD_eq_getD_getElem?] at t55
        refine step_value (v := .int .i64 (W + 3)) (w' := wr) rfl (by go_simp) ?_
        refine hK _ _ ⟨hst.put 56 _ (by decide), by simpa [Act.put] using hsz, (ev 56 10 _ (by decide)).trans q10, (ev 56 4 _ (by decide)).trans q4, (ev 56 2 _ (by decide)).trans q2, ?_⟩
        simp only [ev 56 _ _ (by decide)]
        exact ⟨b, h3, fun _ => d3, fun e => absurd ((h5 e).2.symm.trans hL) (by decide), h6, h7, h8, f0, f1, f2, f3, fun _ => rfl, f5, f6, f8, kn, kr, kr2, ko, kq⟩
      case s5 =>
        rintro L a wr ⟨hst, hsz, q10, q4, q2, hF⟩ hL hdp K hK
        have ev := fun (d t : Nat) (v : Value) (hd : d < 59) => eval_put a d t v (by omega)
        have d1 : L 1 = true := hdp ⟨1, .data⟩ (by simp) rfl
        have d4 : L 4 = true := hdp ⟨4, .data⟩ (by simp) rfl
        obtain ⟨b, h3, h4, h5, h6, h7, h8, f0, f1, f2, f3, f4, f5, f6, f8, kn, kr, kr2, ko, kq⟩ := hF
        have t53 := f1 d1
        have t56 := f4 d4
        have t53 := f1 d1
        have t56 := f4 d4
        rw [eval_tmp, Array.getD_eq_getD_getElem?] at t53 t56
        refine step_enter (f := 59) (args := #[.pointer (some ⟨w.heap.size + 1, 0, none⟩), .int .i64 (W + 3)]) (w' := wr) rfl (by go_simp) ?_
        refine (pick_any (w.heap.size + 1) A bs c 3000 (W + 3) wr ⟨kq hL, (HR.out.below b).more (by omega), HBY.out, hl⟩ (by omega) (by omega) (by omega)).mono ?_
        rintro e w9 ⟨z, hz, rfl, hc9, hg9⟩
        refine ⟨_, rfl, ?_⟩
        refine hK _ _ ⟨hst.put 57 _ (by decide), by simpa [Act.put] using hsz, (ev 57 10 _ (by decide)).trans q10, (ev 57 4 _ (by decide)).trans q4, (ev 57 2 _ (by decide)).trans q2, ?_⟩
        simp only [ev 57 _ _ (by decide)]
        exact ⟨b.trans (below_near hg9 (by omega) b.size), h3, h4, fun _ => ⟨d1, d4⟩, fun e => absurd ((h6 e).symm.trans hL) (by decide), h7, h8, f0, f1, f2, f3, f4, fun _ => ⟨z, rfl, by omega⟩, fun e => absurd ((h6 e).symm.trans hL) (by decide), fun e => absurd ((h6 (h8 e)).symm.trans hL) (by decide), kn.grown hg9 (fun e => hnp (Option.some.inj e)), fun e => (kr e).grown hg9 (fun e => by have := Option.some.inj e; omega), fun e => (kr2 e).grown hg9 (fun e => by have := Option.some.inj e; omega), own_kept ko hg9 (by obtain ⟨a1, s1, h1, -⟩ := kq hL; exact own_blk_ne ko h1 (by decide)), fun e => absurd ((upd_self L 5).symm.trans e) (by decide)⟩
      case s6 =>
        rintro L a wr ⟨hst, hsz, q10, q4, q2, hF⟩ hL hdp K hK
        have ev := fun (d t : Nat) (v : Value) (hd : d < 59) => eval_put a d t v (by omega)
        have d5 : L 5 = true := hdp ⟨5, .data⟩ (by simp) rfl
        obtain ⟨b, h3, h4, h5, h6, h7, h8, f0, f1, f2, f3, f4, f5, f6, f8, kn, kr, kr2, ko, kq⟩ := hF
        obtain ⟨z, ez, hz⟩ := f5 d5
        have t57 := ez
        rw [eval_tmp, Array.getD_eq_getD_getElem?] at t57
        have hwz : IntKind.i64.wrap ((z : Int) - 1) = (z : Int) - 1 := IntWalk.i64_in _ ⟨by omega, by omega⟩
        refine step_value (v := .int .i64 ((z : Int) - 1)) (w' := wr) rfl (by go_simp) ?_
        refine hK _ _ ⟨hst.put 58 _ (by decide), by simpa [Act.put] using hsz, (ev 58 10 _ (by decide)).trans q10, (ev 58 4 _ (by decide)).trans q4, (ev 58 2 _ (by decide)).trans q2, ?_⟩
        simp only [ev 58 _ _ (by decide)]
        exact ⟨b, h3, h4, h5, fun _ => d5, h7, fun e => absurd ((h8 e).symm.trans hL) (by decide), f0, f1, f2, f3, f4, f5, fun _ => ⟨_, rfl⟩, fun e => absurd ((h8 e).symm.trans hL) (by decide), kn, kr, kr2, ko, kq⟩
      case s7 =>
        rintro L a wr ⟨hst, hsz, q10, q4, q2, hF⟩ hL hdp K hK
        have ev := fun (d t : Nat) (v : Value) (hd : d < 59) => eval_put a d t v (by omega)
        have d0 : L 0 = true := hdp ⟨0, .data⟩ (by simp) rfl
        obtain ⟨b, h3, h4, h5, h6, h7, h8, f0, f1, f2, f3, f4, f5, f6, f8, kn, kr, kr2, ko, kq⟩ := hF
        have t2 := q2
        have t52 := f0 d0
        have t52 := f0 d0
        rw [eval_tmp, Array.getD_eq_getD_getElem?] at t52 t2
        have hkb := kr hL
        have hfz0 := hkb.frozen 0
        have hfz1 := hkb.frozen 1
        obtain ⟨hcl0, hcl1⟩ := hkb.two
        have hlt := hkb.lt
        refine step_skip (w' := (wr.setCell ⟨w.heap.size, 0, none⟩ (.int .i64 W)).setCell ⟨w.heap.size, 1, none⟩ (.slice D cs.length d)) rfl (by go_simp) ?_
        refine hK _ _ ⟨hst.put_none _, hsz, q10, q4, q2, ?_⟩
        exact ⟨Below.setCell (Below.setCell b (Nat.le_refl _) _) (Nat.le_refl _) _, h3, h4, h5, h6, fun _ => d0, h8, f0, f1, f2, f3, f4, f5, f6, f8, (kn.far (by show _ ≠ w.heap.size; omega) _).far (by show _ ≠ w.heap.size; omega) _, fun e => absurd ((upd_self L 7).symm.trans e) (by decide), fun _ => by simpa using (hkb.set_ 0 (.int .i64 W)).set_ 1 (.slice D cs.length d), own_setCell (own_setCell ko (own_blk_ne ko hkb (by decide)) _) (own_blk_ne ko hkb (by decide)) _, fun e => by obtain ⟨a1, s1, h1, h2⟩ := kq e; exact ⟨a1, s1, (h1.far (by show _ ≠ w.heap.size; omega) _).far (by show _ ≠ w.heap.size; omega) _, h2⟩⟩
      case s8 =>
        rintro L a wr ⟨hst, hsz, q10, q4, q2, hF⟩ hL hdp K hK
        have ev := fun (d t : Nat) (v : Value) (hd : d < 59) => eval_put a d t v (by omega)
        have d6 : L 6 = true := hdp ⟨6, .data⟩ (by simp) rfl
        obtain ⟨b, h3, h4, h5, h6, h7, h8, f0, f1, f2, f3, f4, f5, f6, f8, kn, kr, kr2, ko, kq⟩ := hF
        obtain ⟨z, ez⟩ := f6 d6
        refine step_value (v := a.eval (.tmp 58)) (w' := wr) rfl (by go_simp) ?_
        refine hK _ _ ⟨hst.put 3 _ (by decide), by simpa [Act.put] using hsz, (ev 3 10 _ (by decide)).trans q10, (ev 3 4 _ (by decide)).trans q4, (ev 3 2 _ (by decide)).trans q2, ?_⟩
        simp only [ev 3 _ _ (by decide)]
        exact ⟨b, h3, h4, h5, h6, h7, fun _ => d6, f0, f1, f2, f3, f4, f5, f6, fun _ => ⟨z, ez⟩, kn, kr, kr2, ko, kq⟩
  case true =>
    go_wp2_with fail
    refine (pick_any (w.heap.size + 1) A bs c _ 4 _ HCb.out (by omega) (by omega) (by omega)).mono ?_
    rintro e w2 ⟨x, hx, rfl, hc6, hg6⟩
    have hRc := Cur.blk_ HCb.out hRb hg6 (by decide)
    have hBc := hBb.trans (below_near hg6 (by omega) hBb.size)
    have HCc := Lib.hid hc6
    clear hc6 hg6 hRb hBb
    have hx3 : x ≤ 3 := by omega
    clear hx
    go_wp2_with fail
    refine (pick_any (w.heap.size + 1) A bs c _ 4 _ HCc.out (by omega) (by omega) (by omega)).mono ?_
    rintro e w3 ⟨y, hy, rfl, hc6, hg6⟩
    have hRd := Cur.blk_ HCc.out hRc hg6 (by decide)
    have hBd := hBc.trans (below_near hg6 (by omega) hBc.size)
    have HCd := Lib.hid hc6
    clear hc6 hg6 hRc hBc
    have hy3 : y ≤ 3 := by omega
    clear hy
    have hmok : mergeOk (1 + (x : Int)) (1 + (y : Int)) = true := by
      simp only [mergeOk, Bool.and_eq_true]
      exact ⟨inB_iff.2 ⟨by omega, by omega⟩, inB_iff.2 ⟨by omega, by omega⟩⟩
    have hmw : mergeW (1 + (x : Int)) (1 + (y : Int)) = (1 + (x : Int)) + (1 + (y : Int)) := by rw [mergeW, if_pos hmok]
    have hml : 1 ≤ (mergeV (1 + (x : Int)) (1 + (y : Int))).length := by
      rw [mergeV, if_pos hmok, mergeFrom_len]
      have : 1 * 1 ≤ (1 + (x : Int)).toNat * (1 + (y : Int)).toNat := Nat.mul_le_mul (by omega) (by omega)
      omega
    have hml2 := mergeV_len (1 + (x : Int)) (1 + (y : Int))
    go_wp2_with fail
    refine (sMergeNetwork_any (1 + (x : Int)) (1 + (y : Int)) _).mono ?_
    rintro e w4 ⟨D, d, rfl, oD, b4⟩
    generalize mergeV (1 + (x : Int)) (1 + (y : Int)) = cs at *
    generalize mergeW (1 + (x : Int)) (1 + (y : Int)) = W at *
    generalize mergeOk (1 + (x : Int)) (1 + (y : Int)) = mo at *
    clear hmok hmw
    have hsz3 := hBd.size
    have HCe := Lib.hid (HCd.out.below b4 HCd.out.lt)
    have hRe := hRd.below b4 hRd.lt
    have hBe := hBd.trans (b4.mono hBd.size)
    have hOe := own_base oD hsz3
    have hblk3 := HCe.out.lt
    clear hRd hBd oD b4
    obtain ⟨gR, cR, eD, -, -, -⟩ := own_some hOe (by omega)
    cases eD
    have hRf := hRe.alloc (.cells #[.int .i64 W, .slice (some ⟨gR, 0, none⟩) cs.length d] 26)
    have hOf := hOe.alloc (.cells #[.int .i64 W, .slice (some ⟨gR, 0, none⟩) cs.length d] 26)
    have hBf := alloc_ hBe (.cells #[.int .i64 W, .slice (some ⟨gR, 0, none⟩) cs.length d] 26)
    have hNf := Blk.new w4 26 #[.int .i64 W, .slice (some ⟨gR, 0, none⟩) cs.length d]
    have HCf := Lib.hid (HCe.out.alloc (.cells #[.int .i64 W, .slice (some ⟨gR, 0, none⟩) cs.length d] 26))
    clear hRe hOe hBe HCe
    go_upto_region 5 with fail
    generalize w4.alloc (.cells #[.int .i64 W, .slice (some ⟨gR, 0, none⟩) cs.length d] 26) = w5 at *
    generalize hgN : w4.heap.size = gN at *
    have HGN := Lib.hid hgN
    clear hgN
    go_wp2_with fail
    refine (one_any (w.heap.size + 1) A bs c _ 2 _ HCf.out (by omega) (by omega) (by omega)).mono ?_
    rintro e w6 ⟨b2, rfl, hc6, hg6⟩
    have hRg := Cur.blk_ HCf.out hRf hg6 (by decide)
    have hBg := hBf.trans (below_near hg6 (by omega) hBf.size)
    have hNg := Cur.blk_ HCf.out hNf hg6 (by decide)
    have hOg := Cur.row HCf.out hOf hg6 (by decide)
    have HCg := Lib.hid hc6
    clear hc6 hg6 hRf hBf hNf hOf
    cases b2
    case false =>
      have hf3 : Blk ((w6.setCell ⟨w.heap.size, 0, none⟩ (.int .i64 W)).setCell ⟨w.heap.size, 1, none⟩ (.slice (some ⟨gR, 0, none⟩) cs.length d)) w.heap.size 26 #[.int .i64 W, .slice (some ⟨gR, 0, none⟩) cs.length d] := by
        simpa using (hRg.set_ 0 (.int .i64 W)).set_ 1 (.slice (some ⟨gR, 0, none⟩) cs.length d)
      obtain ⟨r0, r1⟩ := hf3.two
      have R0 := Lib.hid r0; have R1 := Lib.hid r1
      obtain ⟨z0, z1⟩ := hRg.two
      have f0 := hRg.frozen 0
      have f1 := hRg.frozen 1
      have hrl := hRg.lt
      have hgs := near_set (near_set (near_refl w6 (some w.heap.size)) 0 (.int .i64 W)) 1 (.slice (some ⟨gR, 0, none⟩) cs.length d)
      have HOF := Lib.hid (hOg.kept hgs (.inr (own_blk_ne hOg hRg (by decide))))
      have HBF := Lib.hid (hBg.trans (below_near hgs (Nat.le_refl _) hBg.size))
      obtain ⟨q0, q1⟩ := hNg.two
      have ql := hNg.lt
      clear hf3 r0 r1 hgs hOg hBg
      go_wp2_with fail
      exact bodyPost_ret (v := .tuple #[.agg #[.int .i64 W, .slice (some ⟨gR, 0, none⟩) cs.length d], .int .i64 (1 + (x : Int))]) (by simp [results, Try.results20, go_sem, R0.out, R1.out]) rfl (GotS.mk ⟨W, some ⟨gR, 0, none⟩, cs, d, (1 + (x : Int)), rfl, HOF.out, by omega, HBF.out⟩)
    case true =>
      obtain ⟨q0, q1⟩ := hNg.two
      have ql := hNg.lt
      go_wp2_with fail
      refine (pick_any (w.heap.size + 1) A bs c _ ((cs.length : Nat) : Int) _ HCg.out (by omega) (by omega) (by omega)).mono ?_
      rintro e w7 ⟨i, hi, rfl, hc6, hg6⟩
      have hRh := Cur.blk_ HCg.out hRg hg6 (by decide)
      have hBh := hBg.trans (below_near hg6 (by omega) hBg.size)
      have hNh := Cur.blk_ HCg.out hNg hg6 (by decide)
      have hOh := Cur.row HCg.out hOg hg6 (by decide)
      have HCh := Lib.hid hc6
      clear hc6 hg6 hRg hBg hNg hOg
      have hin : i < cs.length := by omega
      clear hi q0 q1 ql
      go_upto_region 7 with fail
      have hRi : Blk w7.drew w.heap.size 26 #[.int .i64 0, .slice none 0 0] := hRh
      have hNi : Blk w7.drew gN 26 #[.int .i64 W, .slice (some ⟨gR, 0, none⟩) cs.length d] := hNh
      have hOi := own_dn hOh 1
      have hBi : Below w.heap.size w w7.drew := bdrew hBh
      have hOi2 : w7.drew.ownsRow w.heap.size 32 2 (.slice (some ⟨gR, 0, none⟩) cs.length d) cs.length (cmps cs) := hOh
      clear hRh hNh hOh hBh hOi
      obtain ⟨wq, hwq⟩ : ∃ wq, w7.drew = wq := ⟨_, rfl⟩
      rw [hwq] at hRi hNi hOi2 hBi
      have oRq := hOi2
      have hneR : (Value.slice (some ⟨gR, 0, none⟩) cs.length d).ownBlock ≠ some gN := own_blk_ne oRq hNi (by decide)
      have hgBl := hNi.lt
      have hcap := own_cap oRq
      have hneRN : w.heap.size ≠ gN := by have := HGN.out; omega
      have hxcI : (i : Int) < (d : Int) := by omega
      have hxc1 : (i : Int) + 1 ≤ (d : Int) := by omega
      have hxm1 : (i : Int) + 1 ≤ (cs.length : Int) := by omega
      have hxc2 : ¬ d < i := by omega
      have hxc3 : ¬ (d : Int) < (i : Int) + 1 := by omega
      have hxc4 : ¬ (i : Int) + 1 < 0 := by omega
      have hxc5 : ¬ (cs.length : Int) < (i : Int) + 1 := by omega
      have hxc6 : ((i : Int) + 1).toNat = i + 1 := by omega
      have hxc7 : IntKind.i64.wrap ((i : Int) + 1) = (i : Int) + 1 := IntWalk.i64_in _ ⟨by omega, by omega⟩
      refine wp_region_inv' (fun a0 L a wr => St a0 a [35, 36, 37, 38, 39, 40, 41, 42, 43, 44, 45, 46, 47] ∧ 58 < a.tmps.size ∧ a.eval (.tmp 7) = .pointer (some ⟨gN, 0, none⟩) ∧ a.eval (.tmp 9) = .int .i64 (i : Nat) ∧ DelC wq gN gR d cs.length i W cs L wr (a.eval (.tmp 35)) (a.eval (.tmp 36)) (a.eval (.tmp 37)) (a.eval (.tmp 38)) (a.eval (.tmp 39)) (a.eval (.tmp 40)) (a.eval (.tmp 41)) (a.eval (.tmp 42)) (a.eval (.tmp 43)) (a.eval (.tmp 44)) (a.eval (.tmp 45)) (a.eval (.tmp 46)) (a.eval (.tmp 47))) (by kernel_rfl) (by kernel_rfl) ?start ?steps ?ends
      case start =>
        subst hwq
        refine ⟨St.refl _ _, Nat.le_of_ble_eq_true rfl, rfl, rfl, near_refl _ _, ?_, ?_, ?_, ?_, ?_, ?_, ?_, ?_, ?_, ?_, ?_, ?_, ?_, ?_, ?_, ?_, ?_, ?_, ?_, ?_, ?_, ?_, ?_⟩
        all_goals (intro e; first | (cases e; done) | rfl | assumption)
      case ends =>
        rintro L a wr ⟨hst, hsz, q7, q9, b, h2, h4, h5, h7, h9, h10, h11, h13, f0, f1, f2, f3, f4, f5, f6, f7, f8, f9, f10, f11, f12, kb, kc⟩ hall
        have o11 := f11 (hall 11 (by decide))
        have k13 := kc (hall 13 (by decide))
        obtain ⟨Z, zc, eZ⟩ := own_slice o11
        rw [eZ] at o11 k13
        clear eZ
        have heq := hst.eq
        simp only [List.foldl_cons, List.foldl_nil] at heq
        clear hst hall hsz q7 q9 h2 h4 h5 h7 h9 h10 h11 h13 f0 f1 f2 f3 f4 f5 f6 f7 f8 f9 f10 f11 f12 kb kc
        generalize a.eval (.tmp 35) = u35 at *
        generalize a.eval (.tmp 36) = u36 at *
        generalize a.eval (.tmp 37) = u37 at *
        generalize a.eval (.tmp 38) = u38 at *
        generalize a.eval (.tmp 39) = u39 at *
        generalize a.eval (.tmp 40) = u40 at *
        generalize a.eval (.tmp 41) = u41 at *
        generalize a.eval (.tmp 42) = u42 at *
        generalize a.eval (.tmp 43) = u43 at *
        generalize a.eval (.tmp 44) = u44 at *
        generalize a.eval (.tmp 45) = u45 at *
        generalize a.eval (.tmp 46) = u46 at *
        generalize a.eval (.tmp 47) = u47 at *
        simp only [Act.put, List.setIfInBounds_toArray, List.set_cons_zero, List.set_cons_succ] at heq
        subst heq
        have hRj := hRi.grown b (fun e => hneRN (Option.some.inj e))
        have hBj := hBi.trans (below_near b (by have := HGN.out; omega) hBi.size)
        have hOj := own_base o11 hBi.size
        have hlen : (cs.eraseIdx i).length = cs.length - 1 := by rw [List.length_eraseIdx_of_lt hin]
        have HLEN := Lib.hid hlen
        clear hlen o11 b
        have hf3 : Blk ((wr.setCell ⟨w.heap.size, 0, none⟩ (.int .i64 W)).setCell ⟨w.heap.size, 1, none⟩ (.slice Z (cs.length - 1) zc)) w.heap.size 26 #[.int .i64 W, .slice Z (cs.length - 1) zc] := by
          simpa using (hRj.set_ 0 (.int .i64 W)).set_ 1 (.slice Z (cs.length - 1) zc)
        obtain ⟨r0, r1⟩ := hf3.two
        have R0 := Lib.hid r0; have R1 := Lib.hid r1
        obtain ⟨z0, z1⟩ := hRj.two
        have f0 := hRj.frozen 0
        have f1 := hRj.frozen 1
        have hrl := hRj.lt
        have hgs := near_set (near_set (near_refl wr (some w.heap.size)) 0 (.int .i64 W)) 1 (.slice Z (cs.length - 1) zc)
        have HOF := Lib.hid (hOj.kept hgs (.inr (own_blk_ne hOj hRj (by decide))))
        have HBF := Lib.hid (hBj.trans (below_near hgs (Nat.le_refl _) hBj.size))
        obtain ⟨q0, q1⟩ := k13.two
        have ql := k13.lt
        clear hf3 r0 r1 hgs hOj hBj
        go_wp2_with fail
        exact bodyPost_ret (v := .tuple #[.agg #[.int .i64 W, .slice Z (cs.length - 1) zc], .int .i64 (1 + (x : Int))]) (by simp [results, Try.results20, go_sem, R0.out, R1.out]) rfl (GotS.mk ⟨W, Z, cs.eraseIdx i, zc, (1 + (x : Int)), by rw [HLEN.out], by rw [HLEN.out]; exact HOF.out, by rw [HLEN.out]; omega, HBF.out⟩)
      case steps =>
        refine ⟨?s0, ?s1, ?s2, ?s3, ?s4, ?s5, ?s6, ?s7, ?s8, ?s9, ?s10, ?s11, ?s12, ?s13, trivial⟩
        case s0 =>
          rintro L a wr ⟨hst, hsz, q7, q9, hF⟩ hL hdp K hK
          have ev := fun (d t : Nat) (v : Value) (hd : d < 59) => eval_put a d t v (by omega)
          obtain ⟨b, h2, h4, h5, h7, h9, h10, h11, h13, f0, f1, f2, f3, f4, f5, f6, f7, f8, f9, f10, f11, f12, kb, kc⟩ := hF
          refine step_value (v := .slice (some ⟨wr.heap.size, 0, none⟩) 0 0) (w' := wr.alloc (.cells #[] 32)) rfl (by go_simp) ?_
          refine hK _ _ ⟨hst.put 35 _ (by decide), by simpa [Act.put] using hsz, (ev 35 7 _ (by decide)).trans q7, (ev 35 9 _ (by decide)).trans q9, ?_⟩
          simp only [ev 35 _ _ (by decide)]
          exact ⟨near_step b (World.grownBy_alloc _ _ _) (fun k hk => .inl hk.symm), h2, h4, fun e => absurd ((h5 e).1.symm.trans hL) (by decide), h7, h9, h10, h11, h13, fun _ _ => ⟨_, rfl, made_at b.size rfl⟩, f1, f2, f3, f4, fun e => absurd ((h5 e).1.symm.trans hL) (by decide), f6, f7, f8, f9, f10, fun e => absurd ((h5 (h11 e).1).1.symm.trans hL) (by decide), f12, fun e => (kb e).alloc _, fun e => absurd ((h5 (h11 (h13 e).2).1).1.symm.trans hL) (by decide)⟩
        case s1 =>
          rintro L a wr ⟨hst, hsz, q7, q9, hF⟩ hL hdp K hK
          have ev := fun (d t : Nat) (v : Value) (hd : d < 59) => eval_put a d t v (by omega)
          obtain ⟨b, h2, h4, h5, h7, h9, h10, h11, h13, f0, f1, f2, f3, f4, f5, f6, f7, f8, f9, f10, f11, f12, kb, kc⟩ := hF
          have t7 := q7
          rw [eval_tmp, Array.getD_eq_getD_getElem?] at t7
          refine step_value (v := .pointer (some ⟨gN, 1, none⟩)) (w' := wr) rfl (by go_simp) ?_
          refine hK _ _ ⟨hst.put 36 _ (by decide), by simpa [Act.put] using hsz, (ev 36 7 _ (by decide)).trans q7, (ev 36 9 _ (by decide)).trans q9, ?_⟩
          simp only [ev 36 _ _ (by decide)]
          exact ⟨b, fun e => absurd ((h2 e).symm.trans hL) (by decide), h4, h5, h7, h9, h10, h11, h13, f0, fun _ => rfl, f2, f3, f4, f5, f6, f7, f8, f9, f10, f11, f12, kb, kc⟩
        case s2 =>
          rintro L a wr ⟨hst, hsz, q7, q9, hF⟩ hL hdp K hK
          have ev := fun (d t : Nat) (v : Value) (hd : d < 59) => eval_put a d t v (by omega)
          have d1 : L 1 = true := hdp ⟨1, .data⟩ (by simp) rfl
          obtain ⟨b, h2, h4, h5, h7, h9, h10, h11, h13, f0, f1, f2, f3, f4, f5, f6, f7, f8, f9, f10, f11, f12, kb, kc⟩ := hF
          have n13 : L 13 = false := by
            cases h : L 13
            · rfl
            · exact absurd (((h4 (h5 (h11 (h13 h).2).1).2).1).symm.trans hL) (by decide)
          have t36 := f1 d1
          rw [eval_tmp, Array.getD_eq_getD_getElem?] at t36
          have hcl := (kb n13).two.2
          refine step_value (v := .slice (some ⟨gR, 0, none⟩) cs.length d) (w' := wr) rfl (by go_simp) ?_
          refine hK _ _ ⟨hst.put 37 _ (by decide), by simpa [Act.put] using hsz, (ev 37 7 _ (by decide)).trans q7, (ev 37 9 _ (by decide)).trans q9, ?_⟩
          simp only [ev 37 _ _ (by decide)]
          exact ⟨b, fun _ => d1, fun e => absurd ((h4 e).1.symm.trans hL) (by decide), h5, h7, h9, h10, h11, h13, f0, f1, fun _ => rfl, f3, f4, f5, f6, f7, f8, f9, f10, f11, f12, kb, kc⟩
        case s3 =>
          rintro L a wr ⟨hst, hsz, q7, q9, hF⟩ hL hdp K hK
          have ev := fun (d t : Nat) (v : Value) (hd : d < 59) => eval_put a d t v (by omega)
          obtain ⟨b, h2, h4, h5, h7, h9, h10, h11, h13, f0, f1, f2, f3, f4, f5, f6, f7, f8, f9, f10, f11, f12, kb, kc⟩ := hF
          have t9 := q9
          rw [eval_tmp, Array.getD_eq_getD_getElem?] at t9
          refine step_value (v := .int .i64 (i : Nat)) (w' := wr) rfl (by go_simp) ?_
          refine hK _ _ ⟨hst.put 38 _ (by decide), by simpa [Act.put] using hsz, (ev 38 7 _ (by decide)).trans q7, (ev 38 9 _ (by decide)).trans q9, ?_⟩
          simp only [ev 38 _ _ (by decide)]
          exact ⟨b, h2, fun e => absurd ((h4 e).2.symm.trans hL) (by decide), h5, h7, h9, h10, h11, h13, f0, f1, f2, fun _ => rfl, f4, f5, f6, f7, f8, f9, f10, f11, f12, kb, kc⟩
        case s4 =>
          rintro L a wr ⟨hst, hsz, q7, q9, hF⟩ hL hdp K hK
          have ev := fun (d t : Nat) (v : Value) (hd : d < 59) => eval_put a d t v (by omega)
          have d2 : L 2 = true := hdp ⟨2, .data⟩ (by simp) rfl
          have d3 : L 3 = true := hdp ⟨3, .data⟩ (by simp) rfl
          obtain ⟨b, h2, h4, h5, h7, h9, h10, h11, h13, f0, f1, f2, f3, f4, f5, f6, f7, f8, f9, f10, f11, f12, kb, kc⟩ := hF
          have t37 := f2 d2
          have t38 := f3 d3
          rw [eval_tmp, Array.getD_eq_getD_getElem?] at t37 t38
          refine step_value (v := .slice (some ⟨gR, 0, none⟩) i d) (w' := wr) rfl (by go_simp) ?_
          refine hK _ _ ⟨hst.put 39 _ (by decide), by simpa [Act.put] using hsz, (ev 39 7 _ (by decide)).trans q7, (ev 39 9 _ (by decide)).trans q9, ?_⟩
          simp only [ev 39 _ _ (by decide)]
          exact ⟨b, h2, fun _ => ⟨d2, d3⟩, fun e => absurd ((h5 e).2.symm.trans hL) (by decide), h7, h9, h10, h11, h13, f0, f1, f2, f3, fun _ => rfl, f5, f6, f7, f8, f9, f10, f11, f12, kb, kc⟩
        case s5 =>
          rintro L a wr ⟨hst, hsz, q7, q9, hF⟩ hL hdp K hK
          have ev := fun (d t : Nat) (v : Value) (hd : d < 59) => eval_put a d t v (by omega)
          have d0 : L 0 = true := hdp ⟨0, .data⟩ (by simp) rfl
          have d4 : L 4 = true := hdp ⟨4, .data⟩ (by simp) rfl
          obtain ⟨b, h2, h4, h5, h7, h9, h10, h11, h13, f0, f1, f2, f3, f4, f5, f6, f7, f8, f9, f10, f11, f12, kb, kc⟩ := hF
          have t39 := f4 d4
          obtain ⟨g0, e0, ho⟩ := f0 d0 hL
          refine step_append_any wr rfl (.tmp 35) (.tmp 39) 24 rfl wq.heap.size 32 i1 _ 2 16 Try.underlying24 hi'.out.1 hi'.out.2.1 hi'.out.2.2.1 hi'.out.2.2.2 rfl (by decide) (a.eval (.tmp 35)) 0 [] rfl ho wr.heap.size (some ⟨gR, 0, none⟩) i d (cmps (cs.take i)) (f4 d4) (creads_pre (own_kept oRq b hneR) (by omega)) (cmps_one _) (by unfold maxLen; omega) (by omega) b.size ?_
          intro v4 w4 o4 gr4 at4
          rw [Nat.zero_add, List.nil_append] at o4
          refine hK _ _ ⟨hst.put 40 _ (by decide), by simpa [Act.put] using hsz, (ev 40 7 _ (by decide)).trans q7, (ev 40 9 _ (by decide)).trans q9, ?_⟩
          simp only [ev 40 _ _ (by decide)]
          exact ⟨near_step b gr4 (fun q hq => .inr (own_lt ho q hq).1), h2, h4, fun _ => ⟨d0, d4⟩, h7, h9, h10, fun e => absurd ((h11 e).1.symm.trans hL) (by decide), h13, fun _ e => absurd ((upd_self L 5).symm.trans e) (by decide), f1, f2, f3, f4, fun _ _ => o4, f6, f7, f8, f9, f10, fun e => absurd ((h11 e).1.symm.trans hL) (by decide), f12, fun e => (kb e).grown gr4 (fun e2 => by have := (own_lt ho gN e2.symm).1; omega), fun e => (kc e).grown gr4 (fun e2 => by have := (own_lt ho gN e2.symm).1; omega)⟩
        case s6 =>
          rintro L a wr ⟨hst, hsz, q7, q9, hF⟩ hL hdp K hK
          have ev := fun (d t : Nat) (v : Value) (hd : d < 59) => eval_put a d t v (by omega)
          obtain ⟨b, h2, h4, h5, h7, h9, h10, h11, h13, f0, f1, f2, f3, f4, f5, f6, f7, f8, f9, f10, f11, f12, kb, kc⟩ := hF
          have t7 := q7
          rw [eval_tmp, Array.getD_eq_getD_getElem?] at t7
          refine step_value (v := .pointer (some ⟨gN, 1, none⟩)) (w' := wr) rfl (by go_simp) ?_
          refine hK _ _ ⟨hst.put 41 _ (by decide), by simpa [Act.put] using hsz, (ev 41 7 _ (by decide)).trans q7, (ev 41 9 _ (by decide)).trans q9, ?_⟩
          simp only [ev 41 _ _ (by decide)]
          exact ⟨b, h2, h4, h5, fun e => absurd ((h7 e).symm.trans hL) (by decide), h9, h10, h11, h13, f0, f1, f2, f3, f4, f5, fun _ => rfl, f7, f8, f9, f10, f11, f12, kb, kc⟩
        case s7 =>
          rintro L a wr ⟨hst, hsz, q7, q9, hF⟩ hL hdp K hK
          have ev := fun (d t : Nat) (v : Value) (hd : d < 59) => eval_put a d t v (by omega)
          have d6 : L 6 = true := hdp ⟨6, .data⟩ (by simp) rfl
          obtain ⟨b, h2, h4, h5, h7, h9, h10, h11, h13, f0, f1, f2, f3, f4, f5, f6, f7, f8, f9, f10, f11, f12, kb, kc⟩ := hF
          have n13 : L 13 = false := by
            cases h : L 13
            · rfl
            · exact absurd (((h10 (h11 (h13 h).2).2).1).symm.trans hL) (by decide)
          have t41 := f6 d6
          rw [eval_tmp, Array.getD_eq_getD_getElem?] at t41
          have hcl := (kb n13).two.2
          refine step_value (v := .slice (some ⟨gR, 0, none⟩) cs.length d) (w' := wr) rfl (by go_simp) ?_
          refine hK _ _ ⟨hst.put 42 _ (by decide), by simpa [Act.put] using hsz, (ev 42 7 _ (by decide)).trans q7, (ev 42 9 _ (by decide)).trans q9, ?_⟩
          simp only [ev 42 _ _ (by decide)]
          exact ⟨b, h2, h4, h5, fun _ => d6, h9, fun e => absurd ((h10 e).1.symm.trans hL) (by decide), h11, h13, f0, f1, f2, f3, f4, f5, f6, fun _ => rfl, f8, f9, f10, f11, f12, kb, kc⟩
        case s8 =>
          rintro L a wr ⟨hst, hsz, q7, q9, hF⟩ hL hdp K hK
          have ev := fun (d t : Nat) (v : Value) (hd : d < 59) => eval_put a d t v (by omega)
          obtain ⟨b, h2, h4, h5, h7, h9, h10, h11, h13, f0, f1, f2, f3, f4, f5, f6, f7, f8, f9, f10, f11, f12, kb, kc⟩ := hF
          have t9 := q9
          rw [eval_tmp, Array.getD_eq_getD_getElem?] at t9
          refine step_value (v := .int .i64 (i : Nat)) (w' := wr) rfl (by go_simp) ?_
          refine hK _ _ ⟨hst.put 43 _ (by decide), by simpa [Act.put] using hsz, (ev 43 7 _ (by decide)).trans q7, (ev 43 9 _ (by decide)).trans q9, ?_⟩
          simp only [ev 43 _ _ (by decide)]
          exact ⟨b, h2, h4, h5, h7, fun e => absurd ((h9 e).symm.trans hL) (by decide), h10, h11, h13, f0, f1, f2, f3, f4, f5, f6, f7, fun _ => rfl, f9, f10, f11, f12, kb, kc⟩
        case s9 =>
          rintro L a wr ⟨hst, hsz, q7, q9, hF⟩ hL hdp K hK
          have ev := fun (d t : Nat) (v : Value) (hd : d < 59) => eval_put a d t v (by omega)
          have d8 : L 8 = true := hdp ⟨8, .data⟩ (by simp) rfl
          obtain ⟨b, h2, h4, h5, h7, h9, h10, h11, h13, f0, f1, f2, f3, f4, f5, f6, f7, f8, f9, f10, f11, f12, kb, kc⟩ := hF
          have t43 := f8 d8
          rw [eval_tmp, Array.getD_eq_getD_getElem?] at t43
          refine step_value (v := .int .i64 ((i : Int) + 1)) (w' := wr) rfl (by go_simp) ?_
          refine hK _ _ ⟨hst.put 44 _ (by decide), by simpa [Act.put] using hsz, (ev 44 7 _ (by decide)).trans q7, (ev 44 9 _ (by decide)).trans q9, ?_⟩
          simp only [ev 44 _ _ (by decide)]
          exact ⟨b, h2, h4, h5, h7, fun _ => d8, fun e => absurd ((h10 e).2.symm.trans hL) (by decide), h11, h13, f0, f1, f2, f3, f4, f5, f6, f7, f8, fun _ => rfl, f10, f11, f12, kb, kc⟩
        case s10 =>
          rintro L a wr ⟨hst, hsz, q7, q9, hF⟩ hL hdp K hK
          have ev := fun (d t : Nat) (v : Value) (hd : d < 59) => eval_put a d t v (by omega)
          have d7 : L 7 = true := hdp ⟨7, .data⟩ (by simp) rfl
          have d9 : L 9 = true := hdp ⟨9, .data⟩ (by simp) rfl
          obtain ⟨b, h2, h4, h5, h7, h9, h10, h11, h13, f0, f1, f2, f3, f4, f5, f6, f7, f8, f9, f10, f11, f12, kb, kc⟩ := hF
          have t42 := f7 d7
          have t44 := f9 d9
          rw [eval_tmp, Array.getD_eq_getD_getElem?] at t42 t44
          by_cases hck : d = i + 1
          · refine step_value (v := .slice (some ⟨gR, 0, none⟩) (cs.length - (i + 1)) (d - (i + 1))) (w' := wr) rfl (by go_simp) ?_
            refine hK _ _ ⟨hst.put 45 _ (by decide), by simpa [Act.put] using hsz, (ev 45 7 _ (by decide)).trans q7, (ev 45 9 _ (by decide)).trans q9, ?_⟩
            simp only [ev 45 _ _ (by decide)]
            exact ⟨b, h2, h4, h5, h7, h9, fun _ => ⟨d7, d9⟩, fun e => absurd ((h11 e).2.symm.trans hL) (by decide), h13, f0, f1, f2, f3, f4, f5, f6, f7, f8, f9, fun _ => ⟨0, rfl, .inr (by omega)⟩, f11, f12, kb, kc⟩
          · refine step_value (v := .slice (some ⟨gR, (i + 1) * 2, none⟩) (cs.length - (i + 1)) (d - (i + 1))) (w' := wr) rfl (by go_simp) ?_
            refine hK _ _ ⟨hst.put 45 _ (by decide), by simpa [Act.put] using hsz, (ev 45 7 _ (by decide)).trans q7, (ev 45 9 _ (by decide)).trans q9, ?_⟩
            simp only [ev 45 _ _ (by decide)]
            exact ⟨b, h2, h4, h5, h7, h9, fun _ => ⟨d7, d9⟩, fun e => absurd ((h11 e).2.symm.trans hL) (by decide), h13, f0, f1, f2, f3, f4, f5, f6, f7, f8, f9, fun _ => ⟨(i + 1) * 2, rfl, .inl rfl⟩, f11, f12, kb, kc⟩
        case s11 =>
          rintro L a wr ⟨hst, hsz, q7, q9, hF⟩ hL hdp K hK
          have ev := fun (d t : Nat) (v : Value) (hd : d < 59) => eval_put a d t v (by omega)
          have d5 : L 5 = true := hdp ⟨5, .data⟩ (by simp) rfl
          have d10 : L 10 = true := hdp ⟨10, .data⟩ (by simp) rfl
          obtain ⟨b, h2, h4, h5, h7, h9, h10, h11, h13, f0, f1, f2, f3, f4, f5, f6, f7, f8, f9, f10, f11, f12, kb, kc⟩ := hF
          have ho := f5 d5 hL
          obtain ⟨o, e14, ho2⟩ := f10 d10
          refine step_append_any wr rfl (.tmp 40) (.tmp 45) 24 rfl wq.heap.size 32 i1 _ 2 16 Try.underlying24 hi'.out.1 hi'.out.2.1 hi'.out.2.2.1 hi'.out.2.2.2 rfl (by decide) (a.eval (.tmp 40)) i _ rfl ho wr.heap.size (some ⟨gR, o, none⟩) (cs.length - (i + 1)) (d - (i + 1)) (cmps (cs.drop (i + 1))) e14 (by
            rcases ho2 with rfl | h3
            · exact creads_off (own_kept oRq b hneR) (by omega)
            · rw [h3]; exact creads_none (own_kept oRq b hneR) o) (cmps_one _) (by unfold maxLen; omega) (by omega) b.size ?_
          intro v9 w9 o9 gr9 at9
          rw [show i + (cs.length - (i + 1)) = cs.length - 1 by omega, show cmps (cs.take i) ++ cmps (cs.drop (i + 1)) = cmps (cs.eraseIdx i) by rw [List.eraseIdx_eq_take_drop_succ, cmps_append]] at o9
          refine hK _ _ ⟨hst.put 46 _ (by decide), by simpa [Act.put] using hsz, (ev 46 7 _ (by decide)).trans q7, (ev 46 9 _ (by decide)).trans q9, ?_⟩
          simp only [ev 46 _ _ (by decide)]
          exact ⟨near_step b gr9 (fun q hq => .inr (own_lt ho q hq).1), h2, h4, h5, h7, h9, h10, fun _ => ⟨d5, d10⟩, fun e => absurd ((h13 e).2.symm.trans hL) (by decide), fun e e2 => absurd (d5.symm.trans e2) (by decide), f1, f2, f3, f4, fun _ e => absurd ((upd_self L 11).symm.trans e) (by decide), f6, f7, f8, f9, f10, fun _ => o9, f12, fun e => (kb e).grown gr9 (fun e2 => by have := (own_lt ho gN e2.symm).1; omega), fun e => absurd ((h13 e).2.symm.trans hL) (by decide)⟩
        case s12 =>
          rintro L a wr ⟨hst, hsz, q7, q9, hF⟩ hL hdp K hK
          have ev := fun (d t : Nat) (v : Value) (hd : d < 59) => eval_put a d t v (by omega)
          obtain ⟨b, h2, h4, h5, h7, h9, h10, h11, h13, f0, f1, f2, f3, f4, f5, f6, f7, f8, f9, f10, f11, f12, kb, kc⟩ := hF
          have t7 := q7
          rw [eval_tmp, Array.getD_eq_getD_getElem?] at t7
          refine step_value (v := .pointer (some ⟨gN, 1, none⟩)) (w' := wr) rfl (by go_simp) ?_
          refine hK _ _ ⟨hst.put 47 _ (by decide), by simpa [Act.put] using hsz, (ev 47 7 _ (by decide)).trans q7, (ev 47 9 _ (by decide)).trans q9, ?_⟩
          simp only [ev 47 _ _ (by decide)]
          exact ⟨b, h2, h4, h5, h7, h9, h10, h11, fun e => absurd ((h13 e).1.symm.trans hL) (by decide), f0, f1, f2, f3, f4, f5, f6, f7, f8, f9, f10, f11, fun _ => rfl, kb, kc⟩
        case s13 =>
          rintro L a wr ⟨hst, hsz, q7, q9, hF⟩ hL hdp K hK
          have ev := fun (d t : Nat) (v : Value) (hd : d < 59) => eval_put a d t v (by omega)
          have d12 : L 12 = true := hdp ⟨12, .data⟩ (by simp) rfl
          have d11 : L 11 = true := hdp ⟨11, .data⟩ (by simp) rfl
          obtain ⟨b, h2, h4, h5, h7, h9, h10, h11, h13, f0, f1, f2, f3, f4, f5, f6, f7, f8, f9, f10, f11, f12, kb, kc⟩ := hF
          have t47 := f12 d12
          have t47 := f12 d12
          obtain ⟨Z, zc, eZ⟩ := own_slice (f11 d11)
          have t46 := eZ
          rw [eval_tmp, Array.getD_eq_getD_getElem?] at t46 t47
          have hkb := kb hL
          have hfz := hkb.frozen 1
          have hcl := hkb.two.2
          have hlt := hkb.lt
          refine step_skip (w' := wr.setCell ⟨gN, 1, none⟩ (.slice Z (cs.length - 1) zc)) rfl (by go_simp) ?_
          refine hK _ _ ⟨hst.put_none _, hsz, q7, q9, ?_⟩
          exact ⟨near_set b 1 _, h2, h4, h5, h7, h9, h10, h11, fun _ => ⟨d12, d11⟩, fun e e2 => absurd ((h11 d11).1.symm.trans e2) (by decide), f1, f2, f3, f4, fun e e2 => absurd (d11.symm.trans e2) (by decide), f6, f7, f8, f9, f10, fun e => own_setCell (f11 e) (fun e2 => by have h9 : gN = (⟨gN, 1, none⟩ : Addr).block := rfl; have := (own_lt (f11 e) gN (by simpa using e2)).1; omega) _, f12, fun e => absurd ((upd_self L 13).symm.trans e) (by decide), fun _ => by show Blk _ gN _ #[.int .i64 W, a.eval (.tmp 46)]; rw [eZ]; simpa using hkb.set_ 1 (.slice Z (cs.length - 1) zc)⟩
end Go.Proofs.Yteigceeghnphmaa
