/- Merging several ascending lists of records: the program's merge. -/
import Derived.Test.YtifjihpnhmemgaaKwW
import Derived.Test.YtifjihpnhmemgaaTreeS
namespace Go.Proofs.Ytifjihpnhmemgaa
open Go.RowKit
set_option linter.unusedVariables false
theorem own_mkB {w : World} {base g k : Nat} {e : TypeId} (hb : base ≤ w.heap.size) (hg : w.heap.size = g) (hm : k ≤ maxLen) :
    (w.alloc (.cells (madeCells #[.bool false] k) e)).ownsRow base e 1 (.slice (some ⟨g, 0, none⟩) k k) k (bools (List.replicate k false)) := by
  subst hg
  have h := own_full (base := base) (e := e) (size := 1) w (madeCells #[.bool false] k) k hb hm (by simp [size_madeCells])
  have e2 : (madeCells #[Value.bool false] k).toList = bools (List.replicate k false) := by simp [bools, toList_madeCells_one]
  rwa [e2] at h
theorem nats_zero (k : Nat) : nats (List.replicate k 0) = ints (List.replicate k 0) := by simp [nats, ints]
theorem Blk.ne_type {w : World} {p q : Nat} {T T' : TypeId} {cs cs' : Array Value} (h : Blk w p T cs) (h' : Blk w q T' cs') (hn : T ≠ T') : p ≠ q := by
  rintro rfl
  have h2 := h.symm.trans h'
  injection h2 with h2
  injection h2 with h3 h4
  exact hn h4
theorem cmps_push_ (out : Recs) (r1 r2 : Int) : cmps out ++ (#[Value.int .i64 r1, .int .i64 r2] : Array Value).toList = cmps (out ++ [(r1, r2)]) := by rw [cmps_append]; rfl
theorem nxA_le_sum : ∀ (nx : List Nat) (i : Nat), nxA nx i ≤ nx.sum
  | [], i => by simp [nxA]
  | a :: nx, 0 => by simp [nxA]
  | a :: nx, i + 1 => by
    have := nxA_le_sum nx i
    simp only [nxA, List.getElem?_cons_succ, List.sum_cons] at this ⊢
    omega
theorem ReadsQQ.atB {w : World} {B : Nat} {zss : List Recs} {A : Option Addr} (h : ReadsQQ w B A zss) {k : Nat} (hk : k < zss.length) : ∃ ad A' c', A = some ad ∧ (ad.add k).block < B ∧ w.cell? (ad.add k) = some (.slice A' zss[k].length c') ∧ Reads w B 2 A' zss[k].length (cmps zss[k]) := by
  obtain ⟨vals, h1, h2⟩ := h
  obtain ⟨ad, u, rfl, hb, hu, hc⟩ := h1.at_ hk
  obtain ⟨A', c', rfl, hr⟩ := h2 k u zss[k] hu (List.getElem?_eq_getElem hk)
  exact ⟨ad, A', c', rfl, by rw [block_of_add]; exact hb, hc, hr⟩
def KwB (wq : World) (k : Nat) (L : Nat → Bool) (wr : World) (v0 v1 v2 v3 v4 v5 v6 v7 v8 : Value) : Prop :=
  (Below wq.heap.size wq wr) ∧
  (L 1 = true → L 0 = true) ∧
  (L 3 = true → L 2 = true) ∧
  (L 5 = true → L 4 = true) ∧
  (L 9 = true → L 6 = true ∧ L 1 = true) ∧
  (L 10 = true → L 7 = true ∧ L 3 = true ∧ L 9 = true) ∧
  (L 11 = true → L 8 = true ∧ L 5 = true ∧ L 10 = true) ∧
  (L 0 = true → v0 = .int .i64 (k : Nat)) ∧
  (L 1 = true → ∃ g, v1 = .slice (some ⟨g, 0, none⟩) k k ∧ wr.ownsRow wq.heap.size 3 1 v1 k (nats (List.replicate k 0))) ∧
  (L 2 = true → v2 = .int .i64 (k : Nat)) ∧
  (L 3 = true → ∃ g, v3 = .slice (some ⟨g, 0, none⟩) k k ∧ wr.ownsRow wq.heap.size 4 1 v3 k (bools (List.replicate k false))) ∧
  (L 4 = true → v4 = .int .i64 (k : Nat)) ∧
  (L 5 = true → ∃ g, v5 = .slice (some ⟨g, 0, none⟩) k k ∧ wr.ownsRow wq.heap.size 3 1 v5 k (nats (List.replicate k 0))) ∧
  (L 6 = true → ∃ p, v6 = .pointer (some ⟨p, 0, none⟩) ∧ p < wr.heap.size ∧ wq.heap.size ≤ p ∧ (L 9 = false → Blk wr p 51 #[.slice none 0 0]) ∧ (L 9 = true → Blk wr p 51 #[v1])) ∧
  (L 7 = true → ∃ p, v7 = .pointer (some ⟨p, 0, none⟩) ∧ p < wr.heap.size ∧ wq.heap.size ≤ p ∧ (L 10 = false → Blk wr p 52 #[.slice none 0 0]) ∧ (L 10 = true → Blk wr p 52 #[v3])) ∧
  (L 8 = true → ∃ p, v8 = .pointer (some ⟨p, 0, none⟩) ∧ p < wr.heap.size ∧ wq.heap.size ≤ p ∧ (L 11 = false → Blk wr p 51 #[.slice none 0 0]) ∧ (L 11 = true → Blk wr p 51 #[v5])) ∧
  (L 1 = true → L 5 = true → v1.ownBlock ≠ v5.ownBlock) ∧
  (L 6 = true → L 8 = true → v6 ≠ v8)
def KwP (B : Nat) (wq : World) (gO m cO LL c i x n2 c2 gN : Nat) (ad bd : Addr) (r1 r2 : Int) (out : Recs) (L : Nat → Bool) (wr : World) (v0 v1 v2 v3 v4 v5 v6 v7 v8 v9 v10 v11 v12 v13 : Value) : Prop :=
  (wq.grownBy wr (Value.slice (some ⟨gO, 0, none⟩) m cO).ownBlock) ∧
  (L 3 = true → L 1 = true ∧ L 2 = true) ∧
  (L 4 = true → L 3 = true) ∧
  (L 7 = true → L 5 = true ∧ L 6 = true) ∧
  (L 8 = true → L 7 = true) ∧
  (L 9 = true → L 4 = true ∧ L 8 = true) ∧
  (L 10 = true → L 9 = true) ∧
  (L 11 = true → L 10 = true) ∧
  (L 12 = true → L 0 = true ∧ L 11 = true) ∧
  (L 13 = true → L 12 = true) ∧
  (L 0 = true → v0 = .slice (some ⟨gO, 0, none⟩) m cO) ∧
  (L 1 = true → v1 = .slice (some ad) LL c) ∧
  (L 2 = true → v2 = .int .i64 (i : Nat)) ∧
  (L 3 = true → v3 = .pointer (some (ad.add i))) ∧
  (L 4 = true → v4 = .slice (some bd) n2 c2) ∧
  (L 5 = true → v5 = .slice (some ⟨gN, 0, none⟩) LL LL) ∧
  (L 6 = true → v6 = .int .i64 (i : Nat)) ∧
  (L 7 = true → v7 = .pointer (some ⟨gN, i, none⟩)) ∧
  (L 8 = true → v8 = .int .i64 (x : Nat)) ∧
  (L 9 = true → v9 = .pointer (some (bd.add (x * 2)))) ∧
  (L 10 = true → v10 = .agg #[.int .i64 r1, .int .i64 r2]) ∧
  (L 11 = true → L 12 = false → ∃ g, v11 = .slice (some ⟨g, 0, none⟩) 1 1 ∧ Blk wr g 47 #[.int .i64 r1, .int .i64 r2]) ∧
  (L 12 = true → ∃ g d, v12 = .slice (some ⟨g, 0, none⟩) (m + 1) d ∧ wr.ownsRow B 47 2 (.slice (some ⟨g, 0, none⟩) (m + 1) d) (m + 1) (cmps (out ++ [(r1, r2)]))) ∧
  (L 13 = true → v13 = v12) ∧
  (L 13 = false → v13 = .slice (some ⟨gO, 0, none⟩) m cO) ∧
  (L 12 = false → wr.ownsRow B 47 2 (.slice (some ⟨gO, 0, none⟩) m cO) m (cmps out))
/-- the merge under way -/
def Kp (w : World) (A : Option Addr) (c : Nat) (L : List Recs) (p5 p6 p7 gK gD gN F : Nat) (vo vc : Value) (wr : World) : Prop := ∃ (gO m cO : Nat) (nx : List Nat) (out : Recs) (cnt : Nat), vo = .slice (some ⟨gO, 0, none⟩) m cO ∧ vc = .int .i64 (cnt : Nat) ∧
  Hid (KS w.heap.size A c L w.heap.size p5 p6 p7 gK gD gN wr (KY L nx) (DN L nx) nx) ∧ Hid (wr.ownsRow w.heap.size 47 2 (.slice (some ⟨gO, 0, none⟩) m cO) m (cmps out)) ∧ Hid (out.length = m) ∧ Hid (Below w.heap.size w wr) ∧ Hid (KI L F nx out cnt)
set_option maxRecDepth 100000 in
set_option maxHeartbeats 12800000 in
theorem kWay_any (A : Option Addr) (Z : List Recs) (c : Nat) (w : World) (hx : ReadsQQ w w.heap.size A Z) (h1 : 1 ≤ Z.length) (h16 : Z.length ≤ 16) (ht : totR Z ≤ 64) :
    Calls Try.prog 25 #[.slice A Z.length c] w fun e w' => ∃ g d, e = .returned (.tuple #[.slice (some ⟨g, 0, none⟩) (kwR Z).1.length d, .int .i64 ((kwR Z).2 : Nat)]) ∧
      w'.ownsRow w.heap.size 47 2 (.slice (some ⟨g, 0, none⟩) (kwR Z).1.length d) (kwR Z).1.length (cmps (kwR Z).1) ∧ Below w.heap.size w w' := by
  obtain ⟨i2, hj, hy0, hy1, hy2⟩ := info_parts (show (Try.prog.info? 3).map (fun i => (i.zero, i.size, i.bytes)) = some (some (.int .i64 0), 1, 8) by kernel_rfl)
  obtain ⟨i1, hk, hv0, hv1, hv2⟩ := info_parts (show (Try.prog.info? 4).map (fun i => (i.zero, i.size, i.bytes)) = some (some (.bool false), 1, 1) by kernel_rfl)
  obtain ⟨i0, hi0, hz0, hz1, hz2⟩ := info_parts info_rec
  have HI0 := Lib.hid (And.intro hi0 (And.intro hz0 (And.intro hz1 hz2)))
  clear hi0 hz0 hz1 hz2
  have HBX := Blk.new w 27 #[.slice A Z.length c]
  have HB0 := alloc_ (Below.refl w.heap.size w) (.cells #[.slice A Z.length c] 27)
  have hrd := hx
  clear hx
  go_enter Try.func25, Try.ntmps25
  go_upto_region 2 with fail
  generalize hw0 : w.alloc (.cells #[.slice A Z.length c] 27) = w0 at *
  clear hw0
  go_cut [5, 6, 7] (fun a5 a6 a7 wc => ∃ (p5 p6 p7 gK gD gN : Nat), a5 = .pointer (some ⟨p5, 0, none⟩) ∧ a6 = .pointer (some ⟨p6, 0, none⟩) ∧ a7 = .pointer (some ⟨p7, 0, none⟩) ∧
    KS w.heap.size A c Z w.heap.size p5 p6 p7 gK gD gN wc (List.replicate Z.length 0) (List.replicate Z.length false) (List.replicate Z.length 0) ∧ Below w.heap.size w wc)
  case first =>
    have hbq : Below w.heap.size w w0.drew := bdrew HB0
    have hbox : Blk w0.drew w.heap.size 27 #[.slice A Z.length c] := HBX
    obtain ⟨wq, hwq⟩ : ∃ wq, w0.drew = wq := ⟨_, rfl⟩
    rw [hwq] at hbq hbox
    have hlm : Z.length ≤ maxLen := by unfold maxLen; omega
    obtain ⟨k, hkL⟩ : ∃ k, Z.length = k := ⟨_, rfl⟩
    have hmkI := run_make_row (P := Try.prog) 51 3 i2 (.int .i64 0) Try.underlying51 hj hy0 hy1 rfl .i64 .i64 Z.length (by rw [hy2]; omega) (by omega)
    have hmkB := run_make_row (P := Try.prog) 52 4 i1 (.bool false) Try.underlying52 hk hv0 hv1 rfl .i64 .i64 Z.length (by rw [hv2]; omega) (by omega)
    clear HI0
    refine wp_region_inv' (fun a0 L a wr => St a0 a [15, 16, 17, 18, 19, 20, 5, 6, 7] ∧ 30 < a.tmps.size ∧ a.eval (.tmp 4) = .int .i64 (Z.length : Nat) ∧ KwB wq Z.length L wr (a.eval (.tmp 15)) (a.eval (.tmp 16)) (a.eval (.tmp 17)) (a.eval (.tmp 18)) (a.eval (.tmp 19)) (a.eval (.tmp 20)) (a.eval (.tmp 5)) (a.eval (.tmp 6)) (a.eval (.tmp 7))) (by kernel_rfl) (by kernel_rfl) ?start ?steps ?ends
    case start =>
      subst hwq
      refine ⟨St.refl _ _, Nat.le_of_ble_eq_true rfl, rfl, Below.refl _ _, ?_, ?_, ?_, ?_, ?_, ?_, ?_, ?_, ?_, ?_, ?_, ?_, ?_, ?_, ?_, ?_, ?_⟩
      all_goals (intro e; first | (cases e; done) | rfl | assumption)
    case ends =>
      rintro L a wr ⟨hst, hsz, q4, b, h1, h3, h5, h9, h10, h11, f0, f1, f2, f3, f4, f5, f6, f7, f8, n15, n68⟩ hall
      obtain ⟨gK, e16, oK⟩ := f1 (hall 1 (by decide))
      obtain ⟨gD, e18, oD⟩ := f3 (hall 3 (by decide))
      obtain ⟨gN, e20, oN⟩ := f5 (hall 5 (by decide))
      obtain ⟨p5, e5, -, hp5, -, C5⟩ := f6 (hall 6 (by decide))
      obtain ⟨p6, e6, -, hp6, -, C6⟩ := f7 (hall 7 (by decide))
      obtain ⟨p7, e7, -, hp7, -, C7⟩ := f8 (hall 8 (by decide))
      have B5 := C5 (hall 9 (by decide))
      have B6 := C6 (hall 10 (by decide))
      have B7 := C7 (hall 11 (by decide))
      have hne := n15 (hall 1 (by decide)) (hall 5 (by decide))
      rw [e16] at oK B5 hne
      rw [e18] at oD B6
      rw [e20] at oN B7 hne
      clear e16 e18 e20 C5 C6 C7
      have heq := hst.eq
      simp only [List.foldl_cons, List.foldl_nil] at heq
      rw [e5] at heq
      rw [e6] at heq
      rw [e7] at heq
      clear hst hall hsz q4 h1 h3 h5 h9 h10 h11 f0 f1 f2 f3 f4 f5 f6 f7 f8 n15 n68
      generalize a.eval (.tmp 15) = u15 at *
      generalize a.eval (.tmp 16) = u16 at *
      generalize a.eval (.tmp 17) = u17 at *
      generalize a.eval (.tmp 18) = u18 at *
      generalize a.eval (.tmp 19) = u19 at *
      generalize a.eval (.tmp 20) = u20 at *
      simp only [Act.put, List.setIfInBounds_toArray, List.set_cons_zero, List.set_cons_succ] at heq
      subst heq
      clear e5 e6 e7
      have hbw := hbq.trans (b.mono hbq.size)
      have hKS : KS w.heap.size A c Z w.heap.size p5 p6 p7 gK gD gN wr (List.replicate Z.length 0) (List.replicate Z.length false) (List.replicate Z.length 0) :=
        ⟨hbw.size, hbox.below_ b, hrd.below hbw, B5, B6, B7, by have h9 := own_base oK hbq.size; rwa [nats_zero] at h9, own_base oD hbq.size, own_base oN hbq.size, fun e => hne (by simp [Value.ownBlock, e]), by simp, by simp, by simp⟩
      go_wp2_with fail
      go_meet
      exact ⟨p5, p6, p7, gK, gD, gN, rfl, rfl, rfl, hKS, hbw⟩
    case steps =>
      refine ⟨?s0, ?s1, ?s2, ?s3, ?s4, ?s5, ?s6, ?s7, ?s8, ?s9, ?s10, ?s11, trivial⟩
      case s0 =>
        rintro L a wr ⟨hst, hsz, q4, hF⟩ hL hdp K hK
        have ev := fun (d t : Nat) (v : Value) (hd : d < 31) => eval_put a d t v (by omega)
        obtain ⟨b, h1, h3, h5, h9, h10, h11, f0, f1, f2, f3, f4, f5, f6, f7, f8, n15, n68⟩ := hF
        have t4 := q4
        rw [eval_tmp, Array.getD_eq_getD_getElem?] at t4
        refine step_value (v := .int .i64 (Z.length : Nat)) (w' := wr) rfl (by go_simp) ?_
        refine hK _ _ ⟨hst.put 15 _ (by decide), by simpa [Act.put] using hsz, (ev 15 4 _ (by decide)).trans q4, ?_⟩
        simp only [ev 15 _ _ (by decide)]
        exact ⟨b, fun e => absurd ((h1 e).symm.trans hL) (by decide), h3, h5, h9, h10, h11, fun _ => rfl, f1, f2, f3, f4, f5, f6, f7, f8, n15, n68⟩
      case s1 =>
        rintro L a wr ⟨hst, hsz, q4, hF⟩ hL hdp K hK
        have ev := fun (d t : Nat) (v : Value) (hd : d < 31) => eval_put a d t v (by omega)
        have d0 : L 0 = true := hdp ⟨0, .data⟩ (by simp) rfl
        obtain ⟨b, h1, h3, h5, h9, h10, h11, f0, f1, f2, f3, f4, f5, f6, f7, f8, n15, n68⟩ := hF
        have t15 := f0 d0
        have t15 := f0 d0
        refine step_value (v := .slice (some ⟨wr.heap.size, 0, none⟩) Z.length Z.length) (w' := wr.alloc (.cells (madeCells #[.int .i64 0] Z.length) 3)) rfl (by simp only [execOp, t15]; simp only [Sem.run_bind, hmkI]; go_simp) ?_
        have hb9 : Below wr.heap.size wr (wr.alloc (.cells (madeCells #[.int .i64 0] Z.length) 3)) := Below.alloc (Below.refl _ _) (Nat.le_refl _) _
        refine hK _ _ ⟨hst.put 16 _ (by decide), by simpa [Act.put] using hsz, (ev 16 4 _ (by decide)).trans q4, ?_⟩
        simp only [ev 16 _ _ (by decide)]
        exact ⟨bthen b hb9, fun _ => d0, h3, h5, fun e => absurd ((h9 e).2.symm.trans hL) (by decide), h10, h11, f0, fun _ => ⟨_, rfl, own_mk b.size rfl hlm⟩, f2, fun e => by obtain ⟨g, e1, h⟩ := f3 e; exact ⟨g, e1, own_below h hb9 (Nat.le_refl _)⟩, f4, fun e => by obtain ⟨g, e1, h⟩ := f5 e; exact ⟨g, e1, own_below h hb9 (Nat.le_refl _)⟩, fun e => by obtain ⟨p, e1, hp, hp2, h, h2⟩ := f6 e; exact ⟨p, e1, Nat.lt_of_lt_of_le hp hb9.size, hp2, fun e2 => (h e2).below_ hb9, fun e2 => absurd ((h9 e2).2.symm.trans hL) (by decide)⟩, fun e => by obtain ⟨p, e1, hp, hp2, h, h2⟩ := f7 e; exact ⟨p, e1, Nat.lt_of_lt_of_le hp hb9.size, hp2, fun e2 => (h e2).below_ hb9, fun e2 => (h2 e2).below_ hb9⟩, fun e => by obtain ⟨p, e1, hp, hp2, h, h2⟩ := f8 e; exact ⟨p, e1, Nat.lt_of_lt_of_le hp hb9.size, hp2, fun e2 => (h e2).below_ hb9, fun e2 => (h2 e2).below_ hb9⟩, fun _ e => by obtain ⟨g, e1, h⟩ := f5 e; have h9 := (own_lt h g (by rw [e1]; rfl)).2; rw [e1]; intro e2; have h8 : wr.heap.size = g := Option.some.inj e2; omega, n68⟩
      case s2 =>
        rintro L a wr ⟨hst, hsz, q4, hF⟩ hL hdp K hK
        have ev := fun (d t : Nat) (v : Value) (hd : d < 31) => eval_put a d t v (by omega)
        obtain ⟨b, h1, h3, h5, h9, h10, h11, f0, f1, f2, f3, f4, f5, f6, f7, f8, n15, n68⟩ := hF
        have t4 := q4
        rw [eval_tmp, Array.getD_eq_getD_getElem?] at t4
        refine step_value (v := .int .i64 (Z.length : Nat)) (w' := wr) rfl (by go_simp) ?_
        refine hK _ _ ⟨hst.put 17 _ (by decide), by simpa [Act.put] using hsz, (ev 17 4 _ (by decide)).trans q4, ?_⟩
        simp only [ev 17 _ _ (by decide)]
        exact ⟨b, h1, fun e => absurd ((h3 e).symm.trans hL) (by decide), h5, h9, h10, h11, f0, f1, fun _ => rfl, f3, f4, f5, f6, f7, f8, n15, n68⟩
      case s3 =>
        rintro L a wr ⟨hst, hsz, q4, hF⟩ hL hdp K hK
        have ev := fun (d t : Nat) (v : Value) (hd : d < 31) => eval_put a d t v (by omega)
        have d2 : L 2 = true := hdp ⟨2, .data⟩ (by simp) rfl
        obtain ⟨b, h1, h3, h5, h9, h10, h11, f0, f1, f2, f3, f4, f5, f6, f7, f8, n15, n68⟩ := hF
        have t17 := f2 d2
        have t17 := f2 d2
        refine step_value (v := .slice (some ⟨wr.heap.size, 0, none⟩) Z.length Z.length) (w' := wr.alloc (.cells (madeCells #[.bool false] Z.length) 4)) rfl (by simp only [execOp, t17]; simp only [Sem.run_bind, hmkB]; go_simp) ?_
        have hb9 : Below wr.heap.size wr (wr.alloc (.cells (madeCells #[.bool false] Z.length) 4)) := Below.alloc (Below.refl _ _) (Nat.le_refl _) _
        refine hK _ _ ⟨hst.put 18 _ (by decide), by simpa [Act.put] using hsz, (ev 18 4 _ (by decide)).trans q4, ?_⟩
        simp only [ev 18 _ _ (by decide)]
        exact ⟨bthen b hb9, h1, fun _ => d2, h5, h9, fun e => absurd ((h10 e).2.1.symm.trans hL) (by decide), h11, f0, fun e => by obtain ⟨g, e1, h⟩ := f1 e; exact ⟨g, e1, own_below h hb9 (Nat.le_refl _)⟩, f2, fun _ => ⟨_, rfl, own_mkB b.size rfl hlm⟩, f4, fun e => by obtain ⟨g, e1, h⟩ := f5 e; exact ⟨g, e1, own_below h hb9 (Nat.le_refl _)⟩, fun e => by obtain ⟨p, e1, hp, hp2, h, h2⟩ := f6 e; exact ⟨p, e1, Nat.lt_of_lt_of_le hp hb9.size, hp2, fun e2 => (h e2).below_ hb9, fun e2 => (h2 e2).below_ hb9⟩, fun e => by obtain ⟨p, e1, hp, hp2, h, h2⟩ := f7 e; exact ⟨p, e1, Nat.lt_of_lt_of_le hp hb9.size, hp2, fun e2 => (h e2).below_ hb9, fun e2 => absurd ((h10 e2).2.1.symm.trans hL) (by decide)⟩, fun e => by obtain ⟨p, e1, hp, hp2, h, h2⟩ := f8 e; exact ⟨p, e1, Nat.lt_of_lt_of_le hp hb9.size, hp2, fun e2 => (h e2).below_ hb9, fun e2 => (h2 e2).below_ hb9⟩, n15, n68⟩
      case s4 =>
        rintro L a wr ⟨hst, hsz, q4, hF⟩ hL hdp K hK
        have ev := fun (d t : Nat) (v : Value) (hd : d < 31) => eval_put a d t v (by omega)
        obtain ⟨b, h1, h3, h5, h9, h10, h11, f0, f1, f2, f3, f4, f5, f6, f7, f8, n15, n68⟩ := hF
        have t4 := q4
        rw [eval_tmp, Array.getD_eq_getD_getElem?] at t4
        refine step_value (v := .int .i64 (Z.length : Nat)) (w' := wr) rfl (by go_simp) ?_
        refine hK _ _ ⟨hst.put 19 _ (by decide), by simpa [Act.put] using hsz, (ev 19 4 _ (by decide)).trans q4, ?_⟩
        simp only [ev 19 _ _ (by decide)]
        exact ⟨b, h1, h3, fun e => absurd ((h5 e).symm.trans hL) (by decide), h9, h10, h11, f0, f1, f2, f3, fun _ => rfl, f5, f6, f7, f8, n15, n68⟩
      case s5 =>
        rintro L a wr ⟨hst, hsz, q4, hF⟩ hL hdp K hK
        have ev := fun (d t : Nat) (v : Value) (hd : d < 31) => eval_put a d t v (by omega)
        have d4 : L 4 = true := hdp ⟨4, .data⟩ (by simp) rfl
        obtain ⟨b, h1, h3, h5, h9, h10, h11, f0, f1, f2, f3, f4, f5, f6, f7, f8, n15, n68⟩ := hF
        have t19 := f4 d4
        have t19 := f4 d4
        refine step_value (v := .slice (some ⟨wr.heap.size, 0, none⟩) Z.length Z.length) (w' := wr.alloc (.cells (madeCells #[.int .i64 0] Z.length) 3)) rfl (by simp only [execOp, t19]; simp only [Sem.run_bind, hmkI]; go_simp) ?_
        have hb9 : Below wr.heap.size wr (wr.alloc (.cells (madeCells #[.int .i64 0] Z.length) 3)) := Below.alloc (Below.refl _ _) (Nat.le_refl _) _
        refine hK _ _ ⟨hst.put 20 _ (by decide), by simpa [Act.put] using hsz, (ev 20 4 _ (by decide)).trans q4, ?_⟩
        simp only [ev 20 _ _ (by decide)]
        exact ⟨bthen b hb9, h1, h3, fun _ => d4, h9, h10, fun e => absurd ((h11 e).2.1.symm.trans hL) (by decide), f0, fun e => by obtain ⟨g, e1, h⟩ := f1 e; exact ⟨g, e1, own_below h hb9 (Nat.le_refl _)⟩, f2, fun e => by obtain ⟨g, e1, h⟩ := f3 e; exact ⟨g, e1, own_below h hb9 (Nat.le_refl _)⟩, f4, fun _ => ⟨_, rfl, own_mk b.size rfl hlm⟩, fun e => by obtain ⟨p, e1, hp, hp2, h, h2⟩ := f6 e; exact ⟨p, e1, Nat.lt_of_lt_of_le hp hb9.size, hp2, fun e2 => (h e2).below_ hb9, fun e2 => (h2 e2).below_ hb9⟩, fun e => by obtain ⟨p, e1, hp, hp2, h, h2⟩ := f7 e; exact ⟨p, e1, Nat.lt_of_lt_of_le hp hb9.size, hp2, fun e2 => (h e2).below_ hb9, fun e2 => (h2 e2).below_ hb9⟩, fun e => by obtain ⟨p, e1, hp, hp2, h, h2⟩ := f8 e; exact ⟨p, e1, Nat.lt_of_lt_of_le hp hb9.size, hp2, fun e2 => (h e2).below_ hb9, fun e2 => absurd ((h11 e2).2.1.symm.trans hL) (by decide)⟩, fun e _ => by obtain ⟨g, e1, h⟩ := f1 e; have h9 := (own_lt h g (by rw [e1]; rfl)).2; rw [e1]; intro e2; have h8 : g = wr.heap.size := Option.some.inj e2; omega, n68⟩
      case s6 =>
        rintro L a wr ⟨hst, hsz, q4, hF⟩ hL hdp K hK
        have ev := fun (d t : Nat) (v : Value) (hd : d < 31) => eval_put a d t v (by omega)
        obtain ⟨b, h1, h3, h5, h9, h10, h11, f0, f1, f2, f3, f4, f5, f6, f7, f8, n15, n68⟩ := hF
        refine step_value (v := .pointer (some ⟨wr.heap.size, 0, none⟩)) (w' := wr.alloc (.cells #[.slice none 0 0] 51)) rfl (by go_simp) ?_
        have hb9 : Below wr.heap.size wr (wr.alloc (.cells #[.slice none 0 0] 51)) := Below.alloc (Below.refl _ _) (Nat.le_refl _) _
        refine hK _ _ ⟨hst.put 5 _ (by decide), by simpa [Act.put] using hsz, (ev 5 4 _ (by decide)).trans q4, ?_⟩
        simp only [ev 5 _ _ (by decide)]
        exact ⟨bthen b hb9, h1, h3, h5, fun e => absurd ((h9 e).1.symm.trans hL) (by decide), h10, h11, f0, fun e => by obtain ⟨g, e1, h⟩ := f1 e; exact ⟨g, e1, own_below h hb9 (Nat.le_refl _)⟩, f2, fun e => by obtain ⟨g, e1, h⟩ := f3 e; exact ⟨g, e1, own_below h hb9 (Nat.le_refl _)⟩, f4, fun e => by obtain ⟨g, e1, h⟩ := f5 e; exact ⟨g, e1, own_below h hb9 (Nat.le_refl _)⟩, fun _ => ⟨_, rfl, by simp, b.size, fun _ => Blk.new _ _ _, fun e => absurd ((h9 e).1.symm.trans hL) (by decide)⟩, fun e => by obtain ⟨p, e1, hp, hp2, h, h2⟩ := f7 e; exact ⟨p, e1, Nat.lt_of_lt_of_le hp hb9.size, hp2, fun e2 => (h e2).below_ hb9, fun e2 => (h2 e2).below_ hb9⟩, fun e => by obtain ⟨p, e1, hp, hp2, h, h2⟩ := f8 e; exact ⟨p, e1, Nat.lt_of_lt_of_le hp hb9.size, hp2, fun e2 => (h e2).below_ hb9, fun e2 => (h2 e2).below_ hb9⟩, n15, fun _ e => by obtain ⟨p, e1, hp, -⟩ := f8 e; rw [e1]; intro e2; cases e2; exact absurd hp (Nat.lt_irrefl _)⟩
      case s7 =>
        rintro L a wr ⟨hst, hsz, q4, hF⟩ hL hdp K hK
        have ev := fun (d t : Nat) (v : Value) (hd : d < 31) => eval_put a d t v (by omega)
        obtain ⟨b, h1, h3, h5, h9, h10, h11, f0, f1, f2, f3, f4, f5, f6, f7, f8, n15, n68⟩ := hF
        refine step_value (v := .pointer (some ⟨wr.heap.size, 0, none⟩)) (w' := wr.alloc (.cells #[.slice none 0 0] 52)) rfl (by go_simp) ?_
        have hb9 : Below wr.heap.size wr (wr.alloc (.cells #[.slice none 0 0] 52)) := Below.alloc (Below.refl _ _) (Nat.le_refl _) _
        refine hK _ _ ⟨hst.put 6 _ (by decide), by simpa [Act.put] using hsz, (ev 6 4 _ (by decide)).trans q4, ?_⟩
        simp only [ev 6 _ _ (by decide)]
        exact ⟨bthen b hb9, h1, h3, h5, h9, fun e => absurd ((h10 e).1.symm.trans hL) (by decide), h11, f0, fun e => by obtain ⟨g, e1, h⟩ := f1 e; exact ⟨g, e1, own_below h hb9 (Nat.le_refl _)⟩, f2, fun e => by obtain ⟨g, e1, h⟩ := f3 e; exact ⟨g, e1, own_below h hb9 (Nat.le_refl _)⟩, f4, fun e => by obtain ⟨g, e1, h⟩ := f5 e; exact ⟨g, e1, own_below h hb9 (Nat.le_refl _)⟩, fun e => by obtain ⟨p, e1, hp, hp2, h, h2⟩ := f6 e; exact ⟨p, e1, Nat.lt_of_lt_of_le hp hb9.size, hp2, fun e2 => (h e2).below_ hb9, fun e2 => (h2 e2).below_ hb9⟩, fun _ => ⟨_, rfl, by simp, b.size, fun _ => Blk.new _ _ _, fun e => absurd ((h10 e).1.symm.trans hL) (by decide)⟩, fun e => by obtain ⟨p, e1, hp, hp2, h, h2⟩ := f8 e; exact ⟨p, e1, Nat.lt_of_lt_of_le hp hb9.size, hp2, fun e2 => (h e2).below_ hb9, fun e2 => (h2 e2).below_ hb9⟩, n15, n68⟩
      case s8 =>
        rintro L a wr ⟨hst, hsz, q4, hF⟩ hL hdp K hK
        have ev := fun (d t : Nat) (v : Value) (hd : d < 31) => eval_put a d t v (by omega)
        obtain ⟨b, h1, h3, h5, h9, h10, h11, f0, f1, f2, f3, f4, f5, f6, f7, f8, n15, n68⟩ := hF
        refine step_value (v := .pointer (some ⟨wr.heap.size, 0, none⟩)) (w' := wr.alloc (.cells #[.slice none 0 0] 51)) rfl (by go_simp) ?_
        have hb9 : Below wr.heap.size wr (wr.alloc (.cells #[.slice none 0 0] 51)) := Below.alloc (Below.refl _ _) (Nat.le_refl _) _
        refine hK _ _ ⟨hst.put 7 _ (by decide), by simpa [Act.put] using hsz, (ev 7 4 _ (by decide)).trans q4, ?_⟩
        simp only [ev 7 _ _ (by decide)]
        exact ⟨bthen b hb9, h1, h3, h5, h9, h10, fun e => absurd ((h11 e).1.symm.trans hL) (by decide), f0, fun e => by obtain ⟨g, e1, h⟩ := f1 e; exact ⟨g, e1, own_below h hb9 (Nat.le_refl _)⟩, f2, fun e => by obtain ⟨g, e1, h⟩ := f3 e; exact ⟨g, e1, own_below h hb9 (Nat.le_refl _)⟩, f4, fun e => by obtain ⟨g, e1, h⟩ := f5 e; exact ⟨g, e1, own_below h hb9 (Nat.le_refl _)⟩, fun e => by obtain ⟨p, e1, hp, hp2, h, h2⟩ := f6 e; exact ⟨p, e1, Nat.lt_of_lt_of_le hp hb9.size, hp2, fun e2 => (h e2).below_ hb9, fun e2 => (h2 e2).below_ hb9⟩, fun e => by obtain ⟨p, e1, hp, hp2, h, h2⟩ := f7 e; exact ⟨p, e1, Nat.lt_of_lt_of_le hp hb9.size, hp2, fun e2 => (h e2).below_ hb9, fun e2 => (h2 e2).below_ hb9⟩, fun _ => ⟨_, rfl, by simp, b.size, fun _ => Blk.new _ _ _, fun e => absurd ((h11 e).1.symm.trans hL) (by decide)⟩, n15, fun e _ => by obtain ⟨p, e1, hp, -⟩ := f6 e; rw [e1]; intro e2; cases e2; exact absurd hp (Nat.lt_irrefl _)⟩
      case s9 =>
        rintro L a wr ⟨hst, hsz, q4, hF⟩ hL hdp K hK
        have ev := fun (d t : Nat) (v : Value) (hd : d < 31) => eval_put a d t v (by omega)
        have d6 : L 6 = true := hdp ⟨6, .data⟩ (by simp) rfl
        have d1 : L 1 = true := hdp ⟨1, .data⟩ (by simp) rfl
        obtain ⟨b, h1, h3, h5, h9, h10, h11, f0, f1, f2, f3, f4, f5, f6, f7, f8, n15, n68⟩ := hF
        obtain ⟨g1, e16, o1⟩ := f1 d1
        obtain ⟨p, e5, hp, hp2, hbl, -⟩ := f6 d6
        have hbl := hbl hL
        have t16 := e16
        have t5 := e5
        rw [eval_tmp, Array.getD_eq_getD_getElem?] at t16 t5
        have hcl := hbl.cell 0
        have hfz := hbl.frozen 0
        have hlt := hbl.lt
        refine step_skip (w' := wr.setCell ⟨p, 0, none⟩ (.slice (some ⟨g1, 0, none⟩) Z.length Z.length)) rfl (by go_simp) ?_
        refine hK _ _ ⟨hst.put_none _, hsz, q4, ?_⟩
        exact ⟨Below.setCell b hp2 _, h1, h3, h5, fun _ => ⟨d6, d1⟩, fun e => absurd ((h10 e).2.2.symm.trans hL) (by decide), h11, f0, fun e => by obtain ⟨g, e1, h⟩ := f1 e; exact ⟨g, e1, own_setCell h (p := ⟨p, 0, none⟩) (own_blk_ne h hbl (by decide)) _⟩, f2, fun e => by obtain ⟨g, e1, h⟩ := f3 e; exact ⟨g, e1, own_setCell h (p := ⟨p, 0, none⟩) (own_blk_ne h hbl (by decide)) _⟩, f4, fun e => by obtain ⟨g, e1, h⟩ := f5 e; exact ⟨g, e1, own_setCell h (p := ⟨p, 0, none⟩) (own_blk_ne h hbl (by decide)) _⟩, fun _ => ⟨p, e5, by simpa [World.setCell] using hp, hp2, fun e => absurd ((upd_self L 9).symm.trans e) (by decide), fun _ => by show Blk _ p _ #[a.eval (.tmp 16)]; rw [e16]; simpa using hbl.set_ 0 (.slice (some ⟨g1, 0, none⟩) Z.length Z.length)⟩, fun e => by obtain ⟨q, e1, hq, hq2, h, h2⟩ := f7 e; exact ⟨q, e1, by simpa [World.setCell] using hq, hq2, fun e2 => (h e2).far (Blk.ne_type (h e2) hbl (by decide)) _, fun e2 => (h2 e2).far (Blk.ne_type (h2 e2) hbl (by decide)) _⟩, fun e => by obtain ⟨q, e1, hq, hq2, h, h2⟩ := f8 e; exact ⟨q, e1, by simpa [World.setCell] using hq, hq2, fun e2 => (h e2).far (fun e3 => (n68 d6 e).symm (by rw [e1, e5, e3])) _, fun e2 => (h2 e2).far (fun e3 => (n68 d6 e).symm (by rw [e1, e5, e3])) _⟩, n15, n68⟩
      case s10 =>
        rintro L a wr ⟨hst, hsz, q4, hF⟩ hL hdp K hK
        have ev := fun (d t : Nat) (v : Value) (hd : d < 31) => eval_put a d t v (by omega)
        have d7 : L 7 = true := hdp ⟨7, .data⟩ (by simp) rfl
        have d3 : L 3 = true := hdp ⟨3, .data⟩ (by simp) rfl
        have d9 : L 9 = true := hdp ⟨9, .chain⟩ (by simp) rfl
        obtain ⟨b, h1, h3, h5, h9, h10, h11, f0, f1, f2, f3, f4, f5, f6, f7, f8, n15, n68⟩ := hF
        obtain ⟨g1, e16, o1⟩ := f3 d3
        obtain ⟨p, e5, hp, hp2, hbl, -⟩ := f7 d7
        have hbl := hbl hL
        have t16 := e16
        have t5 := e5
        rw [eval_tmp, Array.getD_eq_getD_getElem?] at t16 t5
        have hcl := hbl.cell 0
        have hfz := hbl.frozen 0
        have hlt := hbl.lt
        refine step_skip (w' := wr.setCell ⟨p, 0, none⟩ (.slice (some ⟨g1, 0, none⟩) Z.length Z.length)) rfl (by go_simp) ?_
        refine hK _ _ ⟨hst.put_none _, hsz, q4, ?_⟩
        exact ⟨Below.setCell b hp2 _, h1, h3, h5, h9, fun _ => ⟨d7, d3, d9⟩, fun e => absurd ((h11 e).2.2.symm.trans hL) (by decide), f0, fun e => by obtain ⟨g, e1, h⟩ := f1 e; exact ⟨g, e1, own_setCell h (p := ⟨p, 0, none⟩) (own_blk_ne h hbl (by decide)) _⟩, f2, fun e => by obtain ⟨g, e1, h⟩ := f3 e; exact ⟨g, e1, own_setCell h (p := ⟨p, 0, none⟩) (own_blk_ne h hbl (by decide)) _⟩, f4, fun e => by obtain ⟨g, e1, h⟩ := f5 e; exact ⟨g, e1, own_setCell h (p := ⟨p, 0, none⟩) (own_blk_ne h hbl (by decide)) _⟩, fun e => by obtain ⟨q, e1, hq, hq2, h, h2⟩ := f6 e; exact ⟨q, e1, by simpa [World.setCell] using hq, hq2, fun e2 => (h e2).far (Blk.ne_type (h e2) hbl (by decide)) _, fun e2 => (h2 e2).far (Blk.ne_type (h2 e2) hbl (by decide)) _⟩, fun _ => ⟨p, e5, by simpa [World.setCell] using hp, hp2, fun e => absurd ((upd_self L 10).symm.trans e) (by decide), fun _ => by show Blk _ p _ #[a.eval (.tmp 18)]; rw [e16]; simpa using hbl.set_ 0 (.slice (some ⟨g1, 0, none⟩) Z.length Z.length)⟩, fun e => by obtain ⟨q, e1, hq, hq2, h, h2⟩ := f8 e; exact ⟨q, e1, by simpa [World.setCell] using hq, hq2, fun e2 => (h e2).far (Blk.ne_type (h e2) hbl (by decide)) _, fun e2 => (h2 e2).far (Blk.ne_type (h2 e2) hbl (by decide)) _⟩, n15, n68⟩
      case s11 =>
        rintro L a wr ⟨hst, hsz, q4, hF⟩ hL hdp K hK
        have ev := fun (d t : Nat) (v : Value) (hd : d < 31) => eval_put a d t v (by omega)
        have d8 : L 8 = true := hdp ⟨8, .data⟩ (by simp) rfl
        have d5 : L 5 = true := hdp ⟨5, .data⟩ (by simp) rfl
        have d10 : L 10 = true := hdp ⟨10, .chain⟩ (by simp) rfl
        obtain ⟨b, h1, h3, h5, h9, h10, h11, f0, f1, f2, f3, f4, f5, f6, f7, f8, n15, n68⟩ := hF
        obtain ⟨g1, e16, o1⟩ := f5 d5
        obtain ⟨p, e5, hp, hp2, hbl, -⟩ := f8 d8
        have hbl := hbl hL
        have t16 := e16
        have t5 := e5
        rw [eval_tmp, Array.getD_eq_getD_getElem?] at t16 t5
        have hcl := hbl.cell 0
        have hfz := hbl.frozen 0
        have hlt := hbl.lt
        refine step_skip (w' := wr.setCell ⟨p, 0, none⟩ (.slice (some ⟨g1, 0, none⟩) Z.length Z.length)) rfl (by go_simp) ?_
        refine hK _ _ ⟨hst.put_none _, hsz, q4, ?_⟩
        exact ⟨Below.setCell b hp2 _, h1, h3, h5, h9, h10, fun _ => ⟨d8, d5, d10⟩, f0, fun e => by obtain ⟨g, e1, h⟩ := f1 e; exact ⟨g, e1, own_setCell h (p := ⟨p, 0, none⟩) (own_blk_ne h hbl (by decide)) _⟩, f2, fun e => by obtain ⟨g, e1, h⟩ := f3 e; exact ⟨g, e1, own_setCell h (p := ⟨p, 0, none⟩) (own_blk_ne h hbl (by decide)) _⟩, f4, fun e => by obtain ⟨g, e1, h⟩ := f5 e; exact ⟨g, e1, own_setCell h (p := ⟨p, 0, none⟩) (own_blk_ne h hbl (by decide)) _⟩, fun e => by obtain ⟨q, e1, hq, hq2, h, h2⟩ := f6 e; exact ⟨q, e1, by simpa [World.setCell] using hq, hq2, fun e2 => (h e2).far (fun e3 => n68 e d8 (by rw [e1, e5, e3])) _, fun e2 => (h2 e2).far (fun e3 => n68 e d8 (by rw [e1, e5, e3])) _⟩, fun e => by obtain ⟨q, e1, hq, hq2, h, h2⟩ := f7 e; exact ⟨q, e1, by simpa [World.setCell] using hq, hq2, fun e2 => (h e2).far (Blk.ne_type (h e2) hbl (by decide)) _, fun e2 => (h2 e2).far (Blk.ne_type (h2 e2) hbl (by decide)) _⟩, fun _ => ⟨p, e5, by simpa [World.setCell] using hp, hp2, fun e => absurd ((upd_self L 11).symm.trans e) (by decide), fun _ => by show Blk _ p _ #[a.eval (.tmp 20)]; rw [e16]; simpa using hbl.set_ 0 (.slice (some ⟨g1, 0, none⟩) Z.length Z.length)⟩, n15, n68⟩
  case rest =>
    obtain ⟨p5, p6, p7, gK, gD, gN, rfl, rfl, rfl, hKS, hbw⟩ := hcut
    have HK0 := Lib.hid hKS
    have HW0 := Lib.hid hbw
    have x1 : wc.cell? ⟨w.heap.size, 0, none⟩ = some (.slice A Z.length c) := hKS.lst.cell 0
    clear hKS hbw HBX HB0 hrd hj hy0 hy1 hy2 hk hv0 hv1 hv2
    have hg := plain_of Try.func34 (by kernel_rfl) (by kernel_rfl)
    unfold Plain at hg
    go_wp2_with fail
    clear x1
    have HNZ := Lib.hid (NI.zero Z)
    go_loopw [24] (fun vi wr => ∃ (i : Nat) (ks : List Int) (ds : List Bool), i ≤ Z.length ∧ vi = .int .i64 (i : Nat) ∧ Hid (KS w.heap.size A c Z w.heap.size p5 p6 p7 gK gD gN wr ks ds (List.replicate Z.length 0)) ∧ Hid (ks.take i = (KY Z (List.replicate Z.length 0)).take i) ∧ Hid (ds.take i = (DN Z (List.replicate Z.length 0)).take i) ∧ Hid (Below w.heap.size w wr)) (fun vi _ => Z.length - (intOf vi).toNat)
    case atStart => exact ⟨0, _, _, by omega, rfl, HK0, Lib.hid (by simp), Lib.hid (by simp), HW0⟩
    case round =>
      clear HK0 HW0
      obtain ⟨i, ks, ds, hi, rfl, HK, HT, HU, HW⟩ := hrel
      by_cases hlt : i < Z.length
      · have hltI : (i : Int) < Z.length := by omega
        go_wp2_with fail
        refine (fill_any HK.out hlt (HNZ.out.le i hlt)).mono ?_
        rintro e w5 ⟨rfl, hks, hkf⟩
        have HK5 := Lib.hid hks
        have HW5 := Lib.hid (HW.out.trans hkf.b)
        have HT5 : Hid ((ks.set i (kB Z (List.replicate Z.length 0) i)).take (i + 1) = (KY Z (List.replicate Z.length 0)).take (i + 1)) := Lib.hid (by
          have h9 := set_take_succ (ys := ks) (zs := KY Z (List.replicate Z.length 0)) (k := i) (by rw [HK.out.kl, KY_len]) HT.out (by rw [KY_len]; exact hlt)
          rwa [KY_get hlt] at h9)
        have HU5 : Hid ((ds.set i (dB Z (List.replicate Z.length 0) i)).take (i + 1) = (DN Z (List.replicate Z.length 0)).take (i + 1)) := Lib.hid (by
          have h9 := set_take_succ (ys := ds) (zs := DN Z (List.replicate Z.length 0)) (k := i) (by rw [HK.out.dl, DN_len]) HU.out (by rw [DN_len]; exact hlt)
          rwa [DN_get hlt] at h9)
        clear hks hkf HK HT HU HW
        go_wp2_with fail
        go_roundw
        case rel => exact ⟨i + 1, _, _, by omega, by go_num, HK5, HT5, HU5, HW5⟩
        case measure => simp [intOf]; omega
      · have hltI : ¬ (i : Int) < Z.length := by omega
        have eK : ks = KY Z (List.replicate Z.length 0) := take_all_eq (by rw [HK.out.kl, KY_len]) (by rw [KY_len]; omega) HT.out
        have eD : ds = DN Z (List.replicate Z.length 0) := take_all_eq (by rw [HK.out.dl, DN_len]) (by rw [DN_len]; omega) HU.out
        rw [eK, eD] at HK
        clear eK eD HT HU HNZ hi
        have hm0 := made_at (w := wr) (base := w.heap.size) (g := wr.heap.size) (size := 2) (e := 47) HW.out.size rfl
        have HO9 := Lib.hid hm0
        have HK9 := Lib.hid (HK.out.below (alloc_ (Below.refl _ _) (.cells #[] 47)))
        have HW9 := Lib.hid (alloc_ HW.out (.cells #[] 47))
        clear hm0 HK HW
        have hc1 : (Z.length : Int) - 1 = ((Z.length - 1 : Nat) : Int) := by omega
        have HC1 := Lib.hid hc1; clear hc1
        go_wp2_with fail
        rw [HC1.out]
        generalize wr.alloc (.cells #[] 47) = w9 at *
        generalize wr.heap.size = g9 at *
        go_loopg [10, 11] 65 (fun F vo vc wr => Kp w A c Z p5 p6 p7 gK gD gN F vo vc wr)
        case atStart => exact ⟨g9, 0, 0, _, [], _, rfl, rfl, HK9, HO9, Lib.hid rfl, HW9, Lib.hid (KI.start h16)⟩
        case round =>
          clear HK9 HO9 HW9 HC1
          obtain ⟨gO, m, cO, nx, out, cnt, rfl, rfl, HK, HO, HOL, HW, HI⟩ := hrel
          obtain ⟨F, rfl⟩ : ∃ F, gk = F + 1 := ⟨gk - 1, by have := (HI.out.pos ht).1; omega⟩
          have hiL := winR_lt (L := Z) (nx := nx) h1
          obtain ⟨i, hiw⟩ : ∃ i, winR Z nx = i := ⟨_, rfl⟩
          rw [hiw] at hiL
          have HIW := Lib.hid hiw
          have hm64 : m ≤ 64 := by have h8 := (HI.out.pos ht).2; have h7 := HI.out.ol; have h6 := HOL.out; omega
          have hcnt : cnt ≤ 1040 := by have h8 := (HI.out.pos ht).2; have h7 := HI.out.cl; omega
          have x5 : wr.cell? ⟨p5, 0, none⟩ = some (.slice (some ⟨gK, 0, none⟩) Z.length Z.length) := HK.out.kb.cell 0
          have x6 : wr.cell? ⟨p6, 0, none⟩ = some (.slice (some ⟨gD, 0, none⟩) Z.length Z.length) := HK.out.db.cell 0
          have HT := Lib.hid (treeOf_any (some ⟨gK, 0, none⟩) (KY Z nx) Z.length (some ⟨gD, 0, none⟩) (DN Z nx) Z.length Z.length wr (KY_len _ _) (DN_len _ _) (by rw [KY_len]; exact Reads.of_own HK.out.kr) (by rw [DN_len]; exact Reads.of_own HK.out.dr) h1 (by omega))
          rw [show winnerV (KY Z nx) (DN Z nx) = i from hiw] at HT
          clear hiw
          go_wp2_with fail
          refine HT.out.mono ?_
          rintro e w1 ⟨AK, cK, AD, cD, gL, rfl, -, hb1⟩
          have HK1 := Lib.hid (HK.out.below hb1)
          have HO1 := Lib.hid (own_below HO.out hb1 (Nat.le_refl _))
          have HW1 := Lib.hid (bthen HW.out hb1)
          have hfd : ∀ w' : World, (Instr.field 54 (.agg #[.slice AK Z.length cK, .slice AD Z.length cD, .slice (some ⟨gL, 0, none⟩) Z.length Z.length, .int .i64 (i : Nat)]) 3).run Try.prog w' = .ok (.int .i64 (i : Nat)) w' := fun _ => by kernel_rfl
          clear hb1 x5 x6 HK HO HW HT
          have x6 : w1.cell? ⟨p6, 0, none⟩ = some (.slice (some ⟨gD, 0, none⟩) Z.length Z.length) := HK1.out.db.cell 0
          have x7 := HK1.out.cellD hiL
          rw [DN_get hiL] at x7
          have hiI : (i : Int) < Z.length := by omega
          cases hd : dB Z nx i
          · rw [hd] at x7
            have HD := Lib.hid hd
            clear hd
            go_upto_region 13 with fail
            clear x6 x7
            have hlt := HI.out.ni.lt hiL HD.out
            obtain ⟨x, hx⟩ : ∃ x, nxA nx i = x := ⟨_, rfl⟩
            rw [hx] at hlt
            have HXN := Lib.hid hx
            have hx64 : x ≤ 64 := by have h9 := HI.out.ni.sum; have h8 := nxA_le_sum nx i; omega
            clear hx
            go_cut [10] (fun v wc => ∃ (g d : Nat), v = .slice (some ⟨g, 0, none⟩) (m + 1) d ∧ KS w.heap.size A c Z w.heap.size p5 p6 p7 gK gD gN wc (KY Z nx) (DN Z nx) nx ∧ wc.ownsRow w.heap.size 47 2 (.slice (some ⟨g, 0, none⟩) (m + 1) d) (m + 1) (cmps (out ++ [rcR Z i x])) ∧ Below w.heap.size w wc)
            case first =>
              obtain ⟨ad, A2, c2, rfl, hadl, hcq0, hr2⟩ := HK1.out.rd.atB hiL
              have hn2 : lnR Z i = Z[i].length := by simp [lnR, hiL]
              have hlt2 : x < Z[i].length := by omega
              obtain ⟨bd, rfl, hbdl0, hcr10, hcr20⟩ := hr2.cmp hlt2
              have hbdl : (bd.add (x * 2)).block < w.heap.size := by rw [block_of_add]; exact hbdl0
              have HKS : Hid (KS w.heap.size (some ad) c Z w.heap.size p5 p6 p7 gK gD gN w1.drew (KY Z nx) (DN Z nx) nx) := Lib.hid (HK1.out.below (bdrew (Below.refl _ _)))
              have HOO : Hid (w1.drew.ownsRow w.heap.size 47 2 (.slice (some ⟨gO, 0, none⟩) m cO) m (cmps out)) := Lib.hid (own_drew_ HO1.out)
              have HBW : Hid (Below w.heap.size w w1.drew) := Lib.hid (bdrew HW1.out)
              have HBS : Hid (w.heap.size ≤ w1.drew.heap.size) := Lib.hid HBW.out.size
              have hcq0 : w1.drew.cell? (ad.add i) = _ := hcq0
              have hcr10 : w1.drew.cell? (bd.add (x * 2)) = _ := hcr10
              have hcr20 : w1.drew.cell? ⟨(bd.add (x * 2)).block, (bd.add (x * 2)).off + 1, none⟩ = _ := hcr20
              obtain ⟨wq, hwq⟩ : ∃ wq, w1.drew = wq := ⟨_, rfl⟩
              rw [hwq] at HKS HOO HBW HBS
              have hcq := hcq0
              have hcr1 := hcr10
              have hcr2 := hcr20
              rw [hwq] at hcq hcr1 hcr2
              have hrr : rcR Z i x = Z[i][x] := by simp [rcR, hiL, hlt2]
              clear hcq0 hcr10 hcr20 HK1 HO1 HW1 hr2
              generalize Z[i][x] = rr at *
              obtain ⟨r1, r2⟩ := rr
              have HRR := Lib.hid hrr
              clear hrr
              simp only at hcr1 hcr2
              have hn2' := Lib.hid hn2
              clear hn2
              generalize Z[i].length = n2 at *
              have hxI : (x : Int) < (n2 : Int) := by omega
              have hi := hiL
              refine wp_region_inv' (fun a0 L a wr => St a0 a [44, 45, 46, 47, 48, 49, 50, 51, 52, 53, 54, 55, 56, 10] ∧ 60 < a.tmps.size ∧ a.eval (.tmp 1) = .pointer (some ⟨w.heap.size, 0, none⟩) ∧ a.eval (.tmp 7) = .pointer (some ⟨p7, 0, none⟩) ∧ a.eval (.tmp 12) = .int .i64 (i : Nat) ∧ KwP w.heap.size wq gO m cO Z.length c i x n2 c2 gN ad bd r1 r2 out L wr (a.eval (.tmp 44)) (a.eval (.tmp 45)) (a.eval (.tmp 46)) (a.eval (.tmp 47)) (a.eval (.tmp 48)) (a.eval (.tmp 49)) (a.eval (.tmp 50)) (a.eval (.tmp 51)) (a.eval (.tmp 52)) (a.eval (.tmp 53)) (a.eval (.tmp 54)) (a.eval (.tmp 55)) (a.eval (.tmp 56)) (a.eval (.tmp 10))) (by kernel_rfl) (by kernel_rfl) ?start ?steps ?ends
              case start =>
                subst hwq
                refine ⟨St.refl _ _, Nat.le_of_ble_eq_true rfl, rfl, rfl, rfl, World.grownBy.refl _ _, ?_, ?_, ?_, ?_, ?_, ?_, ?_, ?_, ?_, ?_, ?_, ?_, ?_, ?_, ?_, ?_, ?_, ?_, ?_, ?_, ?_, ?_, ?_, ?_, fun _ => HOO.out⟩
                all_goals (intro e; first | (cases e; done) | rfl | assumption)
              case ends =>
                rintro L a wr ⟨hst, hsz, q1, q7, q12, b, h3, h4, h7, h8, h9, h10, h11, h12, h13, f0, f1, f2, f3, f4, f5, f6, f7, f8, f9, f10, f11, f12, f13, frw, ko⟩ hall
                obtain ⟨g5, d5, e5, o5⟩ := f12 (hall 12 (by decide))
                have e4 := (f13 (hall 13 (by decide))).trans e5
                clear e5
                have heq := hst.eq
                simp only [List.foldl_cons, List.foldl_nil] at heq
                rw [e4] at heq
                clear hst hall hsz q1 q7 q12 h3 h4 h7 h8 h9 h10 h11 h12 h13 f0 f1 f2 f3 f4 f5 f6 f7 f8 f9 f10 f11 f12 f13 frw ko
                generalize a.eval (.tmp 44) = u44 at *
                generalize a.eval (.tmp 45) = u45 at *
                generalize a.eval (.tmp 46) = u46 at *
                generalize a.eval (.tmp 47) = u47 at *
                generalize a.eval (.tmp 48) = u48 at *
                generalize a.eval (.tmp 49) = u49 at *
                generalize a.eval (.tmp 50) = u50 at *
                generalize a.eval (.tmp 51) = u51 at *
                generalize a.eval (.tmp 52) = u52 at *
                generalize a.eval (.tmp 53) = u53 at *
                generalize a.eval (.tmp 54) = u54 at *
                generalize a.eval (.tmp 55) = u55 at *
                generalize a.eval (.tmp 56) = u56 at *
                simp only [Act.put, List.setIfInBounds_toArray, List.set_cons_zero, List.set_cons_succ] at heq
                subst heq
                clear e4
                have hks := HKS.out.near HOO.out b
                have hbw := HBW.out.trans (below_of_grown b HBW.out.size (fun q hq => (own_lt HOO.out q hq).1))
                go_wp2_with fail
                go_meet
                exact ⟨g5, d5, rfl, hks, by rw [HRR.out]; exact o5, hbw⟩
              case steps =>
                refine ⟨?s0, ?s1, ?s2, ?s3, ?s4, ?s5, ?s6, ?s7, ?s8, ?s9, ?s10, ?s11, ?s12, ?s13, trivial⟩
                case s0 =>
                  rintro L a wr ⟨hst, hsz, q1, q7, q12, hF⟩ hL hdp K hK
                  have ev := fun (d t : Nat) (v : Value) (hd : d < 61) => eval_put a d t v (by omega)
                  obtain ⟨b, h3, h4, h7, h8, h9, h10, h11, h12, h13, f0, f1, f2, f3, f4, f5, f6, f7, f8, f9, f10, f11, f12, f13, frw, ko⟩ := hF
                  have n13 : L 13 = false := by
                    cases h : L 13
                    · rfl
                    · exact absurd (((h12 (h13 h)).1).symm.trans hL) (by decide)
                  have t10 := frw n13
                  rw [eval_tmp, Array.getD_eq_getD_getElem?] at t10
                  refine step_value (v := .slice (some ⟨gO, 0, none⟩) m cO) (w' := wr) rfl (by go_simp) ?_
                  refine hK _ _ ⟨hst.put 44 _ (by decide), by simpa [Act.put] using hsz, (ev 44 1 _ (by decide)).trans q1, (ev 44 7 _ (by decide)).trans q7, (ev 44 12 _ (by decide)).trans q12, ?_⟩
                  simp only [ev 44 _ _ (by decide)]
                  exact ⟨b, h3, h4, h7, h8, h9, h10, h11, fun e => absurd ((h12 e).1.symm.trans hL) (by decide), h13, fun _ => rfl, f1, f2, f3, f4, f5, f6, f7, f8, f9, f10, f11, f12, f13, frw, ko⟩
                case s1 =>
                  rintro L a wr ⟨hst, hsz, q1, q7, q12, hF⟩ hL hdp K hK
                  have ev := fun (d t : Nat) (v : Value) (hd : d < 61) => eval_put a d t v (by omega)
                  obtain ⟨b, h3, h4, h7, h8, h9, h10, h11, h12, h13, f0, f1, f2, f3, f4, f5, f6, f7, f8, f9, f10, f11, f12, f13, frw, ko⟩ := hF
                  have t1 := q1
                  rw [eval_tmp, Array.getD_eq_getD_getElem?] at t1
                  have hks := HKS.out.near HOO.out b
                  have hcl := hks.lst.cell 0
                  refine step_value (v := .slice (some ad) Z.length c) (w' := wr) rfl (by go_simp) ?_
                  refine hK _ _ ⟨hst.put 45 _ (by decide), by simpa [Act.put] using hsz, (ev 45 1 _ (by decide)).trans q1, (ev 45 7 _ (by decide)).trans q7, (ev 45 12 _ (by decide)).trans q12, ?_⟩
                  simp only [ev 45 _ _ (by decide)]
                  exact ⟨b, fun e => absurd ((h3 e).1.symm.trans hL) (by decide), h4, h7, h8, h9, h10, h11, h12, h13, f0, fun _ => rfl, f2, f3, f4, f5, f6, f7, f8, f9, f10, f11, f12, f13, frw, ko⟩
                case s2 =>
                  rintro L a wr ⟨hst, hsz, q1, q7, q12, hF⟩ hL hdp K hK
                  have ev := fun (d t : Nat) (v : Value) (hd : d < 61) => eval_put a d t v (by omega)
                  obtain ⟨b, h3, h4, h7, h8, h9, h10, h11, h12, h13, f0, f1, f2, f3, f4, f5, f6, f7, f8, f9, f10, f11, f12, f13, frw, ko⟩ := hF
                  have t12 := q12
                  rw [eval_tmp, Array.getD_eq_getD_getElem?] at t12
                  refine step_value (v := .int .i64 (i : Nat)) (w' := wr) rfl (by go_simp) ?_
                  refine hK _ _ ⟨hst.put 46 _ (by decide), by simpa [Act.put] using hsz, (ev 46 1 _ (by decide)).trans q1, (ev 46 7 _ (by decide)).trans q7, (ev 46 12 _ (by decide)).trans q12, ?_⟩
                  simp only [ev 46 _ _ (by decide)]
                  exact ⟨b, fun e => absurd ((h3 e).2.symm.trans hL) (by decide), h4, h7, h8, h9, h10, h11, h12, h13, f0, f1, fun _ => rfl, f3, f4, f5, f6, f7, f8, f9, f10, f11, f12, f13, frw, ko⟩
                case s3 =>
                  rintro L a wr ⟨hst, hsz, q1, q7, q12, hF⟩ hL hdp K hK
                  have ev := fun (d t : Nat) (v : Value) (hd : d < 61) => eval_put a d t v (by omega)
                  have d1 : L 1 = true := hdp ⟨1, .data⟩ (by simp) rfl
                  have d2 : L 2 = true := hdp ⟨2, .data⟩ (by simp) rfl
                  obtain ⟨b, h3, h4, h7, h8, h9, h10, h11, h12, h13, f0, f1, f2, f3, f4, f5, f6, f7, f8, f9, f10, f11, f12, f13, frw, ko⟩ := hF
                  have t45 := f1 d1
                  have t46 := f2 d2
                  rw [eval_tmp, Array.getD_eq_getD_getElem?] at t45 t46
                  refine step_value (v := .pointer (some (ad.add i))) (w' := wr) rfl (by go_simp) ?_
                  refine hK _ _ ⟨hst.put 47 _ (by decide), by simpa [Act.put] using hsz, (ev 47 1 _ (by decide)).trans q1, (ev 47 7 _ (by decide)).trans q7, (ev 47 12 _ (by decide)).trans q12, ?_⟩
                  simp only [ev 47 _ _ (by decide)]
                  exact ⟨b, fun _ => ⟨d1, d2⟩, fun e => absurd ((h4 e).symm.trans hL) (by decide), h7, h8, h9, h10, h11, h12, h13, f0, f1, f2, fun _ => rfl, f4, f5, f6, f7, f8, f9, f10, f11, f12, f13, frw, ko⟩
                case s4 =>
                  rintro L a wr ⟨hst, hsz, q1, q7, q12, hF⟩ hL hdp K hK
                  have ev := fun (d t : Nat) (v : Value) (hd : d < 61) => eval_put a d t v (by omega)
                  have d3 : L 3 = true := hdp ⟨3, .data⟩ (by simp) rfl
                  obtain ⟨b, h3, h4, h7, h8, h9, h10, h11, h12, h13, f0, f1, f2, f3, f4, f5, f6, f7, f8, f9, f10, f11, f12, f13, frw, ko⟩ := hF
                  have t47 := f3 d3
                  rw [eval_tmp, Array.getD_eq_getD_getElem?] at t47
                  have hBl := below_of_grown b HBS.out (fun q hq => (own_lt HOO.out q hq).1)
                  have hcl := (hBl.cell hadl).trans hcq
                  refine step_value (v := .slice (some bd) n2 c2) (w' := wr) rfl (by go_simp) ?_
                  refine hK _ _ ⟨hst.put 48 _ (by decide), by simpa [Act.put] using hsz, (ev 48 1 _ (by decide)).trans q1, (ev 48 7 _ (by decide)).trans q7, (ev 48 12 _ (by decide)).trans q12, ?_⟩
                  simp only [ev 48 _ _ (by decide)]
                  exact ⟨b, h3, fun _ => d3, h7, h8, fun e => absurd ((h9 e).1.symm.trans hL) (by decide), h10, h11, h12, h13, f0, f1, f2, f3, fun _ => rfl, f5, f6, f7, f8, f9, f10, f11, f12, f13, frw, ko⟩
                case s5 =>
                  rintro L a wr ⟨hst, hsz, q1, q7, q12, hF⟩ hL hdp K hK
                  have ev := fun (d t : Nat) (v : Value) (hd : d < 61) => eval_put a d t v (by omega)
                  obtain ⟨b, h3, h4, h7, h8, h9, h10, h11, h12, h13, f0, f1, f2, f3, f4, f5, f6, f7, f8, f9, f10, f11, f12, f13, frw, ko⟩ := hF
                  have t7 := q7
                  rw [eval_tmp, Array.getD_eq_getD_getElem?] at t7
                  have hks := HKS.out.near HOO.out b
                  have hcl := hks.nb.cell 0
                  refine step_value (v := .slice (some ⟨gN, 0, none⟩) Z.length Z.length) (w' := wr) rfl (by go_simp) ?_
                  refine hK _ _ ⟨hst.put 49 _ (by decide), by simpa [Act.put] using hsz, (ev 49 1 _ (by decide)).trans q1, (ev 49 7 _ (by decide)).trans q7, (ev 49 12 _ (by decide)).trans q12, ?_⟩
                  simp only [ev 49 _ _ (by decide)]
                  exact ⟨b, h3, h4, fun e => absurd ((h7 e).1.symm.trans hL) (by decide), h8, h9, h10, h11, h12, h13, f0, f1, f2, f3, f4, fun _ => rfl, f6, f7, f8, f9, f10, f11, f12, f13, frw, ko⟩
                case s6 =>
                  rintro L a wr ⟨hst, hsz, q1, q7, q12, hF⟩ hL hdp K hK
                  have ev := fun (d t : Nat) (v : Value) (hd : d < 61) => eval_put a d t v (by omega)
                  obtain ⟨b, h3, h4, h7, h8, h9, h10, h11, h12, h13, f0, f1, f2, f3, f4, f5, f6, f7, f8, f9, f10, f11, f12, f13, frw, ko⟩ := hF
                  have t12 := q12
                  rw [eval_tmp, Array.getD_eq_getD_getElem?] at t12
                  refine step_value (v := .int .i64 (i : Nat)) (w' := wr) rfl (by go_simp) ?_
                  refine hK _ _ ⟨hst.put 50 _ (by decide), by simpa [Act.put] using hsz, (ev 50 1 _ (by decide)).trans q1, (ev 50 7 _ (by decide)).trans q7, (ev 50 12 _ (by decide)).trans q12, ?_⟩
                  simp only [ev 50 _ _ (by decide)]
                  exact ⟨b, h3, h4, fun e => absurd ((h7 e).2.symm.trans hL) (by decide), h8, h9, h10, h11, h12, h13, f0, f1, f2, f3, f4, f5, fun _ => rfl, f7, f8, f9, f10, f11, f12, f13, frw, ko⟩
                case s7 =>
                  rintro L a wr ⟨hst, hsz, q1, q7, q12, hF⟩ hL hdp K hK
                  have ev := fun (d t : Nat) (v : Value) (hd : d < 61) => eval_put a d t v (by omega)
                  have d5 : L 5 = true := hdp ⟨5, .data⟩ (by simp) rfl
                  have d6 : L 6 = true := hdp ⟨6, .data⟩ (by simp) rfl
                  obtain ⟨b, h3, h4, h7, h8, h9, h10, h11, h12, h13, f0, f1, f2, f3, f4, f5, f6, f7, f8, f9, f10, f11, f12, f13, frw, ko⟩ := hF
                  have t49 := f5 d5
                  have t50 := f6 d6
                  rw [eval_tmp, Array.getD_eq_getD_getElem?] at t49 t50
                  refine step_value (v := .pointer (some ⟨gN, i, none⟩)) (w' := wr) rfl (by go_simp) ?_
                  refine hK _ _ ⟨hst.put 51 _ (by decide), by simpa [Act.put] using hsz, (ev 51 1 _ (by decide)).trans q1, (ev 51 7 _ (by decide)).trans q7, (ev 51 12 _ (by decide)).trans q12, ?_⟩
                  simp only [ev 51 _ _ (by decide)]
                  exact ⟨b, h3, h4, fun _ => ⟨d5, d6⟩, fun e => absurd ((h8 e).symm.trans hL) (by decide), h9, h10, h11, h12, h13, f0, f1, f2, f3, f4, f5, f6, fun _ => rfl, f8, f9, f10, f11, f12, f13, frw, ko⟩
                case s8 =>
                  rintro L a wr ⟨hst, hsz, q1, q7, q12, hF⟩ hL hdp K hK
                  have ev := fun (d t : Nat) (v : Value) (hd : d < 61) => eval_put a d t v (by omega)
                  have d7 : L 7 = true := hdp ⟨7, .data⟩ (by simp) rfl
                  obtain ⟨b, h3, h4, h7, h8, h9, h10, h11, h12, h13, f0, f1, f2, f3, f4, f5, f6, f7, f8, f9, f10, f11, f12, f13, frw, ko⟩ := hF
                  have t51 := f7 d7
                  rw [eval_tmp, Array.getD_eq_getD_getElem?] at t51
                  have hks := HKS.out.near HOO.out b
                  have hcl := hks.cellN hi
                  rw [HXN.out] at hcl
                  refine step_value (v := .int .i64 (x : Nat)) (w' := wr) rfl (by go_simp) ?_
                  refine hK _ _ ⟨hst.put 52 _ (by decide), by simpa [Act.put] using hsz, (ev 52 1 _ (by decide)).trans q1, (ev 52 7 _ (by decide)).trans q7, (ev 52 12 _ (by decide)).trans q12, ?_⟩
                  simp only [ev 52 _ _ (by decide)]
                  exact ⟨b, h3, h4, h7, fun _ => d7, fun e => absurd ((h9 e).2.symm.trans hL) (by decide), h10, h11, h12, h13, f0, f1, f2, f3, f4, f5, f6, f7, fun _ => rfl, f9, f10, f11, f12, f13, frw, ko⟩
                case s9 =>
                  rintro L a wr ⟨hst, hsz, q1, q7, q12, hF⟩ hL hdp K hK
                  have ev := fun (d t : Nat) (v : Value) (hd : d < 61) => eval_put a d t v (by omega)
                  have d4 : L 4 = true := hdp ⟨4, .data⟩ (by simp) rfl
                  have d8 : L 8 = true := hdp ⟨8, .data⟩ (by simp) rfl
                  obtain ⟨b, h3, h4, h7, h8, h9, h10, h11, h12, h13, f0, f1, f2, f3, f4, f5, f6, f7, f8, f9, f10, f11, f12, f13, frw, ko⟩ := hF
                  have t48 := f4 d4
                  have t52 := f8 d8
                  rw [eval_tmp, Array.getD_eq_getD_getElem?] at t48 t52
                  refine step_value (v := .pointer (some (bd.add (x * 2)))) (w' := wr) rfl (by go_simp) ?_
                  refine hK _ _ ⟨hst.put 53 _ (by decide), by simpa [Act.put] using hsz, (ev 53 1 _ (by decide)).trans q1, (ev 53 7 _ (by decide)).trans q7, (ev 53 12 _ (by decide)).trans q12, ?_⟩
                  simp only [ev 53 _ _ (by decide)]
                  exact ⟨b, h3, h4, h7, h8, fun _ => ⟨d4, d8⟩, fun e => absurd ((h10 e).symm.trans hL) (by decide), h11, h12, h13, f0, f1, f2, f3, f4, f5, f6, f7, f8, fun _ => rfl, f10, f11, f12, f13, frw, ko⟩
                case s10 =>
                  rintro L a wr ⟨hst, hsz, q1, q7, q12, hF⟩ hL hdp K hK
                  have ev := fun (d t : Nat) (v : Value) (hd : d < 61) => eval_put a d t v (by omega)
                  have d9 : L 9 = true := hdp ⟨9, .data⟩ (by simp) rfl
                  obtain ⟨b, h3, h4, h7, h8, h9, h10, h11, h12, h13, f0, f1, f2, f3, f4, f5, f6, f7, f8, f9, f10, f11, f12, f13, frw, ko⟩ := hF
                  have t53 := f9 d9
                  rw [eval_tmp, Array.getD_eq_getD_getElem?] at t53
                  have hBl := below_of_grown b HBS.out (fun q hq => (own_lt HOO.out q hq).1)
                  have hcl := (hBl.cell hbdl).trans hcr1
                  have hcl2 := (hBl.cell (p := ⟨(bd.add (x * 2)).block, (bd.add (x * 2)).off + 1, none⟩) hbdl).trans hcr2
                  refine step_value (v := .agg #[.int .i64 r1, .int .i64 r2]) (w' := wr) rfl (by go_simp) ?_
                  refine hK _ _ ⟨hst.put 54 _ (by decide), by simpa [Act.put] using hsz, (ev 54 1 _ (by decide)).trans q1, (ev 54 7 _ (by decide)).trans q7, (ev 54 12 _ (by decide)).trans q12, ?_⟩
                  simp only [ev 54 _ _ (by decide)]
                  exact ⟨b, h3, h4, h7, h8, h9, fun _ => d9, fun e => absurd ((h11 e).symm.trans hL) (by decide), h12, h13, f0, f1, f2, f3, f4, f5, f6, f7, f8, f9, fun _ => rfl, f11, f12, f13, frw, ko⟩
                case s11 =>
                  rintro L a wr ⟨hst, hsz, q1, q7, q12, hF⟩ hL hdp K hK
                  have ev := fun (d t : Nat) (v : Value) (hd : d < 61) => eval_put a d t v (by omega)
                  have d10 : L 10 = true := hdp ⟨10, .data⟩ (by simp) rfl
                  obtain ⟨b, h3, h4, h7, h8, h9, h10, h11, h12, h13, f0, f1, f2, f3, f4, f5, f6, f7, f8, f9, f10, f11, f12, f13, frw, ko⟩ := hF
                  have t54 := f10 d10
                  have t54 := f10 d10
                  rw [eval_tmp, Array.getD_eq_getD_getElem?] at t54
                  refine step_value (v := .slice (some ⟨wr.heap.size, 0, none⟩) 1 1) (w' := wr.alloc (.cells #[.int .i64 r1, .int .i64 r2] 47)) rfl (by go_simp) ?_
                  refine hK _ _ ⟨hst.put 55 _ (by decide), by simpa [Act.put] using hsz, (ev 55 1 _ (by decide)).trans q1, (ev 55 7 _ (by decide)).trans q7, (ev 55 12 _ (by decide)).trans q12, ?_⟩
                  simp only [ev 55 _ _ (by decide)]
                  exact ⟨grown_step b (World.grownBy_alloc wr _ (Value.ownBlock (.slice (some ⟨gO, 0, none⟩) m cO))) (fun k hk => .inl hk.symm), h3, h4, h7, h8, h9, h10, fun _ => d10, fun e => absurd ((h12 e).2.symm.trans hL) (by decide), h13, f0, f1, f2, f3, f4, f5, f6, f7, f8, f9, f10, fun _ _ => ⟨_, rfl, Blk.new _ _ _⟩, fun e => absurd ((h12 e).2.symm.trans hL) (by decide), f13, frw, fun e => (ko e).alloc _⟩
                case s12 =>
                  rintro L a wr ⟨hst, hsz, q1, q7, q12, hF⟩ hL hdp K hK
                  have ev := fun (d t : Nat) (v : Value) (hd : d < 61) => eval_put a d t v (by omega)
                  have d0 : L 0 = true := hdp ⟨0, .data⟩ (by simp) rfl
                  have d11 : L 11 = true := hdp ⟨11, .data⟩ (by simp) rfl
                  obtain ⟨b, h3, h4, h7, h8, h9, h10, h11, h12, h13, f0, f1, f2, f3, f4, f5, f6, f7, f8, f9, f10, f11, f12, f13, frw, ko⟩ := hF
                  have t44 := f0 d0
                  obtain ⟨g0, e0, hbl0⟩ := f11 d11 hL
                  have hoo := ko hL
                  refine step_push wr rfl (.tmp 44) (.tmp 55) 24 rfl w.heap.size 47 i0 _ 2 16 Try.underlying24 HI0.out.1 HI0.out.2.1 HI0.out.2.2.1 HI0.out.2.2.2 rfl (by decide) (.slice (some ⟨gO, 0, none⟩) m cO) m (cmps out) (f0 d0) hoo #[.int .i64 r1, .int .i64 r2] g0 e0 hbl0 rfl (by simp [Value.oneCell']) (by omega) (by unfold maxLen; omega) (Nat.le_trans HBS.out b.size) ?_
                  intro g4 d4 w4 o4 gr4 b4 at4
                  refine hK _ _ ⟨hst.put 56 _ (by decide), by simpa [Act.put] using hsz, (ev 56 1 _ (by decide)).trans q1, (ev 56 7 _ (by decide)).trans q7, (ev 56 12 _ (by decide)).trans q12, ?_⟩
                  simp only [ev 56 _ _ (by decide)]
                  exact ⟨grown_step b gr4 (fun k hk => .inl hk.symm), h3, h4, h7, h8, h9, h10, h11, fun _ => ⟨d0, d11⟩, fun e => absurd ((h13 e).symm.trans hL) (by decide), f0, f1, f2, f3, f4, f5, f6, f7, f8, f9, f10, fun _ e => absurd ((upd_self L 12).symm.trans e) (by decide), fun _ => ⟨g4, d4, rfl, by have h9 := o4; rw [cmps_push_] at h9; exact h9⟩, fun e => absurd ((h13 e).symm.trans hL) (by decide), frw, fun e => absurd ((upd_self L 12).symm.trans e) (by decide)⟩
                case s13 =>
                  rintro L a wr ⟨hst, hsz, q1, q7, q12, hF⟩ hL hdp K hK
                  have ev := fun (d t : Nat) (v : Value) (hd : d < 61) => eval_put a d t v (by omega)
                  have d12 : L 12 = true := hdp ⟨12, .data⟩ (by simp) rfl
                  obtain ⟨b, h3, h4, h7, h8, h9, h10, h11, h12, h13, f0, f1, f2, f3, f4, f5, f6, f7, f8, f9, f10, f11, f12, f13, frw, ko⟩ := hF
                  refine step_value (v := a.eval (.tmp 56)) (w' := wr) rfl (by go_simp) ?_
                  refine hK _ _ ⟨hst.put 10 _ (by decide), by simpa [Act.put] using hsz, (ev 10 1 _ (by decide)).trans q1, (ev 10 7 _ (by decide)).trans q7, (ev 10 12 _ (by decide)).trans q12, ?_⟩
                  simp only [ev 10 _ _ (by decide)]
                  exact ⟨b, h3, h4, h7, h8, h9, h10, h11, h12, fun _ => d12, f0, f1, f2, f3, f4, f5, f6, f7, f8, f9, f10, f11, f12, fun _ => rfl, fun e => absurd ((upd_self L 13).symm.trans e) (by decide), ko⟩
            case rest =>
              obtain ⟨g5, d5, rfl, hks, ho, hbw⟩ := hcut
              have HK2 := Lib.hid hks
              have HO2 := Lib.hid ho
              have HW2 := Lib.hid hbw
              clear hks ho hbw HK1 HO1 HW1
              have y1 : wc.cell? ⟨p7, 0, none⟩ = some (.slice (some ⟨gN, 0, none⟩) Z.length Z.length) := HK2.out.nb.cell 0
              have y2 := HK2.out.cellN hiL
              rw [HXN.out] at y2
              have y3 := HK2.out.nr.frozenAt i
              have hx1 : ((x + 1 : Nat) : Int) = (x : Int) + 1 := by omega
              have HK3 := Lib.hid (HK2.out.setN i (x + 1))
              have HF3 := Lib.hid (HK2.out.fN i (x + 1))
              rw [hx1] at HK3 HF3
              have HS3 : Hid (nx.set i (x + 1) = stp nx i) := Lib.hid (by unfold stp; rw [HXN.out])
              have hle3 : nxA (nx.set i (x + 1)) i ≤ lnR Z i := by rw [HS3.out, nxA_stp (by rw [HI.out.ni.len]; exact hiL), HXN.out]; exact hlt
              have HL3 := Lib.hid hle3
              clear hle3 hx1
              go_upto_region 15 with fail
              generalize wc.setCell ⟨gN, i, none⟩ (.int .i64 ((x : Int) + 1)) = w3 at *
              clear y1 y2 y3
              go_wp2_with fail
              refine (fill_any HK3.out hiL HL3.out).mono ?_
              rintro e w5 ⟨rfl, hks, hkf⟩
              have HK5 : Hid (KS w.heap.size A c Z w.heap.size p5 p6 p7 gK gD gN w5 (KY Z (stp nx i)) (DN Z (stp nx i)) (stp nx i)) := Lib.hid (by
                rw [KY_stp, DN_stp, ← HS3.out]; exact hks)
              have HO5 := Lib.hid (hkf.r _ _ _ (HF3.out.r _ _ _ HO2.out))
              have HW5 := Lib.hid ((HW2.out.trans HF3.out.b).trans hkf.b)
              have HI5 : Hid (KI Z F (stp nx i) (out ++ [rcR Z i x]) (cnt + plen ((Z.length + i) / 2))) := Lib.hid (by
                have h9 := HI.out.step h1 h16 (by rw [HIW.out]; exact HD.out)
                rwa [HIW.out, HXN.out] at h9)
              have hpl := plen_le _ ((Z.length + i) / 2) (Nat.le_refl _)
              clear hks hkf HK2 HO2 HW2 HK3 HF3 HL3 HS3 HI
              go_wp2_with fail
              refine (pathLength_any Z.length i _ (by omega)).mono ?_
              rintro e w6 ⟨rfl, rfl⟩
              go_wp2_with fail
              go_roundg F
              case measure => omega
              case rel => exact ⟨g5, m + 1, d5, stp nx i, _, cnt + plen ((Z.length + i) / 2), rfl, by go_num, HK5, HO5, Lib.hid (by rw [List.length_append, HOL.out]; rfl), HW5, HI5⟩
          · rw [hd] at x7
            have hfin := HI.out.fin (by rw [HIW.out]; exact hd)
            have HFI := Lib.hid hfin
            clear hd hfin
            go_wp2_with fail
            refine bodyPost_ret (v := .tuple #[.slice (some ⟨gO, 0, none⟩) m cO, .int .i64 (cnt : Nat)]) (by simp [results, Try.results25, go_sem]) rfl ?_
            rw [HFI.out]
            exact ⟨gO, cO, by rw [HOL.out], by rw [HOL.out]; exact HO1.out, HW1.out⟩
end Go.Proofs.Ytifjihpnhmemgaa
