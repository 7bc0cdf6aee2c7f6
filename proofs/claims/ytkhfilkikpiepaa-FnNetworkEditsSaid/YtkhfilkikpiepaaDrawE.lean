/- The draws of the law on edits of networks. -/
import Derived.Test.YtkhfilkikpiepaaDrawN
import Derived.Test.YtkhfilkikpiepaaVN
import Derived.Test.YtkhfilkikpiepaaInv
import Derived.Deep.DeepCutAuto
namespace Go.Proofs.Ytkhfilkikpiepaa
open Go.RowKit
set_option linter.unusedVariables false
def GotCat (w : World) (e : Ending) (w' : World) : Prop := ∃ (W : Int) (D : Option Addr) (cs : List (Int × Int)) (d : Nat) (V : Int) (E : Option Addr) (ds : List (Int × Int)) (f : Nat), e = .returned (.tuple #[.agg #[.int .i64 W, .slice D cs.length d], .agg #[.int .i64 V, .slice E ds.length f]]) ∧
  w'.ownsRow w.heap.size 54 2 (.slice D cs.length d) cs.length (cmps cs) ∧ w'.ownsRow w.heap.size 54 2 (.slice E ds.length f) ds.length (cmps ds) ∧ cs.length ≤ 300 ∧ ds.length ≤ 300 ∧ Below w.heap.size w w'
theorem GotCat.mk {w : World} {e : Ending} {w' : World} (h : ∃ (W : Int) (D : Option Addr) (cs : List (Int × Int)) (d : Nat) (V : Int) (E : Option Addr) (ds : List (Int × Int)) (f : Nat), e = .returned (.tuple #[.agg #[.int .i64 W, .slice D cs.length d], .agg #[.int .i64 V, .slice E ds.length f]]) ∧
  w'.ownsRow w.heap.size 54 2 (.slice D cs.length d) cs.length (cmps cs) ∧ w'.ownsRow w.heap.size 54 2 (.slice E ds.length f) ds.length (cmps ds) ∧ cs.length ≤ 300 ∧ ds.length ≤ 300 ∧ Below w.heap.size w w') : GotCat w e w' := h
def DrCat (w : World) (gN gM n m : Nat) (W Y : Int) (D : Option Addr) (cs : List (Int × Int)) (d : Nat) (E : Option Addr) (ds : List (Int × Int)) (f : Nat) (L : Nat → Bool) (wr : World) (v0 v1 : Value) : Prop :=
  (Below w.heap.size w wr) ∧
  (L 2 = true → L 0 = true) ∧
  (L 3 = true → L 1 = true) ∧
  (L 0 = true → v0 = .agg #[.int .i64 W, .slice D n d]) ∧
  (L 1 = true → v1 = .agg #[.int .i64 Y, .slice E m f]) ∧
  (Blk wr gN 28 #[.int .i64 W, .slice D n d]) ∧
  (Blk wr gM 28 #[.int .i64 Y, .slice E m f]) ∧
  (L 2 = false → Blk wr w.heap.size 28 #[.int .i64 0, .slice none 0 0]) ∧
  (L 2 = true → Blk wr w.heap.size 28 #[.int .i64 W, .slice D n d]) ∧
  (L 3 = false → Blk wr (w.heap.size + 1) 28 #[.int .i64 0, .slice none 0 0]) ∧
  (L 3 = true → Blk wr (w.heap.size + 1) 28 #[.int .i64 Y, .slice E m f]) ∧
  (wr.ownsRow w.heap.size 54 2 (.slice D n d) n (cmps cs)) ∧
  (wr.ownsRow w.heap.size 54 2 (.slice E m f) m (cmps ds))
set_option maxRecDepth 100000 in
set_option maxHeartbeats 6400000 in
theorem DrawConcatNetworks_any (A : Option Addr) (bs : List Nat) (c : Nat) (w : World) (hr : Reads w w.heap.size 1 A bs.length (byts bs)) (hb : ∀ b ∈ bs, b ≤ 255) (hl : bs.length ≤ 65536) :
    Calls Try.prog 13 #[.slice A bs.length c] w (GotCat w) := by
  have hB00 := alloc_ (alloc_ (Below.refl w.heap.size w) (.cells #[.int .i64 0, .slice none 0 0] 28)) (.cells #[.int .i64 0, .slice none 0 0] 28)
  have HC0 := Lib.hid (cur_box (w := (w.alloc (.cells #[.int .i64 0, .slice none 0 0] 28)).alloc (.cells #[.int .i64 0, .slice none 0 0] 28)) (c := c) ((hr.below hB00).more hB00.size) hb hl)
  have hBa := alloc_ hB00 (.cells #[.slice A bs.length c, .int .i64 0, .int .u64 0] 60)
  have hRa := ((Blk.new w 28 #[.int .i64 0, .slice none 0 0]).alloc (.cells #[.int .i64 0, .slice none 0 0] 28)).alloc (.cells #[.slice A bs.length c, .int .i64 0, .int .u64 0] 60)
  have hSa := (blk_new_at (w := w.alloc (.cells #[.int .i64 0, .slice none 0 0] 28)) (g := w.heap.size + 1) (t := 28) (cs := #[.int .i64 0, .slice none 0 0]) (by simp)).alloc (.cells #[.slice A bs.length c, .int .i64 0, .int .u64 0] 60)
  have hsz0 : ((w.alloc (.cells #[.int .i64 0, .slice none 0 0] 28)).alloc (.cells #[.int .i64 0, .slice none 0 0] 28)).heap.size = w.heap.size + 1 + 1 := by simp
  rw [hsz0] at HC0
  clear hr hb hB00 hsz0
  go_enter Try.func13, Try.ntmps13
  go_wp2_with fail
  refine (anyNetwork_any (w.heap.size + 1 + 1) A bs c _ _ HC0.out (by omega)).mono ?_
  rintro e w1 ⟨W, D, cs, d, rfl, hO1, hW, hl1, hsm, hc1, hg1⟩
  clear hsm
  have hOb := own_base hO1 hBa.size
  have hRb := Cur.blk_ HC0.out hRa hg1 (by decide)
  have hSb := Cur.blk_ HC0.out hSa hg1 (by decide)
  have hBb := hBa.trans (below_near hg1 (by omega) hBa.size)
  clear hRa hSa hBa
  have HC1 := Lib.hid hc1
  clear hc1 hg1 hO1 HC0
  have hgw1 : w.heap.size + 1 + 1 < w1.heap.size := HC1.out.lt
  have hRc := hRb.alloc (.cells #[.int .i64 W, .slice D cs.length d] 28)
  have hSc := hSb.alloc (.cells #[.int .i64 W, .slice D cs.length d] 28)
  have hBc := alloc_ hBb (.cells #[.int .i64 W, .slice D cs.length d] 28)
  have hOc := hOb.alloc (.cells #[.int .i64 W, .slice D cs.length d] 28)
  clear hRb hSb hBb hOb
  have hNc := Blk.new w1 28 #[.int .i64 W, .slice D cs.length d]
  have HC2 := Lib.hid (HC1.out.alloc (.cells #[.int .i64 W, .slice D cs.length d] 28))
  clear HC1
  go_wp2_with fail
  refine (anyNetwork_any (w.heap.size + 1 + 1) A bs c _ _ HC2.out (by omega)).mono ?_
  rintro e w2 ⟨V, E, ds, f, rfl, hO2, hV, hl2, hsm, hc1, hg1⟩
  clear hsm
  have hPd := own_base hO2 hBc.size
  have hRd := Cur.blk_ HC2.out hRc hg1 (by decide)
  have hSd := Cur.blk_ HC2.out hSc hg1 (by decide)
  have hBd := hBc.trans (below_near hg1 (by omega) hBc.size)
  have hOd := Cur.row HC2.out hOc hg1 (by decide)
  have hNd := Cur.blk_ HC2.out hNc hg1 (by decide)
  clear hRc hSc hBc hOc hNc
  have HC3 := Lib.hid hc1
  clear hc1 hg1 hO2 HC2
  have hgw2 : w1.heap.size < w2.heap.size := hNd.lt
  have hRe := hRd.alloc (.cells #[.int .i64 V, .slice E ds.length f] 28)
  have hSe := hSd.alloc (.cells #[.int .i64 V, .slice E ds.length f] 28)
  have hBe := alloc_ hBd (.cells #[.int .i64 V, .slice E ds.length f] 28)
  have hOe := hOd.alloc (.cells #[.int .i64 V, .slice E ds.length f] 28)
  have hNe := hNd.alloc (.cells #[.int .i64 V, .slice E ds.length f] 28)
  have hPe := hPd.alloc (.cells #[.int .i64 V, .slice E ds.length f] 28)
  clear hRd hSd hBd hOd hNd hPd
  have hMe := Blk.new w2 28 #[.int .i64 V, .slice E ds.length f]
  have HC4 := Lib.hid (HC3.out.alloc (.cells #[.int .i64 V, .slice E ds.length f] 28))
  clear HC3
  generalize hgN : w1.heap.size = gN at *
  generalize hgM : w2.heap.size = gM at *
  go_wp2_with fail
  refine (one_any (w.heap.size + 1 + 1) A bs c _ 3 _ HC4.out (by omega) (by omega) (by omega)).mono ?_
  rintro e w3 ⟨b, rfl, hc1, hg1⟩
  clear hc1
  have hRz := Cur.blk_ HC4.out hRe hg1 (by decide)
  have hSz := Cur.blk_ HC4.out hSe hg1 (by decide)
  have hBz := hBe.trans (below_near hg1 (by omega) hBe.size)
  have hOz := Cur.row HC4.out hOe hg1 (by decide)
  have hNz := Cur.blk_ HC4.out hNe hg1 (by decide)
  have hPz := Cur.row HC4.out hPe hg1 (by decide)
  have hMz := Cur.blk_ HC4.out hMe hg1 (by decide)
  clear hRe hSe hBe hOe hNe hPe hMe
  clear hg1 HC4 hgN hgM
  cases b
  case true =>
    go_upto_region 6 with fail
    have hNq : Blk (w3).drew gN 28 #[.int .i64 W, .slice D cs.length d] := hNz
    have hMq : Blk (w3).drew gM 28 #[.int .i64 V, .slice E ds.length f] := hMz
    have hRq : Blk (w3).drew w.heap.size 28 #[.int .i64 0, .slice none 0 0] := hRz
    have hSq : Blk (w3).drew (w.heap.size + 1) 28 #[.int .i64 0, .slice none 0 0] := hSz
    have hOq : (w3).drew.ownsRow w.heap.size 54 2 (.slice D cs.length d) cs.length (cmps cs) := hOz
    have hPq : (w3).drew.ownsRow w.heap.size 54 2 (.slice E ds.length f) ds.length (cmps ds) := hPz
    have hBq : Below w.heap.size w (w3).drew := bdrew hBz
    obtain ⟨wq, hwq⟩ : ∃ wq, (w3).drew = wq := ⟨_, rfl⟩
    rw [hwq] at hNq hMq hRq hSq hOq hPq hBq
    clear hNz hMz hRz hSz hOz hPz hBz
    refine wp_region_inv' (fun a0 L a wr => St a0 a [20, 21] ∧ 21 < a.tmps.size ∧ a.eval (.tmp 5) = .pointer (some ⟨gN, 0, none⟩) ∧ a.eval (.tmp 6) = .pointer (some ⟨gM, 0, none⟩) ∧ a.eval (.tmp 2) = .pointer (some ⟨w.heap.size, 0, none⟩) ∧ a.eval (.tmp 3) = .pointer (some ⟨w.heap.size + 1, 0, none⟩) ∧ DrCat w gN gM cs.length ds.length W V D cs d E ds f L wr (a.eval (.tmp 20)) (a.eval (.tmp 21))) (by kernel_rfl) (by kernel_rfl) ?start ?steps ?ends
    case start =>
      subst hwq
      refine ⟨St.refl _ _, Nat.le_of_ble_eq_true rfl, rfl, rfl, rfl, rfl, hBq, ?_, ?_, ?_, ?_, hNq, hMq, fun _ => hRq, ?_, fun _ => hSq, ?_, hOq, hPq⟩
      all_goals (intro e; first | (cases e; done) | rfl | assumption)
    case ends =>
      rintro L a wr ⟨hst, hsz, q5, q6, q2, q3, b, h2, h3, f0, f1, kn, km, kr, kr2, ks, ks2, ko, kp⟩ hall
      have k2 := kr2 (hall 2 (by decide))
      have k3 := ks2 (hall 3 (by decide))
      obtain ⟨r0, r1⟩ := k2.two
      obtain ⟨s0, s1⟩ := k3.two
      have R0 := Lib.hid r0; have R1 := Lib.hid r1
      have S0 := Lib.hid s0; have S1 := Lib.hid s1
      have HOF := Lib.hid ko
      have HPF := Lib.hid kp
      have HBF := Lib.hid b
      have heq := hst.eq
      simp only [List.foldl_cons, List.foldl_nil] at heq
      clear hst hall hsz q5 q6 q2 q3 h2 h3 f0 f1 kn km kr kr2 ks ks2 ko kp r0 r1 s0 s1 k2 k3 b
      generalize a.eval (.tmp 20) = u20 at *
      generalize a.eval (.tmp 21) = u21 at *
      simp only [Act.put, List.setIfInBounds_toArray, List.set_cons_zero, List.set_cons_succ] at heq
      subst heq
      go_wp2_with fail
      exact bodyPost_ret (v := .tuple #[.agg #[.int .i64 W, .slice D cs.length d], .agg #[.int .i64 V, .slice E ds.length f]]) (by simp [results, Try.results13, go_sem, R0.out, R1.out, S0.out, S1.out]) rfl (GotCat.mk ⟨W, D, cs, d, V, E, ds, f, rfl, HOF.out, HPF.out, by omega, by omega, HBF.out⟩)
    case steps =>
      refine ⟨?s0, ?s1, ?s2, ?s3, trivial⟩
      case s0 =>
        rintro L a wr ⟨hst, hsz, q5, q6, q2, q3, hF⟩ hL hdp K hK
        have ev := fun (d t : Nat) (v : Value) (hd : d < 22) => eval_put a d t v (by omega)
        obtain ⟨b, h2, h3, f0, f1, kn, km, kr, kr2, ks, ks2, ko, kp⟩ := hF
        have t5 := q5
        rw [eval_tmp, Array.getD_eq_getD_getElem?] at t5
        obtain ⟨hcn0, hcn1⟩ := kn.two
        refine step_value (v := .agg #[.int .i64 W, .slice D cs.length d]) (w' := wr) rfl (by go_simp) ?_
        refine hK _ _ ⟨hst.put 20 _ (by decide), by simpa [Act.put] using hsz, (ev 20 5 _ (by decide)).trans q5, (ev 20 6 _ (by decide)).trans q6, (ev 20 2 _ (by decide)).trans q2, (ev 20 3 _ (by decide)).trans q3, ?_⟩
        simp only [ev 20 _ _ (by decide)]
        exact ⟨b, fun e => absurd ((h2 e).symm.trans hL) (by decide), h3, fun _ => rfl, f1, kn, km, kr, kr2, ks, ks2, ko, kp⟩
      case s1 =>
        rintro L a wr ⟨hst, hsz, q5, q6, q2, q3, hF⟩ hL hdp K hK
        have ev := fun (d t : Nat) (v : Value) (hd : d < 22) => eval_put a d t v (by omega)
        obtain ⟨b, h2, h3, f0, f1, kn, km, kr, kr2, ks, ks2, ko, kp⟩ := hF
        have t6 := q6
        rw [eval_tmp, Array.getD_eq_getD_getElem?] at t6
        obtain ⟨hcn0, hcn1⟩ := km.two
        refine step_value (v := .agg #[.int .i64 V, .slice E ds.length f]) (w' := wr) rfl (by go_simp) ?_
        refine hK _ _ ⟨hst.put 21 _ (by decide), by simpa [Act.put] using hsz, (ev 21 5 _ (by decide)).trans q5, (ev 21 6 _ (by decide)).trans q6, (ev 21 2 _ (by decide)).trans q2, (ev 21 3 _ (by decide)).trans q3, ?_⟩
        simp only [ev 21 _ _ (by decide)]
        exact ⟨b, h2, fun e => absurd ((h3 e).symm.trans hL) (by decide), f0, fun _ => rfl, kn, km, kr, kr2, ks, ks2, ko, kp⟩
      case s2 =>
        rintro L a wr ⟨hst, hsz, q5, q6, q2, q3, hF⟩ hL hdp K hK
        have ev := fun (d t : Nat) (v : Value) (hd : d < 22) => eval_put a d t v (by omega)
        have d0 : L 0 = true := hdp ⟨0, .data⟩ (by simp) rfl
        obtain ⟨b, h2, h3, f0, f1, kn, km, kr, kr2, ks, ks2, ko, kp⟩ := hF
        have t2 := q2
        have t20 := f0 d0
        have t20 := f0 d0
        rw [eval_tmp, Array.getD_eq_getD_getElem?] at t20 t2
        have hkb := kr hL
        have hfz0 := hkb.frozen 0
        have hfz1 := hkb.frozen 1
        obtain ⟨hcl0, hcl1⟩ := hkb.two
        have hlt := hkb.lt
        have HSZ := Lib.hid hsz
        clear hsz
        refine step_skip (w' := (wr.setCell ⟨w.heap.size, 0, none⟩ (.int .i64 W)).setCell ⟨w.heap.size, 1, none⟩ (.slice D cs.length d)) rfl (by go_simp) ?_
        have hsz := HSZ.out
        refine hK _ _ ⟨hst.put_none _, hsz, q5, q6, q2, q3, ?_⟩
        exact ⟨Below.setCell (Below.setCell b (by show _ ≤ w.heap.size; omega) _) (by show _ ≤ w.heap.size; omega) _, fun _ => d0, h3, f0, f1, (kn.far (by show _ ≠ w.heap.size; omega) _).far (by show _ ≠ w.heap.size; omega) _, (km.far (by show _ ≠ w.heap.size; omega) _).far (by show _ ≠ w.heap.size; omega) _, fun e => absurd ((upd_self L 2).symm.trans e) (by decide), fun _ => by simpa using (hkb.set_ 0 (.int .i64 W)).set_ 1 (.slice D cs.length d), fun e => ((ks e).far (by show _ ≠ w.heap.size; omega) _).far (by show _ ≠ w.heap.size; omega) _, fun e => ((ks2 e).far (by show _ ≠ w.heap.size; omega) _).far (by show _ ≠ w.heap.size; omega) _, own_setCell (own_setCell ko (own_blk_ne ko hkb (by decide)) _) (own_blk_ne ko hkb (by decide)) _, own_setCell (own_setCell kp (own_blk_ne kp hkb (by decide)) _) (own_blk_ne kp hkb (by decide)) _⟩
      case s3 =>
        rintro L a wr ⟨hst, hsz, q5, q6, q2, q3, hF⟩ hL hdp K hK
        have ev := fun (d t : Nat) (v : Value) (hd : d < 22) => eval_put a d t v (by omega)
        have d1 : L 1 = true := hdp ⟨1, .data⟩ (by simp) rfl
        obtain ⟨b, h2, h3, f0, f1, kn, km, kr, kr2, ks, ks2, ko, kp⟩ := hF
        have t3 := q3
        have t21 := f1 d1
        have t21 := f1 d1
        rw [eval_tmp, Array.getD_eq_getD_getElem?] at t21 t3
        have hkb := ks hL
        have hfz0 := hkb.frozen 0
        have hfz1 := hkb.frozen 1
        obtain ⟨hcl0, hcl1⟩ := hkb.two
        have hlt := hkb.lt
        have HSZ := Lib.hid hsz
        clear hsz
        refine step_skip (w' := (wr.setCell ⟨w.heap.size + 1, 0, none⟩ (.int .i64 V)).setCell ⟨w.heap.size + 1, 1, none⟩ (.slice E ds.length f)) rfl (by go_simp) ?_
        have hsz := HSZ.out
        refine hK _ _ ⟨hst.put_none _, hsz, q5, q6, q2, q3, ?_⟩
        exact ⟨Below.setCell (Below.setCell b (by show _ ≤ w.heap.size + 1; omega) _) (by show _ ≤ w.heap.size + 1; omega) _, h2, fun _ => d1, f0, f1, (kn.far (by show _ ≠ w.heap.size + 1; omega) _).far (by show _ ≠ w.heap.size + 1; omega) _, (km.far (by show _ ≠ w.heap.size + 1; omega) _).far (by show _ ≠ w.heap.size + 1; omega) _, fun e => ((kr e).far (by show _ ≠ w.heap.size + 1; omega) _).far (by show _ ≠ w.heap.size + 1; omega) _, fun e => ((kr2 e).far (by show _ ≠ w.heap.size + 1; omega) _).far (by show _ ≠ w.heap.size + 1; omega) _, fun e => absurd ((upd_self L 3).symm.trans e) (by decide), fun _ => by simpa using (hkb.set_ 0 (.int .i64 V)).set_ 1 (.slice E ds.length f), own_setCell (own_setCell ko (own_blk_ne ko hkb (by decide)) _) (own_blk_ne ko hkb (by decide)) _, own_setCell (own_setCell kp (own_blk_ne kp hkb (by decide)) _) (own_blk_ne kp hkb (by decide)) _⟩
  case false =>
    obtain ⟨q0, q1⟩ := hNz.two
    have ql := hNz.lt
    obtain ⟨p0, p1⟩ := hMz.two
    have pl := hMz.lt
    have pf := hMz.frozen 0
    have hNy := hNz.far (p := ⟨gM, 0, none⟩) (by show _ ≠ gM; omega) (.int .i64 W)
    have hRy := hRz.far (p := ⟨gM, 0, none⟩) (by show _ ≠ gM; omega) (.int .i64 W)
    have hSy := hSz.far (p := ⟨gM, 0, none⟩) (by show _ ≠ gM; omega) (.int .i64 W)
    have hOy := own_setCell (p := ⟨gM, 0, none⟩) hOz (own_blk_ne hOz hMz (by decide)) (.int .i64 W)
    have hPy := own_setCell (p := ⟨gM, 0, none⟩) hPz (own_blk_ne hPz hMz (by decide)) (.int .i64 W)
    have hBy := Below.setCell (p := ⟨gM, 0, none⟩) hBz (by show _ ≤ gM; omega) (.int .i64 W)
    have hMy : Blk (w3.setCell ⟨gM, 0, none⟩ (.int .i64 W)) gM 28 #[.int .i64 W, .slice E ds.length f] := by simpa using hMz.set_ 0 (.int .i64 W)
    clear hNz hRz hSz hOz hPz hBz hMz
    have hNz := hNy; have hRz := hRy; have hSz := hSy; have hOz := hOy; have hPz := hPy; have hBz := hBy; have hMz := hMy
    clear hNy hRy hSy hOy hPy hBy hMy
    go_upto_region 6 with fail
    have hNq : Blk ((w3.setCell ⟨gM, 0, none⟩ (.int .i64 W))).drew gN 28 #[.int .i64 W, .slice D cs.length d] := hNz
    have hMq : Blk ((w3.setCell ⟨gM, 0, none⟩ (.int .i64 W))).drew gM 28 #[.int .i64 W, .slice E ds.length f] := hMz
    have hRq : Blk ((w3.setCell ⟨gM, 0, none⟩ (.int .i64 W))).drew w.heap.size 28 #[.int .i64 0, .slice none 0 0] := hRz
    have hSq : Blk ((w3.setCell ⟨gM, 0, none⟩ (.int .i64 W))).drew (w.heap.size + 1) 28 #[.int .i64 0, .slice none 0 0] := hSz
    have hOq : ((w3.setCell ⟨gM, 0, none⟩ (.int .i64 W))).drew.ownsRow w.heap.size 54 2 (.slice D cs.length d) cs.length (cmps cs) := hOz
    have hPq : ((w3.setCell ⟨gM, 0, none⟩ (.int .i64 W))).drew.ownsRow w.heap.size 54 2 (.slice E ds.length f) ds.length (cmps ds) := hPz
    have hBq : Below w.heap.size w ((w3.setCell ⟨gM, 0, none⟩ (.int .i64 W))).drew := bdrew hBz
    obtain ⟨wq, hwq⟩ : ∃ wq, ((w3.setCell ⟨gM, 0, none⟩ (.int .i64 W))).drew = wq := ⟨_, rfl⟩
    rw [hwq] at hNq hMq hRq hSq hOq hPq hBq
    clear hNz hMz hRz hSz hOz hPz hBz
    refine wp_region_inv' (fun a0 L a wr => St a0 a [20, 21] ∧ 21 < a.tmps.size ∧ a.eval (.tmp 5) = .pointer (some ⟨gN, 0, none⟩) ∧ a.eval (.tmp 6) = .pointer (some ⟨gM, 0, none⟩) ∧ a.eval (.tmp 2) = .pointer (some ⟨w.heap.size, 0, none⟩) ∧ a.eval (.tmp 3) = .pointer (some ⟨w.heap.size + 1, 0, none⟩) ∧ DrCat w gN gM cs.length ds.length W W D cs d E ds f L wr (a.eval (.tmp 20)) (a.eval (.tmp 21))) (by kernel_rfl) (by kernel_rfl) ?start ?steps ?ends
    case start =>
      subst hwq
      refine ⟨St.refl _ _, Nat.le_of_ble_eq_true rfl, rfl, rfl, rfl, rfl, hBq, ?_, ?_, ?_, ?_, hNq, hMq, fun _ => hRq, ?_, fun _ => hSq, ?_, hOq, hPq⟩
      all_goals (intro e; first | (cases e; done) | rfl | assumption)
    case ends =>
      rintro L a wr ⟨hst, hsz, q5, q6, q2, q3, b, h2, h3, f0, f1, kn, km, kr, kr2, ks, ks2, ko, kp⟩ hall
      have k2 := kr2 (hall 2 (by decide))
      have k3 := ks2 (hall 3 (by decide))
      obtain ⟨r0, r1⟩ := k2.two
      obtain ⟨s0, s1⟩ := k3.two
      have R0 := Lib.hid r0; have R1 := Lib.hid r1
      have S0 := Lib.hid s0; have S1 := Lib.hid s1
      have HOF := Lib.hid ko
      have HPF := Lib.hid kp
      have HBF := Lib.hid b
      have heq := hst.eq
      simp only [List.foldl_cons, List.foldl_nil] at heq
      clear hst hall hsz q5 q6 q2 q3 h2 h3 f0 f1 kn km kr kr2 ks ks2 ko kp r0 r1 s0 s1 k2 k3 b
      generalize a.eval (.tmp 20) = u20 at *
      generalize a.eval (.tmp 21) = u21 at *
      simp only [Act.put, List.setIfInBounds_toArray, List.set_cons_zero, List.set_cons_succ] at heq
      subst heq
      go_wp2_with fail
      exact bodyPost_ret (v := .tuple #[.agg #[.int .i64 W, .slice D cs.length d], .agg #[.int .i64 W, .slice E ds.length f]]) (by simp [results, Try.results13, go_sem, R0.out, R1.out, S0.out, S1.out]) rfl (GotCat.mk ⟨W, D, cs, d, W, E, ds, f, rfl, HOF.out, HPF.out, by omega, by omega, HBF.out⟩)
    case steps =>
      refine ⟨?s0, ?s1, ?s2, ?s3, trivial⟩
      case s0 =>
        rintro L a wr ⟨hst, hsz, q5, q6, q2, q3, hF⟩ hL hdp K hK
        have ev := fun (d t : Nat) (v : Value) (hd : d < 22) => eval_put a d t v (by omega)
        obtain ⟨b, h2, h3, f0, f1, kn, km, kr, kr2, ks, ks2, ko, kp⟩ := hF
        have t5 := q5
        rw [eval_tmp, Array.getD_eq_getD_getElem?] at t5
        obtain ⟨hcn0, hcn1⟩ := kn.two
        refine step_value (v := .agg #[.int .i64 W, .slice D cs.length d]) (w' := wr) rfl (by go_simp) ?_
        refine hK _ _ ⟨hst.put 20 _ (by decide), by simpa [Act.put] using hsz, (ev 20 5 _ (by decide)).trans q5, (ev 20 6 _ (by decide)).trans q6, (ev 20 2 _ (by decide)).trans q2, (ev 20 3 _ (by decide)).trans q3, ?_⟩
        simp only [ev 20 _ _ (by decide)]
        exact ⟨b, fun e => absurd ((h2 e).symm.trans hL) (by decide), h3, fun _ => rfl, f1, kn, km, kr, kr2, ks, ks2, ko, kp⟩
      case s1 =>
        rintro L a wr ⟨hst, hsz, q5, q6, q2, q3, hF⟩ hL hdp K hK
        have ev := fun (d t : Nat) (v : Value) (hd : d < 22) => eval_put a d t v (by omega)
        obtain ⟨b, h2, h3, f0, f1, kn, km, kr, kr2, ks, ks2, ko, kp⟩ := hF
        have t6 := q6
        rw [eval_tmp, Array.getD_eq_getD_getElem?] at t6
        obtain ⟨hcn0, hcn1⟩ := km.two
        refine step_value (v := .agg #[.int .i64 W, .slice E ds.length f]) (w' := wr) rfl (by go_simp) ?_
        refine hK _ _ ⟨hst.put 21 _ (by decide), by simpa [Act.put] using hsz, (ev 21 5 _ (by decide)).trans q5, (ev 21 6 _ (by decide)).trans q6, (ev 21 2 _ (by decide)).trans q2, (ev 21 3 _ (by decide)).trans q3, ?_⟩
        simp only [ev 21 _ _ (by decide)]
        exact ⟨b, h2, fun e => absurd ((h3 e).symm.trans hL) (by decide), f0, fun _ => rfl, kn, km, kr, kr2, ks, ks2, ko, kp⟩
      case s2 =>
        rintro L a wr ⟨hst, hsz, q5, q6, q2, q3, hF⟩ hL hdp K hK
        have ev := fun (d t : Nat) (v : Value) (hd : d < 22) => eval_put a d t v (by omega)
        have d0 : L 0 = true := hdp ⟨0, .data⟩ (by simp) rfl
        obtain ⟨b, h2, h3, f0, f1, kn, km, kr, kr2, ks, ks2, ko, kp⟩ := hF
        have t2 := q2
        have t20 := f0 d0
        have t20 := f0 d0
        rw [eval_tmp, Array.getD_eq_getD_getElem?] at t20 t2
        have hkb := kr hL
        have hfz0 := hkb.frozen 0
        have hfz1 := hkb.frozen 1
        obtain ⟨hcl0, hcl1⟩ := hkb.two
        have hlt := hkb.lt
        have HSZ := Lib.hid hsz
        clear hsz
        refine step_skip (w' := (wr.setCell ⟨w.heap.size, 0, none⟩ (.int .i64 W)).setCell ⟨w.heap.size, 1, none⟩ (.slice D cs.length d)) rfl (by go_simp) ?_
        have hsz := HSZ.out
        refine hK _ _ ⟨hst.put_none _, hsz, q5, q6, q2, q3, ?_⟩
        exact ⟨Below.setCell (Below.setCell b (by show _ ≤ w.heap.size; omega) _) (by show _ ≤ w.heap.size; omega) _, fun _ => d0, h3, f0, f1, (kn.far (by show _ ≠ w.heap.size; omega) _).far (by show _ ≠ w.heap.size; omega) _, (km.far (by show _ ≠ w.heap.size; omega) _).far (by show _ ≠ w.heap.size; omega) _, fun e => absurd ((upd_self L 2).symm.trans e) (by decide), fun _ => by simpa using (hkb.set_ 0 (.int .i64 W)).set_ 1 (.slice D cs.length d), fun e => ((ks e).far (by show _ ≠ w.heap.size; omega) _).far (by show _ ≠ w.heap.size; omega) _, fun e => ((ks2 e).far (by show _ ≠ w.heap.size; omega) _).far (by show _ ≠ w.heap.size; omega) _, own_setCell (own_setCell ko (own_blk_ne ko hkb (by decide)) _) (own_blk_ne ko hkb (by decide)) _, own_setCell (own_setCell kp (own_blk_ne kp hkb (by decide)) _) (own_blk_ne kp hkb (by decide)) _⟩
      case s3 =>
        rintro L a wr ⟨hst, hsz, q5, q6, q2, q3, hF⟩ hL hdp K hK
        have ev := fun (d t : Nat) (v : Value) (hd : d < 22) => eval_put a d t v (by omega)
        have d1 : L 1 = true := hdp ⟨1, .data⟩ (by simp) rfl
        obtain ⟨b, h2, h3, f0, f1, kn, km, kr, kr2, ks, ks2, ko, kp⟩ := hF
        have t3 := q3
        have t21 := f1 d1
        have t21 := f1 d1
        rw [eval_tmp, Array.getD_eq_getD_getElem?] at t21 t3
        have hkb := ks hL
        have hfz0 := hkb.frozen 0
        have hfz1 := hkb.frozen 1
        obtain ⟨hcl0, hcl1⟩ := hkb.two
        have hlt := hkb.lt
        have HSZ := Lib.hid hsz
        clear hsz
        refine step_skip (w' := (wr.setCell ⟨w.heap.size + 1, 0, none⟩ (.int .i64 W)).setCell ⟨w.heap.size + 1, 1, none⟩ (.slice E ds.length f)) rfl (by go_simp) ?_
        have hsz := HSZ.out
        refine hK _ _ ⟨hst.put_none _, hsz, q5, q6, q2, q3, ?_⟩
        exact ⟨Below.setCell (Below.setCell b (by show _ ≤ w.heap.size + 1; omega) _) (by show _ ≤ w.heap.size + 1; omega) _, h2, fun _ => d1, f0, f1, (kn.far (by show _ ≠ w.heap.size + 1; omega) _).far (by show _ ≠ w.heap.size + 1; omega) _, (km.far (by show _ ≠ w.heap.size + 1; omega) _).far (by show _ ≠ w.heap.size + 1; omega) _, fun e => ((kr e).far (by show _ ≠ w.heap.size + 1; omega) _).far (by show _ ≠ w.heap.size + 1; omega) _, fun e => ((kr2 e).far (by show _ ≠ w.heap.size + 1; omega) _).far (by show _ ≠ w.heap.size + 1; omega) _, fun e => absurd ((upd_self L 3).symm.trans e) (by decide), fun _ => by simpa using (hkb.set_ 0 (.int .i64 W)).set_ 1 (.slice E ds.length f), own_setCell (own_setCell ko (own_blk_ne ko hkb (by decide)) _) (own_blk_ne ko hkb (by decide)) _, own_setCell (own_setCell kp (own_blk_ne kp hkb (by decide)) _) (own_blk_ne kp hkb (by decide)) _⟩
end Go.Proofs.Ytkhfilkikpiepaa
