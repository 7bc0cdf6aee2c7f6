/- An order out of the code. -/
import Derived.Test.YtmeaipickolhfaaVL
import Derived.Test.YtmeaipickolhfaaLayers
import Derived.Test.YtmeaipickolhfaaInv
import Derived.Deep.DeepCutAuto
namespace Go.Proofs.Ytmeaipickolhfaa
open Go.RowKit
set_option linter.unusedVariables false
theorem reads_off {w : World} {base g N c k : Nat} {zs : List Int} (h : w.ownsRow base 3 1 (.slice (some ⟨g, 0, none⟩) N c) N (ints zs)) (hk : k ≤ N) :
    Reads w w.heap.size 1 (some ⟨g, k, none⟩) (N - k) (ints (zs.drop k)) := by
  have hzl : zs.length = N := by have := h.1; simpa [ints] using this
  refine ⟨by simp [ints, hzl], fun _ => ⟨⟨g, k, none⟩, rfl, (own_lt h g rfl).2, fun i u hu => ?_⟩⟩
  have hi : k + i < N := by
    have := (List.getElem?_eq_some_iff.1 hu).1
    simp [ints] at this; omega
  rw [Addr.add_lit, h.cellAt (k + i) (by omega)]
  simp [ints] at hu ⊢
  exact hu
theorem reads_none {w : World} {base g N c : Nat} {zs : List Int} (h : w.ownsRow base 3 1 (.slice (some ⟨g, 0, none⟩) N c) N (ints zs)) (o : Nat) :
    Reads w w.heap.size 1 (some ⟨g, o, none⟩) (N - N) (ints (zs.drop N)) := by
  have hzl : zs.length = N := by have := h.1; simpa [ints] using this
  refine ⟨by simp [ints, hzl], fun h0 => ?_⟩
  omega
/-- the state within the region that puts a number in -/
def OrdF (w1 : World) (gP cp j k : Nat) (p : List Int) (L : Nat → Bool) (wr : World) (v0 v1 v2 v3 v4 v5 v6 v7 v8 v9 v10 v11 v12 : Value) : Prop :=
  (Below w1.heap.size w1 wr) ∧
  (L 3 = true → L 1 = true) ∧
  (L 4 = true → L 0 = true ∧ L 3 = true) ∧
  (L 7 = true → L 4 = true ∧ L 6 = true) ∧
  (L 10 = true → L 8 = true) ∧
  (L 11 = true → L 7 = true ∧ L 10 = true) ∧
  (L 12 = true → L 11 = true) ∧
  (L 0 = true → L 4 = false → ∃ g, v0 = .slice (some ⟨g, 0, none⟩) 0 0 ∧ wr.ownsRow w1.heap.size 3 1 v0 0 []) ∧
  (L 1 = true → v1 = .slice (some ⟨gP, 0, none⟩) j cp) ∧
  (L 2 = true → v2 = .int .i64 (k : Nat)) ∧
  (L 3 = true → v3 = .slice (some ⟨gP, 0, none⟩) k cp) ∧
  (L 4 = true → L 7 = false → wr.ownsRow w1.heap.size 3 1 v4 k (ints (p.take k))) ∧
  (L 5 = true → v5 = .int .i64 (j : Nat)) ∧
  (L 6 = true → L 7 = false → ∃ g, v6 = .slice (some ⟨g, 0, none⟩) 1 1 ∧ Blk wr g 3 #[.int .i64 (j : Nat)] ∧ (L 0 = true → L 4 = false → v0.ownBlock ≠ some g) ∧ (L 4 = true → v4.ownBlock ≠ some g)) ∧
  (L 7 = true → L 11 = false → wr.ownsRow w1.heap.size 3 1 v7 (k + 1) (ints (p.take k ++ [(j : Int)]))) ∧
  (L 8 = true → v8 = .slice (some ⟨gP, 0, none⟩) j cp) ∧
  (L 9 = true → v9 = .int .i64 (k : Nat)) ∧
  (L 10 = true → ∃ o : Nat, v10 = .slice (some ⟨gP, o, none⟩) (j - k) (cp - k) ∧ (o = k ∨ k = j)) ∧
  (L 11 = true → wr.ownsRow w1.heap.size 3 1 v11 (j + 1) (ints (p.take k ++ [(j : Int)] ++ p.drop k))) ∧
  (L 12 = false → v12 = .slice (some ⟨gP, 0, none⟩) j cp) ∧
  (L 12 = true → v12 = v11)
set_option maxRecDepth 100000 in
set_option maxHeartbeats 6400000 in
theorem rOrder_any (A : Option Addr) (bs : List Nat) (c n : Nat) (w : World) (hr : Reads w w.heap.size 1 A bs.length (byts bs)) (hb : ∀ b ∈ bs, b ≤ 255) (hl : bs.length ≤ 65536) (hn : n ≤ 64) :
    Calls Try.prog 27 #[.slice A bs.length c, .int .i64 (n : Nat)] w fun e w' => ∃ v zs, e = .returned v ∧ w'.ownsRow w.heap.size 3 1 v n (ints zs) ∧ zs.Perm ((List.range n).map fun i : Nat => (i : Int)) ∧ Below w.heap.size w w' := by
  obtain ⟨i0, hi, hz0, hz1, hz2⟩ := info_parts (show (Try.prog.info? 3).map (fun i => (i.zero, i.size, i.bytes)) = some (some (.int .i64 0), 1, 8) by kernel_rfl)
  have hi' := Lib.hid (And.intro hi (And.intro hz0 (And.intro hz1 hz2)))
  have HR := Lib.hid hr
  have HBB := Lib.hid hb
  clear hr hb
  have hO0 := made_at (w := w) (base := w.heap.size) (g := w.heap.size) (size := 1) (e := 3) (Nat.le_refl _) rfl
  have hB0 := alloc_ (Below.refl w.heap.size w) (.cells #[] 3)
  go_enter Try.func27, Try.ntmps27
  go_wp2_with fail
  go_loopw [5, 6] (fun vp vi wr => ∃ (j gP cp : Nat) (p : List Int), j ≤ n ∧ vi = .int .i64 (j : Nat) ∧ vp = .slice (some ⟨gP, 0, none⟩) j cp ∧ Hid (p.Perm ((List.range j).map fun i : Nat => (i : Int))) ∧ wr.ownsRow w.heap.size 3 1 (.slice (some ⟨gP, 0, none⟩) j cp) j (ints p) ∧ Below w.heap.size w wr) (fun _ vi _ => n - (intOf vi).toNat)
  case atStart => exact ⟨0, _, 0, [], by omega, rfl, rfl, Lib.hid (by simp), hO0, hB0⟩
  case round =>
    clear hO0 hB0
    obtain ⟨j, gP, cp, p, hj, rfl, rfl, HP, oP0, hbw⟩ := hrel
    by_cases hjn : j < n
    · have j1 : (j : Int) < (n : Int) := by omega
      have hxb := atV_lt HBB.out j
      have HAT := Lib.hid (vAt_any A bs c j wr ((HR.out.below hbw).more hbw.size) HBB.out hl (by omega))
      generalize atV bs j = x at *
      have hcp := own_cap oP0
      obtain ⟨k, hk⟩ := Int.eq_ofNat_of_zero_le (Int.emod_nonneg (x : Int) (show (j : Int) + 1 ≠ 0 by omega))
      have hkj : k ≤ j := by have := Int.emod_lt_of_pos (x : Int) (show 0 < (j : Int) + 1 by omega); omega
      have hkcp : k ≤ cp := by omega
      have hkcI : (k : Int) ≤ (cp : Int) := by omega
      have hkjI : (k : Int) ≤ (j : Int) := by omega
      have HK := Lib.hid hk
      clear hk
      go_upto_region 6 with (go_at_call 26; refine HAT.out.mono ?_; rintro e w' ⟨rfl, rfl⟩)
      rw [HK.out]
      have oP : wr.drew.ownsRow w.heap.size 3 1 (.slice (some ⟨gP, 0, none⟩) j cp) j (ints p) := oP0
      obtain ⟨wq, hwq⟩ : ∃ wq, wr.drew = wq := ⟨_, rfl⟩
      have hbd := bdrew hbw
      rw [hwq] at oP hbd
      refine wp_region_inv' (fun a0 L a wr => St a0 a [20, 21, 22, 23, 24, 25, 26, 27, 28, 29, 30, 31, 5] ∧ 32 < a.tmps.size ∧ a.eval (.tmp 6) = .int .i64 (j : Nat) ∧ a.eval (.tmp 7) = .int .i64 (k : Nat) ∧ OrdF wq gP cp j k p L wr (a.eval (.tmp 20)) (a.eval (.tmp 21)) (a.eval (.tmp 22)) (a.eval (.tmp 23)) (a.eval (.tmp 24)) (a.eval (.tmp 25)) (a.eval (.tmp 26)) (a.eval (.tmp 27)) (a.eval (.tmp 28)) (a.eval (.tmp 29)) (a.eval (.tmp 30)) (a.eval (.tmp 31)) (a.eval (.tmp 5))) (by kernel_rfl) (by kernel_rfl) ?start ?steps ?ends
      case start =>
        subst hwq
        refine ⟨St.refl _ _, Nat.le_of_ble_eq_true rfl, rfl, rfl, Below.refl _ _, ?_, ?_, ?_, ?_, ?_, ?_, ?_, ?_, ?_, ?_, ?_, ?_, ?_, ?_, ?_, ?_, ?_, ?_, fun _ => rfl, ?_⟩
        all_goals (intro e; cases e)
      case ends =>
        rintro L a wr ⟨hst, hsz, q6, q7, b, h3, h4, h7, h10, h11, h12, f0, f1, f2, f3, f4, f5, f6, f7, f8, f9, f10, f11, f12, f13⟩ hall
        have o := f11 (hall 11 (by decide))
        have e5 := f13 (hall 12 (by decide))
        have heq := hst.eq
        simp only [List.foldl_cons, List.foldl_nil] at heq
        rw [e5] at heq
        clear hst h3 h4 h7 h10 h11 h12 f0 f1 f2 f3 f4 f5 f6 f7 f8 f9 f10 f11 f12 f13 hall e5 q6 q7 hsz
        generalize a.eval (.tmp 20) = u20 at *
        generalize a.eval (.tmp 21) = u21 at *
        generalize a.eval (.tmp 22) = u22 at *
        generalize a.eval (.tmp 23) = u23 at *
        generalize a.eval (.tmp 24) = u24 at *
        generalize a.eval (.tmp 25) = u25 at *
        generalize a.eval (.tmp 26) = u26 at *
        generalize a.eval (.tmp 27) = u27 at *
        generalize a.eval (.tmp 28) = u28 at *
        generalize a.eval (.tmp 29) = u29 at *
        generalize a.eval (.tmp 30) = u30 at *
        generalize a.eval (.tmp 31) = u31 at *
        simp only [Act.put, List.setIfInBounds_toArray, List.set_cons_zero, List.set_cons_succ] at heq
        subst heq
        obtain ⟨g9, c9, e9, -, -, -⟩ := own_some o (by omega)
        subst e9
        have hN := Lib.hid (hbd.trans (b.mono hbd.size))
        have HO := Lib.hid (own_base o hbd.size)
        have HPM : Hid ((p.take k ++ [(j : Int)] ++ p.drop k).Perm ((List.range (j + 1)).map fun i : Nat => (i : Int))) := Lib.hid (by
          rw [List.range_succ, List.map_append, List.append_assoc]
          have h1 := (List.perm_append_comm (l₁ := [(j : Int)]) (l₂ := p.drop k)).append_left (p.take k)
          rw [← List.append_assoc (p.take k) (p.drop k), List.take_append_drop] at h1
          exact h1.trans (HP.out.append_right _))
        clear o b
        go_wp2_with fail
        go_roundw
        case rel => exact ⟨j + 1, g9, c9, _, by omega, by go_num, rfl, HPM, HO.out, hN.out⟩
        case measure => simp [intOf]; omega
      case steps =>
        refine ⟨?s0, ?s1, ?s2, ?s3, ?s4, ?s5, ?s6, ?s7, ?s8, ?s9, ?s10, ?s11, ?s12, trivial⟩
        case s0 =>
          rintro L a wr ⟨hst, hsz, q6, q7, hF⟩ hL hdp K hK
          have ev := fun (d t : Nat) (v : Value) (hd : d < 33) => eval_put a d t v (by omega)
          obtain ⟨b, h3, h4, h7, h10, h11, h12, f0, f1, f2, f3, f4, f5, f6, f7, f8, f9, f10, f11, f12, f13⟩ := hF
          refine step_value (v := .slice (some ⟨wr.heap.size, 0, none⟩) 0 0) (w' := wr.alloc (.cells #[] 3)) rfl (by go_simp) ?_
          refine hK _ _ ⟨hst.put 20 _ (by decide), by simpa [Act.put] using hsz, (ev 20 6 _ (by decide)).trans q6, (ev 20 7 _ (by decide)).trans q7, ?_⟩
          simp only [ev 20 _ _ (by decide)]
          exact ⟨alloc_ b _, h3, fun e => absurd ((h4 e).1.symm.trans hL) (by decide), h7, h10, h11, h12, fun _ _ => ⟨_, rfl, made_at b.size rfl⟩, f1, f2, f3, fun e e2 => (f4 e e2).alloc _, f5, fun e e2 => (f6 e e2).imp fun g h => ⟨h.1, h.2.1.alloc _, fun _ _ e3 => by have h8 := h.2.1.lt; have h9 : wr.heap.size = g := Option.some.inj e3; omega, h.2.2.2⟩, fun e e2 => (f7 e e2).alloc _, f8, f9, f10, fun e => (f11 e).alloc _, f12, f13⟩
        case s1 =>
          rintro L a wr ⟨hst, hsz, q6, q7, hF⟩ hL hdp K hK
          have ev := fun (d t : Nat) (v : Value) (hd : d < 33) => eval_put a d t v (by omega)
          obtain ⟨b, h3, h4, h7, h10, h11, h12, f0, f1, f2, f3, f4, f5, f6, f7, f8, f9, f10, f11, f12, f13⟩ := hF
          have n12 : L 12 = false := by
            cases h : L 12
            · rfl
            · exact absurd ((h3 (h4 (h7 (h11 (h12 h)).1).1).2).symm.trans hL) (by decide)
          have t5 := f12 n12
          rw [eval_tmp, Array.getD_eq_getD_getElem?] at t5
          refine step_value (v := .slice (some ⟨gP, 0, none⟩) j cp) (w' := wr) rfl (by go_simp) ?_
          refine hK _ _ ⟨hst.put 21 _ (by decide), by simpa [Act.put] using hsz, (ev 21 6 _ (by decide)).trans q6, (ev 21 7 _ (by decide)).trans q7, ?_⟩
          simp only [ev 21 _ _ (by decide)]
          exact ⟨b, fun _ => upd_self L 1, h4, h7, h10, h11, h12, f0, fun _ => rfl, f2, f3, f4, f5, f6, f7, f8, f9, f10, f11, f12, f13⟩
        case s2 =>
          rintro L a wr ⟨hst, hsz, q6, q7, hF⟩ hL hdp K hK
          have ev := fun (d t : Nat) (v : Value) (hd : d < 33) => eval_put a d t v (by omega)
          obtain ⟨b, h3, h4, h7, h10, h11, h12, f0, f1, f2, f3, f4, f5, f6, f7, f8, f9, f10, f11, f12, f13⟩ := hF
          have t7 := q7
          rw [eval_tmp, Array.getD_eq_getD_getElem?] at t7
          refine step_value (v := .int .i64 (k : Nat)) (w' := wr) rfl (by go_simp) ?_
          refine hK _ _ ⟨hst.put 22 _ (by decide), by simpa [Act.put] using hsz, (ev 22 6 _ (by decide)).trans q6, (ev 22 7 _ (by decide)).trans q7, ?_⟩
          simp only [ev 22 _ _ (by decide)]
          exact ⟨b, h3, h4, h7, h10, h11, h12, f0, f1, fun _ => rfl, f3, f4, f5, f6, f7, f8, f9, f10, f11, f12, f13⟩
        case s3 =>
          rintro L a wr ⟨hst, hsz, q6, q7, hF⟩ hL hdp K hK
          have ev := fun (d t : Nat) (v : Value) (hd : d < 33) => eval_put a d t v (by omega)
          have d1 : L 1 = true := hdp ⟨1, .data⟩ (by simp) rfl
          have d2 : L 2 = true := hdp ⟨2, .data⟩ (by simp) rfl
          obtain ⟨b, h3, h4, h7, h10, h11, h12, f0, f1, f2, f3, f4, f5, f6, f7, f8, f9, f10, f11, f12, f13⟩ := hF
          have t21 := f1 d1
          have t22 := f2 d2
          rw [eval_tmp, Array.getD_eq_getD_getElem?] at t21 t22
          refine step_value (v := .slice (some ⟨gP, 0, none⟩) k cp) (w' := wr) rfl (by go_simp) ?_
          refine hK _ _ ⟨hst.put 23 _ (by decide), by simpa [Act.put] using hsz, (ev 23 6 _ (by decide)).trans q6, (ev 23 7 _ (by decide)).trans q7, ?_⟩
          simp only [ev 23 _ _ (by decide)]
          exact ⟨b, fun _ => d1, fun e => absurd (((h4 e).2).symm.trans hL) (by decide), h7, h10, h11, h12, f0, f1, f2, fun _ => rfl, f4, f5, f6, f7, f8, f9, f10, f11, f12, f13⟩
        case s4 =>
          rintro L a wr ⟨hst, hsz, q6, q7, hF⟩ hL hdp K hK
          have ev := fun (d t : Nat) (v : Value) (hd : d < 33) => eval_put a d t v (by omega)
          have d0 : L 0 = true := hdp ⟨0, .data⟩ (by simp) rfl
          have d3 : L 3 = true := hdp ⟨3, .data⟩ (by simp) rfl
          obtain ⟨b, h3, h4, h7, h10, h11, h12, f0, f1, f2, f3, f4, f5, f6, f7, f8, f9, f10, f11, f12, f13⟩ := hF
          obtain ⟨g0, e0, ho⟩ := f0 d0 hL
          refine step_append_any wr rfl (.tmp 20) (.tmp 23) 22 rfl wq.heap.size 3 i0 _ 1 8 Try.underlying22 hi'.out.1 hi'.out.2.1 hi'.out.2.2.1 hi'.out.2.2.2 rfl (by decide) (a.eval (.tmp 20)) 0 [] rfl ho wr.heap.size (some ⟨gP, 0, none⟩) k cp (ints (p.take k)) (f3 d3) (by rw [show ints (p.take k) = (ints p).take k by simp [ints, List.map_take]]; exact Reads.pre (Reads.of_own (own_below oP b (Nat.le_refl _))) hkj) (ints_one _) (by unfold maxLen; omega) (by omega) b.size ?_
          intro v4 w4 o4 gr4 at4
          rw [Nat.zero_add, List.nil_append] at o4
          refine hK _ _ ⟨hst.put 24 _ (by decide), by simpa [Act.put] using hsz, (ev 24 6 _ (by decide)).trans q6, (ev 24 7 _ (by decide)).trans q7, ?_⟩
          simp only [ev 24 _ _ (by decide)]
          exact ⟨b.grown gr4 b.size (fun q hq => (own_lt ho q hq).1), h3, fun _ => ⟨d0, d3⟩, fun e => absurd (((h7 e).1).symm.trans hL) (by decide), h10, h11, h12, fun _ e => absurd ((upd_self L 4).symm.trans e) (by decide), f1, f2, f3, fun _ _ => o4, f5, fun e e2 => (f6 e e2).imp fun g h => ⟨h.1, h.2.1.grown gr4 (fun e3 => h.2.2.1 d0 hL e3.symm), (fun _ e3 => absurd ((upd_self L 4).symm.trans e3) (by decide)), fun _ e3 => by
              rcases at4 with e4 | e4
              · exact h.2.2.1 d0 hL (e4.symm.trans e3)
              · have h8 := h.2.1.lt; have h9 : wr.heap.size = g := Option.some.inj (e4.symm.trans e3); omega⟩, fun e => absurd ((h7 e).1.symm.trans hL) (by decide), f8, f9, f10, fun e => absurd ((h7 (h11 e).1).1.symm.trans hL) (by decide), f12, f13⟩
        case s5 =>
          rintro L a wr ⟨hst, hsz, q6, q7, hF⟩ hL hdp K hK
          have ev := fun (d t : Nat) (v : Value) (hd : d < 33) => eval_put a d t v (by omega)
          obtain ⟨b, h3, h4, h7, h10, h11, h12, f0, f1, f2, f3, f4, f5, f6, f7, f8, f9, f10, f11, f12, f13⟩ := hF
          have t6 := q6
          rw [eval_tmp, Array.getD_eq_getD_getElem?] at t6
          refine step_value (v := .int .i64 (j : Nat)) (w' := wr) rfl (by go_simp) ?_
          refine hK _ _ ⟨hst.put 25 _ (by decide), by simpa [Act.put] using hsz, (ev 25 6 _ (by decide)).trans q6, (ev 25 7 _ (by decide)).trans q7, ?_⟩
          simp only [ev 25 _ _ (by decide)]
          exact ⟨b, h3, h4, h7, h10, h11, h12, f0, f1, f2, f3, f4, fun _ => rfl, f6, f7, f8, f9, f10, f11, f12, f13⟩
        case s6 =>
          rintro L a wr ⟨hst, hsz, q6, q7, hF⟩ hL hdp K hK
          have ev := fun (d t : Nat) (v : Value) (hd : d < 33) => eval_put a d t v (by omega)
          have d5 : L 5 = true := hdp ⟨5, .data⟩ (by simp) rfl
          obtain ⟨b, h3, h4, h7, h10, h11, h12, f0, f1, f2, f3, f4, f5, f6, f7, f8, f9, f10, f11, f12, f13⟩ := hF
          have n7 : L 7 = false := by
            cases h : L 7
            · rfl
            · exact absurd (((h7 h).2).symm.trans hL) (by decide)
          have t25 := f5 d5
          rw [eval_tmp, Array.getD_eq_getD_getElem?] at t25
          refine step_value (v := .slice (some ⟨wr.heap.size, 0, none⟩) 1 1) (w' := wr.alloc (.cells #[.int .i64 (j : Nat)] 3)) rfl (by go_simp) ?_
          refine hK _ _ ⟨hst.put 26 _ (by decide), by simpa [Act.put] using hsz, (ev 26 6 _ (by decide)).trans q6, (ev 26 7 _ (by decide)).trans q7, ?_⟩
          simp only [ev 26 _ _ (by decide)]
          exact ⟨alloc_ b _, h3, h4, fun e => absurd ((h7 e).2.symm.trans hL) (by decide), h10, h11, h12, fun e e2 => (f0 e e2).imp fun g h => ⟨h.1, h.2.alloc _⟩, f1, f2, f3, fun e e2 => (f4 e e2).alloc _, f5, fun _ _ => ⟨wr.heap.size, rfl, Blk.new _ _ _, (fun e e2 e3 => by
              obtain ⟨g, h1, h2⟩ := f0 e e2
              have := (own_lt h2 _ e3).2; omega), fun e e3 => by have := (own_lt (f4 e n7) _ e3).2; omega⟩, fun e e2 => (f7 e e2).alloc _, f8, f9, f10, fun e => (f11 e).alloc _, f12, f13⟩
        case s7 =>
          rintro L a wr ⟨hst, hsz, q6, q7, hF⟩ hL hdp K hK
          have ev := fun (d t : Nat) (v : Value) (hd : d < 33) => eval_put a d t v (by omega)
          have d4 : L 4 = true := hdp ⟨4, .data⟩ (by simp) rfl
          have d6 : L 6 = true := hdp ⟨6, .data⟩ (by simp) rfl
          obtain ⟨b, h3, h4, h7, h10, h11, h12, f0, f1, f2, f3, f4, f5, f6, f7, f8, f9, f10, f11, f12, f13⟩ := hF
          obtain ⟨g6, e6, hk6, -, hne⟩ := f6 d6 hL
          have ho := f4 d4 hL
          refine step_push wr rfl (.tmp 24) (.tmp 26) 22 rfl wq.heap.size 3 i0 _ 1 8 Try.underlying22 hi'.out.1 hi'.out.2.1 hi'.out.2.2.1 hi'.out.2.2.2 rfl (by decide) (a.eval (.tmp 24)) k _ rfl ho #[.int .i64 (j : Nat)] g6 e6 hk6 rfl (by simp [Value.oneCell']) (by omega) (by unfold maxLen; omega) b.size ?_
          intro g8 d8 w8 o8 gr8 bl8 at8
          rw [ints_snoc] at o8
          refine hK _ _ ⟨hst.put 27 _ (by decide), by simpa [Act.put] using hsz, (ev 27 6 _ (by decide)).trans q6, (ev 27 7 _ (by decide)).trans q7, ?_⟩
          simp only [ev 27 _ _ (by decide)]
          exact ⟨b.grown gr8 b.size (fun q hq => (own_lt ho q hq).1), h3, h4, fun _ => ⟨d4, d6⟩, h10, fun e => absurd (((h11 e).1).symm.trans hL) (by decide), h12, fun e e2 => absurd (d4.symm.trans e2) (by decide), f1, f2, f3, fun _ e => absurd ((upd_self L 7).symm.trans e) (by decide), f5, fun _ e => absurd ((upd_self L 7).symm.trans e) (by decide), fun _ _ => o8, f8, f9, f10, fun e => absurd (((h11 e).1).symm.trans hL) (by decide), f12, f13⟩
        case s8 =>
          rintro L a wr ⟨hst, hsz, q6, q7, hF⟩ hL hdp K hK
          have ev := fun (d t : Nat) (v : Value) (hd : d < 33) => eval_put a d t v (by omega)
          obtain ⟨b, h3, h4, h7, h10, h11, h12, f0, f1, f2, f3, f4, f5, f6, f7, f8, f9, f10, f11, f12, f13⟩ := hF
          have n12 : L 12 = false := by
            cases h : L 12
            · rfl
            · exact absurd ((h10 (h11 (h12 h)).2).symm.trans hL) (by decide)
          have t5 := f12 n12
          rw [eval_tmp, Array.getD_eq_getD_getElem?] at t5
          refine step_value (v := .slice (some ⟨gP, 0, none⟩) j cp) (w' := wr) rfl (by go_simp) ?_
          refine hK _ _ ⟨hst.put 28 _ (by decide), by simpa [Act.put] using hsz, (ev 28 6 _ (by decide)).trans q6, (ev 28 7 _ (by decide)).trans q7, ?_⟩
          simp only [ev 28 _ _ (by decide)]
          exact ⟨b, h3, h4, h7, fun _ => upd_self L 8, h11, h12, f0, f1, f2, f3, f4, f5, f6, f7, fun _ => rfl, f9, f10, f11, f12, f13⟩
        case s9 =>
          rintro L a wr ⟨hst, hsz, q6, q7, hF⟩ hL hdp K hK
          have ev := fun (d t : Nat) (v : Value) (hd : d < 33) => eval_put a d t v (by omega)
          obtain ⟨b, h3, h4, h7, h10, h11, h12, f0, f1, f2, f3, f4, f5, f6, f7, f8, f9, f10, f11, f12, f13⟩ := hF
          have t7 := q7
          rw [eval_tmp, Array.getD_eq_getD_getElem?] at t7
          refine step_value (v := .int .i64 (k : Nat)) (w' := wr) rfl (by go_simp) ?_
          refine hK _ _ ⟨hst.put 29 _ (by decide), by simpa [Act.put] using hsz, (ev 29 6 _ (by decide)).trans q6, (ev 29 7 _ (by decide)).trans q7, ?_⟩
          simp only [ev 29 _ _ (by decide)]
          exact ⟨b, h3, h4, h7, h10, h11, h12, f0, f1, f2, f3, f4, f5, f6, f7, f8, fun _ => rfl, f10, f11, f12, f13⟩
        case s10 =>
          rintro L a wr ⟨hst, hsz, q6, q7, hF⟩ hL hdp K hK
          have ev := fun (d t : Nat) (v : Value) (hd : d < 33) => eval_put a d t v (by omega)
          have d8 : L 8 = true := hdp ⟨8, .data⟩ (by simp) rfl
          have d9 : L 9 = true := hdp ⟨9, .data⟩ (by simp) rfl
          obtain ⟨b, h3, h4, h7, h10, h11, h12, f0, f1, f2, f3, f4, f5, f6, f7, f8, f9, f10, f11, f12, f13⟩ := hF
          have t28 := f8 d8
          have t29 := f9 d9
          rw [eval_tmp, Array.getD_eq_getD_getElem?] at t28 t29
          by_cases hck : cp = k
          · refine step_value (v := .slice (some ⟨gP, 0, none⟩) (j - k) (cp - k)) (w' := wr) rfl (by go_simp) ?_
            refine hK _ _ ⟨hst.put 30 _ (by decide), by simpa [Act.put] using hsz, (ev 30 6 _ (by decide)).trans q6, (ev 30 7 _ (by decide)).trans q7, ?_⟩
            simp only [ev 30 _ _ (by decide)]
            exact ⟨b, h3, h4, h7, fun _ => d8, fun e => absurd (((h11 e).2).symm.trans hL) (by decide), h12, f0, f1, f2, f3, f4, f5, f6, f7, f8, f9, fun _ => ⟨0, rfl, .inr (by omega)⟩, f11, f12, f13⟩
          · refine step_value (v := .slice (some ⟨gP, k, none⟩) (j - k) (cp - k)) (w' := wr) rfl (by go_simp) ?_
            refine hK _ _ ⟨hst.put 30 _ (by decide), by simpa [Act.put] using hsz, (ev 30 6 _ (by decide)).trans q6, (ev 30 7 _ (by decide)).trans q7, ?_⟩
            simp only [ev 30 _ _ (by decide)]
            exact ⟨b, h3, h4, h7, fun _ => d8, fun e => absurd (((h11 e).2).symm.trans hL) (by decide), h12, f0, f1, f2, f3, f4, f5, f6, f7, f8, f9, fun _ => ⟨k, rfl, .inl rfl⟩, f11, f12, f13⟩
        case s11 =>
          rintro L a wr ⟨hst, hsz, q6, q7, hF⟩ hL hdp K hK
          have ev := fun (d t : Nat) (v : Value) (hd : d < 33) => eval_put a d t v (by omega)
          have d7 : L 7 = true := hdp ⟨7, .data⟩ (by simp) rfl
          have d10 : L 10 = true := hdp ⟨10, .data⟩ (by simp) rfl
          obtain ⟨b, h3, h4, h7, h10, h11, h12, f0, f1, f2, f3, f4, f5, f6, f7, f8, f9, f10, f11, f12, f13⟩ := hF
          have ho := f7 d7 hL
          obtain ⟨o, e10, ho2⟩ := f10 d10
          refine step_append_any wr rfl (.tmp 27) (.tmp 30) 22 rfl wq.heap.size 3 i0 _ 1 8 Try.underlying22 hi'.out.1 hi'.out.2.1 hi'.out.2.2.1 hi'.out.2.2.2 rfl (by decide) (a.eval (.tmp 27)) (k + 1) _ rfl ho wr.heap.size (some ⟨gP, o, none⟩) (j - k) (cp - k) (ints (p.drop k)) e10 (by
            rcases ho2 with rfl | rfl
            · exact reads_off (own_below oP b (Nat.le_refl _)) hkj
            · exact reads_none (own_below oP b (Nat.le_refl _)) o) (ints_one _) (by unfold maxLen; omega) (by omega) b.size ?_
          intro v9 w9 o9 gr9 at9
          rw [show k + 1 + (j - k) = j + 1 by omega, show ints (p.take k ++ [(j : Int)]) ++ ints (p.drop k) = ints (p.take k ++ [(j : Int)] ++ p.drop k) by simp [ints]] at o9
          refine hK _ _ ⟨hst.put 31 _ (by decide), by simpa [Act.put] using hsz, (ev 31 6 _ (by decide)).trans q6, (ev 31 7 _ (by decide)).trans q7, ?_⟩
          simp only [ev 31 _ _ (by decide)]
          exact ⟨b.grown gr9 b.size (fun q hq => (own_lt ho q hq).1), h3, h4, h7, h10, fun _ => ⟨d7, d10⟩, fun e => absurd ((h12 e).symm.trans hL) (by decide), fun e e2 => absurd ((h7 d7).1.symm.trans e2) (by decide), f1, f2, f3, fun e e2 => absurd (d7.symm.trans e2) (by decide), f5, fun e e2 => absurd (d7.symm.trans e2) (by decide), fun _ e => absurd ((upd_self L 11).symm.trans e) (by decide), f8, f9, f10, fun _ => o9, f12, fun e => absurd ((h12 e).symm.trans hL) (by decide)⟩
        case s12 =>
          rintro L a wr ⟨hst, hsz, q6, q7, hF⟩ hL hdp K hK
          have ev := fun (d t : Nat) (v : Value) (hd : d < 33) => eval_put a d t v (by omega)
          have d11 : L 11 = true := hdp ⟨11, .data⟩ (by simp) rfl
          obtain ⟨b, h3, h4, h7, h10, h11, h12, f0, f1, f2, f3, f4, f5, f6, f7, f8, f9, f10, f11, f12, f13⟩ := hF
          have t31 : a.eval (.tmp 31) = a.eval (.tmp 31) := rfl
          refine step_value (v := a.eval (.tmp 31)) (w' := wr) rfl (by go_simp) ?_
          refine hK _ _ ⟨hst.put 5 _ (by decide), by simpa [Act.put] using hsz, (ev 5 6 _ (by decide)).trans q6, (ev 5 7 _ (by decide)).trans q7, ?_⟩
          simp only [ev 5 _ _ (by decide)]
          exact ⟨b, h3, h4, h7, h10, h11, fun _ => d11, f0, f1, f2, f3, f4, f5, f6, f7, f8, f9, f10, f11, fun e => absurd ((upd_self L 12).symm.trans e) (by decide), fun _ => rfl⟩
    · obtain rfl : j = n := by omega
      have j1 : ¬ (j : Int) < (j : Int) := by omega
      go_wp2_with fail
      go_ret
      first | exact ⟨_, p, rfl, oP0, HP.out, hbw⟩ | exact ⟨_, rfl, p, oP0, HP.out, hbw⟩
end Go.Proofs.Ytmeaipickolhfaa
