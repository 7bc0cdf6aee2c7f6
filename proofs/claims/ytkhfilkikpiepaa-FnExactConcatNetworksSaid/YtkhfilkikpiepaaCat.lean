/- ConcatNetworks: the program's and the reference's function. -/
import Derived.Test.YtkhfilkikpiepaaCatM
import Derived.Test.YtkhfilkikpiepaaVN
import Derived.Test.YtkhfilkikpiepaaInv
import Derived.Deep.DeepCutAuto
namespace Go.Proofs.Ytkhfilkikpiepaa
open Go.RowKit
set_option linter.unusedVariables false
set_option maxHeartbeats 400000 in
theorem copyCmps_any (A : Option Addr) (cs : List (Int × Int)) (c : Nat) (w : World) (hx : Reads w w.heap.size 2 A cs.length (cmps cs)) (hl : cs.length ≤ 1048576) :
    Calls Try.prog 25 #[.slice A cs.length c] w fun e w' => ∃ v, e = .returned v ∧ w'.ownsRow w.heap.size 54 2 v cs.length (cmps cs) ∧ Below w.heap.size w w' := by
  obtain ⟨i0, hi, hz0, hz1, hz2⟩ := info_parts info_cmp
  have ho := World.ownsRow_made (base := w.heap.size) (size := 2) (e := 54) w #[] 0 (Nat.le_refl _) (by simp) (by simp)
  have hb := alloc_ (Below.refl w.heap.size w) (.cells #[] 54)
  have hr := hx.alloc (Nat.le_refl _) (.cells #[] 54)
  go_enter Try.func25, Try.ntmps25
  go_wp2_with (at_builtin; refine wpList_append_any _ rfl _ _ 26 rfl w.heap.size 54 i0 _ 2 16 Try.underlying26 hi hz0 hz1 hz2 rfl (by decide) (.slice (some ⟨w.heap.size, 0, none⟩) 0 0) _ _ rfl ho w.heap.size A cs.length c (cmps cs) rfl hr (cmps_one _) (by unfold maxLen; omega) (by omega) (by simp) ?_; intro v1 w1 hown1 hg1 hat1)
  go_ret
  simp only [Nat.zero_add, List.nil_append] at hown1
  exact ⟨v1, rfl, hown1, hb.grown hg1 (by simp) (by simp [Value.ownBlock])⟩
def CatI (wq : World) (gA gB n m c d : Nat) (W : Int) (A E : Option Addr) (cs ds : List (Int × Int)) (L : Nat → Bool) (wr : World) (v0 v1 v2 v3 v4 v5 v6 v7 v8 v9 : Value) : Prop :=
  (Below wq.heap.size wq wr) ∧
  (L 1 = true → L 0 = true) ∧
  (L 3 = true → L 2 = true) ∧
  (L 4 = true → L 3 = true) ∧
  (L 6 = true → L 5 = true) ∧
  (L 7 = true → L 4 = true ∧ L 6 = true) ∧
  (L 8 = true → L 1 = true ∧ L 7 = true) ∧
  (L 10 = true → L 9 = true ∧ L 8 = true) ∧
  (L 0 = true → v0 = .pointer (some ⟨gA, 0, none⟩)) ∧
  (L 1 = true → v1 = .int .i64 W) ∧
  (L 2 = true → v2 = .pointer (some ⟨gA, 1, none⟩)) ∧
  (L 3 = true → v3 = .slice A n c) ∧
  (L 4 = true → L 7 = false → wr.ownsRow wq.heap.size 54 2 v4 n (cmps cs)) ∧
  (L 5 = true → v5 = .pointer (some ⟨gB, 1, none⟩)) ∧
  (L 6 = true → v6 = .slice E m d) ∧
  (L 7 = true → wr.ownsRow wq.heap.size 54 2 v7 (n + m) (cmps (cs ++ ds))) ∧
  (L 8 = true → v8 = .agg #[.int .i64 W, v7]) ∧
  (L 9 = true → ∃ g, v9 = .pointer (some ⟨g, 0, none⟩) ∧ wq.heap.size ≤ g ∧ (L 10 = false → Blk wr g 28 #[.int .i64 0, .slice none 0 0]) ∧ (L 10 = true → Blk wr g 28 #[.int .i64 W, v7]))
set_option maxRecDepth 100000 in
set_option maxHeartbeats 6400000 in
theorem ConcatNetworks_any (W : Int) (A : Option Addr) (cs : List (Int × Int)) (c : Nat) (V : Int) (E : Option Addr) (ds : List (Int × Int)) (d : Nat) (w : World) (hx : Reads w w.heap.size 2 A cs.length (cmps cs)) (hl : cs.length ≤ 1048576)
    (hy : Reads w w.heap.size 2 E ds.length (cmps ds)) (hl' : ds.length ≤ 1048576) :
    Calls Try.prog 8 #[.agg #[.int .i64 W, .slice A cs.length c], .agg #[.int .i64 V, .slice E ds.length d]] w fun e w' => ∃ G g, e = .returned (.tuple #[.agg #[.int .i64 (ccW W V cs ds), .slice G (ccV W V cs ds).length g], .bool (ccOk W V cs ds)]) ∧
      w'.ownsRow w.heap.size 54 2 (.slice G (ccV W V cs ds).length g) (ccV W V cs ds).length (cmps (ccV W V cs ds)) ∧ Below w.heap.size w w' := by
  obtain ⟨i1, hj, hy0, hy1, hy2⟩ := info_parts info_cmp
  have hi' := Lib.hid (And.intro hj (And.intro hy0 (And.intro hy1 hy2)))
  have hA0 := ((Blk.new w 28 #[.int .i64 W, .slice A cs.length c]).alloc (.cells #[.int .i64 V, .slice E ds.length d] 28)).alloc (.cells #[.int .i64 0, .slice none 0 0] 28)
  have hE0 := (blk_new_at (w := w.alloc (.cells #[.int .i64 W, .slice A cs.length c] 28)) (g := w.heap.size + 1) (t := 28) (cs := #[.int .i64 V, .slice E ds.length d]) (by simp)).alloc (.cells #[.int .i64 0, .slice none 0 0] 28)
  have hR0 := blk_new_at (w := (w.alloc (.cells #[.int .i64 W, .slice A cs.length c] 28)).alloc (.cells #[.int .i64 V, .slice E ds.length d] 28)) (g := w.heap.size + 1 + 1) (t := 28) (cs := #[.int .i64 0, .slice none 0 0]) (by simp)
  have hB0 := alloc_ (alloc_ (alloc_ (Below.refl w.heap.size w) (.cells #[.int .i64 W, .slice A cs.length c] 28)) (.cells #[.int .i64 V, .slice E ds.length d] 28)) (.cells #[.int .i64 0, .slice none 0 0] 28)
  go_enter Try.func8, Try.ntmps8
  go_upto_region 1 with fail
  obtain ⟨wq, hwq⟩ : ∃ wq, (((w.alloc (.cells #[.int .i64 W, .slice A cs.length c] 28)).alloc (.cells #[.int .i64 V, .slice E ds.length d] 28)).alloc (.cells #[.int .i64 0, .slice none 0 0] 28)).drew = wq := ⟨_, rfl⟩
  have hAq : Blk wq w.heap.size 28 #[.int .i64 W, .slice A cs.length c] := by rw [← hwq]; exact hA0
  have hBq : Blk wq (w.heap.size + 1) 28 #[.int .i64 V, .slice E ds.length d] := by rw [← hwq]; exact hE0
  have hRq : Blk wq (w.heap.size + 1 + 1) 28 #[.int .i64 0, .slice none 0 0] := by rw [← hwq]; exact hR0
  have hWq : Below w.heap.size w wq := by rw [← hwq]; exact bdrew hB0
  have hsq := hWq.size
  have hxq := (hx.below hWq).more hWq.size
  have hyq := (hy.below hWq).more hWq.size
  clear hA0 hE0 hR0 hB0
  refine wp_region_inv' (fun a0 L a wr => St a0 a [7, 8, 9, 10, 11, 12, 13, 14, 15, 6] ∧ 35 < a.tmps.size ∧ a.eval (.tmp 2) = .pointer (some ⟨w.heap.size, 0, none⟩) ∧ a.eval (.tmp 3) = .pointer (some ⟨w.heap.size + 1, 0, none⟩) ∧ CatI wq w.heap.size (w.heap.size + 1) cs.length ds.length c d W A E cs ds L wr (a.eval (.tmp 7)) (a.eval (.tmp 8)) (a.eval (.tmp 9)) (a.eval (.tmp 10)) (a.eval (.tmp 11)) (a.eval (.tmp 12)) (a.eval (.tmp 13)) (a.eval (.tmp 14)) (a.eval (.tmp 15)) (a.eval (.tmp 6))) (by kernel_rfl) (by kernel_rfl) ?start ?steps ?ends
  case start =>
    subst hwq
    refine ⟨St.refl _ _, Nat.le_of_ble_eq_true rfl, rfl, rfl, Below.refl _ _, ?_, ?_, ?_, ?_, ?_, ?_, ?_, ?_, ?_, ?_, ?_, ?_, ?_, ?_, ?_, ?_, ?_⟩
    all_goals (intro e; first | (cases e; done) | rfl | assumption)
  case ends =>
    rintro L a wr ⟨hst, hsz, q2, q3, b, h1, h3, h4, h6, h7, h8, h10, f0, f1, f2, f3, f4, f5, f6, f7, f8, f9⟩ hall
    have o9 := f7 (hall 7 (by decide))
    obtain ⟨g6, e6, hg6, -, hk6⟩ := f9 (hall 9 (by decide))
    have k6 := hk6 (hall 10 (by decide))
    obtain ⟨Z, zc, eZ⟩ := own_slice o9
    rw [eZ] at o9 k6
    clear eZ hk6
    have hAr := hAq.below b hAq.lt
    have hEr := hBq.below b hBq.lt
    have hRr := hRq.below b hRq.lt
    have hBr := hWq.trans (b.mono hWq.size)
    have hx2 := (hxq.below b).more b.size
    have hy2' := (hyq.below b).more b.size
    have oZ := own_base o9 hWq.size
    have hlen : (cs ++ ds).length = cs.length + ds.length := by simp
    have heq := hst.eq
    simp only [List.foldl_cons, List.foldl_nil] at heq
    rw [e6] at heq
    clear hst hall hsz q2 q3 h1 h3 h4 h6 h7 h8 h10 f0 f1 f2 f3 f4 f5 f6 f7 f8 f9 e6 o9 b
    generalize a.eval (.tmp 7) = u7 at *
    generalize a.eval (.tmp 8) = u8 at *
    generalize a.eval (.tmp 9) = u9 at *
    generalize a.eval (.tmp 10) = u10 at *
    generalize a.eval (.tmp 11) = u11 at *
    generalize a.eval (.tmp 12) = u12 at *
    generalize a.eval (.tmp 13) = u13 at *
    generalize a.eval (.tmp 14) = u14 at *
    generalize a.eval (.tmp 15) = u15 at *
    simp only [Act.put, List.setIfInBounds_toArray, List.set_cons_zero, List.set_cons_succ] at heq
    subst heq
    have hrA : w.heap.size ≠ g6 := by have := hAq.lt; omega
    have HLEN := Lib.hid hlen
    have hRO := Lib.hid (⟨hRr, k6, oZ, hx2, hy2'⟩ : _ ∧ _ ∧ _ ∧ _ ∧ _)
    clear hlen
    have hAa := hAr; have hEa := hEr; have hRa := hRr; have ka := k6; have oa := oZ; have hBa := hBr; have hXa := hx2; have hYa := hy2'
    clear hAr hEr hRr k6 oZ hBr hx2 hy2' hRO
    obtain ⟨q0, q1⟩ := hAa.two
    have ql := hAa.lt
    go_wp2_with fail
    refine (IsValidNetwork_any W A cs c _ hXa (by omega)).mono ?_
    rintro e w1 ⟨rfl, b1⟩
    have hAb := hAa.below_ b1
    have hEb := hEa.below_ b1
    have hRb := hRa.below_ b1
    have kb := ka.below_ b1
    have ob := own_below oa b1 (Nat.le_refl _)
    have hBb := hBa.trans (b1.mono hBa.size)
    have hXb := (hXa.below b1).more b1.size
    have hYb := (hYa.below b1).more b1.size
    clear q0 q1 ql
    cases h1 : netOk W cs
    case false =>
      have EO : Hid (ccOk W V cs ds = false) := Lib.hid (by simp [ccOk, h1])
      have hf3 : Blk ((w1.setCell ⟨w.heap.size + 1 + 1, 0, none⟩ (.int .i64 0)).setCell ⟨w.heap.size + 1 + 1, 1, none⟩ (.slice none 0 0)) (w.heap.size + 1 + 1) 28 #[.int .i64 0, .slice none 0 0] := by
        simpa using (hRb.set_ 0 (.int .i64 0)).set_ 1 (.slice none 0 0)
      obtain ⟨r0, r1⟩ := hf3.two
      have R0 := Lib.hid r0; have R1 := Lib.hid r1
      obtain ⟨z0, z1⟩ := hRb.two
      have f0 := hRb.frozen 0
      have f1 := hRb.frozen 1
      have hrl := hRb.lt
      have hgs := near_set (near_set (near_refl w1 (some (w.heap.size + 1 + 1))) 0 (.int .i64 0)) 1 (.slice none 0 0)
      have HBF := Lib.hid (hBb.trans (below_near hgs (by omega) hBb.size))
      clear hf3 r0 r1 hgs
      go_wp2_with fail
      exact bodyPost_ret (v := .tuple #[.agg #[.int .i64 0, .slice none 0 0], .bool false]) (by simp [results, Try.results8, go_sem, R0.out, R1.out]) rfl ⟨none, 0, by rw [ccW, ccV, EO.out]; rfl, by rw [ccV, EO.out]; exact World.ownsRow_nil _ _ _ _, HBF.out⟩
    case true =>
      obtain ⟨q0, q1⟩ := hEb.two
      have ql := hEb.lt
      go_wp2_with fail
      refine (IsValidNetwork_any V E ds d _ hYb (by omega)).mono ?_
      rintro e w2 ⟨rfl, b2⟩
      have hAc := hAb.below_ b2
      have hEc := hEb.below_ b2
      have hRc := hRb.below_ b2
      have kc := kb.below_ b2
      have oc := own_below ob b2 (Nat.le_refl _)
      have hBc := hBb.trans (b2.mono hBb.size)
      have hXc := (hXb.below b2).more b2.size
      have hYc := (hYb.below b2).more b2.size
      clear q0 q1 ql
      cases h2 : netOk V ds
      case false =>
        have EO : Hid (ccOk W V cs ds = false) := Lib.hid (by simp [ccOk, h2])
        have hf3 : Blk ((w2.setCell ⟨w.heap.size + 1 + 1, 0, none⟩ (.int .i64 0)).setCell ⟨w.heap.size + 1 + 1, 1, none⟩ (.slice none 0 0)) (w.heap.size + 1 + 1) 28 #[.int .i64 0, .slice none 0 0] := by
          simpa using (hRc.set_ 0 (.int .i64 0)).set_ 1 (.slice none 0 0)
        obtain ⟨r0, r1⟩ := hf3.two
        have R0 := Lib.hid r0; have R1 := Lib.hid r1
        obtain ⟨z0, z1⟩ := hRc.two
        have f0 := hRc.frozen 0
        have f1 := hRc.frozen 1
        have hrl := hRc.lt
        have hgs := near_set (near_set (near_refl w2 (some (w.heap.size + 1 + 1))) 0 (.int .i64 0)) 1 (.slice none 0 0)
        have HBF := Lib.hid (hBc.trans (below_near hgs (by omega) hBc.size))
        clear hf3 r0 r1 hgs
        go_wp2_with fail
        exact bodyPost_ret (v := .tuple #[.agg #[.int .i64 0, .slice none 0 0], .bool false]) (by simp [results, Try.results8, go_sem, R0.out, R1.out]) rfl ⟨none, 0, by rw [ccW, ccV, EO.out]; rfl, by rw [ccV, EO.out]; exact World.ownsRow_nil _ _ _ _, HBF.out⟩
      case true =>
        obtain ⟨q0, q1⟩ := hAc.two
        have ql := hAc.lt
        obtain ⟨s0, s1⟩ := hEc.two
        have sl := hEc.lt
        obtain ⟨t0, t1⟩ := kc.two
        have tl := kc.lt
        by_cases hWV : W = V
        case neg =>
          have hne : (W != V) = true := by simpa using hWV
          have EO : Hid (ccOk W V cs ds = false) := Lib.hid (by simp [ccOk, hWV])
          have hf3 : Blk ((w2.setCell ⟨w.heap.size + 1 + 1, 0, none⟩ (.int .i64 0)).setCell ⟨w.heap.size + 1 + 1, 1, none⟩ (.slice none 0 0)) (w.heap.size + 1 + 1) 28 #[.int .i64 0, .slice none 0 0] := by
            simpa using (hRc.set_ 0 (.int .i64 0)).set_ 1 (.slice none 0 0)
          obtain ⟨r0, r1⟩ := hf3.two
          have R0 := Lib.hid r0; have R1 := Lib.hid r1
          obtain ⟨z0, z1⟩ := hRc.two
          have f0 := hRc.frozen 0
          have f1 := hRc.frozen 1
          have hrl := hRc.lt
          have hgs := near_set (near_set (near_refl w2 (some (w.heap.size + 1 + 1))) 0 (.int .i64 0)) 1 (.slice none 0 0)
          have HBF := Lib.hid (hBc.trans (below_near hgs (by omega) hBc.size))
          clear hf3 r0 r1 hgs
          go_wp2_with fail
          exact bodyPost_ret (v := .tuple #[.agg #[.int .i64 0, .slice none 0 0], .bool false]) (by simp [results, Try.results8, go_sem, R0.out, R1.out]) rfl ⟨none, 0, by rw [ccW, ccV, EO.out]; rfl, by rw [ccV, EO.out]; exact World.ownsRow_nil _ _ _ _, HBF.out⟩
        case pos =>
          subst hWV
          have hne : (W != W) = false := by simp
          go_wp2_with fail
          have hls : cs.length + ds.length = (cs ++ ds).length := HLEN.out.symm
          have oc2 := oc
          rw [hls] at oc2
          have HV3 := Lib.hid (IsValidNetwork_any W Z (cs ++ ds) zc w2 (Reads.of_own oc2) (by rw [HLEN.out]; omega))
          rw [HLEN.out] at HV3
          clear hls oc2
          refine HV3.out.mono ?_
          rintro e w3 ⟨rfl, b3⟩
          have hAd := hAc.below_ b3
          have hEd := hEc.below_ b3
          have hRd := hRc.below_ b3
          have kd := kc.below_ b3
          have od := own_below oc b3 (Nat.le_refl _)
          have hBd := hBc.trans (b3.mono hBc.size)
          have hXd := (hXc.below b3).more b3.size
          have hYd := (hYc.below b3).more b3.size
          clear q0 q1 ql s0 s1 sl t0 t1 tl
          cases h3 : netOk W (cs ++ ds)
          case false =>
            have EO : Hid (ccOk W W cs ds = false) := Lib.hid (by simp [ccOk, h3])
            have hf3 : Blk ((w3.setCell ⟨w.heap.size + 1 + 1, 0, none⟩ (.int .i64 0)).setCell ⟨w.heap.size + 1 + 1, 1, none⟩ (.slice none 0 0)) (w.heap.size + 1 + 1) 28 #[.int .i64 0, .slice none 0 0] := by
              simpa using (hRd.set_ 0 (.int .i64 0)).set_ 1 (.slice none 0 0)
            obtain ⟨r0, r1⟩ := hf3.two
            have R0 := Lib.hid r0; have R1 := Lib.hid r1
            obtain ⟨z0, z1⟩ := hRd.two
            have f0 := hRd.frozen 0
            have f1 := hRd.frozen 1
            have hrl := hRd.lt
            have hgs := near_set (near_set (near_refl w3 (some (w.heap.size + 1 + 1))) 0 (.int .i64 0)) 1 (.slice none 0 0)
            have HBF := Lib.hid (hBd.trans (below_near hgs (by omega) hBd.size))
            clear hf3 r0 r1 hgs
            go_wp2_with fail
            exact bodyPost_ret (v := .tuple #[.agg #[.int .i64 0, .slice none 0 0], .bool false]) (by simp [results, Try.results8, go_sem, R0.out, R1.out]) rfl ⟨none, 0, by rw [ccW, ccV, EO.out]; rfl, by rw [ccV, EO.out]; exact World.ownsRow_nil _ _ _ _, HBF.out⟩
          case true =>
            have EO : Hid (ccOk W W cs ds = true) := Lib.hid (by simp [ccOk, h1, h2, h3])
            have hf3 : Blk ((w3.setCell ⟨w.heap.size + 1 + 1, 0, none⟩ (.int .i64 W)).setCell ⟨w.heap.size + 1 + 1, 1, none⟩ (.slice Z (cs.length + ds.length) zc)) (w.heap.size + 1 + 1) 28 #[.int .i64 W, .slice Z (cs.length + ds.length) zc] := by
              simpa using (hRd.set_ 0 (.int .i64 W)).set_ 1 (.slice Z (cs.length + ds.length) zc)
            obtain ⟨r0, r1⟩ := hf3.two
            have R0 := Lib.hid r0; have R1 := Lib.hid r1
            obtain ⟨z0, z1⟩ := hRd.two
            have f0 := hRd.frozen 0
            have f1 := hRd.frozen 1
            have hrl := hRd.lt
            obtain ⟨t0, t1⟩ := kd.two
            have tl := kd.lt
            have hgs := near_set (near_set (near_refl w3 (some (w.heap.size + 1 + 1))) 0 (.int .i64 W)) 1 (.slice Z (cs.length + ds.length) zc)
            have HOF := Lib.hid (own_kept od hgs (own_blk_ne od hRd (by decide)))
            have HBF := Lib.hid (hBd.trans (below_near hgs (by omega) hBd.size))
            clear hf3 r0 r1 hgs
            go_wp2_with fail
            exact bodyPost_ret (v := .tuple #[.agg #[.int .i64 W, .slice Z (cs.length + ds.length) zc], .bool true]) (by simp [results, Try.results8, go_sem, R0.out, R1.out]) rfl ⟨Z, zc, by rw [ccW, ccV, EO.out, if_pos rfl, if_pos rfl, HLEN.out], by rw [ccV, EO.out, if_pos rfl, HLEN.out]; exact HOF.out, HBF.out⟩
  case steps =>
    refine ⟨?s0, ?s1, ?s2, ?s3, ?s4, ?s5, ?s6, ?s7, ?s8, ?s9, ?s10, trivial⟩
    case s0 =>
      rintro L a wr ⟨hst, hsz, q2, q3, hF⟩ hL hdp K hK
      have ev := fun (d t : Nat) (v : Value) (hd : d < 36) => eval_put a d t v (by omega)
      obtain ⟨b, h1, h3, h4, h6, h7, h8, h10, f0, f1, f2, f3, f4, f5, f6, f7, f8, f9⟩ := hF
      have t2 := q2
      rw [eval_tmp, Array.getD_eq_getD_getElem?] at t2
      refine step_value (v := .pointer (some ⟨w.heap.size, 0, none⟩)) (w' := wr) rfl (by go_simp) ?_
      refine hK _ _ ⟨hst.put 7 _ (by decide), by simpa [Act.put] using hsz, (ev 7 2 _ (by decide)).trans q2, (ev 7 3 _ (by decide)).trans q3, ?_⟩
      simp only [ev 7 _ _ (by decide)]
      exact ⟨b, fun e => absurd ((h1 e).symm.trans hL) (by decide), h3, h4, h6, h7, h8, h10, fun _ => rfl, f1, f2, f3, f4, f5, f6, f7, f8, f9⟩
    case s1 =>
      rintro L a wr ⟨hst, hsz, q2, q3, hF⟩ hL hdp K hK
      have ev := fun (d t : Nat) (v : Value) (hd : d < 36) => eval_put a d t v (by omega)
      have d0 : L 0 = true := hdp ⟨0, .data⟩ (by simp) rfl
      obtain ⟨b, h1, h3, h4, h6, h7, h8, h10, f0, f1, f2, f3, f4, f5, f6, f7, f8, f9⟩ := hF
      have t7 := f0 d0
      rw [eval_tmp, Array.getD_eq_getD_getElem?] at t7
      obtain ⟨hcn0, hcn1⟩ := (hAq.below b hAq.lt).two
      refine step_value (v := .int .i64 W) (w' := wr) rfl (by go_simp) ?_
      refine hK _ _ ⟨hst.put 8 _ (by decide), by simpa [Act.put] using hsz, (ev 8 2 _ (by decide)).trans q2, (ev 8 3 _ (by decide)).trans q3, ?_⟩
      simp only [ev 8 _ _ (by decide)]
      exact ⟨b, fun _ => d0, h3, h4, h6, h7, fun e => absurd ((h8 e).1.symm.trans hL) (by decide), h10, f0, fun _ => rfl, f2, f3, f4, f5, f6, f7, f8, f9⟩
    case s2 =>
      rintro L a wr ⟨hst, hsz, q2, q3, hF⟩ hL hdp K hK
      have ev := fun (d t : Nat) (v : Value) (hd : d < 36) => eval_put a d t v (by omega)
      obtain ⟨b, h1, h3, h4, h6, h7, h8, h10, f0, f1, f2, f3, f4, f5, f6, f7, f8, f9⟩ := hF
      have t2 := q2
      rw [eval_tmp, Array.getD_eq_getD_getElem?] at t2
      refine step_value (v := .pointer (some ⟨w.heap.size, 1, none⟩)) (w' := wr) rfl (by go_simp) ?_
      refine hK _ _ ⟨hst.put 9 _ (by decide), by simpa [Act.put] using hsz, (ev 9 2 _ (by decide)).trans q2, (ev 9 3 _ (by decide)).trans q3, ?_⟩
      simp only [ev 9 _ _ (by decide)]
      exact ⟨b, h1, fun e => absurd ((h3 e).symm.trans hL) (by decide), h4, h6, h7, h8, h10, f0, f1, fun _ => rfl, f3, f4, f5, f6, f7, f8, f9⟩
    case s3 =>
      rintro L a wr ⟨hst, hsz, q2, q3, hF⟩ hL hdp K hK
      have ev := fun (d t : Nat) (v : Value) (hd : d < 36) => eval_put a d t v (by omega)
      have d2 : L 2 = true := hdp ⟨2, .data⟩ (by simp) rfl
      obtain ⟨b, h1, h3, h4, h6, h7, h8, h10, f0, f1, f2, f3, f4, f5, f6, f7, f8, f9⟩ := hF
      have t9 := f2 d2
      rw [eval_tmp, Array.getD_eq_getD_getElem?] at t9
      obtain ⟨hcn0, hcn1⟩ := (hAq.below b hAq.lt).two
      refine step_value (v := .slice A cs.length c) (w' := wr) rfl (by go_simp) ?_
      refine hK _ _ ⟨hst.put 10 _ (by decide), by simpa [Act.put] using hsz, (ev 10 2 _ (by decide)).trans q2, (ev 10 3 _ (by decide)).trans q3, ?_⟩
      simp only [ev 10 _ _ (by decide)]
      exact ⟨b, h1, fun _ => d2, fun e => absurd ((h4 e).symm.trans hL) (by decide), h6, h7, h8, h10, f0, f1, f2, fun _ => rfl, f4, f5, f6, f7, f8, f9⟩
    case s4 =>
      rintro L a wr ⟨hst, hsz, q2, q3, hF⟩ hL hdp K hK
      have ev := fun (d t : Nat) (v : Value) (hd : d < 36) => eval_put a d t v (by omega)
      have d3 : L 3 = true := hdp ⟨3, .data⟩ (by simp) rfl
      obtain ⟨b, h1, h3, h4, h6, h7, h8, h10, f0, f1, f2, f3, f4, f5, f6, f7, f8, f9⟩ := hF
      have t10 := f3 d3
      have t10 := f3 d3
      rw [eval_tmp, Array.getD_eq_getD_getElem?] at t10
      refine step_enter (f := 25) (args := #[.slice A cs.length c]) (w' := wr) rfl (by go_simp) ?_
      refine (copyCmps_any A cs c wr ((hxq.below b).more b.size) (by omega)).mono ?_
      rintro e w9 ⟨v9, rfl, o9, b9⟩
      refine ⟨_, rfl, ?_⟩
      refine hK _ _ ⟨hst.put 11 _ (by decide), by simpa [Act.put] using hsz, (ev 11 2 _ (by decide)).trans q2, (ev 11 3 _ (by decide)).trans q3, ?_⟩
      simp only [ev 11 _ _ (by decide)]
      exact ⟨b.trans (b9.mono b.size), h1, h3, fun _ => d3, h6, fun e => absurd ((h7 e).1.symm.trans hL) (by decide), h8, h10, f0, f1, f2, f3, fun _ _ => own_base o9 b.size, f5, f6, fun e => absurd ((h7 e).1.symm.trans hL) (by decide), f8, fun e => (f9 e).imp fun g h => ⟨h.1, h.2.1, fun e2 => (h.2.2.1 e2).below_ b9, fun e2 => (h.2.2.2 e2).below_ b9⟩⟩
    case s5 =>
      rintro L a wr ⟨hst, hsz, q2, q3, hF⟩ hL hdp K hK
      have ev := fun (d t : Nat) (v : Value) (hd : d < 36) => eval_put a d t v (by omega)
      obtain ⟨b, h1, h3, h4, h6, h7, h8, h10, f0, f1, f2, f3, f4, f5, f6, f7, f8, f9⟩ := hF
      have t3 := q3
      rw [eval_tmp, Array.getD_eq_getD_getElem?] at t3
      refine step_value (v := .pointer (some ⟨w.heap.size + 1, 1, none⟩)) (w' := wr) rfl (by go_simp) ?_
      refine hK _ _ ⟨hst.put 12 _ (by decide), by simpa [Act.put] using hsz, (ev 12 2 _ (by decide)).trans q2, (ev 12 3 _ (by decide)).trans q3, ?_⟩
      simp only [ev 12 _ _ (by decide)]
      exact ⟨b, h1, h3, h4, fun e => absurd ((h6 e).symm.trans hL) (by decide), h7, h8, h10, f0, f1, f2, f3, f4, fun _ => rfl, f6, f7, f8, f9⟩
    case s6 =>
      rintro L a wr ⟨hst, hsz, q2, q3, hF⟩ hL hdp K hK
      have ev := fun (d t : Nat) (v : Value) (hd : d < 36) => eval_put a d t v (by omega)
      have d5 : L 5 = true := hdp ⟨5, .data⟩ (by simp) rfl
      obtain ⟨b, h1, h3, h4, h6, h7, h8, h10, f0, f1, f2, f3, f4, f5, f6, f7, f8, f9⟩ := hF
      have t12 := f5 d5
      rw [eval_tmp, Array.getD_eq_getD_getElem?] at t12
      obtain ⟨hcn0, hcn1⟩ := (hBq.below b hBq.lt).two
      refine step_value (v := .slice E ds.length d) (w' := wr) rfl (by go_simp) ?_
      refine hK _ _ ⟨hst.put 13 _ (by decide), by simpa [Act.put] using hsz, (ev 13 2 _ (by decide)).trans q2, (ev 13 3 _ (by decide)).trans q3, ?_⟩
      simp only [ev 13 _ _ (by decide)]
      exact ⟨b, h1, h3, h4, fun _ => d5, fun e => absurd ((h7 e).2.symm.trans hL) (by decide), h8, h10, f0, f1, f2, f3, f4, f5, fun _ => rfl, f7, f8, f9⟩
    case s7 =>
      rintro L a wr ⟨hst, hsz, q2, q3, hF⟩ hL hdp K hK
      have ev := fun (d t : Nat) (v : Value) (hd : d < 36) => eval_put a d t v (by omega)
      have d4 : L 4 = true := hdp ⟨4, .data⟩ (by simp) rfl
      have d6 : L 6 = true := hdp ⟨6, .data⟩ (by simp) rfl
      obtain ⟨b, h1, h3, h4, h6, h7, h8, h10, f0, f1, f2, f3, f4, f5, f6, f7, f8, f9⟩ := hF
      have t13 := f6 d6
      have ho := f4 d4 hL
      refine step_append_any wr rfl (.tmp 11) (.tmp 13) 26 rfl wq.heap.size 54 i1 _ 2 16 Try.underlying26 hi'.out.1 hi'.out.2.1 hi'.out.2.2.1 hi'.out.2.2.2 rfl (by decide) (a.eval (.tmp 11)) cs.length _ rfl ho wr.heap.size E ds.length d (cmps ds) (f6 d6) ((hyq.below b).more b.size) (cmps_one _) (by unfold maxLen; omega) (by omega) b.size ?_
      intro v9 w9 o9 gr9 at9
      rw [← cmps_append] at o9
      refine hK _ _ ⟨hst.put 14 _ (by decide), by simpa [Act.put] using hsz, (ev 14 2 _ (by decide)).trans q2, (ev 14 3 _ (by decide)).trans q3, ?_⟩
      simp only [ev 14 _ _ (by decide)]
      exact ⟨b.grown gr9 b.size (fun q hq => (own_lt ho q hq).1), h1, h3, h4, h6, fun _ => ⟨d4, d6⟩, fun e => absurd ((h8 e).2.symm.trans hL) (by decide), h10, f0, f1, f2, f3, fun _ e => absurd ((upd_self L 7).symm.trans e) (by decide), f5, f6, fun _ => o9, fun e => absurd ((h8 e).2.symm.trans hL) (by decide), fun e => (f9 e).imp fun g h => ⟨h.1, h.2.1, fun e2 => (h.2.2.1 e2).grown gr9 (fun e3 => own_blk_ne ho (h.2.2.1 e2) (by decide) e3.symm), fun e2 => absurd ((h8 (h10 e2).2).2.symm.trans hL) (by decide)⟩⟩
    case s8 =>
      rintro L a wr ⟨hst, hsz, q2, q3, hF⟩ hL hdp K hK
      have ev := fun (d t : Nat) (v : Value) (hd : d < 36) => eval_put a d t v (by omega)
      have d1 : L 1 = true := hdp ⟨1, .data⟩ (by simp) rfl
      have d7 : L 7 = true := hdp ⟨7, .data⟩ (by simp) rfl
      obtain ⟨b, h1, h3, h4, h6, h7, h8, h10, f0, f1, f2, f3, f4, f5, f6, f7, f8, f9⟩ := hF
      have t8 := f1 d1
      have t8 := f1 d1
      obtain ⟨Z, zc, eZ⟩ := own_slice (f7 d7)
      have t14 := eZ
      rw [eval_tmp, Array.getD_eq_getD_getElem?] at t8 t14
      refine step_value (v := .agg #[.int .i64 W, .slice Z (cs.length + ds.length) zc]) (w' := wr) rfl (by go_simp) ?_
      refine hK _ _ ⟨hst.put 15 _ (by decide), by simpa [Act.put] using hsz, (ev 15 2 _ (by decide)).trans q2, (ev 15 3 _ (by decide)).trans q3, ?_⟩
      simp only [ev 15 _ _ (by decide)]
      exact ⟨b, h1, h3, h4, h6, h7, fun _ => ⟨d1, d7⟩, fun e => absurd ((h10 e).2.symm.trans hL) (by decide), f0, f1, f2, f3, f4, f5, f6, f7, fun _ => by show _ = Value.agg #[.int .i64 W, a.eval (.tmp 14)]; rw [eZ]; rfl, f9⟩
    case s9 =>
      rintro L a wr ⟨hst, hsz, q2, q3, hF⟩ hL hdp K hK
      have ev := fun (d t : Nat) (v : Value) (hd : d < 36) => eval_put a d t v (by omega)
      obtain ⟨b, h1, h3, h4, h6, h7, h8, h10, f0, f1, f2, f3, f4, f5, f6, f7, f8, f9⟩ := hF
      refine step_value (v := .pointer (some ⟨wr.heap.size, 0, none⟩)) (w' := wr.alloc (.cells #[.int .i64 0, .slice none 0 0] 28)) rfl (by go_simp) ?_
      refine hK _ _ ⟨hst.put 6 _ (by decide), by simpa [Act.put] using hsz, (ev 6 2 _ (by decide)).trans q2, (ev 6 3 _ (by decide)).trans q3, ?_⟩
      simp only [ev 6 _ _ (by decide)]
      exact ⟨alloc_ b _, h1, h3, h4, h6, h7, h8, fun e => absurd ((h10 e).1.symm.trans hL) (by decide), f0, f1, f2, f3, fun e e2 => (f4 e e2).alloc _, f5, f6, fun e => (f7 e).alloc _, f8, fun _ => ⟨wr.heap.size, rfl, b.size, fun _ => Blk.new _ _ _, fun e2 => absurd ((h10 e2).1.symm.trans hL) (by decide)⟩⟩
    case s10 =>
      rintro L a wr ⟨hst, hsz, q2, q3, hF⟩ hL hdp K hK
      have ev := fun (d t : Nat) (v : Value) (hd : d < 36) => eval_put a d t v (by omega)
      have d9 : L 9 = true := hdp ⟨9, .data⟩ (by simp) rfl
      have d8 : L 8 = true := hdp ⟨8, .data⟩ (by simp) rfl
      obtain ⟨b, h1, h3, h4, h6, h7, h8, h10, f0, f1, f2, f3, f4, f5, f6, f7, f8, f9⟩ := hF
      obtain ⟨g9, e9, hg9, hz9, -⟩ := f9 d9
      have e8 := f8 d8
      have dap := (h8 d8).2
      obtain ⟨Z, zc, eZ⟩ := own_slice (f7 dap)
      rw [eZ] at e8
      have t6 := e9
      have t15 := e8
      rw [eval_tmp, Array.getD_eq_getD_getElem?] at t6 t15
      have hkb := hz9 hL
      have hfz0 := hkb.frozen 0
      have hfz1 := hkb.frozen 1
      obtain ⟨hcl0, hcl1⟩ := hkb.two
      have hlt := hkb.lt
      refine step_skip (w' := (wr.setCell ⟨g9, 0, none⟩ (.int .i64 W)).setCell ⟨g9, 1, none⟩ (.slice Z (cs.length + ds.length) zc)) rfl (by go_simp) ?_
      refine hK _ _ ⟨hst.put_none _, hsz, q2, q3, ?_⟩
      exact ⟨Below.setCell (Below.setCell b hg9 _) hg9 _, h1, h3, h4, h6, h7, h8, fun _ => ⟨d9, d8⟩, f0, f1, f2, f3, fun e e2 => absurd (dap.symm.trans e2) (by decide), f5, f6, fun e => own_setCell (own_setCell (f7 e) (own_blk_ne (f7 e) hkb (by decide)) _) (own_blk_ne (f7 e) hkb (by decide)) _, f8, fun _ => ⟨g9, e9, hg9, fun e => absurd ((upd_self L 10).symm.trans e) (by decide), fun _ => by show Blk _ g9 _ #[.int .i64 W, a.eval (.tmp 14)]; rw [eZ]; simpa using (hkb.set_ 0 (.int .i64 W)).set_ 1 (.slice Z (cs.length + ds.length) zc)⟩⟩
def CatS (wq : World) (gA gB n m c d : Nat) (W : Int) (A E : Option Addr) (cs ds : List (Int × Int)) (L : Nat → Bool) (wr : World) (v0 v1 v2 v3 v4 v5 v6 v7 v8 v9 v10 : Value) : Prop :=
  (Below wq.heap.size wq wr) ∧
  (L 1 = true → L 0 = true) ∧
  (L 4 = true → L 3 = true) ∧
  (L 5 = true → L 2 = true ∧ L 4 = true) ∧
  (L 7 = true → L 6 = true) ∧
  (L 8 = true → L 5 = true ∧ L 7 = true) ∧
  (L 9 = true → L 1 = true ∧ L 8 = true) ∧
  (L 11 = true → L 10 = true ∧ L 9 = true) ∧
  (L 0 = true → v0 = .pointer (some ⟨gA, 0, none⟩)) ∧
  (L 1 = true → v1 = .int .i64 W) ∧
  (L 2 = true → L 5 = false → ∃ g, v2 = .slice (some ⟨g, 0, none⟩) 0 0 ∧ wr.ownsRow wq.heap.size 54 2 v2 0 []) ∧
  (L 3 = true → v3 = .pointer (some ⟨gA, 1, none⟩)) ∧
  (L 4 = true → v4 = .slice A n c) ∧
  (L 5 = true → L 8 = false → wr.ownsRow wq.heap.size 54 2 v5 n (cmps cs)) ∧
  (L 6 = true → v6 = .pointer (some ⟨gB, 1, none⟩)) ∧
  (L 7 = true → v7 = .slice E m d) ∧
  (L 8 = true → wr.ownsRow wq.heap.size 54 2 v8 (n + m) (cmps (cs ++ ds))) ∧
  (L 9 = true → v9 = .agg #[.int .i64 W, v8]) ∧
  (L 10 = true → ∃ g, v10 = .pointer (some ⟨g, 0, none⟩) ∧ wq.heap.size ≤ g ∧ (L 11 = false → Blk wr g 28 #[.int .i64 0, .slice none 0 0]) ∧ (L 11 = true → Blk wr g 28 #[.int .i64 W, v8]))
set_option maxRecDepth 100000 in
set_option maxHeartbeats 6400000 in
theorem sConcatNetworks_any (W : Int) (A : Option Addr) (cs : List (Int × Int)) (c : Nat) (V : Int) (E : Option Addr) (ds : List (Int × Int)) (d : Nat) (w : World) (hx : Reads w w.heap.size 2 A cs.length (cmps cs)) (hl : cs.length ≤ 1048576)
    (hy : Reads w w.heap.size 2 E ds.length (cmps ds)) (hl' : ds.length ≤ 1048576) :
    Calls Try.prog 6 #[.agg #[.int .i64 W, .slice A cs.length c], .agg #[.int .i64 V, .slice E ds.length d]] w fun e w' => ∃ G g, e = .returned (.tuple #[.agg #[.int .i64 (ccW W V cs ds), .slice G (ccV W V cs ds).length g], .bool (ccOk W V cs ds)]) ∧
      w'.ownsRow w.heap.size 54 2 (.slice G (ccV W V cs ds).length g) (ccV W V cs ds).length (cmps (ccV W V cs ds)) ∧ Below w.heap.size w w' := by
  obtain ⟨i1, hj, hy0, hy1, hy2⟩ := info_parts info_cmp
  have hi' := Lib.hid (And.intro hj (And.intro hy0 (And.intro hy1 hy2)))
  have hA0 := ((Blk.new w 28 #[.int .i64 W, .slice A cs.length c]).alloc (.cells #[.int .i64 V, .slice E ds.length d] 28)).alloc (.cells #[.int .i64 0, .slice none 0 0] 28)
  have hE0 := (blk_new_at (w := w.alloc (.cells #[.int .i64 W, .slice A cs.length c] 28)) (g := w.heap.size + 1) (t := 28) (cs := #[.int .i64 V, .slice E ds.length d]) (by simp)).alloc (.cells #[.int .i64 0, .slice none 0 0] 28)
  have hR0 := blk_new_at (w := (w.alloc (.cells #[.int .i64 W, .slice A cs.length c] 28)).alloc (.cells #[.int .i64 V, .slice E ds.length d] 28)) (g := w.heap.size + 1 + 1) (t := 28) (cs := #[.int .i64 0, .slice none 0 0]) (by simp)
  have hB0 := alloc_ (alloc_ (alloc_ (Below.refl w.heap.size w) (.cells #[.int .i64 W, .slice A cs.length c] 28)) (.cells #[.int .i64 V, .slice E ds.length d] 28)) (.cells #[.int .i64 0, .slice none 0 0] 28)
  go_enter Try.func6, Try.ntmps6
  go_upto_region 1 with fail
  obtain ⟨wq, hwq⟩ : ∃ wq, (((w.alloc (.cells #[.int .i64 W, .slice A cs.length c] 28)).alloc (.cells #[.int .i64 V, .slice E ds.length d] 28)).alloc (.cells #[.int .i64 0, .slice none 0 0] 28)).drew = wq := ⟨_, rfl⟩
  have hAq : Blk wq w.heap.size 28 #[.int .i64 W, .slice A cs.length c] := by rw [← hwq]; exact hA0
  have hBq : Blk wq (w.heap.size + 1) 28 #[.int .i64 V, .slice E ds.length d] := by rw [← hwq]; exact hE0
  have hRq : Blk wq (w.heap.size + 1 + 1) 28 #[.int .i64 0, .slice none 0 0] := by rw [← hwq]; exact hR0
  have hWq : Below w.heap.size w wq := by rw [← hwq]; exact bdrew hB0
  have hsq := hWq.size
  have hxq := (hx.below hWq).more hWq.size
  have hyq := (hy.below hWq).more hWq.size
  clear hA0 hE0 hR0 hB0
  refine wp_region_inv' (fun a0 L a wr => St a0 a [7, 8, 9, 10, 11, 12, 13, 14, 15, 16, 6] ∧ 36 < a.tmps.size ∧ a.eval (.tmp 2) = .pointer (some ⟨w.heap.size, 0, none⟩) ∧ a.eval (.tmp 3) = .pointer (some ⟨w.heap.size + 1, 0, none⟩) ∧ CatS wq w.heap.size (w.heap.size + 1) cs.length ds.length c d W A E cs ds L wr (a.eval (.tmp 7)) (a.eval (.tmp 8)) (a.eval (.tmp 9)) (a.eval (.tmp 10)) (a.eval (.tmp 11)) (a.eval (.tmp 12)) (a.eval (.tmp 13)) (a.eval (.tmp 14)) (a.eval (.tmp 15)) (a.eval (.tmp 16)) (a.eval (.tmp 6))) (by kernel_rfl) (by kernel_rfl) ?start ?steps ?ends
  case start =>
    subst hwq
    refine ⟨St.refl _ _, Nat.le_of_ble_eq_true rfl, rfl, rfl, Below.refl _ _, ?_, ?_, ?_, ?_, ?_, ?_, ?_, ?_, ?_, ?_, ?_, ?_, ?_, ?_, ?_, ?_, ?_, ?_⟩
    all_goals (intro e; first | (cases e; done) | rfl | assumption)
  case ends =>
    rintro L a wr ⟨hst, hsz, q2, q3, b, h1, h4, h5, h7, h8, h9, h11, f0, f1, f2, f3, f4, f5, f6, f7, f8, f9, f10⟩ hall
    have o9 := f8 (hall 8 (by decide))
    obtain ⟨g6, e6, hg6, -, hk6⟩ := f10 (hall 10 (by decide))
    have k6 := hk6 (hall 11 (by decide))
    obtain ⟨Z, zc, eZ⟩ := own_slice o9
    rw [eZ] at o9 k6
    clear eZ hk6
    have hAr := hAq.below b hAq.lt
    have hEr := hBq.below b hBq.lt
    have hRr := hRq.below b hRq.lt
    have hBr := hWq.trans (b.mono hWq.size)
    have hx2 := (hxq.below b).more b.size
    have hy2' := (hyq.below b).more b.size
    have oZ := own_base o9 hWq.size
    have hlen : (cs ++ ds).length = cs.length + ds.length := by simp
    have heq := hst.eq
    simp only [List.foldl_cons, List.foldl_nil] at heq
    rw [e6] at heq
    clear hst hall hsz q2 q3 h1 h4 h5 h7 h8 h9 h11 f0 f1 f2 f3 f4 f5 f6 f7 f8 f9 f10 e6 o9 b
    generalize a.eval (.tmp 7) = u7 at *
    generalize a.eval (.tmp 8) = u8 at *
    generalize a.eval (.tmp 9) = u9 at *
    generalize a.eval (.tmp 10) = u10 at *
    generalize a.eval (.tmp 11) = u11 at *
    generalize a.eval (.tmp 12) = u12 at *
    generalize a.eval (.tmp 13) = u13 at *
    generalize a.eval (.tmp 14) = u14 at *
    generalize a.eval (.tmp 15) = u15 at *
    generalize a.eval (.tmp 16) = u16 at *
    simp only [Act.put, List.setIfInBounds_toArray, List.set_cons_zero, List.set_cons_succ] at heq
    subst heq
    have hrA : w.heap.size ≠ g6 := by have := hAq.lt; omega
    have HLEN := Lib.hid hlen
    have hRO := Lib.hid (⟨hRr, k6, oZ, hx2, hy2'⟩ : _ ∧ _ ∧ _ ∧ _ ∧ _)
    clear hlen
    have hAa := hAr; have hEa := hEr; have hRa := hRr; have ka := k6; have oa := oZ; have hBa := hBr; have hXa := hx2; have hYa := hy2'
    clear hAr hEr hRr k6 oZ hBr hx2 hy2' hRO
    obtain ⟨q0, q1⟩ := hAa.two
    have ql := hAa.lt
    go_wp2_with fail
    refine (l12Good_any W A cs c _ hXa (by omega)).mono ?_
    rintro e w1 ⟨rfl, b1⟩
    have hAb := hAa.below_ b1
    have hEb := hEa.below_ b1
    have hRb := hRa.below_ b1
    have kb := ka.below_ b1
    have ob := own_below oa b1 (Nat.le_refl _)
    have hBb := hBa.trans (b1.mono hBa.size)
    have hXb := (hXa.below b1).more b1.size
    have hYb := (hYa.below b1).more b1.size
    clear q0 q1 ql
    cases h1 : netOk W cs
    case false =>
      have EO : Hid (ccOk W V cs ds = false) := Lib.hid (by simp [ccOk, h1])
      have hf3 : Blk ((w1.setCell ⟨w.heap.size + 1 + 1, 0, none⟩ (.int .i64 0)).setCell ⟨w.heap.size + 1 + 1, 1, none⟩ (.slice none 0 0)) (w.heap.size + 1 + 1) 28 #[.int .i64 0, .slice none 0 0] := by
        simpa using (hRb.set_ 0 (.int .i64 0)).set_ 1 (.slice none 0 0)
      obtain ⟨r0, r1⟩ := hf3.two
      have R0 := Lib.hid r0; have R1 := Lib.hid r1
      obtain ⟨z0, z1⟩ := hRb.two
      have f0 := hRb.frozen 0
      have f1 := hRb.frozen 1
      have hrl := hRb.lt
      have hgs := near_set (near_set (near_refl w1 (some (w.heap.size + 1 + 1))) 0 (.int .i64 0)) 1 (.slice none 0 0)
      have HBF := Lib.hid (hBb.trans (below_near hgs (by omega) hBb.size))
      clear hf3 r0 r1 hgs
      go_wp2_with fail
      exact bodyPost_ret (v := .tuple #[.agg #[.int .i64 0, .slice none 0 0], .bool false]) (by simp [results, Try.results6, go_sem, R0.out, R1.out]) rfl ⟨none, 0, by rw [ccW, ccV, EO.out]; rfl, by rw [ccV, EO.out]; exact World.ownsRow_nil _ _ _ _, HBF.out⟩
    case true =>
      obtain ⟨q0, q1⟩ := hEb.two
      have ql := hEb.lt
      go_wp2_with fail
      refine (l12Good_any V E ds d _ hYb (by omega)).mono ?_
      rintro e w2 ⟨rfl, b2⟩
      have hAc := hAb.below_ b2
      have hEc := hEb.below_ b2
      have hRc := hRb.below_ b2
      have kc := kb.below_ b2
      have oc := own_below ob b2 (Nat.le_refl _)
      have hBc := hBb.trans (b2.mono hBb.size)
      have hXc := (hXb.below b2).more b2.size
      have hYc := (hYb.below b2).more b2.size
      clear q0 q1 ql
      cases h2 : netOk V ds
      case false =>
        have EO : Hid (ccOk W V cs ds = false) := Lib.hid (by simp [ccOk, h2])
        have hf3 : Blk ((w2.setCell ⟨w.heap.size + 1 + 1, 0, none⟩ (.int .i64 0)).setCell ⟨w.heap.size + 1 + 1, 1, none⟩ (.slice none 0 0)) (w.heap.size + 1 + 1) 28 #[.int .i64 0, .slice none 0 0] := by
          simpa using (hRc.set_ 0 (.int .i64 0)).set_ 1 (.slice none 0 0)
        obtain ⟨r0, r1⟩ := hf3.two
        have R0 := Lib.hid r0; have R1 := Lib.hid r1
        obtain ⟨z0, z1⟩ := hRc.two
        have f0 := hRc.frozen 0
        have f1 := hRc.frozen 1
        have hrl := hRc.lt
        have hgs := near_set (near_set (near_refl w2 (some (w.heap.size + 1 + 1))) 0 (.int .i64 0)) 1 (.slice none 0 0)
        have HBF := Lib.hid (hBc.trans (below_near hgs (by omega) hBc.size))
        clear hf3 r0 r1 hgs
        go_wp2_with fail
        exact bodyPost_ret (v := .tuple #[.agg #[.int .i64 0, .slice none 0 0], .bool false]) (by simp [results, Try.results6, go_sem, R0.out, R1.out]) rfl ⟨none, 0, by rw [ccW, ccV, EO.out]; rfl, by rw [ccV, EO.out]; exact World.ownsRow_nil _ _ _ _, HBF.out⟩
      case true =>
        obtain ⟨q0, q1⟩ := hAc.two
        have ql := hAc.lt
        obtain ⟨s0, s1⟩ := hEc.two
        have sl := hEc.lt
        obtain ⟨t0, t1⟩ := kc.two
        have tl := kc.lt
        by_cases hWV : W = V
        case neg =>
          have hne : (W != V) = true := by simpa using hWV
          have EO : Hid (ccOk W V cs ds = false) := Lib.hid (by simp [ccOk, hWV])
          have hf3 : Blk ((w2.setCell ⟨w.heap.size + 1 + 1, 0, none⟩ (.int .i64 0)).setCell ⟨w.heap.size + 1 + 1, 1, none⟩ (.slice none 0 0)) (w.heap.size + 1 + 1) 28 #[.int .i64 0, .slice none 0 0] := by
            simpa using (hRc.set_ 0 (.int .i64 0)).set_ 1 (.slice none 0 0)
          obtain ⟨r0, r1⟩ := hf3.two
          have R0 := Lib.hid r0; have R1 := Lib.hid r1
          obtain ⟨z0, z1⟩ := hRc.two
          have f0 := hRc.frozen 0
          have f1 := hRc.frozen 1
          have hrl := hRc.lt
          have hgs := near_set (near_set (near_refl w2 (some (w.heap.size + 1 + 1))) 0 (.int .i64 0)) 1 (.slice none 0 0)
          have HBF := Lib.hid (hBc.trans (below_near hgs (by omega) hBc.size))
          clear hf3 r0 r1 hgs
          go_wp2_with fail
          exact bodyPost_ret (v := .tuple #[.agg #[.int .i64 0, .slice none 0 0], .bool false]) (by simp [results, Try.results6, go_sem, R0.out, R1.out]) rfl ⟨none, 0, by rw [ccW, ccV, EO.out]; rfl, by rw [ccV, EO.out]; exact World.ownsRow_nil _ _ _ _, HBF.out⟩
        case pos =>
          subst hWV
          have hne : (W != W) = false := by simp
          go_wp2_with fail
          have hls : cs.length + ds.length = (cs ++ ds).length := HLEN.out.symm
          have oc2 := oc
          rw [hls] at oc2
          have HV3 := Lib.hid (l12Good_any W Z (cs ++ ds) zc w2 (Reads.of_own oc2) (by rw [HLEN.out]; omega))
          rw [HLEN.out] at HV3
          clear hls oc2
          refine HV3.out.mono ?_
          rintro e w3 ⟨rfl, b3⟩
          have hAd := hAc.below_ b3
          have hEd := hEc.below_ b3
          have hRd := hRc.below_ b3
          have kd := kc.below_ b3
          have od := own_below oc b3 (Nat.le_refl _)
          have hBd := hBc.trans (b3.mono hBc.size)
          have hXd := (hXc.below b3).more b3.size
          have hYd := (hYc.below b3).more b3.size
          clear q0 q1 ql s0 s1 sl t0 t1 tl
          cases h3 : netOk W (cs ++ ds)
          case false =>
            have EO : Hid (ccOk W W cs ds = false) := Lib.hid (by simp [ccOk, h3])
            have hf3 : Blk ((w3.setCell ⟨w.heap.size + 1 + 1, 0, none⟩ (.int .i64 0)).setCell ⟨w.heap.size + 1 + 1, 1, none⟩ (.slice none 0 0)) (w.heap.size + 1 + 1) 28 #[.int .i64 0, .slice none 0 0] := by
              simpa using (hRd.set_ 0 (.int .i64 0)).set_ 1 (.slice none 0 0)
            obtain ⟨r0, r1⟩ := hf3.two
            have R0 := Lib.hid r0; have R1 := Lib.hid r1
            obtain ⟨z0, z1⟩ := hRd.two
            have f0 := hRd.frozen 0
            have f1 := hRd.frozen 1
            have hrl := hRd.lt
            have hgs := near_set (near_set (near_refl w3 (some (w.heap.size + 1 + 1))) 0 (.int .i64 0)) 1 (.slice none 0 0)
            have HBF := Lib.hid (hBd.trans (below_near hgs (by omega) hBd.size))
            clear hf3 r0 r1 hgs
            go_wp2_with fail
            exact bodyPost_ret (v := .tuple #[.agg #[.int .i64 0, .slice none 0 0], .bool false]) (by simp [results, Try.results6, go_sem, R0.out, R1.out]) rfl ⟨none, 0, by rw [ccW, ccV, EO.out]; rfl, by rw [ccV, EO.out]; exact World.ownsRow_nil _ _ _ _, HBF.out⟩
          case true =>
            have EO : Hid (ccOk W W cs ds = true) := Lib.hid (by simp [ccOk, h1, h2, h3])
            have hf3 : Blk ((w3.setCell ⟨w.heap.size + 1 + 1, 0, none⟩ (.int .i64 W)).setCell ⟨w.heap.size + 1 + 1, 1, none⟩ (.slice Z (cs.length + ds.length) zc)) (w.heap.size + 1 + 1) 28 #[.int .i64 W, .slice Z (cs.length + ds.length) zc] := by
              simpa using (hRd.set_ 0 (.int .i64 W)).set_ 1 (.slice Z (cs.length + ds.length) zc)
            obtain ⟨r0, r1⟩ := hf3.two
            have R0 := Lib.hid r0; have R1 := Lib.hid r1
            obtain ⟨z0, z1⟩ := hRd.two
            have f0 := hRd.frozen 0
            have f1 := hRd.frozen 1
            have hrl := hRd.lt
            obtain ⟨t0, t1⟩ := kd.two
            have tl := kd.lt
            have hgs := near_set (near_set (near_refl w3 (some (w.heap.size + 1 + 1))) 0 (.int .i64 W)) 1 (.slice Z (cs.length + ds.length) zc)
            have HOF := Lib.hid (own_kept od hgs (own_blk_ne od hRd (by decide)))
            have HBF := Lib.hid (hBd.trans (below_near hgs (by omega) hBd.size))
            clear hf3 r0 r1 hgs
            go_wp2_with fail
            exact bodyPost_ret (v := .tuple #[.agg #[.int .i64 W, .slice Z (cs.length + ds.length) zc], .bool true]) (by simp [results, Try.results6, go_sem, R0.out, R1.out]) rfl ⟨Z, zc, by rw [ccW, ccV, EO.out, if_pos rfl, if_pos rfl, HLEN.out], by rw [ccV, EO.out, if_pos rfl, HLEN.out]; exact HOF.out, HBF.out⟩
  case steps =>
    refine ⟨?s0, ?s1, ?s2, ?s3, ?s4, ?s5, ?s6, ?s7, ?s8, ?s9, ?s10, ?s11, trivial⟩
    case s0 =>
      rintro L a wr ⟨hst, hsz, q2, q3, hF⟩ hL hdp K hK
      have ev := fun (d t : Nat) (v : Value) (hd : d < 37) => eval_put a d t v (by omega)
      obtain ⟨b, h1, h4, h5, h7, h8, h9, h11, f0, f1, f2, f3, f4, f5, f6, f7, f8, f9, f10⟩ := hF
      have t2 := q2
      rw [eval_tmp, Array.getD_eq_getD_getElem?] at t2
      refine step_value (v := .pointer (some ⟨w.heap.size, 0, none⟩)) (w' := wr) rfl (by go_simp) ?_
      refine hK _ _ ⟨hst.put 7 _ (by decide), by simpa [Act.put] using hsz, (ev 7 2 _ (by decide)).trans q2, (ev 7 3 _ (by decide)).trans q3, ?_⟩
      simp only [ev 7 _ _ (by decide)]
      exact ⟨b, fun e => absurd ((h1 e).symm.trans hL) (by decide), h4, h5, h7, h8, h9, h11, fun _ => rfl, f1, f2, f3, f4, f5, f6, f7, f8, f9, f10⟩
    case s1 =>
      rintro L a wr ⟨hst, hsz, q2, q3, hF⟩ hL hdp K hK
      have ev := fun (d t : Nat) (v : Value) (hd : d < 37) => eval_put a d t v (by omega)
      have d0 : L 0 = true := hdp ⟨0, .data⟩ (by simp) rfl
      obtain ⟨b, h1, h4, h5, h7, h8, h9, h11, f0, f1, f2, f3, f4, f5, f6, f7, f8, f9, f10⟩ := hF
      have t7 := f0 d0
      rw [eval_tmp, Array.getD_eq_getD_getElem?] at t7
      obtain ⟨hcn0, hcn1⟩ := (hAq.below b hAq.lt).two
      refine step_value (v := .int .i64 W) (w' := wr) rfl (by go_simp) ?_
      refine hK _ _ ⟨hst.put 8 _ (by decide), by simpa [Act.put] using hsz, (ev 8 2 _ (by decide)).trans q2, (ev 8 3 _ (by decide)).trans q3, ?_⟩
      simp only [ev 8 _ _ (by decide)]
      exact ⟨b, fun _ => d0, h4, h5, h7, h8, fun e => absurd ((h9 e).1.symm.trans hL) (by decide), h11, f0, fun _ => rfl, f2, f3, f4, f5, f6, f7, f8, f9, f10⟩
    case s2 =>
      rintro L a wr ⟨hst, hsz, q2, q3, hF⟩ hL hdp K hK
      have ev := fun (d t : Nat) (v : Value) (hd : d < 37) => eval_put a d t v (by omega)
      obtain ⟨b, h1, h4, h5, h7, h8, h9, h11, f0, f1, f2, f3, f4, f5, f6, f7, f8, f9, f10⟩ := hF
      refine step_value (v := .slice (some ⟨wr.heap.size, 0, none⟩) 0 0) (w' := wr.alloc (.cells #[] 54)) rfl (by go_simp) ?_
      refine hK _ _ ⟨hst.put 9 _ (by decide), by simpa [Act.put] using hsz, (ev 9 2 _ (by decide)).trans q2, (ev 9 3 _ (by decide)).trans q3, ?_⟩
      simp only [ev 9 _ _ (by decide)]
      exact ⟨alloc_ b _, h1, h4, fun e => absurd ((h5 e).1.symm.trans hL) (by decide), h7, h8, h9, h11, f0, f1, fun _ _ => ⟨_, rfl, made_at b.size rfl⟩, f3, f4, fun e => absurd ((h5 e).1.symm.trans hL) (by decide), f6, f7, fun e => absurd ((h5 (h8 e).1).1.symm.trans hL) (by decide), f9, fun e => (f10 e).imp fun g h => ⟨h.1, h.2.1, fun e2 => (h.2.2.1 e2).alloc _, fun e2 => (h.2.2.2 e2).alloc _⟩⟩
    case s3 =>
      rintro L a wr ⟨hst, hsz, q2, q3, hF⟩ hL hdp K hK
      have ev := fun (d t : Nat) (v : Value) (hd : d < 37) => eval_put a d t v (by omega)
      obtain ⟨b, h1, h4, h5, h7, h8, h9, h11, f0, f1, f2, f3, f4, f5, f6, f7, f8, f9, f10⟩ := hF
      have t2 := q2
      rw [eval_tmp, Array.getD_eq_getD_getElem?] at t2
      refine step_value (v := .pointer (some ⟨w.heap.size, 1, none⟩)) (w' := wr) rfl (by go_simp) ?_
      refine hK _ _ ⟨hst.put 10 _ (by decide), by simpa [Act.put] using hsz, (ev 10 2 _ (by decide)).trans q2, (ev 10 3 _ (by decide)).trans q3, ?_⟩
      simp only [ev 10 _ _ (by decide)]
      exact ⟨b, h1, fun e => absurd ((h4 e).symm.trans hL) (by decide), h5, h7, h8, h9, h11, f0, f1, f2, fun _ => rfl, f4, f5, f6, f7, f8, f9, f10⟩
    case s4 =>
      rintro L a wr ⟨hst, hsz, q2, q3, hF⟩ hL hdp K hK
      have ev := fun (d t : Nat) (v : Value) (hd : d < 37) => eval_put a d t v (by omega)
      have d3 : L 3 = true := hdp ⟨3, .data⟩ (by simp) rfl
      obtain ⟨b, h1, h4, h5, h7, h8, h9, h11, f0, f1, f2, f3, f4, f5, f6, f7, f8, f9, f10⟩ := hF
      have t10 := f3 d3
      rw [eval_tmp, Array.getD_eq_getD_getElem?] at t10
      obtain ⟨hcn0, hcn1⟩ := (hAq.below b hAq.lt).two
      refine step_value (v := .slice A cs.length c) (w' := wr) rfl (by go_simp) ?_
      refine hK _ _ ⟨hst.put 11 _ (by decide), by simpa [Act.put] using hsz, (ev 11 2 _ (by decide)).trans q2, (ev 11 3 _ (by decide)).trans q3, ?_⟩
      simp only [ev 11 _ _ (by decide)]
      exact ⟨b, h1, fun _ => d3, fun e => absurd ((h5 e).2.symm.trans hL) (by decide), h7, h8, h9, h11, f0, f1, f2, f3, fun _ => rfl, f5, f6, f7, f8, f9, f10⟩
    case s5 =>
      rintro L a wr ⟨hst, hsz, q2, q3, hF⟩ hL hdp K hK
      have ev := fun (d t : Nat) (v : Value) (hd : d < 37) => eval_put a d t v (by omega)
      have d2 : L 2 = true := hdp ⟨2, .data⟩ (by simp) rfl
      have d4 : L 4 = true := hdp ⟨4, .data⟩ (by simp) rfl
      obtain ⟨b, h1, h4, h5, h7, h8, h9, h11, f0, f1, f2, f3, f4, f5, f6, f7, f8, f9, f10⟩ := hF
      have t11 := f4 d4
      obtain ⟨g0, e0, ho⟩ := f2 d2 hL
      refine step_append_any wr rfl (.tmp 9) (.tmp 11) 26 rfl wq.heap.size 54 i1 _ 2 16 Try.underlying26 hi'.out.1 hi'.out.2.1 hi'.out.2.2.1 hi'.out.2.2.2 rfl (by decide) (a.eval (.tmp 9)) 0 [] rfl ho wr.heap.size A cs.length c (cmps cs) (f4 d4) ((hxq.below b).more b.size) (cmps_one _) (by unfold maxLen; omega) (by omega) b.size ?_
      intro v9 w9 o9 gr9 at9
      rw [Nat.zero_add, List.nil_append] at o9
      refine hK _ _ ⟨hst.put 12 _ (by decide), by simpa [Act.put] using hsz, (ev 12 2 _ (by decide)).trans q2, (ev 12 3 _ (by decide)).trans q3, ?_⟩
      simp only [ev 12 _ _ (by decide)]
      exact ⟨b.grown gr9 b.size (fun q hq => (own_lt ho q hq).1), h1, h4, fun _ => ⟨d2, d4⟩, h7, fun e => absurd ((h8 e).1.symm.trans hL) (by decide), h9, h11, f0, f1, fun _ e => absurd ((upd_self L 5).symm.trans e) (by decide), f3, f4, fun _ _ => o9, f6, f7, fun e => absurd ((h8 e).1.symm.trans hL) (by decide), f9, fun e => (f10 e).imp fun g h => ⟨h.1, h.2.1, fun e2 => (h.2.2.1 e2).grown gr9 (fun e3 => own_blk_ne ho (h.2.2.1 e2) (by decide) e3.symm), fun e2 => absurd ((h8 (h9 (h11 e2).2).2).1.symm.trans hL) (by decide)⟩⟩
    case s6 =>
      rintro L a wr ⟨hst, hsz, q2, q3, hF⟩ hL hdp K hK
      have ev := fun (d t : Nat) (v : Value) (hd : d < 37) => eval_put a d t v (by omega)
      obtain ⟨b, h1, h4, h5, h7, h8, h9, h11, f0, f1, f2, f3, f4, f5, f6, f7, f8, f9, f10⟩ := hF
      have t3 := q3
      rw [eval_tmp, Array.getD_eq_getD_getElem?] at t3
      refine step_value (v := .pointer (some ⟨w.heap.size + 1, 1, none⟩)) (w' := wr) rfl (by go_simp) ?_
      refine hK _ _ ⟨hst.put 13 _ (by decide), by simpa [Act.put] using hsz, (ev 13 2 _ (by decide)).trans q2, (ev 13 3 _ (by decide)).trans q3, ?_⟩
      simp only [ev 13 _ _ (by decide)]
      exact ⟨b, h1, h4, h5, fun e => absurd ((h7 e).symm.trans hL) (by decide), h8, h9, h11, f0, f1, f2, f3, f4, f5, fun _ => rfl, f7, f8, f9, f10⟩
    case s7 =>
      rintro L a wr ⟨hst, hsz, q2, q3, hF⟩ hL hdp K hK
      have ev := fun (d t : Nat) (v : Value) (hd : d < 37) => eval_put a d t v (by omega)
      have d6 : L 6 = true := hdp ⟨6, .data⟩ (by simp) rfl
      obtain ⟨b, h1, h4, h5, h7, h8, h9, h11, f0, f1, f2, f3, f4, f5, f6, f7, f8, f9, f10⟩ := hF
      have t13 := f6 d6
      rw [eval_tmp, Array.getD_eq_getD_getElem?] at t13
      obtain ⟨hcn0, hcn1⟩ := (hBq.below b hBq.lt).two
      refine step_value (v := .slice E ds.length d) (w' := wr) rfl (by go_simp) ?_
      refine hK _ _ ⟨hst.put 14 _ (by decide), by simpa [Act.put] using hsz, (ev 14 2 _ (by decide)).trans q2, (ev 14 3 _ (by decide)).trans q3, ?_⟩
      simp only [ev 14 _ _ (by decide)]
      exact ⟨b, h1, h4, h5, fun _ => d6, fun e => absurd ((h8 e).2.symm.trans hL) (by decide), h9, h11, f0, f1, f2, f3, f4, f5, f6, fun _ => rfl, f8, f9, f10⟩
    case s8 =>
      rintro L a wr ⟨hst, hsz, q2, q3, hF⟩ hL hdp K hK
      have ev := fun (d t : Nat) (v : Value) (hd : d < 37) => eval_put a d t v (by omega)
      have d5 : L 5 = true := hdp ⟨5, .data⟩ (by simp) rfl
      have d7 : L 7 = true := hdp ⟨7, .data⟩ (by simp) rfl
      obtain ⟨b, h1, h4, h5, h7, h8, h9, h11, f0, f1, f2, f3, f4, f5, f6, f7, f8, f9, f10⟩ := hF
      have t14 := f7 d7
      have d5b := d5
      have ho := f5 d5 hL
      refine step_append_any wr rfl (.tmp 12) (.tmp 14) 26 rfl wq.heap.size 54 i1 _ 2 16 Try.underlying26 hi'.out.1 hi'.out.2.1 hi'.out.2.2.1 hi'.out.2.2.2 rfl (by decide) (a.eval (.tmp 12)) cs.length _ rfl ho wr.heap.size E ds.length d (cmps ds) (f7 d7) ((hyq.below b).more b.size) (cmps_one _) (by unfold maxLen; omega) (by omega) b.size ?_
      intro v9 w9 o9 gr9 at9
      rw [← cmps_append] at o9
      refine hK _ _ ⟨hst.put 15 _ (by decide), by simpa [Act.put] using hsz, (ev 15 2 _ (by decide)).trans q2, (ev 15 3 _ (by decide)).trans q3, ?_⟩
      simp only [ev 15 _ _ (by decide)]
      exact ⟨b.grown gr9 b.size (fun q hq => (own_lt ho q hq).1), h1, h4, h5, h7, fun _ => ⟨d5, d7⟩, fun e => absurd ((h9 e).2.symm.trans hL) (by decide), h11, f0, f1, fun e e2 => absurd (d5b.symm.trans e2) (by decide), f3, f4, fun _ e => absurd ((upd_self L 8).symm.trans e) (by decide), f6, f7, fun _ => o9, fun e => absurd ((h9 e).2.symm.trans hL) (by decide), fun e => (f10 e).imp fun g h => ⟨h.1, h.2.1, fun e2 => (h.2.2.1 e2).grown gr9 (fun e3 => own_blk_ne ho (h.2.2.1 e2) (by decide) e3.symm), fun e2 => absurd ((h9 (h11 e2).2).2.symm.trans hL) (by decide)⟩⟩
    case s9 =>
      rintro L a wr ⟨hst, hsz, q2, q3, hF⟩ hL hdp K hK
      have ev := fun (d t : Nat) (v : Value) (hd : d < 37) => eval_put a d t v (by omega)
      have d1 : L 1 = true := hdp ⟨1, .data⟩ (by simp) rfl
      have d8 : L 8 = true := hdp ⟨8, .data⟩ (by simp) rfl
      obtain ⟨b, h1, h4, h5, h7, h8, h9, h11, f0, f1, f2, f3, f4, f5, f6, f7, f8, f9, f10⟩ := hF
      have t8 := f1 d1
      have t8 := f1 d1
      obtain ⟨Z, zc, eZ⟩ := own_slice (f8 d8)
      have t15 := eZ
      rw [eval_tmp, Array.getD_eq_getD_getElem?] at t8 t15
      refine step_value (v := .agg #[.int .i64 W, .slice Z (cs.length + ds.length) zc]) (w' := wr) rfl (by go_simp) ?_
      refine hK _ _ ⟨hst.put 16 _ (by decide), by simpa [Act.put] using hsz, (ev 16 2 _ (by decide)).trans q2, (ev 16 3 _ (by decide)).trans q3, ?_⟩
      simp only [ev 16 _ _ (by decide)]
      exact ⟨b, h1, h4, h5, h7, h8, fun _ => ⟨d1, d8⟩, fun e => absurd ((h11 e).2.symm.trans hL) (by decide), f0, f1, f2, f3, f4, f5, f6, f7, f8, fun _ => by show _ = Value.agg #[.int .i64 W, a.eval (.tmp 15)]; rw [eZ]; rfl, f10⟩
    case s10 =>
      rintro L a wr ⟨hst, hsz, q2, q3, hF⟩ hL hdp K hK
      have ev := fun (d t : Nat) (v : Value) (hd : d < 37) => eval_put a d t v (by omega)
      obtain ⟨b, h1, h4, h5, h7, h8, h9, h11, f0, f1, f2, f3, f4, f5, f6, f7, f8, f9, f10⟩ := hF
      refine step_value (v := .pointer (some ⟨wr.heap.size, 0, none⟩)) (w' := wr.alloc (.cells #[.int .i64 0, .slice none 0 0] 28)) rfl (by go_simp) ?_
      refine hK _ _ ⟨hst.put 6 _ (by decide), by simpa [Act.put] using hsz, (ev 6 2 _ (by decide)).trans q2, (ev 6 3 _ (by decide)).trans q3, ?_⟩
      simp only [ev 6 _ _ (by decide)]
      exact ⟨alloc_ b _, h1, h4, h5, h7, h8, h9, fun e => absurd ((h11 e).1.symm.trans hL) (by decide), f0, f1, fun e e2 => (f2 e e2).imp fun g h => ⟨h.1, h.2.alloc _⟩, f3, f4, fun e e2 => (f5 e e2).alloc _, f6, f7, fun e => (f8 e).alloc _, f9, fun _ => ⟨wr.heap.size, rfl, b.size, fun _ => Blk.new _ _ _, fun e2 => absurd ((h11 e2).1.symm.trans hL) (by decide)⟩⟩
    case s11 =>
      rintro L a wr ⟨hst, hsz, q2, q3, hF⟩ hL hdp K hK
      have ev := fun (d t : Nat) (v : Value) (hd : d < 37) => eval_put a d t v (by omega)
      have d10 : L 10 = true := hdp ⟨10, .data⟩ (by simp) rfl
      have d9 : L 9 = true := hdp ⟨9, .data⟩ (by simp) rfl
      obtain ⟨b, h1, h4, h5, h7, h8, h9, h11, f0, f1, f2, f3, f4, f5, f6, f7, f8, f9, f10⟩ := hF
      obtain ⟨g9, e9, hg9, hz9, -⟩ := f10 d10
      have e8 := f9 d9
      have dap := (h9 d9).2
      obtain ⟨Z, zc, eZ⟩ := own_slice (f8 dap)
      rw [eZ] at e8
      have t6 := e9
      have t16 := e8
      rw [eval_tmp, Array.getD_eq_getD_getElem?] at t6 t16
      have hkb := hz9 hL
      have hfz0 := hkb.frozen 0
      have hfz1 := hkb.frozen 1
      obtain ⟨hcl0, hcl1⟩ := hkb.two
      have hlt := hkb.lt
      refine step_skip (w' := (wr.setCell ⟨g9, 0, none⟩ (.int .i64 W)).setCell ⟨g9, 1, none⟩ (.slice Z (cs.length + ds.length) zc)) rfl (by go_simp) ?_
      refine hK _ _ ⟨hst.put_none _, hsz, q2, q3, ?_⟩
      exact ⟨Below.setCell (Below.setCell b hg9 _) hg9 _, h1, h4, h5, h7, h8, h9, fun _ => ⟨d10, d9⟩, f0, f1, fun e e2 => absurd ((h8 dap).1.symm.trans e2) (by decide), f3, f4, fun e e2 => absurd (dap.symm.trans e2) (by decide), f6, f7, fun e => own_setCell (own_setCell (f8 e) (own_blk_ne (f8 e) hkb (by decide)) _) (own_blk_ne (f8 e) hkb (by decide)) _, f9, fun _ => ⟨g9, e9, hg9, fun e => absurd ((upd_self L 11).symm.trans e) (by decide), fun _ => by show Blk _ g9 _ #[.int .i64 W, a.eval (.tmp 15)]; rw [eZ]; simpa using (hkb.set_ 0 (.int .i64 W)).set_ 1 (.slice Z (cs.length + ds.length) zc)⟩⟩
end Go.Proofs.Ytkhfilkikpiepaa
