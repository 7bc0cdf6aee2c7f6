/- Permutations out of their inversion tables: the reference's function. -/
import Derived.Test.YtcecdodagmdnkaaFitM
import Derived.Test.YtcecdodagmdnkaaLayers
import Derived.Test.YtcecdodagmdnkaaInv
import Derived.Deep.DeepCutAuto
namespace Go.Proofs.Ytcecdodagmdnkaa
open Go.RowKit
set_option linter.unusedVariables false
def FitF (wq : World) (gR cR m x k TL c0 : Nat) (ad : Addr) (rs : List Int) (L : Nat → Bool) (wr : World) (v0 v1 v2 v3 v4 v5 v6 v7 v8 v9 v10 v11 v12 v13 v14 v15 v16 : Value) : Prop :=
  (Below wq.heap.size wq wr) ∧
  (L 4 = true → L 2 = true ∧ L 3 = true) ∧
  (L 5 = true → L 4 = true) ∧
  (L 6 = true → L 1 = true ∧ L 5 = true) ∧
  (L 7 = true → L 0 = true ∧ L 6 = true) ∧
  (L 11 = true → L 9 = true ∧ L 10 = true) ∧
  (L 12 = true → L 11 = true) ∧
  (L 13 = true → L 12 = true) ∧
  (L 14 = true → L 8 = true ∧ L 13 = true) ∧
  (L 15 = true → L 7 = true ∧ L 14 = true) ∧
  (L 16 = true → L 15 = true) ∧
  (L 0 = true → L 7 = false → ∃ g, v0 = .slice (some ⟨g, 0, none⟩) 0 0 ∧ wr.ownsRow wq.heap.size 3 1 v0 0 []) ∧
  (L 1 = true → v1 = .slice (some ⟨gR, 0, none⟩) m cR) ∧
  (L 2 = true → v2 = .slice (some ad) TL c0) ∧
  (L 3 = true → v3 = .int .i64 (k : Nat)) ∧
  (L 4 = true → v4 = .pointer (some (ad.add k))) ∧
  (L 5 = true → v5 = .int .i64 (x : Nat)) ∧
  (L 6 = true → v6 = .slice (some ⟨gR, 0, none⟩) x cR) ∧
  (L 7 = true → L 15 = false → wr.ownsRow wq.heap.size 3 1 v7 x (ints (rs.take x))) ∧
  (L 8 = true → v8 = .slice (some ⟨gR, 0, none⟩) m cR) ∧
  (L 9 = true → v9 = .slice (some ad) TL c0) ∧
  (L 10 = true → v10 = .int .i64 (k : Nat)) ∧
  (L 11 = true → v11 = .pointer (some (ad.add k))) ∧
  (L 12 = true → v12 = .int .i64 (x : Nat)) ∧
  (L 13 = true → v13 = .int .i64 ((x : Int) + 1)) ∧
  (L 14 = true → ∃ o : Nat, v14 = .slice (some ⟨gR, o, none⟩) (m - (x + 1)) (cR - (x + 1)) ∧ (o = x + 1 ∨ x + 1 = m)) ∧
  (L 15 = true → wr.ownsRow wq.heap.size 3 1 v15 (m - 1) (ints (rs.eraseIdx x))) ∧
  (L 16 = true → v16 = v15) ∧
  (L 16 = false → v16 = .slice (some ⟨gR, 0, none⟩) m cR)
set_option maxRecDepth 100000 in
set_option maxHeartbeats 6400000 in
theorem sFromInversionTable_any (A0 : Option Addr) (t : List Int) (c0 : Nat) (w : World) (hx : Reads w w.heap.size 1 A0 t.length (ints t)) (hl : t.length ≤ 1099511627776) :
    Calls Try.prog 19 #[.slice A0 t.length c0] w fun e w' => ∃ D d, e = .returned (.tuple #[.slice D (fitV t).length d, .bool (fitOk t)]) ∧ w'.ownsRow w.heap.size 3 1 (.slice D (fitV t).length d) (fitV t).length (ints (fitV t)) ∧ Below w.heap.size w w' := by
  by_cases h64 : t.length ≤ 64
  case neg =>
    have h' : (t.length : Int) > 64 := by omega
    rw [show fitV t = [] by simp [fitV, fitR, h64], show fitOk t = false by simp [fitOk, fitR, h64]]
    go_enter Try.func19, Try.ntmps19
    go_wp2_with fail
    exact bodyPost_ret (v := .tuple #[.slice none 0 0, .bool false]) (by simp [results, Try.results19, go_sem]) rfl ⟨none, 0, rfl, World.ownsRow_nil _ _ _ _, Below.refl _ _⟩
  have h' : ¬ (t.length : Int) > 64 := by omega
  obtain ⟨i0, hi, hz0, hz1, hz2⟩ := info_parts (show (Try.prog.info? 3).map (fun i => (i.zero, i.size, i.bytes)) = some (some (.int .i64 0), 1, 8) by kernel_rfl)
  have hi' := Lib.hid (And.intro hi (And.intro hz0 (And.intro hz1 hz2)))
  have HFR : Hid (fitR t = fitGo (upTo t.length) [] t) := Lib.hid (by rw [fitR, if_pos h64])
  have HX := Lib.hid hx
  have hO0 := made_at (w := w) (base := w.heap.size) (g := w.heap.size) (size := 1) (e := 3) (Nat.le_refl _) rfl
  have hB0 := alloc_ (Below.refl w.heap.size w) (.cells #[] 3)
  clear hx
  go_enter Try.func19, Try.ntmps19
  go_wp2_with fail
  go_loopw [4, 5] (fun v vi wr => ∃ (k gR cR : Nat), k ≤ t.length ∧ vi = .int .i64 (k : Nat) ∧ v = .slice (some ⟨gR, 0, none⟩) k cR ∧ Below w.heap.size w wr ∧ wr.ownsRow w.heap.size 3 1 (.slice (some ⟨gR, 0, none⟩) k cR) k (ints (upTo k))) (fun _ vi _ => t.length - (intOf vi).toNat)
  case atStart => exact ⟨0, _, 0, by omega, rfl, rfl, hB0, hO0⟩
  case round =>
    clear hO0 hB0
    obtain ⟨k, gR, cR, hk, rfl, rfl, hb, oR⟩ := hrel
    by_cases hlt : k < t.length
    · have hkI : (k : Int) < t.length := by omega
      go_wp2_with (at_builtin; refine wpList_push _ rfl _ _ 24 rfl w.heap.size 3 i0 _ 1 8 Try.underlying24 hi hz0 hz1 hz2 rfl (by decide) (.slice (some ⟨gR, 0, none⟩) k cR) _ _ rfl oR #[.int .i64 (k : Nat)] rfl rfl (by simp [Value.oneCell']) (by omega) (by unfold maxLen; omega) hb.size ?_; intro g1 k1 w2 hown1 hg1 hb3 hat3)
      rw [show ints (upTo k) ++ (#[Value.int .i64 (k : Nat)] : Array Value).toList = ints (upTo (k + 1)) by rw [upTo_succ]; simp [ints]] at hown1
      go_roundw
      case rel => exact ⟨k + 1, g1, k1, by omega, by go_num, rfl, hb.trans hb3, hown1⟩
      case measure => simp [intOf]; omega
    · have hkI : ¬ (k : Int) < t.length := by omega
      obtain rfl : k = t.length := by omega
      clear hkI hlt hk
      have hO0 := made_at (w := wr) (base := w.heap.size) (g := wr.heap.size) (size := 1) (e := 3) hb.size rfl
      have hB0 := alloc_ hb (.cells #[] 3)
      have hR0 := oR.alloc (.cells #[] 3)
      have hn0 : gR ≠ wr.heap.size := fun e => by have := (own_lt oR gR rfl).2; omega
      go_wp2_with fail
      generalize hwg : wr.heap.size = gz at *
      generalize wr.alloc (.cells #[] 3) = w5 at *
      clear hwg oR hb
      go_loopw [6, 4, 7] (fun vo v vi wr => ∃ (k m cR gO cO : Nat) (AR : Option Addr) (rs zs : List Int), m + k ≤ t.length ∧ t.length ≤ m + k ∧ vi = .int .i64 (k : Nat) ∧ v = .slice AR m cR ∧ vo = .slice (some ⟨gO, 0, none⟩) k cO ∧ Hid ((Value.slice AR m cR).ownBlock ≠ some gO) ∧ Hid (fitGo rs zs (t.drop k) = fitGo (upTo t.length) [] t) ∧ Hid (rs.length = m) ∧ Hid (zs.length = k) ∧
        Below w.heap.size w wr ∧ wr.ownsRow w.heap.size 3 1 (.slice AR m cR) m (ints rs) ∧ wr.ownsRow w.heap.size 3 1 (.slice (some ⟨gO, 0, none⟩) k cO) k (ints zs)) (fun _ _ vi _ => t.length - (intOf vi).toNat)
      case atStart => exact ⟨0, t.length, cR, gz, 0, some ⟨gR, 0, none⟩, upTo t.length, [], by omega, by omega, rfl, rfl, rfl, Lib.hid (by simpa [Value.ownBlock] using hn0), Lib.hid rfl, Lib.hid (upTo_len _), Lib.hid rfl, hB0, hR0, hO0⟩
      case round =>
        clear hO0 hB0 hR0 hn0
        obtain ⟨k, m, cR, gO, cO, AR, rs, zs, hk, hk2, rfl, rfl, rfl, HNE, HG, HRL, HZL, hb, oR, oO⟩ := hrel
        by_cases hlt : k < t.length
        · obtain ⟨ad, rfl, hadl, hc⟩ := (HX.out.below hb).int hlt
          have hkI : (k : Int) < t.length := by omega
          cases hp : inB t[k] 0 ((m : Int) - 1)
          · have HS := Lib.hid (HG.out.symm.trans (fit_stop hlt (by rw [HRL.out]; exact hp)))
            have HP := Lib.hid hp
            have EV : Hid (fitV t = []) := Lib.hid (by rw [fitV, HFR.out, HS.out]; rfl)
            have EO : Hid (fitOk t = false) := Lib.hid (by rw [fitOk, HFR.out, HS.out]; rfl)
            clear hp
            generalize t[k] = z at *
            go_wp2_with (go_at_call 40; refine (l1In_any _ _ _ _).mono ?_; rintro e w' ⟨rfl, rfl⟩; rw [HP.out])
            exact bodyPost_ret (v := .tuple #[.slice none 0 0, .bool false]) (by simp [results, Try.results19, go_sem]) rfl ⟨none, 0, by rw [EV.out, EO.out]; rfl, by rw [EV.out]; exact World.ownsRow_nil _ _ _ _, hb⟩
          · obtain ⟨z1, z2⟩ := inB_iff.1 hp
            obtain ⟨x, hxz⟩ := Int.eq_ofNat_of_zero_le z1
            have hxl : x < m := by omega
            have hxr : x < rs.length := by rw [HRL.out]; exact hxl
            have hne := HNE.out
            obtain ⟨gR, cR', eR, -, -, -⟩ := own_some oR (by omega)
            cases eR
            clear HNE
            have HS := Lib.hid ((fit_step (zs := zs) hlt hxz hxr).symm.trans HG.out)
            have HP := Lib.hid (hp.symm.trans (by rw [hxz]))
            have c1 := oR.cellAt x (by omega)
            rw [ints_get hxr] at c1
            have HL1 : Hid ((rs.eraseIdx x).length = m - 1) := Lib.hid (by rw [List.length_eraseIdx_of_lt hxr, HRL.out])
            have HL2 : Hid ((zs ++ [rs[x]]).length = k + 1) := Lib.hid (by rw [List.length_append, HZL.out]; rfl)
            have HV : ∀ y, rs[x] = y → Hid (ints zs ++ (#[Value.int .i64 y] : Array Value).toList = ints (zs ++ [rs[x]])) := fun y hy => Lib.hid (by rw [← hy]; simp [ints])
            rw [hxz] at hc
            have hxmI : (x : Int) < (m : Int) := by omega
            obtain ⟨y, hy⟩ : ∃ y, rs[x] = y := ⟨_, rfl⟩
            have HY := HV y hy
            rw [hy] at c1
            have hxz2 := Lib.hid hxz
            clear hp hy HV hxz z1 z2
            go_upto_region 15 with (first | (go_at_call 40; refine (l1In_any _ _ _ _).mono ?_; rintro e w' ⟨rfl, rfl⟩; rw [← HP.out]) | (at_builtin; refine wpList_push _ rfl _ _ 24 rfl w.heap.size 3 i0 _ 1 8 Try.underlying24 hi hz0 hz1 hz2 rfl (by decide) (.slice (some ⟨gO, 0, none⟩) k cO) _ _ rfl oO #[.int .i64 y] rfl rfl (by simp [Value.oneCell']) (by omega) (by unfold maxLen; omega) hb.size ?_; intro g1 k1 w2 hown1 hg1 hb3 hat3))
            rw [HY.out] at hown1
            have hBw := hb.trans hb3
            have hne1 : (Value.slice (some ⟨gR, 0, none⟩) m cR).ownBlock ≠ (Value.slice (some ⟨gO, 0, none⟩) k cO).ownBlock := hne
            have oR2 := own_kept oR hg1 hne1
            have hneg : gR ≠ g1 := by
              intro e
              rcases hat3 with h | h
              · exact hne (by rw [e]; exact h.symm)
              · have := (own_lt oR gR rfl).2; omega
            have hcap := own_cap oR2
            have hxcI : (x : Int) < (cR : Int) := by omega
            have hxc1 : (x : Int) + 1 ≤ (cR : Int) := by omega
            have hxc2 : ¬ cR < x := by omega
            have hxc3 : ¬ (cR : Int) < (x : Int) + 1 := by omega
            have hxc4 : ¬ (x : Int) + 1 < 0 := by omega
            have hxc5 : ¬ (m : Int) < (x : Int) + 1 := by omega
            have hxc6 : ((x : Int) + 1).toNat = x + 1 := by omega
            have hxc7 : IntKind.i64.wrap ((x : Int) + 1) = (x : Int) + 1 := IntWalk.i64_in _ ⟨by omega, by omega⟩
            have hxm1 : (x : Int) + 1 ≤ (m : Int) := by omega
            have hcq0 : w2.cell? (ad.add k) = some (.int .i64 (x : Nat)) := by
              obtain ⟨ad', u, e', -, hu, hc2⟩ := (HX.out.below hBw).at_ hlt
              cases e'
              rw [ints_get hlt] at hu
              rw [hc2, ← hu, hxz2.out]
            have hadl0 : (ad.add k).block < w2.heap.size := by rw [block_of_add]; have := hBw.size; omega
            clear hb3 hg1 hat3 hb oR oO hne hne1 hc c1
            have hbd : Below w.heap.size w w2.drew := bdrew hBw
            have oRd : w2.drew.ownsRow w.heap.size 3 1 (.slice (some ⟨gR, 0, none⟩) m cR) m (ints rs) := oR2
            have oOd : w2.drew.ownsRow w.heap.size 3 1 (.slice (some ⟨g1, 0, none⟩) (k + 1) k1) (k + 1) (ints (zs ++ [rs[x]])) := hown1
            have hcq : w2.drew.cell? (ad.add k) = some (.int .i64 (x : Nat)) := hcq0
            have hadl : (ad.add k).block < w2.drew.heap.size := hadl0
            obtain ⟨wq, hwq⟩ : ∃ wq, w2.drew = wq := ⟨_, rfl⟩
            rw [hwq] at hbd oRd oOd hcq hadl
            have oR := oRd
            refine wp_region_inv' (fun a0 L a wr => St a0 a [48, 49, 50, 51, 52, 53, 54, 55, 56, 57, 58, 59, 60, 61, 62, 63, 4] ∧ 64 < a.tmps.size ∧ a.eval (.tmp 0) = .slice (some ad) t.length c0 ∧ a.eval (.tmp 7) = .int .i64 (k : Nat) ∧ FitF wq gR cR m x k t.length c0 ad rs L wr (a.eval (.tmp 48)) (a.eval (.tmp 49)) (a.eval (.tmp 50)) (a.eval (.tmp 51)) (a.eval (.tmp 52)) (a.eval (.tmp 53)) (a.eval (.tmp 54)) (a.eval (.tmp 55)) (a.eval (.tmp 56)) (a.eval (.tmp 57)) (a.eval (.tmp 58)) (a.eval (.tmp 59)) (a.eval (.tmp 60)) (a.eval (.tmp 61)) (a.eval (.tmp 62)) (a.eval (.tmp 63)) (a.eval (.tmp 4))) (by kernel_rfl) (by kernel_rfl) ?start ?steps ?ends
            case start =>
              subst hwq
              refine ⟨St.refl _ _, Nat.le_of_ble_eq_true rfl, rfl, rfl, Below.refl _ _, ?_, ?_, ?_, ?_, ?_, ?_, ?_, ?_, ?_, ?_, ?_, ?_, ?_, ?_, ?_, ?_, ?_, ?_, ?_, ?_, ?_, ?_, ?_, ?_, ?_, ?_, ?_, ?_⟩
              all_goals (intro e; first | (cases e; done) | rfl)
            case ends =>
              rintro L a wr ⟨hst, hsz, q0, q7, b, h4, h5, h6, h7, h11, h12, h13, h14, h15, h16, f0, f1, f2, f3, f4, f5, f6, f7, f8, f9, f10, f11, f12, f13, f14, f15, f16, frw⟩ hall
              have o9 := f15 (hall 15 (by decide))
              have e4 := f16 (hall 16 (by decide))
              obtain ⟨A9, c9, e9⟩ := own_slice o9
              rw [e9] at o9 e4
              clear e9
              have heq := hst.eq
              simp only [List.foldl_cons, List.foldl_nil] at heq
              rw [e4] at heq
              clear hst hall hsz q0 q7 h4 h5 h6 h7 h11 h12 h13 h14 h15 h16 f0 f1 f2 f3 f4 f5 f6 f7 f8 f9 f10 f11 f12 f13 f14 f15 f16 frw
              generalize a.eval (.tmp 48) = u48 at *
              generalize a.eval (.tmp 49) = u49 at *
              generalize a.eval (.tmp 50) = u50 at *
              generalize a.eval (.tmp 51) = u51 at *
              generalize a.eval (.tmp 52) = u52 at *
              generalize a.eval (.tmp 53) = u53 at *
              generalize a.eval (.tmp 54) = u54 at *
              generalize a.eval (.tmp 55) = u55 at *
              generalize a.eval (.tmp 56) = u56 at *
              generalize a.eval (.tmp 57) = u57 at *
              generalize a.eval (.tmp 58) = u58 at *
              generalize a.eval (.tmp 59) = u59 at *
              generalize a.eval (.tmp 60) = u60 at *
              generalize a.eval (.tmp 61) = u61 at *
              generalize a.eval (.tmp 62) = u62 at *
              generalize a.eval (.tmp 63) = u63 at *
              simp only [Act.put, List.setIfInBounds_toArray, List.set_cons_zero, List.set_cons_succ] at heq
              subst heq
              have hN := Lib.hid (hbd.trans (b.mono hbd.size))
              have HO := Lib.hid (own_base o9 hbd.size)
              have HO2 := Lib.hid (own_below oOd b (Nat.le_refl _))
              have hgg : Hid ((Value.slice A9 (m - 1) c9).ownBlock ≠ some g1) := Lib.hid (fun e => by have h1 := (own_lt o9 g1 e).1; have h2 := (own_lt oOd g1 rfl).2; omega)
              clear o9 b
              go_wp2_with fail
              go_roundw
              case rel => exact ⟨k + 1, m - 1, c9, g1, k1, A9, rs.eraseIdx x, zs ++ [rs[x]], by omega, by omega, by go_num, rfl, rfl, hgg, HS, HL1, HL2, hN.out, HO.out, HO2.out⟩
              case measure => simp [intOf]; omega
            case steps =>
              refine ⟨?s0, ?s1, ?s2, ?s3, ?s4, ?s5, ?s6, ?s7, ?s8, ?s9, ?s10, ?s11, ?s12, ?s13, ?s14, ?s15, ?s16, trivial⟩
              case s0 =>
                rintro L a wr ⟨hst, hsz, q0, q7, hF⟩ hL hdp K hK
                have ev := fun (d t : Nat) (v : Value) (hd : d < 65) => eval_put a d t v (by omega)
                obtain ⟨b, h4, h5, h6, h7, h11, h12, h13, h14, h15, h16, f0, f1, f2, f3, f4, f5, f6, f7, f8, f9, f10, f11, f12, f13, f14, f15, f16, frw⟩ := hF
                refine step_value (v := .slice (some ⟨wr.heap.size, 0, none⟩) 0 0) (w' := wr.alloc (.cells #[] 3)) rfl (by go_simp) ?_
                refine hK _ _ ⟨hst.put 48 _ (by decide), by simpa [Act.put] using hsz, (ev 48 0 _ (by decide)).trans q0, (ev 48 7 _ (by decide)).trans q7, ?_⟩
                simp only [ev 48 _ _ (by decide)]
                exact ⟨alloc_ b _, h4, h5, h6, fun e => absurd ((h7 e).1.symm.trans hL) (by decide), h11, h12, h13, h14, h15, h16, fun _ _ => ⟨_, rfl, made_at b.size rfl⟩, f1, f2, f3, f4, f5, f6, fun e => absurd ((h7 e).1.symm.trans hL) (by decide), f8, f9, f10, f11, f12, f13, f14, fun e => absurd ((h7 (h15 e).1).1.symm.trans hL) (by decide), f16, frw⟩
              case s1 =>
                rintro L a wr ⟨hst, hsz, q0, q7, hF⟩ hL hdp K hK
                have ev := fun (d t : Nat) (v : Value) (hd : d < 65) => eval_put a d t v (by omega)
                obtain ⟨b, h4, h5, h6, h7, h11, h12, h13, h14, h15, h16, f0, f1, f2, f3, f4, f5, f6, f7, f8, f9, f10, f11, f12, f13, f14, f15, f16, frw⟩ := hF
                have n16 : L 16 = false := by
                  cases h : L 16
                  · rfl
                  · exact absurd (((h6 (h7 (h15 (h16 h)).1).2).1).symm.trans hL) (by decide)
                have t4 := frw n16
                rw [eval_tmp, Array.getD_eq_getD_getElem?] at t4
                refine step_value (v := .slice (some ⟨gR, 0, none⟩) m cR) (w' := wr) rfl (by go_simp) ?_
                refine hK _ _ ⟨hst.put 49 _ (by decide), by simpa [Act.put] using hsz, (ev 49 0 _ (by decide)).trans q0, (ev 49 7 _ (by decide)).trans q7, ?_⟩
                simp only [ev 49 _ _ (by decide)]
                exact ⟨b, h4, h5, fun e => absurd ((h6 e).1.symm.trans hL) (by decide), h7, h11, h12, h13, h14, h15, h16, f0, fun _ => rfl, f2, f3, f4, f5, f6, f7, f8, f9, f10, f11, f12, f13, f14, f15, f16, frw⟩
              case s2 =>
                rintro L a wr ⟨hst, hsz, q0, q7, hF⟩ hL hdp K hK
                have ev := fun (d t : Nat) (v : Value) (hd : d < 65) => eval_put a d t v (by omega)
                obtain ⟨b, h4, h5, h6, h7, h11, h12, h13, h14, h15, h16, f0, f1, f2, f3, f4, f5, f6, f7, f8, f9, f10, f11, f12, f13, f14, f15, f16, frw⟩ := hF
                have t0 := q0
                rw [eval_tmp, Array.getD_eq_getD_getElem?] at t0
                refine step_value (v := .slice (some ad) t.length c0) (w' := wr) rfl (by go_simp) ?_
                refine hK _ _ ⟨hst.put 50 _ (by decide), by simpa [Act.put] using hsz, (ev 50 0 _ (by decide)).trans q0, (ev 50 7 _ (by decide)).trans q7, ?_⟩
                simp only [ev 50 _ _ (by decide)]
                exact ⟨b, fun e => absurd ((h4 e).1.symm.trans hL) (by decide), h5, h6, h7, h11, h12, h13, h14, h15, h16, f0, f1, fun _ => rfl, f3, f4, f5, f6, f7, f8, f9, f10, f11, f12, f13, f14, f15, f16, frw⟩
              case s3 =>
                rintro L a wr ⟨hst, hsz, q0, q7, hF⟩ hL hdp K hK
                have ev := fun (d t : Nat) (v : Value) (hd : d < 65) => eval_put a d t v (by omega)
                obtain ⟨b, h4, h5, h6, h7, h11, h12, h13, h14, h15, h16, f0, f1, f2, f3, f4, f5, f6, f7, f8, f9, f10, f11, f12, f13, f14, f15, f16, frw⟩ := hF
                have t7 := q7
                rw [eval_tmp, Array.getD_eq_getD_getElem?] at t7
                refine step_value (v := .int .i64 (k : Nat)) (w' := wr) rfl (by go_simp) ?_
                refine hK _ _ ⟨hst.put 51 _ (by decide), by simpa [Act.put] using hsz, (ev 51 0 _ (by decide)).trans q0, (ev 51 7 _ (by decide)).trans q7, ?_⟩
                simp only [ev 51 _ _ (by decide)]
                exact ⟨b, fun e => absurd ((h4 e).2.symm.trans hL) (by decide), h5, h6, h7, h11, h12, h13, h14, h15, h16, f0, f1, f2, fun _ => rfl, f4, f5, f6, f7, f8, f9, f10, f11, f12, f13, f14, f15, f16, frw⟩
              case s4 =>
                rintro L a wr ⟨hst, hsz, q0, q7, hF⟩ hL hdp K hK
                have ev := fun (d t : Nat) (v : Value) (hd : d < 65) => eval_put a d t v (by omega)
                have d2 : L 2 = true := hdp ⟨2, .data⟩ (by simp) rfl
                have d3 : L 3 = true := hdp ⟨3, .data⟩ (by simp) rfl
                obtain ⟨b, h4, h5, h6, h7, h11, h12, h13, h14, h15, h16, f0, f1, f2, f3, f4, f5, f6, f7, f8, f9, f10, f11, f12, f13, f14, f15, f16, frw⟩ := hF
                have t50 := f2 d2
                have t51 := f3 d3
                rw [eval_tmp, Array.getD_eq_getD_getElem?] at t50 t51
                refine step_value (v := .pointer (some (ad.add k))) (w' := wr) rfl (by go_simp) ?_
                refine hK _ _ ⟨hst.put 52 _ (by decide), by simpa [Act.put] using hsz, (ev 52 0 _ (by decide)).trans q0, (ev 52 7 _ (by decide)).trans q7, ?_⟩
                simp only [ev 52 _ _ (by decide)]
                exact ⟨b, fun _ => ⟨d2, d3⟩, fun e => absurd ((h5 e).symm.trans hL) (by decide), h6, h7, h11, h12, h13, h14, h15, h16, f0, f1, f2, f3, fun _ => rfl, f5, f6, f7, f8, f9, f10, f11, f12, f13, f14, f15, f16, frw⟩
              case s5 =>
                rintro L a wr ⟨hst, hsz, q0, q7, hF⟩ hL hdp K hK
                have ev := fun (d t : Nat) (v : Value) (hd : d < 65) => eval_put a d t v (by omega)
                have d4 : L 4 = true := hdp ⟨4, .data⟩ (by simp) rfl
                obtain ⟨b, h4, h5, h6, h7, h11, h12, h13, h14, h15, h16, f0, f1, f2, f3, f4, f5, f6, f7, f8, f9, f10, f11, f12, f13, f14, f15, f16, frw⟩ := hF
                have t52 := f4 d4
                rw [eval_tmp, Array.getD_eq_getD_getElem?] at t52
                have hcl := (b.cell hadl).trans hcq
                refine step_value (v := .int .i64 (x : Nat)) (w' := wr) rfl (by go_simp) ?_
                refine hK _ _ ⟨hst.put 53 _ (by decide), by simpa [Act.put] using hsz, (ev 53 0 _ (by decide)).trans q0, (ev 53 7 _ (by decide)).trans q7, ?_⟩
                simp only [ev 53 _ _ (by decide)]
                exact ⟨b, h4, fun _ => d4, fun e => absurd ((h6 e).2.symm.trans hL) (by decide), h7, h11, h12, h13, h14, h15, h16, f0, f1, f2, f3, f4, fun _ => rfl, f6, f7, f8, f9, f10, f11, f12, f13, f14, f15, f16, frw⟩
              case s6 =>
                rintro L a wr ⟨hst, hsz, q0, q7, hF⟩ hL hdp K hK
                have ev := fun (d t : Nat) (v : Value) (hd : d < 65) => eval_put a d t v (by omega)
                have d1 : L 1 = true := hdp ⟨1, .data⟩ (by simp) rfl
                have d5 : L 5 = true := hdp ⟨5, .data⟩ (by simp) rfl
                obtain ⟨b, h4, h5, h6, h7, h11, h12, h13, h14, h15, h16, f0, f1, f2, f3, f4, f5, f6, f7, f8, f9, f10, f11, f12, f13, f14, f15, f16, frw⟩ := hF
                have t49 := f1 d1
                have t53 := f5 d5
                rw [eval_tmp, Array.getD_eq_getD_getElem?] at t49 t53
                refine step_value (v := .slice (some ⟨gR, 0, none⟩) x cR) (w' := wr) rfl (by go_simp) ?_
                refine hK _ _ ⟨hst.put 54 _ (by decide), by simpa [Act.put] using hsz, (ev 54 0 _ (by decide)).trans q0, (ev 54 7 _ (by decide)).trans q7, ?_⟩
                simp only [ev 54 _ _ (by decide)]
                exact ⟨b, h4, h5, fun _ => ⟨d1, d5⟩, fun e => absurd ((h7 e).2.symm.trans hL) (by decide), h11, h12, h13, h14, h15, h16, f0, f1, f2, f3, f4, f5, fun _ => rfl, f7, f8, f9, f10, f11, f12, f13, f14, f15, f16, frw⟩
              case s7 =>
                rintro L a wr ⟨hst, hsz, q0, q7, hF⟩ hL hdp K hK
                have ev := fun (d t : Nat) (v : Value) (hd : d < 65) => eval_put a d t v (by omega)
                have d0 : L 0 = true := hdp ⟨0, .data⟩ (by simp) rfl
                have d6 : L 6 = true := hdp ⟨6, .data⟩ (by simp) rfl
                obtain ⟨b, h4, h5, h6, h7, h11, h12, h13, h14, h15, h16, f0, f1, f2, f3, f4, f5, f6, f7, f8, f9, f10, f11, f12, f13, f14, f15, f16, frw⟩ := hF
                have t54 := f6 d6
                obtain ⟨g0, e0, ho⟩ := f0 d0 hL
                refine step_append_any wr rfl (.tmp 48) (.tmp 54) 24 rfl wq.heap.size 3 i0 _ 1 8 Try.underlying24 hi'.out.1 hi'.out.2.1 hi'.out.2.2.1 hi'.out.2.2.2 rfl (by decide) (a.eval (.tmp 48)) 0 [] rfl ho wr.heap.size (some ⟨gR, 0, none⟩) x cR (ints (rs.take x)) (f6 d6) (by rw [show ints (rs.take x) = (ints rs).take x by simp [ints, List.map_take]]; exact Reads.pre (Reads.of_own (own_below oR b (Nat.le_refl _))) (by omega)) (ints_one _) (by unfold maxLen; omega) (by omega) b.size ?_
                intro v4 w4 o4 gr4 at4
                rw [Nat.zero_add, List.nil_append] at o4
                refine hK _ _ ⟨hst.put 55 _ (by decide), by simpa [Act.put] using hsz, (ev 55 0 _ (by decide)).trans q0, (ev 55 7 _ (by decide)).trans q7, ?_⟩
                simp only [ev 55 _ _ (by decide)]
                exact ⟨b.grown gr4 b.size (fun q hq => (own_lt ho q hq).1), h4, h5, h6, fun _ => ⟨d0, d6⟩, h11, h12, h13, h14, fun e => absurd ((h15 e).1.symm.trans hL) (by decide), h16, fun _ e => absurd ((upd_self L 7).symm.trans e) (by decide), f1, f2, f3, f4, f5, f6, fun _ _ => o4, f8, f9, f10, f11, f12, f13, f14, fun e => absurd ((h15 e).1.symm.trans hL) (by decide), f16, frw⟩
              case s8 =>
                rintro L a wr ⟨hst, hsz, q0, q7, hF⟩ hL hdp K hK
                have ev := fun (d t : Nat) (v : Value) (hd : d < 65) => eval_put a d t v (by omega)
                obtain ⟨b, h4, h5, h6, h7, h11, h12, h13, h14, h15, h16, f0, f1, f2, f3, f4, f5, f6, f7, f8, f9, f10, f11, f12, f13, f14, f15, f16, frw⟩ := hF
                have n16 : L 16 = false := by
                  cases h : L 16
                  · rfl
                  · exact absurd (((h14 (h15 (h16 h)).2).1).symm.trans hL) (by decide)
                have t4 := frw n16
                rw [eval_tmp, Array.getD_eq_getD_getElem?] at t4
                refine step_value (v := .slice (some ⟨gR, 0, none⟩) m cR) (w' := wr) rfl (by go_simp) ?_
                refine hK _ _ ⟨hst.put 56 _ (by decide), by simpa [Act.put] using hsz, (ev 56 0 _ (by decide)).trans q0, (ev 56 7 _ (by decide)).trans q7, ?_⟩
                simp only [ev 56 _ _ (by decide)]
                exact ⟨b, h4, h5, h6, h7, h11, h12, h13, fun e => absurd ((h14 e).1.symm.trans hL) (by decide), h15, h16, f0, f1, f2, f3, f4, f5, f6, f7, fun _ => rfl, f9, f10, f11, f12, f13, f14, f15, f16, frw⟩
              case s9 =>
                rintro L a wr ⟨hst, hsz, q0, q7, hF⟩ hL hdp K hK
                have ev := fun (d t : Nat) (v : Value) (hd : d < 65) => eval_put a d t v (by omega)
                obtain ⟨b, h4, h5, h6, h7, h11, h12, h13, h14, h15, h16, f0, f1, f2, f3, f4, f5, f6, f7, f8, f9, f10, f11, f12, f13, f14, f15, f16, frw⟩ := hF
                have t0 := q0
                rw [eval_tmp, Array.getD_eq_getD_getElem?] at t0
                refine step_value (v := .slice (some ad) t.length c0) (w' := wr) rfl (by go_simp) ?_
                refine hK _ _ ⟨hst.put 57 _ (by decide), by simpa [Act.put] using hsz, (ev 57 0 _ (by decide)).trans q0, (ev 57 7 _ (by decide)).trans q7, ?_⟩
                simp only [ev 57 _ _ (by decide)]
                exact ⟨b, h4, h5, h6, h7, fun e => absurd ((h11 e).1.symm.trans hL) (by decide), h12, h13, h14, h15, h16, f0, f1, f2, f3, f4, f5, f6, f7, f8, fun _ => rfl, f10, f11, f12, f13, f14, f15, f16, frw⟩
              case s10 =>
                rintro L a wr ⟨hst, hsz, q0, q7, hF⟩ hL hdp K hK
                have ev := fun (d t : Nat) (v : Value) (hd : d < 65) => eval_put a d t v (by omega)
                obtain ⟨b, h4, h5, h6, h7, h11, h12, h13, h14, h15, h16, f0, f1, f2, f3, f4, f5, f6, f7, f8, f9, f10, f11, f12, f13, f14, f15, f16, frw⟩ := hF
                have t7 := q7
                rw [eval_tmp, Array.getD_eq_getD_getElem?] at t7
                refine step_value (v := .int .i64 (k : Nat)) (w' := wr) rfl (by go_simp) ?_
                refine hK _ _ ⟨hst.put 58 _ (by decide), by simpa [Act.put] using hsz, (ev 58 0 _ (by decide)).trans q0, (ev 58 7 _ (by decide)).trans q7, ?_⟩
                simp only [ev 58 _ _ (by decide)]
                exact ⟨b, h4, h5, h6, h7, fun e => absurd ((h11 e).2.symm.trans hL) (by decide), h12, h13, h14, h15, h16, f0, f1, f2, f3, f4, f5, f6, f7, f8, f9, fun _ => rfl, f11, f12, f13, f14, f15, f16, frw⟩
              case s11 =>
                rintro L a wr ⟨hst, hsz, q0, q7, hF⟩ hL hdp K hK
                have ev := fun (d t : Nat) (v : Value) (hd : d < 65) => eval_put a d t v (by omega)
                have d9 : L 9 = true := hdp ⟨9, .data⟩ (by simp) rfl
                have d10 : L 10 = true := hdp ⟨10, .data⟩ (by simp) rfl
                obtain ⟨b, h4, h5, h6, h7, h11, h12, h13, h14, h15, h16, f0, f1, f2, f3, f4, f5, f6, f7, f8, f9, f10, f11, f12, f13, f14, f15, f16, frw⟩ := hF
                have t57 := f9 d9
                have t58 := f10 d10
                rw [eval_tmp, Array.getD_eq_getD_getElem?] at t57 t58
                refine step_value (v := .pointer (some (ad.add k))) (w' := wr) rfl (by go_simp) ?_
                refine hK _ _ ⟨hst.put 59 _ (by decide), by simpa [Act.put] using hsz, (ev 59 0 _ (by decide)).trans q0, (ev 59 7 _ (by decide)).trans q7, ?_⟩
                simp only [ev 59 _ _ (by decide)]
                exact ⟨b, h4, h5, h6, h7, fun _ => ⟨d9, d10⟩, fun e => absurd ((h12 e).symm.trans hL) (by decide), h13, h14, h15, h16, f0, f1, f2, f3, f4, f5, f6, f7, f8, f9, f10, fun _ => rfl, f12, f13, f14, f15, f16, frw⟩
              case s12 =>
                rintro L a wr ⟨hst, hsz, q0, q7, hF⟩ hL hdp K hK
                have ev := fun (d t : Nat) (v : Value) (hd : d < 65) => eval_put a d t v (by omega)
                have d11 : L 11 = true := hdp ⟨11, .data⟩ (by simp) rfl
                obtain ⟨b, h4, h5, h6, h7, h11, h12, h13, h14, h15, h16, f0, f1, f2, f3, f4, f5, f6, f7, f8, f9, f10, f11, f12, f13, f14, f15, f16, frw⟩ := hF
                have t59 := f11 d11
                rw [eval_tmp, Array.getD_eq_getD_getElem?] at t59
                have hcl := (b.cell hadl).trans hcq
                refine step_value (v := .int .i64 (x : Nat)) (w' := wr) rfl (by go_simp) ?_
                refine hK _ _ ⟨hst.put 60 _ (by decide), by simpa [Act.put] using hsz, (ev 60 0 _ (by decide)).trans q0, (ev 60 7 _ (by decide)).trans q7, ?_⟩
                simp only [ev 60 _ _ (by decide)]
                exact ⟨b, h4, h5, h6, h7, h11, fun _ => d11, fun e => absurd ((h13 e).symm.trans hL) (by decide), h14, h15, h16, f0, f1, f2, f3, f4, f5, f6, f7, f8, f9, f10, f11, fun _ => rfl, f13, f14, f15, f16, frw⟩
              case s13 =>
                rintro L a wr ⟨hst, hsz, q0, q7, hF⟩ hL hdp K hK
                have ev := fun (d t : Nat) (v : Value) (hd : d < 65) => eval_put a d t v (by omega)
                have d12 : L 12 = true := hdp ⟨12, .data⟩ (by simp) rfl
                obtain ⟨b, h4, h5, h6, h7, h11, h12, h13, h14, h15, h16, f0, f1, f2, f3, f4, f5, f6, f7, f8, f9, f10, f11, f12, f13, f14, f15, f16, frw⟩ := hF
                have t60 := f12 d12
                rw [eval_tmp, Array.getD_eq_getD_getElem?] at t60
                refine step_value (v := .int .i64 ((x : Int) + 1)) (w' := wr) rfl (by go_simp) ?_
                refine hK _ _ ⟨hst.put 61 _ (by decide), by simpa [Act.put] using hsz, (ev 61 0 _ (by decide)).trans q0, (ev 61 7 _ (by decide)).trans q7, ?_⟩
                simp only [ev 61 _ _ (by decide)]
                exact ⟨b, h4, h5, h6, h7, h11, h12, fun _ => d12, fun e => absurd ((h14 e).2.symm.trans hL) (by decide), h15, h16, f0, f1, f2, f3, f4, f5, f6, f7, f8, f9, f10, f11, f12, fun _ => rfl, f14, f15, f16, frw⟩
              case s14 =>
                rintro L a wr ⟨hst, hsz, q0, q7, hF⟩ hL hdp K hK
                have ev := fun (d t : Nat) (v : Value) (hd : d < 65) => eval_put a d t v (by omega)
                have d8 : L 8 = true := hdp ⟨8, .data⟩ (by simp) rfl
                have d13 : L 13 = true := hdp ⟨13, .data⟩ (by simp) rfl
                obtain ⟨b, h4, h5, h6, h7, h11, h12, h13, h14, h15, h16, f0, f1, f2, f3, f4, f5, f6, f7, f8, f9, f10, f11, f12, f13, f14, f15, f16, frw⟩ := hF
                have t56 := f8 d8
                have t61 := f13 d13
                rw [eval_tmp, Array.getD_eq_getD_getElem?] at t56 t61
                by_cases hck : cR = x + 1
                · refine step_value (v := .slice (some ⟨gR, 0, none⟩) (m - (x + 1)) (cR - (x + 1))) (w' := wr) rfl (by go_simp) ?_
                  refine hK _ _ ⟨hst.put 62 _ (by decide), by simpa [Act.put] using hsz, (ev 62 0 _ (by decide)).trans q0, (ev 62 7 _ (by decide)).trans q7, ?_⟩
                  simp only [ev 62 _ _ (by decide)]
                  exact ⟨b, h4, h5, h6, h7, h11, h12, h13, fun _ => ⟨d8, d13⟩, fun e => absurd ((h15 e).2.symm.trans hL) (by decide), h16, f0, f1, f2, f3, f4, f5, f6, f7, f8, f9, f10, f11, f12, f13, fun _ => ⟨0, rfl, .inr (by omega)⟩, f15, f16, frw⟩
                · refine step_value (v := .slice (some ⟨gR, x + 1, none⟩) (m - (x + 1)) (cR - (x + 1))) (w' := wr) rfl (by go_simp) ?_
                  refine hK _ _ ⟨hst.put 62 _ (by decide), by simpa [Act.put] using hsz, (ev 62 0 _ (by decide)).trans q0, (ev 62 7 _ (by decide)).trans q7, ?_⟩
                  simp only [ev 62 _ _ (by decide)]
                  exact ⟨b, h4, h5, h6, h7, h11, h12, h13, fun _ => ⟨d8, d13⟩, fun e => absurd ((h15 e).2.symm.trans hL) (by decide), h16, f0, f1, f2, f3, f4, f5, f6, f7, f8, f9, f10, f11, f12, f13, fun _ => ⟨x + 1, rfl, .inl rfl⟩, f15, f16, frw⟩
              case s15 =>
                rintro L a wr ⟨hst, hsz, q0, q7, hF⟩ hL hdp K hK
                have ev := fun (d t : Nat) (v : Value) (hd : d < 65) => eval_put a d t v (by omega)
                have d7 : L 7 = true := hdp ⟨7, .data⟩ (by simp) rfl
                have d14 : L 14 = true := hdp ⟨14, .data⟩ (by simp) rfl
                obtain ⟨b, h4, h5, h6, h7, h11, h12, h13, h14, h15, h16, f0, f1, f2, f3, f4, f5, f6, f7, f8, f9, f10, f11, f12, f13, f14, f15, f16, frw⟩ := hF
                have ho := f7 d7 hL
                obtain ⟨o, e14, ho2⟩ := f14 d14
                refine step_append_any wr rfl (.tmp 55) (.tmp 62) 24 rfl wq.heap.size 3 i0 _ 1 8 Try.underlying24 hi'.out.1 hi'.out.2.1 hi'.out.2.2.1 hi'.out.2.2.2 rfl (by decide) (a.eval (.tmp 55)) x _ rfl ho wr.heap.size (some ⟨gR, o, none⟩) (m - (x + 1)) (cR - (x + 1)) (ints (rs.drop (x + 1))) e14 (by
                  rcases ho2 with rfl | h3
                  · exact reads_offF (own_below oR b (Nat.le_refl _)) (by omega)
                  · rw [h3]; exact reads_noneF (own_below oR b (Nat.le_refl _)) o) (ints_one _) (by unfold maxLen; omega) (by omega) b.size ?_
                intro v9 w9 o9 gr9 at9
                rw [show x + (m - (x + 1)) = m - 1 by omega, show ints (rs.take x) ++ ints (rs.drop (x + 1)) = ints (rs.eraseIdx x) by rw [List.eraseIdx_eq_take_drop_succ]; simp [ints]] at o9
                refine hK _ _ ⟨hst.put 63 _ (by decide), by simpa [Act.put] using hsz, (ev 63 0 _ (by decide)).trans q0, (ev 63 7 _ (by decide)).trans q7, ?_⟩
                simp only [ev 63 _ _ (by decide)]
                exact ⟨b.grown gr9 b.size (fun q hq => (own_lt ho q hq).1), h4, h5, h6, h7, h11, h12, h13, h14, fun _ => ⟨d7, d14⟩, fun e => absurd ((h16 e).symm.trans hL) (by decide), fun e e2 => absurd (d7.symm.trans e2) (by decide), f1, f2, f3, f4, f5, f6, fun _ e => absurd ((upd_self L 15).symm.trans e) (by decide), f8, f9, f10, f11, f12, f13, f14, fun _ => o9, fun e => absurd ((h16 e).symm.trans hL) (by decide), frw⟩
              case s16 =>
                rintro L a wr ⟨hst, hsz, q0, q7, hF⟩ hL hdp K hK
                have ev := fun (d t : Nat) (v : Value) (hd : d < 65) => eval_put a d t v (by omega)
                have d15 : L 15 = true := hdp ⟨15, .data⟩ (by simp) rfl
                obtain ⟨b, h4, h5, h6, h7, h11, h12, h13, h14, h15, h16, f0, f1, f2, f3, f4, f5, f6, f7, f8, f9, f10, f11, f12, f13, f14, f15, f16, frw⟩ := hF
                refine step_value (v := a.eval (.tmp 63)) (w' := wr) rfl (by go_simp) ?_
                refine hK _ _ ⟨hst.put 4 _ (by decide), by simpa [Act.put] using hsz, (ev 4 0 _ (by decide)).trans q0, (ev 4 7 _ (by decide)).trans q7, ?_⟩
                simp only [ev 4 _ _ (by decide)]
                exact ⟨b, h4, h5, h6, h7, h11, h12, h13, h14, h15, fun _ => d15, f0, f1, f2, f3, f4, f5, f6, f7, f8, f9, f10, f11, f12, f13, f14, f15, fun _ => rfl, fun e => absurd ((upd_self L 16).symm.trans e) (by decide)⟩
        · have hkI : ¬ (k : Int) < t.length := by omega
          have hkt : k = t.length := by omega
          have HS := Lib.hid (HG.out.symm.trans (fit_end (by omega)))
          have EV : Hid (fitV t = zs) := Lib.hid (by rw [fitV, HFR.out, HS.out]; rfl)
          have EO : Hid (fitOk t = true) := Lib.hid (by rw [fitOk, HFR.out, HS.out]; rfl)
          clear hkt
          go_wp2_with fail
          exact bodyPost_ret (v := .tuple #[.slice (some ⟨gO, 0, none⟩) k cO, .bool true]) (by simp [results, Try.results19, go_sem]) rfl ⟨some ⟨gO, 0, none⟩, cO, by rw [EV.out, EO.out, HZL.out], by rw [EV.out, HZL.out]; exact oO, hb⟩
end Go.Proofs.Ytcecdodagmdnkaa
