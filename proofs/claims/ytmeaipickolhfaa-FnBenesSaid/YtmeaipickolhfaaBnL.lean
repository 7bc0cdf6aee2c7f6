/- The walk of the law on Benes networks. -/
import Derived.Test.YtmeaipickolhfaaRtN
import Derived.Test.YtmeaipickolhfaaROrd
import Derived.Test.YtmeaipickolhfaaVN
import Derived.Test.YtmeaipickolhfaaVL
import Derived.Deep.DeepCutAuto
namespace Go.Proofs.Ytmeaipickolhfaa
open Go.RowKit
set_option linter.unusedVariables false
theorem pow_bd {n k : Nat} (h : n = 2 ^ (k + 1)) (hk : k ≤ 5) : 2 ≤ n ∧ n ≤ 64 := by
  have H : ∀ k : Fin 6, 2 ≤ 2 ^ (k.val + 1) ∧ 2 ^ (k.val + 1) ≤ 64 := by decide
  rw [h]
  exact H ⟨k, by omega⟩
theorem bools_snocB (zs : List Bool) (z : Bool) : bools zs ++ (#[Value.bool z] : Array Value).toList = bools (zs ++ [z]) := by simp [bools]
theorem own_capb {w : World} {base n c : Nat} {e : TypeId} {A : Option Addr} {xs : List Value} (h : w.ownsRow base e 1 (.slice A n c) n xs) : n ≤ c ∧ c ≤ maxLen := by
  rcases own_shape h with ⟨hv, hn⟩ | ⟨g, c', hv, _, _, h1, h2⟩
  · simp only [Value.slice.injEq] at hv
    exact ⟨by omega, by rw [hv.2.2]; unfold maxLen; omega⟩
  · simp only [Value.slice.injEq] at hv
    obtain ⟨_, _, rfl⟩ := hv
    exact ⟨h1, h2⟩
/-! any switches only rearrange -/
theorem two_perm (l : List Int) (s : List Bool) : ∀ k, 2 * k ≤ l.length → (upL l s k ++ loL l s k).Perm (l.take (2 * k))
  | 0, _ => by simp [upL, loL]
  | k + 1, h => by
    have ih := two_perm l s k (by omega)
    rw [upL_succ, loL_succ]
    have h1 : l[2 * k]?.getD 0 = l[2 * k] := by rw [List.getElem?_eq_getElem (by omega)]; rfl
    have h2 : l[2 * k + 1]?.getD 0 = l[2 * k + 1] := by rw [List.getElem?_eq_getElem (by omega)]; rfl
    have ht : l.take (2 * (k + 1)) = l.take (2 * k) ++ [l[2 * k], l[2 * k + 1]] := by
      rw [show 2 * (k + 1) = 2 * k + 1 + 1 by omega, List.take_succ_eq_append_getElem (by omega), List.take_succ_eq_append_getElem (by omega), List.append_assoc]
      rfl
    rw [h1, h2, ht]
    generalize l[2 * k] = x
    generalize l[2 * k + 1] = y
    generalize upL l s k = U at *
    generalize loL l s k = W at *
    generalize l.take (2 * k) = L at *
    have key : ∀ a b : Int, (U ++ [a] ++ (W ++ [b])).Perm (U ++ W ++ [a, b]) := fun a b => by
      rw [List.append_assoc, List.append_assoc]
      refine List.Perm.append_left U ?_
      show ([a] ++ (W ++ [b])).Perm _
      rw [show W ++ [a, b] = (W ++ [a]) ++ [b] by simp, ← List.append_assoc]
      exact List.Perm.append_right _ (List.perm_append_comm)
    cases s[k]?.getD false
    · exact (key x y).trans (ih.append_right _)
    · exact ((key y x).trans (List.Perm.append_left _ (List.Perm.swap x y []))).trans (ih.append_right _)
theorem out_perm (U W : List Int) (t : List Bool) : ∀ k, k ≤ U.length → k ≤ W.length → (outL U W t k).Perm (U.take k ++ W.take k)
  | 0, _, _ => by simp [outL]
  | k + 1, h1, h2 => by
    have ih := out_perm U W t k (by omega) (by omega)
    rw [outL_succ, List.take_succ_eq_append_getElem (by omega : k < U.length), List.take_succ_eq_append_getElem (by omega : k < W.length)]
    have e1 : U[k]?.getD 0 = U[k] := by rw [List.getElem?_eq_getElem (by omega)]; rfl
    have e2 : W[k]?.getD 0 = W[k] := by rw [List.getElem?_eq_getElem (by omega)]; rfl
    unfold outP
    rw [e1, e2]
    generalize U[k] = x
    generalize W[k] = y
    generalize U.take k = A at *
    generalize W.take k = B at *
    have key : (A ++ B ++ [x, y]).Perm (A ++ [x] ++ (B ++ [y])) := by
      rw [List.append_assoc, List.append_assoc]
      refine List.Perm.append_left A ?_
      show List.Perm _ ([x] ++ (B ++ [y]))
      rw [show B ++ [x, y] = (B ++ [x]) ++ [y] by simp, ← List.append_assoc]
      exact List.Perm.append_right _ (List.perm_append_comm)
    cases t[k]?.getD false
    · exact (ih.append_right _).trans key
    · exact ((ih.append_right _).trans (List.Perm.append_left _ (List.Perm.swap x y []))).trans key
theorem benF_perm : ∀ (f : Nat) (l : List Int) (s : List Bool), l.length = 2 ^ (f + 1) → (benF f l s).Perm l
  | 0, l, s, h => by
    unfold benF
    split
    · match l, h with
      | [a, b], _ => exact List.Perm.swap a b []
    · exact List.Perm.refl _
  | f + 1, l, s, h => by
    unfold benF
    have h1 := benF_perm f (upL l s (2 ^ (f + 1))) ((s.drop (2 ^ (f + 1))).take (bsz f)) (upL_len _ _ _)
    have h2 := benF_perm f (loL l s (2 ^ (f + 1))) ((s.drop (2 ^ (f + 1) + bsz f)).take (bsz f)) (loL_len _ _ _)
    have l1 := benF_len f (upL l s (2 ^ (f + 1))) ((s.drop (2 ^ (f + 1))).take (bsz f)) (upL_len _ _ _)
    have l2 := benF_len f (loL l s (2 ^ (f + 1))) ((s.drop (2 ^ (f + 1) + bsz f)).take (bsz f)) (loL_len _ _ _)
    have hp : 2 ^ (f + 2) = 2 * 2 ^ (f + 1) := by rw [Nat.pow_succ 2 (f + 1)]; omega
    generalize benF f (upL l s (2 ^ (f + 1))) ((s.drop (2 ^ (f + 1))).take (bsz f)) = U at *
    generalize benF f (loL l s (2 ^ (f + 1))) ((s.drop (2 ^ (f + 1) + bsz f)).take (bsz f)) = W at *
    refine (out_perm U W _ _ (by omega) (by omega)).trans ?_
    rw [List.take_of_length_le (l := U) (by omega), List.take_of_length_le (l := W) (by omega)]
    refine (h1.append h2).trans ?_
    have h3 := two_perm l s (2 ^ (f + 1)) (by omega)
    rwa [List.take_of_length_le (by omega)] at h3
theorem vOrdered_b (A : Option Addr) (zs : List Int) (n c : Nat) (w : World) (hn : zs.length = n) (hl : n ≤ 65536) (hx : Reads w w.heap.size 1 A n (ints zs)) :
    Calls Try.prog 24 #[.slice A n c] w fun e w' => ∃ D d, e = .returned (.slice D n d) ∧ w'.ownsRow w.heap.size 3 1 (.slice D n d) n (ints (srt zs)) ∧ Below w.heap.size w w' := by
  subst hn
  refine (vOrdered_any A zs c w hx (by omega)).mono ?_
  rintro e w' ⟨v, rfl, ho, hb⟩
  obtain ⟨D, d, rfl⟩ := own_slice ho
  exact ⟨D, d, rfl, ho, hb⟩
set_option maxRecDepth 100000 in
set_option maxHeartbeats 1600000 in
theorem applyI_any (A : Option Addr) (P : List Nat) (c : Nat) (B : Option Addr) (zs : List Int) (d n : Nat) (w : World) (hP : P.length = n) (hz : zs.length = n) (hlt : ∀ x ∈ P, x < n) (hn : n ≤ 65536) (hx : Reads w w.heap.size 1 A n (nats P)) (hy : Reads w w.heap.size 1 B n (ints zs)) :
    Calls Try.prog 43 #[.slice A n c, .slice B n d] w fun e w' => ∃ D e', e = .returned (.slice D n e') ∧ w'.ownsRow w.heap.size 3 1 (.slice D n e') n (ints (P.map (atI zs))) ∧ Below w.heap.size w w' := by
  obtain ⟨i0, hi, hz0, hz1, hz2⟩ := info_parts (show (Try.prog.info? 3).map (fun i => (i.zero, i.size, i.bytes)) = some (some (.int .i64 0), 1, 8) by kernel_rfl)
  have HP := Lib.hid hP; have HZ := Lib.hid hz; have HLT := Lib.hid hlt
  have ho := made_at (w := w) (base := w.heap.size) (g := w.heap.size) (size := 1) (e := 3) (Nat.le_refl _) rfl
  have hb0 := alloc_ (Below.refl w.heap.size w) (.cells #[] 3)
  clear hP hz hlt
  go_enter Try.func43, Try.ntmps43
  go_wp2_with fail
  go_loopw [5, 11] (fun v vi wr => ∃ k : Nat, k ≤ n ∧ vi = .int .i64 (k : Nat) ∧ wr.ownsRow w.heap.size 3 1 v k (ints ((P.take k).map (atI zs))) ∧ Below w.heap.size w wr) (fun _ vi _ => n - (intOf vi).toNat)
  case atStart => exact ⟨0, by omega, rfl, ho, hb0⟩
  case round =>
    clear ho hb0
    obtain ⟨k, hk, rfl, hO, hb⟩ := hrel
    by_cases hkn : k < n
    · have kI : (k : Int) < (n : Int) := by omega
      obtain ⟨ad, u, rfl, -, hu, c1⟩ := (hx.below hb).at_ hkn
      rw [nats_get (by rw [HP.out]; exact hkn)] at hu
      cases hu
      have hxl := HLT.out _ (List.getElem_mem (l := P) (n := k) (by rw [HP.out]; exact hkn))
      have HS : Hid ((P.take (k + 1)).map (atI zs) = (P.take k).map (atI zs) ++ [atI zs (P[k]'(by rw [HP.out]; exact hkn))]) := Lib.hid (by
        rw [List.take_succ_eq_append_getElem (by rw [HP.out]; exact hkn), List.map_append]; rfl)
      generalize P[k]'(by rw [HP.out]; exact hkn) = x at *
      have xI : (x : Int) < (n : Int) := by omega
      obtain ⟨bd, u, rfl, -, hu, c2⟩ := (hy.below hb).at_ hxl
      rw [ints_get (by rw [HZ.out]; exact hxl)] at hu
      cases hu
      have HA : Hid (atI zs x = zs[x]'(by rw [HZ.out]; exact hxl)) := Lib.hid (by unfold atI; rw [List.getElem?_eq_getElem (by rw [HZ.out]; exact hxl)]; rfl)
      generalize zs[x]'(by rw [HZ.out]; exact hxl) = z at *
      clear hxl
      go_wp2_with (at_builtin; refine wpList_push _ rfl _ _ 22 rfl w.heap.size 3 i0 _ 1 8 Try.underlying22 hi hz0 hz1 hz2 rfl (by decide) u5 _ _ rfl hO #[.int .i64 z] rfl rfl (by simp [Value.oneCell']) (by omega) (by unfold maxLen; omega) hb.size ?_; intro g1 k1 w12 hown1 hg1 hb3 hat3)
      rw [ints_snoc] at hown1
      go_roundw
      case rel => exact ⟨k + 1, by omega, by go_num, by rw [HS.out, HA.out]; exact hown1, hb.trans hb3⟩
      case measure => simp [intOf]; omega
    · have kI : ¬ (k : Int) < (n : Int) := by omega
      obtain rfl : n = k := by omega
      have he : P.take n = P := List.take_of_length_le (by rw [HP.out]; omega)
      rw [he] at hO
      clear he
      obtain ⟨D, e', rfl⟩ := own_slice hO
      go_wp2_with fail
      go_ret
      exact ⟨D, e', rfl, hO, hb⟩
theorem ApplyPermutation_any (A : Option Addr) (p : List Int) (c : Nat) (B : Option Addr) (zs : List Int) (d n : Nat) (w : World) (hp : permB p = true) (hP : p.length = n) (hv : vList zs = true) (hz : zs.length = n) (hx : Reads w w.heap.size 1 A n (ints p)) (hy : Reads w w.heap.size 1 B n (ints zs)) :
    Calls Try.prog 30 #[.slice A n c, .slice B n d] w fun e w' => ∃ D e', e = .returned (.tuple #[.slice D n e', .bool true]) ∧ w'.ownsRow w.heap.size 3 1 (.slice D n e') n (ints ((p.map Int.toNat).map (atI zs))) ∧ Below w.heap.size w w' := by
  obtain ⟨q1, q2⟩ := permN_of hp
  have hn : n ≤ 64 := by rw [← hP]; exact (permB_iff hp).1
  have h1 := IsValidPermutation_any A p c w (by rw [hP]; exact hx) (by omega)
  rw [hP, hp] at h1
  have H1 := Lib.hid h1
  have H2 := Lib.hid (fun w1 (hb : Below w.heap.size w w1) => IsValidList_any B zs d w1 (by rw [hz]; exact (hy.below hb).more hb.size) (by omega))
  rw [hz, hv] at H2
  have H3 := Lib.hid (fun w1 (hb : Below w.heap.size w w1) => applyI_any A (p.map Int.toNat) c B zs d n w1 (by rw [List.length_map]; exact hP) hz (by rw [← hP]; exact q1.lt) (by omega) (by rw [q2]; exact (hx.below hb).more hb.size) ((hy.below hb).more hb.size))
  have x1 : ∀ x : Int, (x != x) = false := by simp
  clear h1 q1 q2 hp hP hv hz hx hy
  go_enter Try.func30, Try.ntmps30
  go_wp2_with (go_at_call 34; refine H1.out.mono ?_; rintro e w1 ⟨rfl, b1⟩)
  refine (H2.out w1 b1).mono ?_
  rintro e w2 ⟨rfl, b2⟩
  have B2 := bthen b1 b2
  go_wp2_with fail
  refine (H3.out w2 B2).mono ?_
  rintro e w3 ⟨D, e', rfl, oD, b3⟩
  go_wp2_with fail
  exact bodyPost_ret (v := .tuple #[.slice D n e', .bool true]) (by simp [results, Try.results30, go_sem]) rfl ⟨D, e', rfl, own_base oD B2.size, bthen B2 b3⟩
set_option maxRecDepth 100000 in
set_option maxHeartbeats 6400000 in
theorem FnBenes_any (A : Option Addr) (bs : List Nat) (c : Nat) (w : World) (hr : Reads w w.heap.size 1 A bs.length (byts bs)) (hm : bs.length ≤ maxLen) (hbb : ∀ b ∈ bs, b ≤ 255) :
    Calls Try.prog 6 #[.slice A bs.length c] w fun e w' => e = .returned (.bool true) ∧ Below w.heap.size w w' := by
  have HVB := Lib.hid (fun w => vBig_any A bs.length c w hm)
  by_cases hbig : 65536 < bs.length
  case pos =>
    have HB := Lib.hid (show decide (65536 < bs.length) = true by simpa using hbig)
    clear hbig
    go_enter Try.func6, Try.ntmps6
    go_wp2_with (go_at_call 19; refine (HVB.out _).mono ?_; rintro e w' ⟨rfl, rfl⟩; rw [HB.out])
    go_ret
    exact ⟨rfl, Below.refl _ _⟩
  have hsm : bs.length ≤ 65536 := by omega
  have HB := Lib.hid (show decide (65536 < bs.length) = false by simpa using hbig)
  clear hbig
  have HAT := Lib.hid (fun w' (h : Below w.heap.size w w') i (hi : i ≤ 1000) => vAt_any A bs c i w' ((hr.below h).more h.size) hbb hsm (by omega))
  have HLB := Lib.hid (fun i => atV_lt hbb i)
  have HRO := Lib.hid (fun n hn => rOrder_any A bs c n w hr hbb hsm hn)
  clear hr hbb hsm
  have x1 : ∀ x : Int, (x != x) = false := by simp
  obtain ⟨i0, hi, hz0, hz1, hz2⟩ := info_parts (show (Try.prog.info? 3).map (fun i => (i.zero, i.size, i.bytes)) = some (some (.int .i64 0), 1, 8) by kernel_rfl)
  obtain ⟨i1, hj, hy0, hy1, hy2⟩ := info_parts (show (Try.prog.info? 4).map (fun i => (i.zero, i.size, i.bytes)) = some (some (.bool false), 1, 1) by kernel_rfl)
  go_enter Try.func6, Try.ntmps6
  go_upto_region 3 with (go_at_call 19; refine (HVB.out _).mono ?_; rintro e w' ⟨rfl, rfl⟩; rw [HB.out])
  go_cut [3] (fun v wc => ∃ n k : Nat, v = .int .i64 (n : Nat) ∧ k ≤ 5 ∧ Hid (n = 2 ^ (k + 1)) ∧ wc = w)
  case first =>
    have hxb := HLB.out 0
    have HA := Lib.hid (HAT.out w (Below.refl _ _) 0 (by omega))
    generalize atV bs 0 = x at *
    obtain ⟨k, hk⟩ : ∃ k : Nat, (x : Int) % 6 = (k : Int) := Int.eq_ofNat_of_zero_le (Int.emod_nonneg (x : Int) (by omega))
    have hk5 : k ≤ 5 := by omega
    obtain rfl | rfl | rfl | rfl | rfl | rfl : k = 0 ∨ k = 1 ∨ k = 2 ∨ k = 3 ∨ k = 4 ∨ k = 5 := by omega
    · have hk2 : (x : Int) % 6 = 0 := hk
      clear hk
      go_wp2_with (go_at_call 26; refine HA.out.mono ?_; rintro e w' ⟨rfl, rfl⟩)
      go_meet
      exact ⟨2, 0, rfl, by omega, Lib.hid (by decide), rfl⟩
    · have hk2 : (x : Int) % 6 = 1 := hk
      clear hk
      go_wp2_with (go_at_call 26; refine HA.out.mono ?_; rintro e w' ⟨rfl, rfl⟩)
      go_meet
      exact ⟨4, 1, rfl, by omega, Lib.hid (by decide), rfl⟩
    · have hk2 : (x : Int) % 6 = 2 := hk
      clear hk
      go_wp2_with (go_at_call 26; refine HA.out.mono ?_; rintro e w' ⟨rfl, rfl⟩)
      go_meet
      exact ⟨8, 2, rfl, by omega, Lib.hid (by decide), rfl⟩
    · have hk2 : (x : Int) % 6 = 3 := hk
      clear hk
      go_wp2_with (go_at_call 26; refine HA.out.mono ?_; rintro e w' ⟨rfl, rfl⟩)
      go_meet
      exact ⟨16, 3, rfl, by omega, Lib.hid (by decide), rfl⟩
    · have hk2 : (x : Int) % 6 = 4 := hk
      clear hk
      go_wp2_with (go_at_call 26; refine HA.out.mono ?_; rintro e w' ⟨rfl, rfl⟩)
      go_meet
      exact ⟨32, 4, rfl, by omega, Lib.hid (by decide), rfl⟩
    · have hk2 : (x : Int) % 6 = 5 := hk
      clear hk
      go_wp2_with (go_at_call 26; refine HA.out.mono ?_; rintro e w' ⟨rfl, rfl⟩)
      go_meet
      exact ⟨64, 5, rfl, by omega, Lib.hid (by decide), rfl⟩
  case rest =>
    obtain ⟨n, k, rfl, hk5, HN, rfl⟩ := hcut
    have hn : 2 ≤ n ∧ n ≤ 64 := pow_bd HN.out hk5
    go_wp2_with fail
    refine (HRO.out n hn.2).mono ?_
    rintro e w1 ⟨v1, p, rfl, hO, hp, hb1⟩
    obtain ⟨AP, CP, rfl⟩ := own_slice hO
    obtain ⟨hpb, hpl⟩ := permB_perm hp hn.2
    have HPB := Lib.hid hpb
    have HPL := Lib.hid hpl
    clear hp hpb hpl
    have ho := made_at (w := w1) (base := w1.heap.size) (g := w1.heap.size) (size := 1) (e := 3) (Nat.le_refl _) rfl
    have hb0 := alloc_ (Below.refl w1.heap.size w1) (.cells #[] 3)
    have HHB := Lib.hid hb1
    have HHO := Lib.hid hO
    clear hb1 hO
    go_wp2_with fail
    go_loopw [5, 6] (fun v vi wr => ∃ (i : Nat) (zs : List Int), i ≤ n ∧ vi = .int .i64 (i : Nat) ∧ Hid (zs.length = i) ∧ Hid (∀ x ∈ zs, -4 ≤ x ∧ x ≤ 4) ∧ wr.ownsRow w1.heap.size 3 1 v i (ints zs) ∧ Below w1.heap.size w1 wr) (fun _ vi _ => n - (intOf vi).toNat)
    case atStart => exact ⟨0, [], by omega, rfl, Lib.hid rfl, Lib.hid (fun x hx => by cases hx), ho, hb0⟩
    case round =>
      clear ho hb0
      obtain ⟨i, zs, hi9, rfl, HZ, HZB, hO, hb⟩ := hrel
      by_cases hlt : i < n
      · have kI : (i : Int) < (n : Int) := by omega
        have HE2 : Hid ((i : Int) + 7 = ((i + 7 : Nat) : Int)) := Lib.hid (by omega)
        have HA := Lib.hid (HAT.out wr (HHB.out.trans (hb.mono HHB.out.size)) (i + 7) (by omega))
        generalize atV bs (i + 7) = x at *
        obtain ⟨y, hy⟩ : ∃ y : Nat, (x : Int) % 9 = (y : Int) := Int.eq_ofNat_of_zero_le (Int.emod_nonneg (x : Int) (by omega))
        have hy8 : y ≤ 8 := by omega
        go_wp2_with (first
          | (go_at_call 26; rw [HE2.out]; refine HA.out.mono ?_; rintro e w' ⟨rfl, rfl⟩)
          | (at_builtin; refine wpList_push _ rfl _ _ 22 rfl w1.heap.size 3 i0 _ 1 8 Try.underlying22 hi hz0 hz1 hz2 rfl (by decide) u5 _ _ rfl hO #[.int .i64 ((y : Int) - 4)] rfl rfl (by simp [Value.oneCell']) (by omega) (by unfold maxLen; omega) hb.size ?_; intro g1 k1 w12 hown1 hg1 hb3 hat3))
        rw [ints_snoc] at hown1
        have HZ2 : Hid ((zs ++ [(y : Int) - 4]).length = i + 1) := Lib.hid (by rw [List.length_append, HZ.out]; rfl)
        have HZB2 : Hid (∀ u ∈ zs ++ [(y : Int) - 4], -4 ≤ u ∧ u ≤ 4) := Lib.hid (fun u hu => by
          rcases List.mem_append.1 hu with h | h
          · exact HZB.out u h
          · rw [List.mem_singleton.1 h]; omega)
        go_roundw
        case rel => exact ⟨i + 1, zs ++ [(y : Int) - 4], by omega, by go_num, HZ2, HZB2, hown1, hb.trans hb3⟩
        case measure => simp [intOf]; omega
      · have kI : ¬ (i : Int) < (n : Int) := by omega
        obtain rfl : n = i := by omega
        obtain ⟨ZA, zc, rfl⟩ := own_slice hO
        have hvz : vList zs = true := by
          simp only [vList, Bool.and_eq_true, decide_eq_true_eq, List.all_eq_true]
          exact ⟨by rw [HZ.out]; exact hn.2, fun y hy => inB_iff.2 (by have := HZB.out y hy; omega)⟩
        have HVL := Lib.hid hvz
        have hsz := bsz_szf ⟨k, by omega⟩
        simp only at hsz
        rw [← HN.out] at hsz
        have HSZ : Hid (benesV (n : Int) = (bsz k : Nat)) := Lib.hid hsz
        have hbp := bsz_pos k
        have hbd := (bsz_bd ⟨k, by omega⟩).1
        simp only at hbd
        have hpn := permN_of HPB.out
        have hrv : rvOk p = true := by
          simp only [rvOk, Bool.and_eq_true, decide_eq_true_eq]
          rw [HPL.out, HSZ.out]
          exact ⟨by omega, HPB.out⟩
        have hlog : Nat.log2 n - 1 = k := by rw [HN.out, Nat.log2_two_pow]; omega
        have hrs := rv_some hrv
        rw [HPL.out, hlog] at hrs
        rw [HPL.out] at hpn
        have HRV := Lib.hid hrv
        have HRS := Lib.hid hrs
        have HPN := Lib.hid hpn
        have HLOG := Lib.hid hlog
        clear hvz hsz hrv hrs hpn hlog
        have hB0 := HHB.out.trans (hb.mono HHB.out.size)
        have oP0 := own_below HHO.out hb (Nat.le_refl _)
        have oZ0 := hO
        clear hO hb
        have hdp : decide (0 < benesV (n : Int)) = true := by rw [HSZ.out]; rw [decide_eq_true_eq]; omega
        have HBS := Lib.hid (BenesSize_any (n : Int) wr (by omega) (by omega))
        rw [hdp, HSZ.out] at HBS
        clear hdp
        go_wp2_with (go_at_call 28; refine HBS.out.mono ?_; rintro e w' ⟨rfl, rfl⟩)
        have hcall := BenesRoute_any AP p CP wr (by rw [HPL.out]; exact Reads.of_own oP0) (by rw [HPL.out]; omega)
        rw [HPL.out, HRV.out, HRS.out.2] at hcall
        refine hcall.mono ?_
        clear hcall
        rintro e w3 ⟨SA, sc, rfl, oS, b3⟩
        have hB1 := hB0.trans (b3.mono hB0.size)
        have oP1 := own_below oP0 b3 (Nat.le_refl _)
        have oZ1 := own_below oZ0 b3 (Nat.le_refl _)
        clear hB0 oP0 oZ0
        have oS1 := oS
        clear oS
        have hscap := (own_capb oS1).1
        have HBN : Hid (∀ s : List Bool, s.length = bsz k → bnOk zs s = true ∧ bnV zs s = benF k zs s ∧ (bnV zs s).length = n) := Lib.hid (fun s hs => by
          have h1 : bnOk zs s = true := by
            simp only [bnOk, Bool.and_eq_true, decide_eq_true_eq]
            rw [HZ.out, HSZ.out, hs]
            exact ⟨⟨HVL.out, by omega⟩, rfl⟩
          have h2 := bn_some h1
          rw [HZ.out, HLOG.out] at h2
          exact ⟨h1, h2⟩)
        have HWK : Hid (benF k zs (rvV p) = (p.map Int.toNat).map (atI zs)) := Lib.hid (by
          rw [HRS.out.1]
          exact route_works k _ zs (by rw [← HN.out]; exact HPN.out.1) (by rw [HZ.out]; exact HN.out))
        go_wp2_with fail
        have hcall := BenesApply_any ZA zs zc SA (rvV p) sc w3 (by rw [HZ.out]; exact Reads.of_own oZ1) (by rw [HZ.out]; omega) (by rw [HRS.out.2]; exact Reads.of_own oS1) (by rw [HRS.out.2]; omega) (by rw [HRS.out.2]; exact hscap)
        obtain ⟨t1, t2, t3⟩ := HBN.out (rvV p) HRS.out.2
        rw [HZ.out, HRS.out.2, t1, t3, t2, HWK.out] at hcall
        refine hcall.mono ?_
        clear hcall t1 t2 t3 hscap
        rintro e w4 ⟨UA, uc, rfl, oU, b4⟩
        clear oS1
        have hB2 := hB1.trans (b4.mono hB1.size)
        have oP2 := own_below oP1 b4 (Nat.le_refl _)
        have oZ2 := own_below oZ1 b4 (Nat.le_refl _)
        clear hB1 oP1 oZ1
        have oU2 := oU
        clear oU
        go_wp2_with fail
        have hcall := ApplyPermutation_any AP p CP ZA zs zc n w4 HPB.out HPL.out HVL.out HZ.out (Reads.of_own oP2) (Reads.of_own oZ2)
        refine hcall.mono ?_
        clear hcall
        rintro e w5 ⟨WA, wc5, rfl, oW, b5⟩
        clear oP2
        have hB3 := hB2.trans (b5.mono hB2.size)
        have oZ3 := own_below oZ2 b5 (Nat.le_refl _)
        have oU3 := own_below oU2 b5 (Nat.le_refl _)
        clear hB2 oZ2 oU2
        have HML : Hid (((p.map Int.toNat).map (atI zs)).length = n) := Lib.hid (by rw [List.length_map, List.length_map, HPL.out])
        generalize (p.map Int.toNat).map (atI zs) = ws at *
        go_wp2_with fail
        refine (vInts_n UA WA ws n uc wc5 w5 HML.out (by omega) (Reads.of_own oU3) (Reads.of_own oW)).mono ?_
        rintro e w6 ⟨rfl, n6, rfl⟩
        clear oW oU3
        have hB4 := below_drewN hB3 n6
        have oZ4 := own_dn oZ3 n6
        clear hB3 oZ3
        generalize w5.drewN n6 = w7 at *
        have ho := made_at (w := w7) (base := w7.heap.size) (g := w7.heap.size) (size := 1) (e := 4) (Nat.le_refl _) rfl
        have hb0 := alloc_ (Below.refl w7.heap.size w7) (.cells #[] 4)
        have HB7 := Lib.hid hB4
        have HZ7 := Lib.hid oZ4
        clear hB4 oZ4
        go_wp2_with fail
        go_loopw [15, 16] (fun v vi wr => ∃ (i : Nat) (fs : List Bool), i ≤ bsz k ∧ vi = .int .i64 (i : Nat) ∧ Hid (fs.length = i) ∧ wr.ownsRow w7.heap.size 4 1 v i (bools fs) ∧ Below w7.heap.size w7 wr) (fun _ vi _ => bsz k - (intOf vi).toNat)
        case atStart => exact ⟨0, [], by omega, rfl, Lib.hid rfl, ho, hb0⟩
        case round =>
          clear ho hb0
          obtain ⟨i, fs, hi8, rfl, HFS, hO, hb⟩ := hrel
          by_cases hlt : i < bsz k
          · have kI : (i : Int) < (bsz k : Int) := by omega
            have HE2 : Hid ((i : Int) + 2 = ((i + 2 : Nat) : Int)) := Lib.hid (by omega)
            have HA := Lib.hid (HAT.out wr (HB7.out.trans (hb.mono HB7.out.size)) (i + 2) (by omega))
            generalize atV bs (i + 2) = x at *
            obtain ⟨y, hy⟩ : ∃ y : Nat, (x : Int) % 3 = (y : Int) := Int.eq_ofNat_of_zero_le (Int.emod_nonneg (x : Int) (by omega))
            obtain ⟨b, hb9⟩ : ∃ b, ((y : Int) == 1) = b := ⟨_, rfl⟩
            go_wp2_with (first
              | (go_at_call 26; rw [HE2.out]; refine HA.out.mono ?_; rintro e w' ⟨rfl, rfl⟩)
              | (at_builtin; refine wpList_push _ rfl _ _ 23 rfl w7.heap.size 4 i1 _ 1 1 Try.underlying23 hj hy0 hy1 hy2 rfl (by decide) u15 _ _ rfl hO #[.bool b] rfl rfl (by simp [Value.oneCell']) (by omega) (by unfold maxLen; omega) hb.size ?_; intro g1 k1 w12 hown1 hg1 hb3 hat3))
            rw [bools_snocB] at hown1
            have HF2 : Hid ((fs ++ [b]).length = i + 1) := Lib.hid (by rw [List.length_append, HFS.out]; rfl)
            go_roundw
            case rel => exact ⟨i + 1, fs ++ [b], by omega, by go_num, HF2, hown1, hb.trans hb3⟩
            case measure => simp [intOf]; omega
          · have kI : ¬ (i : Int) < (bsz k : Int) := by omega
            obtain rfl : i = bsz k := by omega
            obtain ⟨FA, fc, rfl⟩ := own_slice hO
            have hfcap := (own_capb hO).1
            have oZ8 := own_below HZ7.out hb (Nat.le_refl _)
            have hB8 := HB7.out.trans (hb.mono HB7.out.size)
            go_wp2_with fail
            have hcall := BenesApply_any ZA zs zc FA fs fc wr (by rw [HZ.out]; exact Reads.of_own oZ8) (by rw [HZ.out]; omega) (by rw [HFS.out]; exact Reads.of_own hO) (by rw [HFS.out]; omega) (by rw [HFS.out]; exact hfcap)
            obtain ⟨t1, t2, t3⟩ := HBN.out fs HFS.out
            rw [HZ.out, HFS.out, t1, t3, t2] at hcall
            refine hcall.mono ?_
            rintro e w9 ⟨GA, gc, rfl, oG, b9⟩
            have HGL : Hid ((benF k zs fs).length = n) := Lib.hid (by rw [← t2]; exact t3)
            have HSR : Hid (srt (benF k zs fs) = srt zs) := Lib.hid (srt_congr (benF_perm k zs fs (by rw [HZ.out]; exact HN.out)))
            clear hcall t1 t2 t3 hfcap
            generalize benF k zs fs = ts at *
            have oZ9 := own_below oZ8 b9 (Nat.le_refl _)
            have hB9 := hB8.trans (b9.mono hB8.size)
            clear oZ8 hB8 hO hb b9
            go_wp2_with fail
            refine (vOrdered_b GA ts n gc w9 HGL.out (by omega) (Reads.of_own oG)).mono ?_
            rintro e w10 ⟨DA, dc, rfl, oD, b10⟩
            have oZ10 := own_below oZ9 b10 (Nat.le_refl _)
            have hB10 := hB9.trans (b10.mono hB9.size)
            clear oZ9 hB9 oG b10
            go_wp2_with fail
            refine (vOrdered_b ZA zs n zc w10 HZ.out (by omega) (Reads.of_own oZ10)).mono ?_
            rintro e w11 ⟨EA, ec, rfl, oE, b11⟩
            have oD11 := own_below oD b11 (Nat.le_refl _)
            have hB11 := hB10.trans (b11.mono hB10.size)
            rw [HSR.out] at oD11
            have HSL : Hid ((srt zs).length = n) := Lib.hid (by rw [srt_len]; exact HZ.out)
            clear oZ10 hB10 oD b11
            generalize srt zs = ss at *
            go_wp2_with (go_at_call 23; refine (vInts_n DA EA ss n dc ec w11 HSL.out (by omega) (Reads.of_own oD11) (Reads.of_own oE)).mono ?_; rintro e w12 ⟨rfl, n12, rfl⟩)
            go_ret
            exact ⟨rfl, below_drewN hB11 n12⟩
end Go.Proofs.Ytmeaipickolhfaa
