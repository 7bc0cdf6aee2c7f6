/- The walk of the law on networks. -/
import Derived.Test.YteigceeghnphmaaNetM
import Derived.Test.YteigceeghnphmaaVN
import Derived.Test.YteigceeghnphmaaDrawA
import Derived.Test.YteigceeghnphmaaApN
import Derived.Test.YteigceeghnphmaaFirst
import Derived.Deep.DeepCutAuto
namespace Go.Proofs.Yteigceeghnphmaa
open Go.RowKit
set_option linter.unusedVariables false
theorem own_bel {w w' : World} {base : Nat} {e : TypeId} {size n : Nat} {v : Value} {xs : List Value} (h : w.ownsRow base e size v n xs) (hb : Below w.heap.size w w') : w'.ownsRow base e size v n xs := own_below h hb (Nat.le_refl _)
theorem vOrdered_n (A : Option Addr) (zs : List Int) (n c : Nat) (w : World) (hn : zs.length = n) (hl : n ≤ 65536) (hx : Reads w w.heap.size 1 A n (ints zs)) :
    Calls Try.prog 36 #[.slice A n c] w fun e w' => ∃ D d, e = .returned (.slice D n d) ∧ w'.ownsRow w.heap.size 3 1 (.slice D n d) n (ints (srt zs)) ∧ Below w.heap.size w w' := by
  subst hn
  refine (vOrdered_any A zs c w hx (by omega)).mono ?_
  rintro e w' ⟨v, rfl, o, b⟩
  obtain ⟨D, d, rfl⟩ := own_slice o
  exact ⟨D, d, rfl, o, b⟩
theorem vInts_ne (A B : Option Addr) (xs ys : List Int) (n c d : Nat) (w : World) (hn : xs.length = n) (hm : ys.length = n) (hne : xs ≠ ys) (hl : n ≤ 65536) (hx : Reads w w.heap.size 1 A n (ints xs)) (hy : Reads w w.heap.size 1 B n (ints ys)) :
    Calls Try.prog 16 #[.slice A n c, .slice B n d] w fun e w' => e = .returned (.bool false) ∧ ∃ n, w' = w.drewN n := by
  subst hn
  rw [← hm] at hy ⊢
  rw [hm]
  rw [← hm] at hl
  refine (?_ : Calls Try.prog 16 #[.slice A xs.length c, .slice B xs.length d] w _)
  have h := vInts_any A B xs ys c d w hx hy (by omega) (by omega)
  rw [hm] at h
  refine h.mono ?_
  rintro e w' ⟨rfl, h⟩
  exact ⟨by simp [hne], h⟩
set_option maxRecDepth 100000 in
set_option maxHeartbeats 6400000 in
theorem FnNetwork_any (A : Option Addr) (bs : List Nat) (c : Nat) (w : World) (hr : Reads w w.heap.size 1 A bs.length (byts bs)) (hm : bs.length ≤ maxLen) (hbb : ∀ b ∈ bs, b ≤ 255) :
    Calls Try.prog 6 #[.slice A bs.length c] w fun e w' => e = .returned (.bool true) ∧ Below w.heap.size w w' := by
  have HVB := Lib.hid (fun w => vBig_any A bs.length c w hm)
  by_cases hbig : 65536 < bs.length
  case pos =>
    have HB := Lib.hid (show decide (65536 < bs.length) = true by simpa using hbig)
    clear hbig
    go_enter Try.func6, Try.ntmps6
    go_wp2_with (go_at_call 9; refine (HVB.out _).mono ?_; rintro e w' ⟨rfl, rfl⟩; rw [HB.out])
    go_ret
    exact ⟨rfl, Below.refl _ _⟩
  have hsm : bs.length ≤ 65536 := by omega
  have HB := Lib.hid (show decide (65536 < bs.length) = false by simpa using hbig)
  clear hbig
  have HD := Lib.hid (DrawFirstUnsorted_any A bs c w hr hbb hsm)
  have HDA := Lib.hid (fun w' (h : Below w.heap.size w w') => DrawApplyNetwork_any A bs c w' ((hr.below h).more h.size) hbb hsm)
  have HAT := Lib.hid (fun w' (h : Below w.heap.size w w') i (hi : i ≤ 1000) => vAt_any A bs c i w' ((hr.below h).more h.size) hbb hsm (by omega))
  have HLB := Lib.hid (fun i => atV_lt hbb i)
  clear hr hbb hsm
  have x1 : ∀ x : Int, (x != x) = false := by simp
  have x2 : ∀ x : Bool, (x != x) = false := by simp
  have x3 : ∀ x : Int, (x == x) = true := by simp
  obtain ⟨i0, hi, hz0, hz1, hz2⟩ := info_parts (show (Try.prog.info? 3).map (fun i => (i.zero, i.size, i.bytes)) = some (some (.int .i64 0), 1, 8) by kernel_rfl)
  go_enter Try.func6, Try.ntmps6
  go_wp2_with (go_at_call 9; refine (HVB.out _).mono ?_; rintro e w' ⟨rfl, rfl⟩; rw [HB.out])
  refine HD.out.mono ?_
  rintro e w1 ⟨W, D, cs, d, rfl, oC, hW, hl1, hsmc, hb1⟩
  clear hsmc
  have hN0 := Blk.new w1 26 #[.int .i64 W, .slice D cs.length d]
  have oC0 := oC.alloc (.cells #[.int .i64 W, .slice D cs.length d] 26)
  have hB0 := alloc_ hb1 (.cells #[.int .i64 W, .slice D cs.length d] 26)
  clear oC hb1
  obtain ⟨q0, q1⟩ := hN0.two
  have ql := hN0.lt
  go_wp2_with fail
  generalize w1.alloc (.cells #[.int .i64 W, .slice D cs.length d] 26) = w2 at *
  generalize w1.heap.size = gN at *
  refine (FirstUnsorted_any W D cs d _ (Reads.of_own oC0) (by omega)).mono ?_
  rintro e w3 ⟨rfl, b3⟩
  clear q0 q1 ql
  have hN1 := hN0.below b3 hN0.lt
  have oC1 := own_below oC0 b3 (Nat.le_refl _)
  have hB1 := hB0.trans (b3.mono hB0.size)
  clear hN0 oC0 hB0
  obtain ⟨q0, q1⟩ := hN1.two
  have ql := hN1.lt
  go_wp2_with fail
  refine (sFirstUnsorted_any W D cs d _ (Reads.of_own oC1) (by omega)).mono ?_
  rintro e w4 ⟨rfl, b4⟩
  clear q0 q1 ql
  have hN2 := hN1.below b4 hN1.lt
  have oC2 := own_below oC1 b4 (Nat.le_refl _)
  have hB2 := hB1.trans (b4.mono hB1.size)
  clear hN1 oC1 hB1
  have HCH : Hid (chkOk W cs = true → W ≤ 12 ∧ 1 ≤ W ∧ netOk W cs = true ∧ fuV W cs = fuL W.toNat cs) := Lib.hid (fun h => by
    have h2 := h
    simp only [chkOk, Bool.and_eq_true, decide_eq_true_eq] at h2
    exact ⟨h2.2, (netOk_parts h2.1).1, h2.1, by rw [fuV, if_pos h]⟩)
  have HNC : Hid (chkOk W cs = false → fuV W cs = 0) := Lib.hid (fun h => by rw [fuV, h]; rfl)
  obtain ⟨X, hX⟩ : ∃ X, fuV W cs = X := ⟨_, rfl⟩
  rw [hX] at HCH HNC ⊢
  obtain ⟨ck, hck⟩ : ∃ ck, chkOk W cs = ck := ⟨_, rfl⟩
  rw [hck] at HCH HNC ⊢
  clear hX hck
  obtain ⟨q0, q1⟩ := hN2.two
  have ql := hN2.lt
  go_upto_region 6 with fail
  go_cut [49] (fun v wc => v = .bool false ∧ Below w4.heap.size w4 wc)
  case first =>
    go_region_held3 (fun w' => w'.cell? ⟨gN, 0, none⟩ = some (.int .i64 W) ∧ w'.cell? ⟨gN, 1, none⟩ = some (.slice D cs.length d)) (exact (show Blk _ gN 26 #[.int .i64 W, .slice D cs.length d] from by (repeat' (first | with_reducible exact hN2 | with_reducible refine Blk.drew ?_ | with_reducible refine Blk.below_ ?_ bI | with_reducible refine Blk.below_ ?_ bS))).two)
      (first | (go_at_call 32; refine (IsValidNetwork_any W D cs d _ (Reads.of_own (show World.ownsRow _ w.heap.size 32 2 (.slice D cs.length d) cs.length (cmps cs) from by (repeat' (first | with_reducible exact oC2 | with_reducible refine own_drew_ ?_ | with_reducible refine own_bel ?_ bI | with_reducible refine own_bel ?_ bS)))) (by omega)).mono ?_; rintro e wI ⟨rfl, bI⟩) | (go_at_call 33; refine (sIsValidNetwork_any W D cs d _ (Reads.of_own (show World.ownsRow _ w.heap.size 32 2 (.slice D cs.length d) cs.length (cmps cs) from by (repeat' (first | with_reducible exact oC2 | with_reducible refine own_drew_ ?_ | with_reducible refine own_bel ?_ bI | with_reducible refine own_bel ?_ bS)))) (by omega)).mono ?_; rintro e wS ⟨rfl, bS⟩))
    all_goals
      go_wp2_with fail
      go_meet
      exact ⟨rfl, by (repeat' (first | with_reducible exact Below.refl _ _ | with_reducible refine bdrew ?_ | with_reducible refine bthen ?_ bS | with_reducible refine bthen ?_ bI))⟩
  case rest =>
    obtain ⟨rfl, b5⟩ := hcut
    clear q0 q1 ql
    have hN3 := hN2.below b5 hN2.lt
    have oC3 := own_below oC2 b5 (Nat.le_refl _)
    have hB3 := hB2.trans (b5.mono hB2.size)
    clear hN2 oC2 hB2
    go_wp2_with fail
    refine (HDA.out wc hB3).mono ?_
    rintro e w6 ⟨U, P, ds, p, E, zs, f, rfl, oP, oE, hU, hdl, hzl, b6⟩
    have hN4 := hN3.below b6 hN3.lt
    have oC4 := own_below oC3 b6 (Nat.le_refl _)
    have hB4 := hB3.trans (b6.mono hB3.size)
    clear hN3 oC3 hB3
    have hN5 := hN4.alloc (.cells #[.int .i64 U, .slice P ds.length p] 26)
    have oC5 := oC4.alloc (.cells #[.int .i64 U, .slice P ds.length p] 26)
    have hB5 := alloc_ hB4 (.cells #[.int .i64 U, .slice P ds.length p] 26)
    clear hN4 oC4 hB4
    have oP5 := oP.alloc (.cells #[.int .i64 U, .slice P ds.length p] 26)
    have oE5 := oE.alloc (.cells #[.int .i64 U, .slice P ds.length p] 26)
    have hM5 := Blk.new w6 26 #[.int .i64 U, .slice P ds.length p]
    clear oP oE
    obtain ⟨q0, q1⟩ := hM5.two
    have ql := hM5.lt
    go_wp2_with fail
    generalize w6.alloc (.cells #[.int .i64 U, .slice P ds.length p] 26) = w7 at *
    generalize hgM : w6.heap.size = gM at *
    clear hgM
    refine (ApplyNetwork_any U P ds p E zs f _ (Reads.of_own oP5) (by omega) (Reads.of_own oE5) (by omega)).mono ?_
    rintro e w8 ⟨A1, a1, rfl, oA, b8⟩
    clear q0 q1 ql
    have hN6 := hN5.below b8 hN5.lt
    have oC6 := own_below oC5 b8 (Nat.le_refl _)
    have hB6 := hB5.trans (b8.mono hB5.size)
    have oP6 := own_below oP5 b8 (Nat.le_refl _)
    have oE6 := own_below oE5 b8 (Nat.le_refl _)
    have hM6 := hM5.below b8 hM5.lt
    clear hN5 oC5 hB5 oP5 oE5 hM5
    have oA6 := oA
    clear oA
    obtain ⟨q0, q1⟩ := hM6.two
    have ql := hM6.lt
    go_wp2_with fail
    refine (sApplyNetwork_any U P ds p E zs f _ (Reads.of_own oP6) (by omega) (Reads.of_own oE6) (by omega)).mono ?_
    rintro e w9 ⟨A2, a2, rfl, oW, b9⟩
    clear q0 q1 ql
    have hN7 := hN6.below b9 hN6.lt
    have oC7 := own_below oC6 b9 (Nat.le_refl _)
    have hB7 := hB6.trans (b9.mono hB6.size)
    have oP7 := own_below oP6 b9 (Nat.le_refl _)
    have oE7 := own_below oE6 b9 (Nat.le_refl _)
    have hM7 := hM6.below b9 hM6.lt
    have oA7 := own_below oA6 b9 (Nat.le_refl _)
    clear hN6 oC6 hB6 oP6 oE6 hM6 oA6
    have oW7 := oW
    clear oW
    have hal := ap_len U ds zs
    have HSRT : Hid (apOk U ds zs = true → srt (apV U ds zs) = srt zs) := Lib.hid (fun h => by
      obtain ⟨h1, h2, h3⟩ := apOk_iff h
      rw [apV, if_pos h]
      exact srt_congr (netRun_perm zs.length ds (cs_rng h3.symm (netOk_parts h1).2.2.2) zs rfl))
    generalize apV U ds zs = out at *
    generalize apOk U ds zs = ao at *
    clear oP7 hM7
    go_upto_region 11 with fail
    go_cut [86] (fun v wc => v = .bool false ∧ Below w9.heap.size w9 wc)
    case first =>
      cases ao
      case false =>
        go_wp2_with fail
        refine (vInts_n A1 A2 out out.length a1 a2 w9 rfl (by omega) (Reads.of_own oA7) (Reads.of_own oW7)).mono ?_
        rintro e w10 ⟨rfl, n10, rfl⟩
        go_wp2_with fail
        go_meet
        exact ⟨rfl, below_drewN (Below.refl _ _) n10⟩
      case true =>
        have hss := HSRT.out rfl
        go_wp2_with fail
        refine (vInts_n A1 A2 out out.length a1 a2 w9 rfl (by omega) (Reads.of_own oA7) (Reads.of_own oW7)).mono ?_
        rintro e w10 ⟨rfl, n10, rfl⟩
        have hb10 : Below w9.heap.size w9 (w9.drewN n10) := below_drewN (Below.refl _ _) n10
        have oA10 := own_dn oA7 n10
        have oE10 := own_dn oE7 n10
        generalize w9.drewN n10 = w10 at *
        go_wp2_with fail
        refine (vOrdered_any A1 out a1 _ (Reads.of_own oA10) (by omega)).mono ?_
        rintro e w11 ⟨v1, rfl, oV1, b11⟩
        have oE11 := own_below oE10 b11 (Nat.le_refl _)
        have hb11 := hb10.trans (b11.mono hb10.size)
        go_wp2_with fail
        refine (vOrdered_any E zs f _ (Reads.of_own oE11) (by omega)).mono ?_
        rintro e w12 ⟨v2, rfl, oV2, b12⟩
        have oV12 := own_below oV1 b12 (Nat.le_refl _)
        have hb12 := hb11.trans (b12.mono hb11.size)
        rw [← hss] at oV2
        have hlen : zs.length = out.length := by have := congrArg List.length hss; rw [srt_len, srt_len] at this; exact this.symm
        have HLEN := Lib.hid hlen
        clear hss
        obtain ⟨V1, c1, rfl⟩ := own_slice oV12
        obtain ⟨V2, c2, rfl⟩ := own_slice oV2
        have hls : (srt out).length = out.length := srt_len out
        have HLS := Lib.hid hls
        rw [hlen] at oV2
        clear hls
        generalize zs.length = lz at *
        subst hlen
        go_wp2_with fail
        refine (vInts_n V1 V2 (srt out) out.length c1 c2 w12 HLS.out (by omega) (Reads.of_own oV12) (Reads.of_own oV2)).mono ?_
        rintro e w13 ⟨rfl, n13, rfl⟩
        go_wp2_with fail
        go_meet
        exact ⟨rfl, below_drewN hb12 n13⟩
    case rest =>
      obtain ⟨rfl, b14⟩ := hcut
      clear HSRT oA7 oW7 oE7
      have hN8 := hN7.below b14 hN7.lt
      have oC8 := own_below oC7 b14 (Nat.le_refl _)
      have hB8 := hB7.trans (b14.mono hB7.size)
      clear hN7 oC7 hB7
      cases ck
      case false =>
        have h0 := HNC.out rfl
        subst h0
        go_wp2_with fail
        go_ret
        exact ⟨rfl, hB8⟩
      case true =>
        obtain ⟨g1, g2, g3, g4⟩ := HCH.out rfl
        obtain ⟨N, rfl⟩ := Int.eq_ofNat_of_zero_le (show 0 ≤ W by omega)
        have HG3 := Lib.hid g3; have HG4 := Lib.hid g4
        have HXD : Hid (X = -1 ∨ ∃ m : Nat, X = m ∧ m < 2 ^ N ∧ ascB (netRun cs (binL m N)) = false) := Lib.hid (by
          rcases fu_dich N cs with h | h
          · left; rw [g4]; exact h
          · right
            obtain ⟨m, h1, h2, h3⟩ := fu_bad h
            exact ⟨m, by rw [g4]; exact h1, h2, h3⟩)
        clear g3 g4 HCH HNC
        have hb14 := hB8
        have ho1 := (made_at (w := wc) (base := wc.heap.size) (g := wc.heap.size) (size := 1) (e := 3) (Nat.le_refl _) rfl).alloc (.cells #[] 3)
        have ho2 := made_at (w := wc.alloc (.cells #[] 3)) (base := wc.heap.size) (g := wc.heap.size + 1) (size := 1) (e := 3) (by simp) (by simp)
        have hb0 := alloc_ (alloc_ (Below.refl wc.heap.size wc) (.cells #[] 3)) (.cells #[] 3)
        go_wp2_with fail
        go_loopw [14, 15, 16] (fun vb vk vi wr => ∃ (k gB cB gK cK : Nat) (ys zs : List Int), k ≤ N ∧ vi = .int .i64 (k : Nat) ∧ vb = .slice (some ⟨gB, 0, none⟩) k cB ∧ vk = .slice (some ⟨gK, 0, none⟩) k cK ∧ gB ≠ gK ∧ Hid (ys.length = k) ∧ Hid (zs.length = k) ∧ Hid (∀ m : Nat, X = m → m < 4611686018427387904 → ys = binL m k) ∧ Hid (∀ x ∈ zs, 0 ≤ x ∧ x ≤ 255) ∧
          wr.ownsRow wc.heap.size 3 1 (.slice (some ⟨gB, 0, none⟩) k cB) k (ints ys) ∧ wr.ownsRow wc.heap.size 3 1 (.slice (some ⟨gK, 0, none⟩) k cK) k (ints zs) ∧ Below wc.heap.size wc wr) (fun _ _ vi _ => N - (intOf vi).toNat)
        case atStart => exact ⟨0, _, 0, _, 0, [], [], by omega, rfl, rfl, rfl, by omega, Lib.hid rfl, Lib.hid rfl, Lib.hid (fun _ _ _ => rfl), Lib.hid (fun x hx => by cases hx), ho1, ho2, hb0⟩
        case round =>
          clear ho1 ho2 hb0
          obtain ⟨k, gB, cB, gK, cK, ys, zs, hk, rfl, rfl, rfl, hne, HY, HZ, HYM, HZB, oB, oK, hb⟩ := hrel
          have hkr := hN8.below hb hN8.lt
          obtain ⟨r0, r1⟩ := hkr.two
          have rl := hkr.lt
          by_cases hlt : k < N
          · clear hkr
            have kI : (k : Int) < (N : Int) := by omega
            have HE2 : Hid ((k : Int) + 3 = ((k + 3 : Nat) : Int)) := Lib.hid (by omega)
            have hxb := HLB.out (k + 3)
            obtain ⟨z, hz⟩ : ∃ z, bits .and .i64 (X / 2 ^ k) 1 = z := ⟨_, rfl⟩
            have HYM2 : Hid (∀ m : Nat, X = m → m < 4611686018427387904 → ys ++ [z] = binL m (k + 1)) := Lib.hid (fun m hm hm2 => by
              rw [binL_succ, HYM.out m hm hm2]
              congr 2
              rw [← hz, hm]
              exact and1_bit m k hm2)
            go_upto_region 20 with (at_builtin; refine wpList_push _ rfl _ _ 33 rfl wc.heap.size 3 i0 _ 1 8 Try.underlying33 hi hz0 hz1 hz2 rfl (by decide) (.slice (some ⟨gB, 0, none⟩) k cB) _ _ rfl oB #[.int .i64 z] rfl rfl (by simp [Value.oneCell']) (by omega) (by unfold maxLen; omega) hb.size ?_; intro g1 k1 w15 o1 hg1 hb15 at1)
            rw [ints_snoc] at o1
            have oK1 := own_kept oK hg1 (by simp only [Value.ownBlock]; intro e; exact hne (Option.some.inj e).symm)
            have hne1 : g1 ≠ gK := by
              intro e
              rcases at1 with h | h
              · have : gB = g1 := by simpa [Value.ownBlock] using h
                exact hne (this.trans e)
              · have := (own_lt oK gK rfl).2; omega
            have hb16 := hb.trans hb15
            have HA := Lib.hid (HAT.out w15 (hb14.trans (hb16.mono hb14.size)) (k + 3) (by omega))
            generalize atV bs (k + 3) = x at *
            clear hz hg1 hb15 at1 oB oK hb
            go_wp2_with (first
              | (go_at_call 28; rw [HE2.out]; refine HA.out.mono ?_; rintro e w' ⟨rfl, rfl⟩)
              | (at_builtin; refine wpList_push _ rfl _ _ 33 rfl wc.heap.size 3 i0 _ 1 8 Try.underlying33 hi hz0 hz1 hz2 rfl (by decide) (.slice (some ⟨gK, 0, none⟩) k cK) _ _ rfl oK1 #[.int .i64 (x : Int)] rfl rfl (by simp [Value.oneCell']) (by omega) (by unfold maxLen; omega) hb16.size ?_; intro g2 k2 w17 o2 hg2 hb17 at2))
            rw [ints_snoc] at o2
            have oB2 := own_kept o1 hg2 (by simp only [Value.ownBlock]; intro e; exact hne1 (Option.some.inj e))
            have hne2 : g1 ≠ g2 := by
              intro e
              rcases at2 with h | h
              · have : gK = g2 := by simpa [Value.ownBlock] using h
                exact hne1 (e.trans this.symm)
              · have := (own_lt o1 g1 rfl).2; omega
            have HY2 : Hid ((ys ++ [z]).length = k + 1) := Lib.hid (by rw [List.length_append, HY.out]; rfl)
            have HZ2 : Hid ((zs ++ [(x : Int)]).length = k + 1) := Lib.hid (by rw [List.length_append, HZ.out]; rfl)
            have HZB2 : Hid (∀ y ∈ zs ++ [(x : Int)], 0 ≤ y ∧ y ≤ 255) := Lib.hid (fun y hy => by
              rcases List.mem_append.1 hy with h | h
              · exact HZB.out y h
              · rw [List.mem_singleton.1 h]; omega)
            go_roundw
            case rel => exact ⟨k + 1, g1, k1, g2, k2, ys ++ [z], zs ++ [(x : Int)], by omega, by go_num, rfl, rfl, hne2, HY2, HZ2, HYM2, HZB2, oB2, o2, hb16.trans hb17⟩
            case measure => simp [intOf]; omega
          · obtain rfl : k = N := by omega
            have kI : ¬ (k : Int) < (k : Int) := by omega
            have oCr := own_below oC8 hb (Nat.le_refl _)
            have hBr := hb14.trans (hb.mono hb14.size)
            rcases HXD.out with hX | ⟨m, hX, hm, hasc⟩
            · have X0 : X < 0 := by omega
              have HVL : Hid (vList zs = true) := Lib.hid (by
                simp only [vList, Bool.and_eq_true, decide_eq_true_eq, List.all_eq_true]
                exact ⟨by rw [HZ.out]; omega, fun y hy => inB_iff.2 (by have := HZB.out y hy; omega)⟩)
              have HSS : Hid (netRun cs zs = srt zs) := Lib.hid (fu_sorts (netOk_parts HG3.out).2.2.2 (by have := HG4.out; rw [hX] at this; exact this.symm) zs HZ.out)
              clear hX
              go_wp2_with fail
              refine (ApplyNetwork_n k k D cs d (some ⟨gK, 0, none⟩) zs cK _ HG3.out HVL.out HZ.out rfl (Reads.of_own oCr) (Reads.of_own oK)).mono ?_
              rintro e w20 ⟨A3, a3, rfl, oS, b20⟩
              rw [HSS.out] at oS
              have oK20 := own_below oK b20 (Nat.le_refl _)
              have hB20 := hBr.trans (b20.mono hBr.size)
              have HVO := Lib.hid (vOrdered_n (some ⟨gK, 0, none⟩) zs k cK w20 HZ.out (by omega) (Reads.of_own oK20))
              go_wp2_with fail
              refine HVO.out.mono ?_
              rintro e w21 ⟨V1, c1, rfl, oV1, b21⟩
              have oS21 := own_below oS b21 (Nat.le_refl _)
              have hB21 := hB20.trans (b21.mono hB20.size)
              have HLS : Hid ((srt zs).length = k) := Lib.hid (by rw [srt_len]; exact HZ.out)
              go_wp2_with fail
              refine (vInts_n A3 V1 (srt zs) k a3 c1 w21 HLS.out (by omega) (Reads.of_own oS21) (Reads.of_own oV1)).mono ?_
              rintro e w22 ⟨rfl, n22, rfl⟩
              go_wp2_with fail
              go_ret
              exact ⟨rfl, below_drewN hB21 n22⟩
            · have X0 : ¬ X < 0 := by omega
              have hm2 : m < 4611686018427387904 := Nat.lt_of_lt_of_le hm (Nat.le_trans (Nat.pow_le_pow_right (n := 2) (by omega) (show k ≤ 12 by omega)) (by decide))
              have HYB := Lib.hid (HYM.out m hX hm2)
              have HVL : Hid (vList ys = true) := Lib.hid (by
                rw [HYB.out]
                simp only [vList, Bool.and_eq_true, decide_eq_true_eq, List.all_eq_true]
                refine ⟨by rw [binL_len]; omega, fun y hy => inB_iff.2 ?_⟩
                simp only [binL, List.mem_map] at hy
                obtain ⟨i, _, rfl⟩ := hy
                have := bitI_01 m i
                omega)
              have HNE : Hid (netRun cs ys ≠ srt ys) := Lib.hid (fun h => by
                rw [HYB.out] at h
                rw [h, pair_asc (srt_pair _)] at hasc
                cases hasc)
              clear hX hm hasc
              go_wp2_with fail
              refine (ApplyNetwork_n k k D cs d (some ⟨gB, 0, none⟩) ys cB _ HG3.out HVL.out HY.out rfl (Reads.of_own oCr) (Reads.of_own oB)).mono ?_
              rintro e w20 ⟨A3, a3, rfl, oS, b20⟩
              have oB20 := own_below oB b20 (Nat.le_refl _)
              have hB20 := hBr.trans (b20.mono hBr.size)
              have HVO := Lib.hid (vOrdered_n (some ⟨gB, 0, none⟩) ys k cB w20 HY.out (by omega) (Reads.of_own oB20))
              go_wp2_with fail
              refine HVO.out.mono ?_
              rintro e w21 ⟨V1, c1, rfl, oV1, b21⟩
              have oS21 := own_below oS b21 (Nat.le_refl _)
              have hB21 := hB20.trans (b21.mono hB20.size)
              have HLS : Hid ((srt ys).length = k) := Lib.hid (by rw [srt_len]; exact HY.out)
              have HLR : Hid ((netRun cs ys).length = k) := Lib.hid (by rw [netRun_len]; exact HY.out)
              go_wp2_with fail
              refine (vInts_ne A3 V1 (netRun cs ys) (srt ys) k a3 c1 w21 HLR.out HLS.out HNE.out (by omega) (Reads.of_own oS21) (Reads.of_own oV1)).mono ?_
              rintro e w22 ⟨rfl, n22, rfl⟩
              go_wp2_with fail
              go_ret
              exact ⟨rfl, below_drewN hB21 n22⟩
end Go.Proofs.Yteigceeghnphmaa
