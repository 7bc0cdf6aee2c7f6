/- The walk of the law on edits of networks. -/
import Derived.Test.YtkhfilkikpiepaaCatM
import Derived.Test.YtkhfilkikpiepaaCat
import Derived.Test.YtkhfilkikpiepaaDrawE
import Derived.Test.YtkhfilkikpiepaaDrawD
import Derived.Test.YtkhfilkikpiepaaApN
import Derived.Test.YtkhfilkikpiepaaFirst
import Derived.Test.YtkhfilkikpiepaaDrop
import Derived.Deep.DeepCutAuto
namespace Go.Proofs.Ytkhfilkikpiepaa
open Go.RowKit
set_option linter.unusedVariables false
theorem vList_perm {l m : List Int} (h : l.Perm m) (hv : vList m = true) : vList l = true := by
  simp only [vList, Bool.and_eq_true, decide_eq_true_eq, List.all_eq_true] at hv ⊢
  exact ⟨by rw [h.length_eq]; exact hv.1, fun y hy => hv.2 y (h.mem_iff.1 hy)⟩
set_option maxRecDepth 100000 in
set_option maxHeartbeats 6400000 in
theorem FnNetworkEdits_any (A : Option Addr) (bs : List Nat) (c : Nat) (w : World) (hr : Reads w w.heap.size 1 A bs.length (byts bs)) (hm : bs.length ≤ maxLen) (hbb : ∀ b ∈ bs, b ≤ 255) :
    Calls Try.prog 4 #[.slice A bs.length c] w fun e w' => e = .returned (.bool true) ∧ Below w.heap.size w w' := by
  have HVB := Lib.hid (fun w => vBig_any A bs.length c w hm)
  by_cases hbig : 65536 < bs.length
  case pos =>
    have HB := Lib.hid (show decide (65536 < bs.length) = true by simpa using hbig)
    clear hbig
    go_enter Try.func4, Try.ntmps4
    go_wp2_with (go_at_call 12; refine (HVB.out _).mono ?_; rintro e w' ⟨rfl, rfl⟩; rw [HB.out])
    go_ret
    exact ⟨rfl, Below.refl _ _⟩
  have hsm : bs.length ≤ 65536 := by omega
  have HB := Lib.hid (show decide (65536 < bs.length) = false by simpa using hbig)
  clear hbig
  have HD := Lib.hid (DrawConcatNetworks_any A bs c w hr hbb hsm)
  have HDD := Lib.hid (fun w' (h : Below w.heap.size w w') => DrawDropWire_any A bs c w' ((hr.below h).more h.size) hbb hsm)
  have HAT := Lib.hid (fun w' (h : Below w.heap.size w w') i (hi : i ≤ 1000) => vAt_any A bs c i w' ((hr.below h).more h.size) hbb hsm (by omega))
  have HLB := Lib.hid (fun i => atV_lt hbb i)
  clear hr hbb hsm
  have x1 : ∀ x : Int, (x != x) = false := by simp
  have x2 : ∀ x : Bool, (x != x) = false := by simp
  have x3 : ∀ x : Int, (x == x) = true := by simp
  obtain ⟨i0, hi, hz0, hz1, hz2⟩ := info_parts (show (Try.prog.info? 3).map (fun i => (i.zero, i.size, i.bytes)) = some (some (.int .i64 0), 1, 8) by kernel_rfl)
  go_enter Try.func4, Try.ntmps4
  go_wp2_with (go_at_call 12; refine (HVB.out _).mono ?_; rintro e w' ⟨rfl, rfl⟩; rw [HB.out])
  refine HD.out.mono ?_
  rintro e w1 ⟨W, D, cs, d, V, E, ds, f, rfl, oC, oD, hl1, hl2, hb1⟩
  have hA0 := (Blk.new w1 28 #[.int .i64 W, .slice D cs.length d]).alloc (.cells #[.int .i64 V, .slice E ds.length f] 28)
  have hE0 := blk_new_at (w := w1.alloc (.cells #[.int .i64 W, .slice D cs.length d] 28)) (g := w1.heap.size + 1) (t := 28) (cs := #[.int .i64 V, .slice E ds.length f]) (by simp)
  have oC0 := (oC.alloc (.cells #[.int .i64 W, .slice D cs.length d] 28)).alloc (.cells #[.int .i64 V, .slice E ds.length f] 28)
  have oD0 := (oD.alloc (.cells #[.int .i64 W, .slice D cs.length d] 28)).alloc (.cells #[.int .i64 V, .slice E ds.length f] 28)
  have hB0 := alloc_ (alloc_ hb1 (.cells #[.int .i64 W, .slice D cs.length d] 28)) (.cells #[.int .i64 V, .slice E ds.length f] 28)
  clear oC oD hb1
  obtain ⟨q0, q1⟩ := hA0.two
  have ql := hA0.lt
  obtain ⟨r0, r1⟩ := hE0.two
  have rl := hE0.lt
  go_wp2_with fail
  generalize (w1.alloc (.cells #[.int .i64 W, .slice D cs.length d] 28)).alloc (.cells #[.int .i64 V, .slice E ds.length f] 28) = w2 at *
  generalize w1.heap.size = gA at *
  refine (ConcatNetworks_any W D cs d V E ds f _ (Reads.of_own oC0) (by omega) (Reads.of_own oD0) (by omega)).mono ?_
  rintro e w3 ⟨G, g, rfl, oG, b3⟩
  clear q0 q1 ql r0 r1 rl
  have hA1 := hA0.below b3 hA0.lt
  have hE1 := hE0.below b3 hE0.lt
  have oC1 := own_below oC0 b3 (Nat.le_refl _)
  have oD1 := own_below oD0 b3 (Nat.le_refl _)
  have hB1 := hB0.trans (b3.mono hB0.size)
  clear hA0 hE0 oC0 oD0 hB0
  have hA2 := hA1.alloc (.cells #[.int .i64 (ccW W V cs ds), .slice G (ccV W V cs ds).length g] 28)
  have hE2 := hE1.alloc (.cells #[.int .i64 (ccW W V cs ds), .slice G (ccV W V cs ds).length g] 28)
  have oC2 := oC1.alloc (.cells #[.int .i64 (ccW W V cs ds), .slice G (ccV W V cs ds).length g] 28)
  have oD2 := oD1.alloc (.cells #[.int .i64 (ccW W V cs ds), .slice G (ccV W V cs ds).length g] 28)
  have hB2 := alloc_ hB1 (.cells #[.int .i64 (ccW W V cs ds), .slice G (ccV W V cs ds).length g] 28)
  clear hA1 hE1 oC1 oD1 hB1
  have oG2 := oG.alloc (.cells #[.int .i64 (ccW W V cs ds), .slice G (ccV W V cs ds).length g] 28)
  have hG2 := Blk.new w3 28 #[.int .i64 (ccW W V cs ds), .slice G (ccV W V cs ds).length g]
  clear oG
  obtain ⟨q0, q1⟩ := hA2.two
  have ql := hA2.lt
  obtain ⟨r0, r1⟩ := hE2.two
  have rl := hE2.lt
  go_wp2_with fail
  generalize w3.alloc (.cells #[.int .i64 (ccW W V cs ds), .slice G (ccV W V cs ds).length g] 28) = w4 at *
  generalize w3.heap.size = gG at *
  refine (sConcatNetworks_any W D cs d V E ds f _ (Reads.of_own oC2) (by omega) (Reads.of_own oD2) (by omega)).mono ?_
  rintro e w5 ⟨H, h, rfl, oH, b5⟩
  clear q0 q1 ql r0 r1 rl
  have hA3 := hA2.below b5 hA2.lt
  have hE3 := hE2.below b5 hE2.lt
  have oC3 := own_below oC2 b5 (Nat.le_refl _)
  have oD3 := own_below oD2 b5 (Nat.le_refl _)
  have hB3 := hB2.trans (b5.mono hB2.size)
  have oG3 := own_below oG2 b5 (Nat.le_refl _)
  have hG3 := hG2.below b5 hG2.lt
  clear hA2 hE2 oC2 oD2 hB2 oG2 hG2
  have hA4 := hA3.alloc (.cells #[.int .i64 (ccW W V cs ds), .slice H (ccV W V cs ds).length h] 28)
  have hE4 := hE3.alloc (.cells #[.int .i64 (ccW W V cs ds), .slice H (ccV W V cs ds).length h] 28)
  have oC4 := oC3.alloc (.cells #[.int .i64 (ccW W V cs ds), .slice H (ccV W V cs ds).length h] 28)
  have oD4 := oD3.alloc (.cells #[.int .i64 (ccW W V cs ds), .slice H (ccV W V cs ds).length h] 28)
  have hB4 := alloc_ hB3 (.cells #[.int .i64 (ccW W V cs ds), .slice H (ccV W V cs ds).length h] 28)
  have oG4 := oG3.alloc (.cells #[.int .i64 (ccW W V cs ds), .slice H (ccV W V cs ds).length h] 28)
  have hG4 := hG3.alloc (.cells #[.int .i64 (ccW W V cs ds), .slice H (ccV W V cs ds).length h] 28)
  clear hA3 hE3 oC3 oD3 hB3 oG3 hG3
  have oH4 := oH.alloc (.cells #[.int .i64 (ccW W V cs ds), .slice H (ccV W V cs ds).length h] 28)
  have hH4 := Blk.new w5 28 #[.int .i64 (ccW W V cs ds), .slice H (ccV W V cs ds).length h]
  clear oH
  have hvl := cc_len W V cs ds
  have HCC : Hid (ccOk W V cs ds = true → netOk W cs = true ∧ netOk V ds = true ∧ W = V ∧ netOk W (ccV W V cs ds) = true ∧ ccV W V cs ds = cs ++ ds ∧ ccW W V cs ds = W) := Lib.hid (fun h => by
    obtain ⟨h1, h2, h3, h4⟩ := ccOk_parts h
    have h5 : ccV W V cs ds = cs ++ ds := by rw [ccV, if_pos h]
    exact ⟨h1, h2, h3, by rw [h5]; exact h4, h5, by rw [ccW, if_pos h]⟩)
  generalize ccV W V cs ds = vs at *
  generalize ccW W V cs ds = Y at *
  generalize ccOk W V cs ds = ok at *
  obtain ⟨q0, q1⟩ := hG4.two
  have ql := hG4.lt
  obtain ⟨r0, r1⟩ := hH4.two
  have rl := hH4.lt
  go_wp2_with fail
  generalize w5.alloc (.cells #[.int .i64 Y, .slice H vs.length h] 28) = w6 at *
  generalize w5.heap.size = gH at *
  refine (vNetwork_same Y G H vs g h _ (Reads.of_own oG4) (Reads.of_own oH4) (by omega)).mono ?_
  rintro e w7 ⟨rfl, b7⟩
  clear q0 q1 ql r0 r1 rl
  have hA5 := hA4.below b7 hA4.lt
  have hE5 := hE4.below b7 hE4.lt
  have oC5 := own_below oC4 b7 (Nat.le_refl _)
  have oD5 := own_below oD4 b7 (Nat.le_refl _)
  have hB5 := hB4.trans (b7.mono hB4.size)
  have oG5 := own_below oG4 b7 (Nat.le_refl _)
  have hG5 := hG4.below b7 hG4.lt
  have oH5 := own_below oH4 b7 (Nat.le_refl _)
  have hH5 := hH4.below b7 hH4.lt
  clear hA4 hE4 oC4 oD4 hB4 oG4 hG4 oH4 hH4
  clear oH5 hH5
  cases ok
  case false =>
    clear HCC hA5 hE5 oC5 oD5 oG5 hG5
    go_wp2_with fail
    refine (HDD.out _ hB5).mono ?_
    rintro e w30 ⟨U, P, es, p, x, rfl, oP, hU, hpl, b30⟩
    have hB9 := hB5.trans (b30.mono hB5.size)
    have hP0 := Blk.new w30 28 #[.int .i64 U, .slice P es.length p]
    have oP0 := oP.alloc (.cells #[.int .i64 U, .slice P es.length p] 28)
    have hB0 := alloc_ hB9 (.cells #[.int .i64 U, .slice P es.length p] 28)
    clear oP hB9
    obtain ⟨q0, q1⟩ := hP0.two
    have ql := hP0.lt
    go_wp2_with fail
    generalize w30.alloc (.cells #[.int .i64 U, .slice P es.length p] 28) = w31 at *
    generalize w30.heap.size = gP at *
    refine (DropWire_any U P es p x _ (Reads.of_own oP0) (by omega)).mono ?_
    rintro e w32 ⟨Q, q, rfl, oQ, b32⟩
    clear q0 q1 ql
    have hP1 := hP0.below b32 hP0.lt
    have oP1 := own_below oP0 b32 (Nat.le_refl _)
    have hB1 := hB0.trans (b32.mono hB0.size)
    clear hP0 oP0 hB0
    have hP2 := hP1.alloc (.cells #[.int .i64 (dwW U es x), .slice Q (dwV U es x).length q] 28)
    have oP2 := oP1.alloc (.cells #[.int .i64 (dwW U es x), .slice Q (dwV U es x).length q] 28)
    have hB2 := alloc_ hB1 (.cells #[.int .i64 (dwW U es x), .slice Q (dwV U es x).length q] 28)
    clear hP1 oP1 hB1
    have oQ2 := oQ.alloc (.cells #[.int .i64 (dwW U es x), .slice Q (dwV U es x).length q] 28)
    have hQ2 := Blk.new w32 28 #[.int .i64 (dwW U es x), .slice Q (dwV U es x).length q]
    clear oQ
    obtain ⟨q0, q1⟩ := hP2.two
    have ql := hP2.lt
    go_wp2_with fail
    generalize w32.alloc (.cells #[.int .i64 (dwW U es x), .slice Q (dwV U es x).length q] 28) = w33 at *
    generalize w32.heap.size = gQ at *
    refine (sDropWire_any U P es p x _ (Reads.of_own oP2) (by omega)).mono ?_
    rintro e w34 ⟨R, r, rfl, oR, b34⟩
    clear q0 q1 ql
    have hP3 := hP2.below b34 hP2.lt
    have oP3 := own_below oP2 b34 (Nat.le_refl _)
    have hB3 := hB2.trans (b34.mono hB2.size)
    have oQ3 := own_below oQ2 b34 (Nat.le_refl _)
    have hQ3 := hQ2.below b34 hQ2.lt
    clear hP2 oP2 hB2 oQ2 hQ2
    have hP4 := hP3.alloc (.cells #[.int .i64 (dwW U es x), .slice R (dwV U es x).length r] 28)
    have oP4 := oP3.alloc (.cells #[.int .i64 (dwW U es x), .slice R (dwV U es x).length r] 28)
    have hB4 := alloc_ hB3 (.cells #[.int .i64 (dwW U es x), .slice R (dwV U es x).length r] 28)
    have oQ4 := oQ3.alloc (.cells #[.int .i64 (dwW U es x), .slice R (dwV U es x).length r] 28)
    have hQ4 := hQ3.alloc (.cells #[.int .i64 (dwW U es x), .slice R (dwV U es x).length r] 28)
    clear hP3 oP3 hB3 oQ3 hQ3
    have oR4 := oR.alloc (.cells #[.int .i64 (dwW U es x), .slice R (dwV U es x).length r] 28)
    have hR4 := Blk.new w34 28 #[.int .i64 (dwW U es x), .slice R (dwV U es x).length r]
    clear oR
    have hdl : (dwV U es x).length ≤ 4096 := by
      unfold dwV
      split
      · exact Nat.le_trans (dwT_len _ _) hpl
      · simp
    generalize dwV U es x = fs at *
    generalize dwW U es x = Y2 at *
    generalize dwOk U es x = ok2 at *
    obtain ⟨q0, q1⟩ := hQ4.two
    have ql := hQ4.lt
    obtain ⟨s0, s1⟩ := hR4.two
    have sl := hR4.lt
    go_wp2_with fail
    generalize w34.alloc (.cells #[.int .i64 Y2, .slice R fs.length r] 28) = w35 at *
    generalize w34.heap.size = gR at *
    refine (vNetwork_same Y2 Q R fs q r _ (Reads.of_own oQ4) (Reads.of_own oR4) (by omega)).mono ?_
    rintro e w36 ⟨rfl, b36⟩
    clear q0 q1 ql s0 s1 sl
    have hP5 := hP4.below b36 hP4.lt
    have oP5 := own_below oP4 b36 (Nat.le_refl _)
    have hB5 := hB4.trans (b36.mono hB4.size)
    have oQ5 := own_below oQ4 b36 (Nat.le_refl _)
    have hQ5 := hQ4.below b36 hQ4.lt
    have oR5 := own_below oR4 b36 (Nat.le_refl _)
    have hR5 := hR4.below b36 hR4.lt
    clear hP4 oP4 hB4 oQ4 hQ4 oR4 hR4
    clear hQ5 hR5 oQ5 oR5
    obtain ⟨q0, q1⟩ := hP5.two
    have ql := hP5.lt
    go_wp2_with fail
    refine (DropWire_any U P es p (U - 1) _ (Reads.of_own oP5) (by omega)).mono ?_
    rintro e w37 ⟨L, l, rfl, oL, b37⟩
    clear q0 q1 ql
    have hP6 := hP5.below b37 hP5.lt
    have oP6 := own_below oP5 b37 (Nat.le_refl _)
    have hB6 := hB5.trans (b37.mono hB5.size)
    clear hP5 oP5 hB5
    have hP7 := hP6.alloc (.cells #[.int .i64 (dwW U es (U - 1)), .slice L (dwV U es (U - 1)).length l] 28)
    have oP7 := oP6.alloc (.cells #[.int .i64 (dwW U es (U - 1)), .slice L (dwV U es (U - 1)).length l] 28)
    have hB7 := alloc_ hB6 (.cells #[.int .i64 (dwW U es (U - 1)), .slice L (dwV U es (U - 1)).length l] 28)
    clear hP6 oP6 hB6
    have oL7 := oL.alloc (.cells #[.int .i64 (dwW U es (U - 1)), .slice L (dwV U es (U - 1)).length l] 28)
    have hL7 := Blk.new w37 28 #[.int .i64 (dwW U es (U - 1)), .slice L (dwV U es (U - 1)).length l]
    clear oL
    have hll : (dwV U es (U - 1)).length ≤ 4096 := by
      unfold dwV
      split
      · exact Nat.le_trans (dwT_len _ _) hpl
      · simp
    have HF := Lib.hid (fun (a : dwOk U es (U - 1) = true) (b : chkOk U es = true) (e : fuV U es = -1) => drop_sorts a b e)
    generalize dwV U es (U - 1) = gs at *
    generalize dwW U es (U - 1) = Y3 at *
    generalize dwOk U es (U - 1) = fine at *
    obtain ⟨q0, q1⟩ := hP7.two
    have ql := hP7.lt
    go_wp2_with fail
    generalize w37.alloc (.cells #[.int .i64 Y3, .slice L gs.length l] 28) = w38 at *
    generalize w37.heap.size = gL at *
    refine (FirstUnsorted_any U P es p _ (Reads.of_own oP7) (by omega)).mono ?_
    rintro e w39 ⟨rfl, b39⟩
    clear q0 q1 ql
    have hP8 := hP7.below b39 hP7.lt
    have oP8 := own_below oP7 b39 (Nat.le_refl _)
    have hB8 := hB7.trans (b39.mono hB7.size)
    have oL8 := own_below oL7 b39 (Nat.le_refl _)
    have hL8 := hL7.below b39 hL7.lt
    clear hP7 oP7 hB7 oL7 hL7
    obtain ⟨q0, q1⟩ := hL8.two
    have ql := hL8.lt
    go_wp2_with fail
    refine (FirstUnsorted_any Y3 L gs l _ (Reads.of_own oL8) (by omega)).mono ?_
    rintro e w40 ⟨rfl, b40⟩
    clear q0 q1 ql
    have hP9 := hP8.below b40 hP8.lt
    have oP9 := own_below oP8 b40 (Nat.le_refl _)
    have hB9 := hB8.trans (b40.mono hB8.size)
    have oL9 := own_below oL8 b40 (Nat.le_refl _)
    have hL9 := hL8.below b40 hL8.lt
    clear hP8 oP8 hB8 oL8 hL8
    have HFIN := Lib.hid hB9
    clear hP9 oP9 hB9 oL9 hL9
    generalize fuV U es = X1 at *
    generalize fuV Y3 gs = X2 at *
    generalize chkOk U es = one at *
    generalize chkOk Y3 gs = two at *
    cases fine
    case false =>
      go_wp2_with fail
      go_ret
      exact ⟨rfl, HFIN.out⟩
    case true =>
      cases one
      case false =>
        go_wp2_with fail
        go_ret
        exact ⟨rfl, HFIN.out⟩
      case true =>
        by_cases hX : X1 = -1
        case neg =>
          have hX2 : (X1 != -1) = true := by simpa using hX
          go_wp2_with fail
          go_ret
          exact ⟨rfl, HFIN.out⟩
        case pos =>
          obtain ⟨h1, h2⟩ := HF.out rfl rfl hX
          subst h1 h2 hX
          go_wp2_with fail
          go_ret
          exact ⟨rfl, HFIN.out⟩
  case true =>
    obtain ⟨c1, c2, hWV, c4, hvs, hY⟩ := HCC.out rfl
    clear HCC
    subst hWV
    have hY2 := hY.symm
    subst hY2
    clear hY
    obtain ⟨w1a, w1b, -, -⟩ := netOk_parts c1
    obtain ⟨N, rfl⟩ := Int.eq_ofNat_of_zero_le (show 0 ≤ W by omega)
    have HC1 := Lib.hid c1; have HC2 := Lib.hid c2; have HC4 := Lib.hid c4; have HVS := Lib.hid hvs
    have HN : Hid (∀ zs : List Int, zs.length = N → (netRun cs zs).Perm zs) := Lib.hid (fun zs hz => netRun_perm N cs (cs_rng rfl (netOk_parts c1).2.2.2) zs hz)
    clear c1 c2 c4 hvs
    have ho := made_at (w := w7) (base := w7.heap.size) (g := w7.heap.size) (size := 1) (e := 3) (Nat.le_refl _) rfl
    have hb0 := alloc_ (Below.refl w7.heap.size w7) (.cells #[] 3)
    have HHB := Lib.hid hB5
    go_wp2_with fail
    go_loopw [9, 10] (fun v vi wr => ∃ (k : Nat) (zs : List Int), k ≤ N ∧ vi = .int .i64 (k : Nat) ∧ Hid (zs.length = k) ∧ Hid (∀ x ∈ zs, 0 ≤ x ∧ x ≤ 255) ∧ wr.ownsRow w7.heap.size 3 1 v k (ints zs) ∧ Below w7.heap.size w7 wr) (fun _ vi _ => N - (intOf vi).toNat)
    case atStart => exact ⟨0, [], by omega, rfl, Lib.hid rfl, Lib.hid (fun x hx => by cases hx), ho, hb0⟩
    case round =>
      clear ho hb0
      obtain ⟨k, zs, hk, rfl, HZ, HZB, hO, hb⟩ := hrel
      have hkr := hA5.below hb hA5.lt
      obtain ⟨r0, r1⟩ := hkr.two
      have rl := hkr.lt
      clear hkr
      by_cases hlt : k < N
      · have kI : (k : Int) < (N : Int) := by omega
        have HE2 : Hid ((k : Int) + 4 = ((k + 4 : Nat) : Int)) := Lib.hid (by omega)
        have HA := Lib.hid (HAT.out wr (HHB.out.trans (hb.mono HHB.out.size)) (k + 4) (by omega))
        have hxb := HLB.out (k + 4)
        generalize atV bs (k + 4) = x at *
        go_wp2_with (first
          | (go_at_call 15; rw [HE2.out]; refine HA.out.mono ?_; rintro e w' ⟨rfl, rfl⟩)
          | (at_builtin; refine wpList_push _ rfl _ _ 39 rfl w7.heap.size 3 i0 _ 1 8 Try.underlying39 hi hz0 hz1 hz2 rfl (by decide) u9 _ _ rfl hO #[.int .i64 (x : Int)] rfl rfl (by simp [Value.oneCell']) (by omega) (by unfold maxLen; omega) hb.size ?_; intro g1 k1 w12 hown1 hg1 hb3 hat3))
        rw [ints_snoc] at hown1
        have HZ2 : Hid ((zs ++ [(x : Int)]).length = k + 1) := Lib.hid (by rw [List.length_append, HZ.out]; rfl)
        have HZB2 : Hid (∀ y ∈ zs ++ [(x : Int)], 0 ≤ y ∧ y ≤ 255) := Lib.hid (fun y hy => by
          rcases List.mem_append.1 hy with h | h
          · exact HZB.out y h
          · rw [List.mem_singleton.1 h]; omega)
        go_roundw
        case rel => exact ⟨k + 1, zs ++ [(x : Int)], by omega, by go_num, HZ2, HZB2, hown1, hb.trans hb3⟩
        case measure => simp [intOf]; omega
      · obtain rfl : k = N := by omega
        have kI : ¬ (k : Int) < (k : Int) := by omega
        obtain ⟨zv, zc, rfl⟩ := own_slice hO
        have hzl := HZ.out
        have hvz : vList zs = true := by
          simp only [vList, Bool.and_eq_true, decide_eq_true_eq, List.all_eq_true]
          exact ⟨by omega, fun y hy => inB_iff.2 (by have := HZB.out y hy; omega)⟩
        have HVL := Lib.hid hvz
        have HVR := Lib.hid (vList_perm (HN.out zs hzl) hvz)
        have HZL := Lib.hid hzl
        have HZR : Hid ((netRun cs zs).length = k) := Lib.hid (by rw [netRun_len]; exact hzl)
        have HZD : Hid ((netRun ds (netRun cs zs)).length = k) := Lib.hid (by rw [netRun_len, netRun_len]; exact hzl)
        have HRC : Hid (netRun vs zs = netRun ds (netRun cs zs)) := Lib.hid (by rw [HVS.out, run_cat])
        clear hvz hzl
        have hA0 := hA5.below hb hA5.lt
        have hE0 := hE5.below hb hE5.lt
        have hG0 := hG5.below hb hG5.lt
        have oC0 := own_below oC5 hb (Nat.le_refl _)
        have oD0 := own_below oD5 hb (Nat.le_refl _)
        have oG0 := own_below oG5 hb (Nat.le_refl _)
        have hB0 := HHB.out.trans (hb.mono HHB.out.size)
        have oK0 := hO
        clear hA5 hE5 oC5 oD5 hB5 oG5 hG5 hO hb r0 r1 rl HHB
        obtain ⟨q0, q1⟩ := hA0.two
        have ql := hA0.lt
        go_wp2_with fail
        refine (ApplyNetwork_n k k D cs d zv zs zc _ HC1.out HVL.out HZL.out rfl (Reads.of_own oC0) (Reads.of_own oK0)).mono ?_
        rintro e w20 ⟨A1, a1, rfl, oA, b20⟩
        clear q0 q1 ql
        have hA1 := hA0.below b20 hA0.lt
        have hE1 := hE0.below b20 hE0.lt
        have hG1 := hG0.below b20 hG0.lt
        have oC1 := own_below oC0 b20 (Nat.le_refl _)
        have oD1 := own_below oD0 b20 (Nat.le_refl _)
        have oG1 := own_below oG0 b20 (Nat.le_refl _)
        have hB1 := hB0.trans (b20.mono hB0.size)
        have oK1 := own_below oK0 b20 (Nat.le_refl _)
        clear hA0 hE0 hG0 oC0 oD0 oG0 hB0 oK0
        have oA1 := oA
        clear oA
        obtain ⟨q0, q1⟩ := hE1.two
        have ql := hE1.lt
        go_wp2_with fail
        refine (ApplyNetwork_n k k E ds f A1 (netRun cs zs) a1 _ HC2.out HVR.out HZR.out rfl (Reads.of_own oD1) (Reads.of_own oA1)).mono ?_
        rintro e w21 ⟨A2, a2, rfl, oB, b21⟩
        clear q0 q1 ql
        have hA2 := hA1.below b21 hA1.lt
        have hE2 := hE1.below b21 hE1.lt
        have hG2 := hG1.below b21 hG1.lt
        have oC2 := own_below oC1 b21 (Nat.le_refl _)
        have oD2 := own_below oD1 b21 (Nat.le_refl _)
        have oG2 := own_below oG1 b21 (Nat.le_refl _)
        have hB2 := hB1.trans (b21.mono hB1.size)
        have oK2 := own_below oK1 b21 (Nat.le_refl _)
        have oA2 := own_below oA1 b21 (Nat.le_refl _)
        clear hA1 hE1 hG1 oC1 oD1 oG1 hB1 oK1 oA1
        have oB2 := oB
        clear oB
        obtain ⟨q0, q1⟩ := hG2.two
        have ql := hG2.lt
        go_wp2_with fail
        refine (ApplyNetwork_n k k G vs g zv zs zc _ HC4.out HVL.out HZL.out rfl (Reads.of_own oG2) (Reads.of_own oK2)).mono ?_
        rintro e w22 ⟨A3, a3, rfl, oF, b22⟩
        rw [HRC.out] at oF
        clear q0 q1 ql
        have hA3 := hA2.below b22 hA2.lt
        have hE3 := hE2.below b22 hE2.lt
        have hG3 := hG2.below b22 hG2.lt
        have oC3 := own_below oC2 b22 (Nat.le_refl _)
        have oD3 := own_below oD2 b22 (Nat.le_refl _)
        have oG3 := own_below oG2 b22 (Nat.le_refl _)
        have hB3 := hB2.trans (b22.mono hB2.size)
        have oK3 := own_below oK2 b22 (Nat.le_refl _)
        have oA3 := own_below oA2 b22 (Nat.le_refl _)
        have oB3 := own_below oB2 b22 (Nat.le_refl _)
        clear hA2 hE2 hG2 oC2 oD2 oG2 hB2 oK2 oA2 oB2
        go_wp2_with fail
        refine (vInts_n A2 A3 (netRun ds (netRun cs zs)) k a2 a3 w22 HZD.out (by omega) (Reads.of_own oB3) (Reads.of_own oF)).mono ?_
        rintro e w23 ⟨rfl, n23, rfl⟩
        have hBz := below_drewN hB3 n23
        generalize w22.drewN n23 = w24 at *
        clear oF hA3 hE3 hG3 oC3 oD3 oG3 hB3 oK3 oA3 oB3
        go_wp2_with fail
        refine (HDD.out _ hBz).mono ?_
        rintro e w30 ⟨U, P, es, p, x, rfl, oP, hU, hpl, b30⟩
        have hB9 := hBz.trans (b30.mono hBz.size)
        have hP0 := Blk.new w30 28 #[.int .i64 U, .slice P es.length p]
        have oP0 := oP.alloc (.cells #[.int .i64 U, .slice P es.length p] 28)
        have hB0 := alloc_ hB9 (.cells #[.int .i64 U, .slice P es.length p] 28)
        clear oP hB9
        obtain ⟨q0, q1⟩ := hP0.two
        have ql := hP0.lt
        go_wp2_with fail
        generalize w30.alloc (.cells #[.int .i64 U, .slice P es.length p] 28) = w31 at *
        generalize w30.heap.size = gP at *
        refine (DropWire_any U P es p x _ (Reads.of_own oP0) (by omega)).mono ?_
        rintro e w32 ⟨Q, q, rfl, oQ, b32⟩
        clear q0 q1 ql
        have hP1 := hP0.below b32 hP0.lt
        have oP1 := own_below oP0 b32 (Nat.le_refl _)
        have hB1 := hB0.trans (b32.mono hB0.size)
        clear hP0 oP0 hB0
        have hP2 := hP1.alloc (.cells #[.int .i64 (dwW U es x), .slice Q (dwV U es x).length q] 28)
        have oP2 := oP1.alloc (.cells #[.int .i64 (dwW U es x), .slice Q (dwV U es x).length q] 28)
        have hB2 := alloc_ hB1 (.cells #[.int .i64 (dwW U es x), .slice Q (dwV U es x).length q] 28)
        clear hP1 oP1 hB1
        have oQ2 := oQ.alloc (.cells #[.int .i64 (dwW U es x), .slice Q (dwV U es x).length q] 28)
        have hQ2 := Blk.new w32 28 #[.int .i64 (dwW U es x), .slice Q (dwV U es x).length q]
        clear oQ
        obtain ⟨q0, q1⟩ := hP2.two
        have ql := hP2.lt
        go_wp2_with fail
        generalize w32.alloc (.cells #[.int .i64 (dwW U es x), .slice Q (dwV U es x).length q] 28) = w33 at *
        generalize w32.heap.size = gQ at *
        refine (sDropWire_any U P es p x _ (Reads.of_own oP2) (by omega)).mono ?_
        rintro e w34 ⟨R, r, rfl, oR, b34⟩
        clear q0 q1 ql
        have hP3 := hP2.below b34 hP2.lt
        have oP3 := own_below oP2 b34 (Nat.le_refl _)
        have hB3 := hB2.trans (b34.mono hB2.size)
        have oQ3 := own_below oQ2 b34 (Nat.le_refl _)
        have hQ3 := hQ2.below b34 hQ2.lt
        clear hP2 oP2 hB2 oQ2 hQ2
        have hP4 := hP3.alloc (.cells #[.int .i64 (dwW U es x), .slice R (dwV U es x).length r] 28)
        have oP4 := oP3.alloc (.cells #[.int .i64 (dwW U es x), .slice R (dwV U es x).length r] 28)
        have hB4 := alloc_ hB3 (.cells #[.int .i64 (dwW U es x), .slice R (dwV U es x).length r] 28)
        have oQ4 := oQ3.alloc (.cells #[.int .i64 (dwW U es x), .slice R (dwV U es x).length r] 28)
        have hQ4 := hQ3.alloc (.cells #[.int .i64 (dwW U es x), .slice R (dwV U es x).length r] 28)
        clear hP3 oP3 hB3 oQ3 hQ3
        have oR4 := oR.alloc (.cells #[.int .i64 (dwW U es x), .slice R (dwV U es x).length r] 28)
        have hR4 := Blk.new w34 28 #[.int .i64 (dwW U es x), .slice R (dwV U es x).length r]
        clear oR
        have hdl : (dwV U es x).length ≤ 4096 := by
          unfold dwV
          split
          · exact Nat.le_trans (dwT_len _ _) hpl
          · simp
        generalize dwV U es x = fs at *
        generalize dwW U es x = Y2 at *
        generalize dwOk U es x = ok2 at *
        obtain ⟨q0, q1⟩ := hQ4.two
        have ql := hQ4.lt
        obtain ⟨s0, s1⟩ := hR4.two
        have sl := hR4.lt
        go_wp2_with fail
        generalize w34.alloc (.cells #[.int .i64 Y2, .slice R fs.length r] 28) = w35 at *
        generalize w34.heap.size = gR at *
        refine (vNetwork_same Y2 Q R fs q r _ (Reads.of_own oQ4) (Reads.of_own oR4) (by omega)).mono ?_
        rintro e w36 ⟨rfl, b36⟩
        clear q0 q1 ql s0 s1 sl
        have hP5 := hP4.below b36 hP4.lt
        have oP5 := own_below oP4 b36 (Nat.le_refl _)
        have hB5 := hB4.trans (b36.mono hB4.size)
        have oQ5 := own_below oQ4 b36 (Nat.le_refl _)
        have hQ5 := hQ4.below b36 hQ4.lt
        have oR5 := own_below oR4 b36 (Nat.le_refl _)
        have hR5 := hR4.below b36 hR4.lt
        clear hP4 oP4 hB4 oQ4 hQ4 oR4 hR4
        clear hQ5 hR5 oQ5 oR5
        obtain ⟨q0, q1⟩ := hP5.two
        have ql := hP5.lt
        go_wp2_with fail
        refine (DropWire_any U P es p (U - 1) _ (Reads.of_own oP5) (by omega)).mono ?_
        rintro e w37 ⟨L, l, rfl, oL, b37⟩
        clear q0 q1 ql
        have hP6 := hP5.below b37 hP5.lt
        have oP6 := own_below oP5 b37 (Nat.le_refl _)
        have hB6 := hB5.trans (b37.mono hB5.size)
        clear hP5 oP5 hB5
        have hP7 := hP6.alloc (.cells #[.int .i64 (dwW U es (U - 1)), .slice L (dwV U es (U - 1)).length l] 28)
        have oP7 := oP6.alloc (.cells #[.int .i64 (dwW U es (U - 1)), .slice L (dwV U es (U - 1)).length l] 28)
        have hB7 := alloc_ hB6 (.cells #[.int .i64 (dwW U es (U - 1)), .slice L (dwV U es (U - 1)).length l] 28)
        clear hP6 oP6 hB6
        have oL7 := oL.alloc (.cells #[.int .i64 (dwW U es (U - 1)), .slice L (dwV U es (U - 1)).length l] 28)
        have hL7 := Blk.new w37 28 #[.int .i64 (dwW U es (U - 1)), .slice L (dwV U es (U - 1)).length l]
        clear oL
        have hll : (dwV U es (U - 1)).length ≤ 4096 := by
          unfold dwV
          split
          · exact Nat.le_trans (dwT_len _ _) hpl
          · simp
        have HF := Lib.hid (fun (a : dwOk U es (U - 1) = true) (b : chkOk U es = true) (e : fuV U es = -1) => drop_sorts a b e)
        generalize dwV U es (U - 1) = gs at *
        generalize dwW U es (U - 1) = Y3 at *
        generalize dwOk U es (U - 1) = fine at *
        obtain ⟨q0, q1⟩ := hP7.two
        have ql := hP7.lt
        go_wp2_with fail
        generalize w37.alloc (.cells #[.int .i64 Y3, .slice L gs.length l] 28) = w38 at *
        generalize w37.heap.size = gL at *
        refine (FirstUnsorted_any U P es p _ (Reads.of_own oP7) (by omega)).mono ?_
        rintro e w39 ⟨rfl, b39⟩
        clear q0 q1 ql
        have hP8 := hP7.below b39 hP7.lt
        have oP8 := own_below oP7 b39 (Nat.le_refl _)
        have hB8 := hB7.trans (b39.mono hB7.size)
        have oL8 := own_below oL7 b39 (Nat.le_refl _)
        have hL8 := hL7.below b39 hL7.lt
        clear hP7 oP7 hB7 oL7 hL7
        obtain ⟨q0, q1⟩ := hL8.two
        have ql := hL8.lt
        go_wp2_with fail
        refine (FirstUnsorted_any Y3 L gs l _ (Reads.of_own oL8) (by omega)).mono ?_
        rintro e w40 ⟨rfl, b40⟩
        clear q0 q1 ql
        have hP9 := hP8.below b40 hP8.lt
        have oP9 := own_below oP8 b40 (Nat.le_refl _)
        have hB9 := hB8.trans (b40.mono hB8.size)
        have oL9 := own_below oL8 b40 (Nat.le_refl _)
        have hL9 := hL8.below b40 hL8.lt
        clear hP8 oP8 hB8 oL8 hL8
        have HFIN := Lib.hid hB9
        clear hP9 oP9 hB9 oL9 hL9
        generalize fuV U es = X1 at *
        generalize fuV Y3 gs = X2 at *
        generalize chkOk U es = one at *
        generalize chkOk Y3 gs = two at *
        cases fine
        case false =>
          go_wp2_with fail
          go_ret
          exact ⟨rfl, HFIN.out⟩
        case true =>
          cases one
          case false =>
            go_wp2_with fail
            go_ret
            exact ⟨rfl, HFIN.out⟩
          case true =>
            by_cases hX : X1 = -1
            case neg =>
              have hX2 : (X1 != -1) = true := by simpa using hX
              go_wp2_with fail
              go_ret
              exact ⟨rfl, HFIN.out⟩
            case pos =>
              obtain ⟨h1, h2⟩ := HF.out rfl rfl hX
              subst h1 h2 hX
              go_wp2_with fail
              go_ret
              exact ⟨rfl, HFIN.out⟩
end Go.Proofs.Ytkhfilkikpiepaa
