/- The runs of a list of records: the reference's side. -/
import Derived.Test.YtifjihpnhmemgaaSrG
import Derived.Test.YtifjihpnhmemgaaKwT
namespace Go.Proofs.Ytifjihpnhmemgaa
open Go.RowKit
set_option linter.unusedVariables false
set_option maxRecDepth 100000 in
set_option maxHeartbeats 3200000 in
theorem l2Stable_any (A : Option Addr) (cs : List (Int × Int)) (c n : Nat) (w : World) (hx : Reads w w.heap.size 2 A cs.length (cmps cs)) (hn : cs.length = n) (h1 : 1 ≤ n) (hl : n ≤ 64) :
    Calls Try.prog 37 #[.slice A n c] w fun e w' => ∃ g d, e = .returned (.slice (some ⟨g, 0, none⟩) n d) ∧ w'.ownsRow w.heap.size 47 2 (.slice (some ⟨g, 0, none⟩) n d) n (cmps (stR cs)) ∧ Below w.heap.size w w' := by
  obtain ⟨i0, hi, hz0, hz1, hz2⟩ := info_parts info_rec
  have ho := World.ownsRow_made (base := w.heap.size) (size := 2) (e := 47) w #[] 0 (Nat.le_refl _) (by simp) (by simp)
  have hb := alloc_ (Below.refl w.heap.size w) (.cells #[] 47)
  have hr := hx.alloc (Nat.le_refl _) (.cells #[] 47)
  rw [hn] at hr
  have HST : Hid (∀ C : List Int, C.Perm (idR n) → Srt (fr cs) C 0 n → C.map (rgI cs) = stR cs) := Lib.hid (fun C h2 h3 => by rw [← hn] at h2 h3; exact st_of (by omega) h2 h3)
  have HID : Hid ((idR n).map (rgI cs) = cs) := Lib.hid (by rw [← hn]; exact idR_map cs)
  clear hx hn
  go_enter Try.func37, Try.ntmps37
  go_wp2_with (at_builtin; refine wpList_append_any _ rfl _ _ 24 rfl w.heap.size 47 i0 _ 2 16 Try.underlying24 hi hz0 hz1 hz2 rfl (by decide) (.slice (some ⟨w.heap.size, 0, none⟩) 0 0) _ _ rfl ho w.heap.size A n c (cmps cs) rfl hr (cmps_one cs) (by unfold maxLen; omega) (by omega) (by simp) ?_; intro v1 w1 hown1 hg1 hat1; rw [Nat.zero_add, List.nil_append] at hown1; obtain ⟨g, d, hv1, -, -, -⟩ := own_some hown1 (by omega); subst hv1)
  have hB1 := hb.grown hg1 (by simp) (by simp [Value.ownBlock])
  have HS0 : Hid (SR w.heap.size 47 g n d cs w1 (idR n)) := Lib.hid ⟨by rw [HID.out]; exact hown1, by simp, fun x hx => idR_mem hx, hl⟩
  have HB0 := Lib.hid hB1
  have HX0 : Hid (InX (idR n) 0 1 n) := Lib.hid (InX.start (fun p _ h => idR_get h) rfl)
  clear hown1 hg1 hat1 hB1 ho hb hr HID
  go_loopw [4] (fun vi wr => ∃ (i : Nat) (C : List Int), 1 ≤ i ∧ i ≤ n ∧ vi = .int .i64 (i : Nat) ∧ Hid (SR w.heap.size 47 g n d cs wr C) ∧ Hid (C.Perm (idR n)) ∧ Hid (Srt (fr cs) C 0 i) ∧ Hid (InX C 0 i n) ∧ Hid (Below w.heap.size w wr)) (fun vi _ => n + 1 - (intOf vi).toNat)
  case atStart => exact ⟨1, idR n, by omega, by omega, rfl, HS0, Lib.hid (List.Perm.refl _), Lib.hid (Srt.one (by omega)), HX0, HB0⟩
  case round =>
    clear HS0 HB0 HX0
    obtain ⟨i, C, hi1, hin, rfl, HS, HP, HSR, HX, HB⟩ := hrel
    by_cases hlt : i < n
    · have iI : (i : Int) < (n : Int) := by omega
      have HIN : Hid (InsF (fr cs) C 0 (i + 1) i) := Lib.hid (InsF.start HSR.out)
      have HX1 := Lib.hid (HX.out.next hlt).1
      have HM1 := Lib.hid (HX.out.next hlt).2
      go_wp2_with fail
      go_loopw [5] (fun vj wr => ∃ (j : Nat) (E : List Int), j ≤ i ∧ vj = .int .i64 (j : Nat) ∧ Hid (SR w.heap.size 47 g n d cs wr E) ∧ Hid (E.Perm (idR n)) ∧ Hid (InsF (fr cs) E 0 (i + 1) j) ∧ Hid (InX E 0 (i + 1) n) ∧ Hid (∀ p, 0 ≤ p → p < j → gt E p < gt E j) ∧ Hid (Below w.heap.size w wr)) (fun vj _ => (intOf vj).toNat)
      case atStart => exact ⟨i, C, by omega, rfl, HS, HP, HIN, HX1, HM1, HB⟩
      case round =>
        clear HS HP HSR HX HB HIN HX1 HM1
        obtain ⟨j, E, hji, rfl, HS, HP, HIN, HX, HMV, HB⟩ := hrel
        by_cases hja : 0 < j
        · obtain ⟨q, hq⟩ : ∃ q, j = q + 1 := ⟨j - 1, by omega⟩
          obtain ⟨c1, c1p, f1, f1p⟩ := HS.out.at_ (p := j) (by omega)
          obtain ⟨c0, c0p, f0, f0p⟩ := HS.out.at_ (p := q) (by omega)
          have HLT := Lib.hid (InsF.step HIN.out hja (by omega) (by rw [HS.out.dl]; omega))
          have HGE := Lib.hid (fun h => InsF.stop HIN.out (.inr ⟨hja, h⟩))
          have hjq : j - 1 = q := by omega
          rw [hjq] at HLT HGE
          have HXS : Hid (InX (swp E j q) 0 (i + 1) n) := Lib.hid (by rw [hq]; exact InX.swap HX.out (by omega) (by omega) (by omega) (by rw [HS.out.dl]; omega))
          have HMS : Hid (∀ p, 0 ≤ p → p < q → gt (swp E j q) p < gt (swp E j q) q) := Lib.hid (by
            have h9 := HMV.out
            rw [hq] at h9 ⊢
            exact mov_swap (i := i) h9 (by omega) (by rw [HS.out.dl]; omega))
          have HPS : Hid ((swp E j q).Perm (idR n)) := Lib.hid ((swp_perm (by rw [HS.out.dl]; omega) (by rw [HS.out.dl]; omega)).trans HP.out)
          have ejq : (j : Int) - 1 = (q : Int) := by omega
          have ew : IntKind.i64.wrap (q : Int) = q := IntWalk.i64_in _ ⟨by omega, by omega⟩
          have i2 : (j : Int) < (n : Int) := by omega
          have i1' : (q : Int) < (n : Int) := by omega
          have ja2 : (j : Int) > 0 := by omega
          have ja3 : (0 : Int) < (j : Int) := by omega
          have hqi : q ≤ i := by omega
          have hqj : q < j := by omega
          have hgl := (own_lt HS.out.o g rfl).2
          have hgb := (own_lt HS.out.o g rfl).1
          have hcmp := (cmpR_neg.symm.trans (HS.out.less (p := j) (q := q) (by omega) (by omega) (HMV.out q (by omega) (by omega))))
          clear hq hjq
          generalize hx1 : (rgI cs (gt E j)).1 = x1 at *
          generalize hx2 : (rgI cs (gt E j)).2 = x2 at *
          generalize hy1 : (rgI cs (gt E q)).1 = y1 at *
          generalize hy2 : (rgI cs (gt E q)).2 = y2 at *
          have HE1 := Lib.hid hx1
          have HE2 := Lib.hid hx2
          have HE3 := Lib.hid hy1
          have HE4 := Lib.hid hy2
          clear hx1 hx2 hy1 hy2
          by_cases hkk : fr cs (gt E j) < fr cs (gt E q)
          · have hcn : x1 < y1 := hcmp.2 hkk
            have hcn2 : y1 > x1 := hcn
            have HLT2 := Lib.hid (HLT.out hkk)
            clear hcmp hkk HGE HLT
            go_upto_region 6 with fail
            go_quiet (fail)
            have HSq := Lib.hid (HS.out.below (below_drewN (Below.refl _ _) nq))
            have HBq := Lib.hid (below_drewN HB.out nq)
            go_upto_region 8 with fail
            clear c1 c0 f1 f0 c1p c0p f1p f0p HS HB hgl
            generalize wr.drewN nq = wq at *
            obtain ⟨c1, c1p, -, -⟩ := HSq.out.at_ (p := j) (by omega)
            obtain ⟨c0, c0p, -, -⟩ := HSq.out.at_ (p := q) (by omega)
            rw [HE1.out] at c1
            rw [HE2.out] at c1p
            rw [HE3.out] at c0
            rw [HE4.out] at c0p
            have hgl := (own_lt HSq.out.o g rfl).2
            have HS2 := Lib.hid (HSq.out.below (alloc_ (Below.refl _ _) (.cells #[.int .i64 y1, .int .i64 y2] 47)))
            have HB2 := Lib.hid (alloc_ HBq.out (.cells #[.int .i64 y1, .int .i64 y2] 47))
            have hbx := Blk.new wq 47 #[.int .i64 y1, .int .i64 y2]
            have b0 : (wq.alloc (.cells #[.int .i64 y1, .int .i64 y2] 47)).cell? ⟨wq.heap.size, 0, none⟩ = some (.int .i64 y1) := hbx.cell 0
            have b1 : (wq.alloc (.cells #[.int .i64 y1, .int .i64 y2] 47)).cell? ⟨wq.heap.size, 1, none⟩ = some (.int .i64 y2) := hbx.cell 1
            have hxg : wq.heap.size ≠ g := by omega
            go_upto_region 9 with fail
            clear c1 c0 c1p c0p HSq HBq hgl hbx
            generalize wq.alloc (.cells #[.int .i64 y1, .int .i64 y2] 47) = w2 at *
            generalize wq.heap.size = bx at *
            obtain ⟨c1, c1p, f1, f1p⟩ := HS2.out.at_ (p := j) (by omega)
            obtain ⟨c0, c0p, f0, f0p⟩ := HS2.out.at_ (p := q) (by omega)
            obtain ⟨-, s2, -, g2⟩ := HS2.out.swap (p := j) (q := q) (by omega) (by omega) (by omega)
            rw [HE1.out, HE2.out, HE3.out, HE4.out] at s2 g2
            rw [HE1.out] at c1
            rw [HE2.out] at c1p
            rw [HE3.out] at c0
            rw [HE4.out] at c0p
            have hgl := (own_lt HS2.out.o g rfl).2
            have hqj2 : q * 2 ≠ j * 2 := by omega
            have S2 := Lib.hid s2
            have B2 := Lib.hid (HB2.out.trans (below_of_grown g2 HB2.out.size (fun k hk => by have h9 : g = k := Option.some.inj hk; omega)))
            clear s2 g2 HS2 HB2
            go_wp2_with fail
            go_roundw
            case rel => exact ⟨q, _, hqi, by go_num, S2, HPS, HLT2, HXS, HMS, B2⟩
            case measure => (simp [intOf] <;> omega)
          · have hcn : ¬ x1 < y1 := fun h9 => hkk (hcmp.1 h9)
            have hcn2 : ¬ y1 > x1 := hcn
            have HGE2 := Lib.hid (HGE.out (by omega))
            clear hcmp hkk HGE HLT
            go_upto_region 6 with fail
            go_quiet (fail)
            go_wp2_with fail
            go_roundw
            case rel => exact ⟨i + 1, E, by omega, by omega, by go_num, Lib.hid (HS.out.drewN _), HP, HGE2, HX, Lib.hid (below_drewN HB.out _)⟩
            case measure => simp [intOf]; omega
        · obtain rfl : j = 0 := by omega
          have HGE2 := Lib.hid (InsF.stop HIN.out (.inl rfl))
          go_upto_region 6 with fail
          go_quiet (fail)
          go_wp2_with fail
          go_roundw
          case rel => exact ⟨i + 1, E, by omega, by omega, by go_num, Lib.hid (HS.out.drewN _), HP, HGE2, HX, Lib.hid (below_drewN HB.out _)⟩
          case measure => simp [intOf]; omega
    · have iI : ¬ (i : Int) < (n : Int) := by omega
      have HR : Hid (Srt (fr cs) C 0 n) := Lib.hid (HSR.out.sub (Nat.le_refl _) (by omega))
      have HF := Lib.hid (HST.out C HP.out HR.out)
      go_wp2_with fail
      go_ret
      exact ⟨g, d, rfl, by rw [← HF.out]; exact HS.out.o, HB.out⟩
theorem l1Least_any (x y : Int) (w : World) : Calls Try.prog 38 #[.int .i64 x, .int .i64 y] w fun e w' => e = .returned (.int .i64 (if x < y then x else y)) ∧ w = w' := by
  by_cases h : x < y
  · rw [if_pos h]
    go_enter Try.func38, Try.ntmps38
    go_wp2_with fail
    go_ret
    exact ⟨rfl, rfl⟩
  · rw [if_neg h]
    go_enter Try.func38, Try.ntmps38
    go_wp2_with fail
    go_ret
    exact ⟨rfl, rfl⟩
set_option maxRecDepth 100000 in
set_option maxHeartbeats 1600000 in
theorem l17Runs_any (A : Option Addr) (R : List (Int × Int)) (c m : Nat) (w : World) (hx : Reads w w.heap.size 2 A R.length (cmps R)) (hc : R.length ≤ c) (hl : R.length ≤ 64) (hm1 : 1 ≤ m) (hm2 : m ≤ 64) :
    Calls Try.prog 27 #[.slice A R.length c, .int .i64 (m : Nat)] w fun e w' => ∃ g d, e = .returned (.slice (some ⟨g, 0, none⟩) (mkR R m).length d) ∧ OwnsQQ w' w.heap.size 24 47 (.slice (some ⟨g, 0, none⟩) (mkR R m).length d) (mkR R m) ∧ Below w.heap.size w w' := by
  obtain ⟨i1, hj, hy0, hy1, hy2⟩ := info_parts (show (Try.prog.info? 24).map (fun i => (i.zero, i.size, i.bytes)) = some (some (.slice none 0 0), 1, 24) by kernel_rfl)
  have HX := Lib.hid hx
  have hO0 := made_at (w := w) (base := w.heap.size) (g := w.heap.size) (size := 1) (e := 24) (Nat.le_refl _) rfl
  have hB0 := alloc_ (Below.refl w.heap.size w) (.cells #[] 24)
  have HO0 := Lib.hid hO0
  have HB0 := Lib.hid hB0
  clear hx hO0 hB0
  go_enter Try.func27, Try.ntmps27
  go_wp2_with fail
  go_loopw [5, 6] (fun vo vi wr => Mr w R m vo vi wr) (fun _ vi _ => 200 - (intOf vi).toNat)
  case atStart => exact ⟨_, 0, 0, 65, 0, [], [], rfl, rfl, rfl, by omega, by omega, HO0, Lib.hid InnerQ.nil, Lib.hid rfl, Lib.hid rfl, HB0⟩
  case round =>
    clear HO0 HB0
    obtain ⟨gO, p, cO, f, i, vals, runs, rfl, rfl, hpf, hfi, hi8, HO, HI, HRL, HC, HB⟩ := hrel
    by_cases hlt : i < R.length
    · have hiI : (i : Int) < (R.length : Int) := by omega
      obtain ⟨ad, rfl⟩ : ∃ ad, A = some ad := by obtain ⟨ad, e, -⟩ := HX.out.2 (by omega); exact ⟨ad, e⟩
      rcases Nat.lt_trichotomy (i + m) R.length with hcase | hcase | hcase
      · have a1 : (i : Int) + (m : Int) < (R.length : Int) := by omega
        have a2 : (i : Int) + (m : Int) ≤ (R.length : Int) := by omega
        have a3 : ¬ (R.length : Int) < (i : Int) + (m : Int) := by omega
        have a4 : ¬ (R.length : Int) ≤ (i : Int) + (m : Int) := by omega
        have hlen : ((R.drop i).take m).length = m := by first | (simp; done) | (simp; omega)
        have hcs : True := trivial
        have HCS := Lib.hid hcs
        have hy := l2Stable_any (some (ad.add (i * 2))) ((R.drop i).take m) (c - i) m wr (by rw [hlen]; exact ((reads_mid HX.out (k := m) (by omega)).below HB.out).more HB.out.size) hlen (by omega) (by omega)
        have HY := Lib.hid hy
        have HLN := Lib.hid hlen
        clear hy hcs hlen
        have t1 : ((i : Int) + (m : Int)).toNat - i = m := by omega
        go_wp2_with (go_at_call 38; refine (l1Least_any _ _ _).mono ?_; rintro e w' ⟨rfl, rfl⟩; rw [if_pos a1])
        try rw [t1]
        try rw [show R.length - i = m by omega]
        refine HY.out.mono ?_
        clear HY a1 a2 a3 a4 t1
        rintro e w1 ⟨g, d, rfl, ho, hb1⟩
        have hO1 := own_below HO.out hb1 (Nat.le_refl _)
        have hB1 := bthen HB.out hb1
        have hne := HI.out.fresh (u := .slice (some ⟨g, 0, none⟩) m d) (fun k hk => (own_lt ho k hk).1)
        have hO2 := World.ownsRow.alloc hO1 (.cells #[.slice (some ⟨g, 0, none⟩) m d] 24)
        have hI2 := (HI.out.below hb1 (Nat.le_refl _)).alloc (.cells #[.slice (some ⟨g, 0, none⟩) m d] 24)
        have hr2 := World.ownsRow.alloc (own_base ho HB.out.size) (.cells #[.slice (some ⟨g, 0, none⟩) m d] 24)
        have hB2 := alloc_ hB1 (.cells #[.slice (some ⟨g, 0, none⟩) m d] 24)
        have hbs := hB1.size
        have HI2 := Lib.hid hI2
        have HR2 := Lib.hid hr2
        have HB2 := Lib.hid hB2
        have HNE := Lib.hid hne
        clear hI2 hr2 hB2 hne hO1 hB1 ho hb1
        go_wp2_with (at_builtin; go_loud (refine wpList_push' _ rfl _ _ 27 rfl w.heap.size 24 i1 _ 1 24 Try.underlying27 hj hy0 hy1 hy2 rfl (by decide) (.slice (some ⟨gO, 0, none⟩) p cO) _ vals rfl hO2 #[.slice (some ⟨g, 0, none⟩) m d] w1.heap.size rfl (Blk.new _ _ _) rfl (by simp [Value.oneCell']) (by omega) (by unfold maxLen; omega) (Nat.le_trans hbs (by simp)) ?_; intro g1 d1 w3 hown3 hg3 hb3 hat3))
        have HI3 : Hid (InnerQ w3 w.heap.size 47 (vals ++ [.slice (some ⟨g, 0, none⟩) m d]) (runs ++ [stR ((R.drop i).take m)])) := Lib.hid (HI2.out.add hO2 (by decide) (by rw [stR_len, HLN.out]; exact HR2.out) HNE.out hg3)
        go_roundw
        case rel => exact ⟨g1, p + 1, d1, f - 1, i + m, _, _, rfl, by go_num, by omega, by omega, by omega, Lib.hid hown3, HI3, Lib.hid (by rw [List.length_append, HRL.out]; rfl), Lib.hid (by
          rw [← HC.out, List.append_assoc]
          congr 1
          obtain ⟨f', rfl⟩ : ∃ f', f = f' + 1 := ⟨f - 1, by omega⟩
          rw [chF_on hlt, Nat.add_sub_cancel]
          first | rfl | (rw [HCS.out]; rfl)), Lib.hid (HB2.out.trans hb3)⟩
        case measure => simp [intOf]; omega
      · have a1 : ¬ (i : Int) + (m : Int) < (R.length : Int) := by omega
        have a2 : (i : Int) + (m : Int) ≤ (R.length : Int) := by omega
        have a3 : ¬ (R.length : Int) < (i : Int) + (m : Int) := by omega
        have a4 : (R.length : Int) ≤ (i : Int) + (m : Int) := by omega
        have hlen : ((R.drop i).take m).length = m := by first | (simp; done) | (simp; omega)
        have hcs : True := trivial
        have HCS := Lib.hid hcs
        have hy := l2Stable_any (some (ad.add (i * 2))) ((R.drop i).take m) (c - i) m wr (by rw [hlen]; exact ((reads_mid HX.out (k := m) (by omega)).below HB.out).more HB.out.size) hlen (by omega) (by omega)
        have HY := Lib.hid hy
        have HLN := Lib.hid hlen
        clear hy hcs hlen
        have t1 : ((i : Int) + (m : Int)).toNat - i = m := by omega
        go_wp2_with (go_at_call 38; refine (l1Least_any _ _ _).mono ?_; rintro e w' ⟨rfl, rfl⟩; rw [if_neg a1])
        try rw [t1]
        try rw [show R.length - i = m by omega]
        refine HY.out.mono ?_
        clear HY a1 a2 a3 a4 t1
        rintro e w1 ⟨g, d, rfl, ho, hb1⟩
        have hO1 := own_below HO.out hb1 (Nat.le_refl _)
        have hB1 := bthen HB.out hb1
        have hne := HI.out.fresh (u := .slice (some ⟨g, 0, none⟩) m d) (fun k hk => (own_lt ho k hk).1)
        have hO2 := World.ownsRow.alloc hO1 (.cells #[.slice (some ⟨g, 0, none⟩) m d] 24)
        have hI2 := (HI.out.below hb1 (Nat.le_refl _)).alloc (.cells #[.slice (some ⟨g, 0, none⟩) m d] 24)
        have hr2 := World.ownsRow.alloc (own_base ho HB.out.size) (.cells #[.slice (some ⟨g, 0, none⟩) m d] 24)
        have hB2 := alloc_ hB1 (.cells #[.slice (some ⟨g, 0, none⟩) m d] 24)
        have hbs := hB1.size
        have HI2 := Lib.hid hI2
        have HR2 := Lib.hid hr2
        have HB2 := Lib.hid hB2
        have HNE := Lib.hid hne
        clear hI2 hr2 hB2 hne hO1 hB1 ho hb1
        go_wp2_with (at_builtin; go_loud (refine wpList_push' _ rfl _ _ 27 rfl w.heap.size 24 i1 _ 1 24 Try.underlying27 hj hy0 hy1 hy2 rfl (by decide) (.slice (some ⟨gO, 0, none⟩) p cO) _ vals rfl hO2 #[.slice (some ⟨g, 0, none⟩) m d] w1.heap.size rfl (Blk.new _ _ _) rfl (by simp [Value.oneCell']) (by omega) (by unfold maxLen; omega) (Nat.le_trans hbs (by simp)) ?_; intro g1 d1 w3 hown3 hg3 hb3 hat3))
        have HI3 : Hid (InnerQ w3 w.heap.size 47 (vals ++ [.slice (some ⟨g, 0, none⟩) m d]) (runs ++ [stR ((R.drop i).take m)])) := Lib.hid (HI2.out.add hO2 (by decide) (by rw [stR_len, HLN.out]; exact HR2.out) HNE.out hg3)
        go_roundw
        case rel => exact ⟨g1, p + 1, d1, f - 1, i + m, _, _, rfl, by go_num, by omega, by omega, by omega, Lib.hid hown3, HI3, Lib.hid (by rw [List.length_append, HRL.out]; rfl), Lib.hid (by
          rw [← HC.out, List.append_assoc]
          congr 1
          obtain ⟨f', rfl⟩ : ∃ f', f = f' + 1 := ⟨f - 1, by omega⟩
          rw [chF_on hlt, Nat.add_sub_cancel]
          first | rfl | (rw [HCS.out]; rfl)), Lib.hid (HB2.out.trans hb3)⟩
        case measure => simp [intOf]; omega
      · have a1 : ¬ (i : Int) + (m : Int) < (R.length : Int) := by omega
        have a2 : ¬ (i : Int) + (m : Int) ≤ (R.length : Int) := by omega
        have a3 : (R.length : Int) < (i : Int) + (m : Int) := by omega
        have a4 : (R.length : Int) ≤ (i : Int) + (m : Int) := by omega
        have hlen : ((R.drop i).take (R.length - i)).length = (R.length - i) := by first | (simp; done) | (simp; omega)
        have hcs : (R.drop i).take (R.length - i) = (R.drop i).take m := by rw [List.take_of_length_le (l := R.drop i) (i := m) (by simp; omega), List.take_of_length_le (l := R.drop i) (by simp)]
        have HCS := Lib.hid hcs
        have hy := l2Stable_any (some (ad.add (i * 2))) ((R.drop i).take (R.length - i)) (c - i) (R.length - i) wr (by rw [hlen]; exact ((reads_mid HX.out (k := (R.length - i)) (by omega)).below HB.out).more HB.out.size) hlen (by omega) (by omega)
        have HY := Lib.hid hy
        have HLN := Lib.hid hlen
        clear hy hcs hlen
        have t1 : ((i : Int) + (m : Int)).toNat - i = m := by omega
        go_wp2_with (go_at_call 38; refine (l1Least_any _ _ _).mono ?_; rintro e w' ⟨rfl, rfl⟩; rw [if_neg a1])
        try rw [t1]
        try rw [show R.length - i = m by omega]
        refine HY.out.mono ?_
        clear HY a1 a2 a3 a4 t1
        rintro e w1 ⟨g, d, rfl, ho, hb1⟩
        have hO1 := own_below HO.out hb1 (Nat.le_refl _)
        have hB1 := bthen HB.out hb1
        have hne := HI.out.fresh (u := .slice (some ⟨g, 0, none⟩) (R.length - i) d) (fun k hk => (own_lt ho k hk).1)
        have hO2 := World.ownsRow.alloc hO1 (.cells #[.slice (some ⟨g, 0, none⟩) (R.length - i) d] 24)
        have hI2 := (HI.out.below hb1 (Nat.le_refl _)).alloc (.cells #[.slice (some ⟨g, 0, none⟩) (R.length - i) d] 24)
        have hr2 := World.ownsRow.alloc (own_base ho HB.out.size) (.cells #[.slice (some ⟨g, 0, none⟩) (R.length - i) d] 24)
        have hB2 := alloc_ hB1 (.cells #[.slice (some ⟨g, 0, none⟩) (R.length - i) d] 24)
        have hbs := hB1.size
        have HI2 := Lib.hid hI2
        have HR2 := Lib.hid hr2
        have HB2 := Lib.hid hB2
        have HNE := Lib.hid hne
        clear hI2 hr2 hB2 hne hO1 hB1 ho hb1
        go_wp2_with (at_builtin; go_loud (refine wpList_push' _ rfl _ _ 27 rfl w.heap.size 24 i1 _ 1 24 Try.underlying27 hj hy0 hy1 hy2 rfl (by decide) (.slice (some ⟨gO, 0, none⟩) p cO) _ vals rfl hO2 #[.slice (some ⟨g, 0, none⟩) (R.length - i) d] w1.heap.size rfl (Blk.new _ _ _) rfl (by simp [Value.oneCell']) (by omega) (by unfold maxLen; omega) (Nat.le_trans hbs (by simp)) ?_; intro g1 d1 w3 hown3 hg3 hb3 hat3))
        have HI3 : Hid (InnerQ w3 w.heap.size 47 (vals ++ [.slice (some ⟨g, 0, none⟩) (R.length - i) d]) (runs ++ [stR ((R.drop i).take (R.length - i))])) := Lib.hid (HI2.out.add hO2 (by decide) (by rw [stR_len, HLN.out]; exact HR2.out) HNE.out hg3)
        go_roundw
        case rel => exact ⟨g1, p + 1, d1, f - 1, i + m, _, _, rfl, by go_num, by omega, by omega, by omega, Lib.hid hown3, HI3, Lib.hid (by rw [List.length_append, HRL.out]; rfl), Lib.hid (by
          rw [← HC.out, List.append_assoc]
          congr 1
          obtain ⟨f', rfl⟩ : ∃ f', f = f' + 1 := ⟨f - 1, by omega⟩
          rw [chF_on hlt, Nat.add_sub_cancel]
          first | rfl | (rw [HCS.out]; rfl)), Lib.hid (HB2.out.trans hb3)⟩
        case measure => simp [intOf]; omega
    · have hiI : ¬ (i : Int) < (R.length : Int) := by omega
      have HF : Hid (runs = mkR R m) := Lib.hid (by have h := HC.out; rwa [chF_off hlt, List.append_nil] at h)
      go_wp2_with fail
      go_ret
      refine ⟨gO, cO, by rw [← HF.out, HRL.out]; rfl, ?_, HB.out⟩
      rw [← HF.out, HRL.out]
      exact ⟨vals, by rw [HRL.out]; exact HO.out, HI.out⟩
/-- what the runs give back -/
def GotR (R : List (Int × Int)) (m : Int) (w : World) (e : Ending) (w' : World) : Prop := ∃ D d, e = .returned (.tuple #[.slice D (mrvO R m).length d, .bool (mrOk R m)]) ∧ OwnsQQ w' w.heap.size 24 47 (.slice D (mrvO R m).length d) (mrvO R m) ∧ Below w.heap.size w w'
theorem GotR.no {R : List (Int × Int)} {m : Int} {w w' : World} (h : mrOk R m = false) {D : Option Addr} {d : Nat} (ho : w'.ownsRow w.heap.size 24 1 (.slice D 0 d) 0 []) (hb : Below w.heap.size w w') : GotR R m w (.returned (.tuple #[.slice D 0 d, .bool false])) w' := by
  have e : mrvO R m = [] := by simp [mrvO, h]
  refine ⟨D, d, by rw [e, h]; rfl, ?_, hb⟩
  rw [e]
  exact ⟨[], ho, InnerQ.nil⟩
theorem GotR.yes {R : List (Int × Int)} {k : Nat} {w w' : World} (h : mrOk R (k : Int) = true) {g d : Nat} (ho : OwnsQQ w' w.heap.size 24 47 (.slice (some ⟨g, 0, none⟩) (mkR R k).length d) (mkR R k)) (hb : Below w.heap.size w w') : GotR R (k : Int) w (.returned (.tuple #[.slice (some ⟨g, 0, none⟩) (mkR R k).length d, .bool true])) w' := by
  have e : mrvO R (k : Int) = mkR R k := by simp [mrvO, h]
  refine ⟨some ⟨g, 0, none⟩, d, by rw [e, h], ?_, hb⟩
  rw [e]
  exact ho
set_option maxRecDepth 100000 in
set_option maxHeartbeats 800000 in
theorem MakeRuns_any (A : Option Addr) (R : List (Int × Int)) (c : Nat) (m : Int) (w : World) (hx : Reads w w.heap.size 2 A R.length (cmps R)) (hl : R.length ≤ 1048576) (hc : R.length ≤ c) :
    Calls Try.prog 17 #[.slice A R.length c, .int .i64 m] w fun e w' => GotR R m w e w' := by
  have HX := Lib.hid hx
  clear hx
  cases h1 : rsOk R
  · have HN : Hid (mrOk R m = false) := Lib.hid (by unfold mrOk; rw [h1]; rfl)
    have H1 := Lib.hid h1
    clear h1
    go_enter Try.func17, Try.ntmps17
    go_wp2_with fail
    refine (IsValidRecords_any A R c w HX.out (by omega)).mono ?_
    rintro e w1 ⟨rfl, hb1⟩
    rw [H1.out]
    have HO := Lib.hid (World.ownsRow_nil w1 w.heap.size 24 1)
    have HB := Lib.hid (hb1)
    clear hb1
    go_wp2_with fail
    exact bodyPost_ret (v := .tuple #[.slice none 0 0, .bool false]) (by simp [results, Try.results17, go_sem]) rfl (GotR.no HN.out HO.out HB.out)
  · have H1 := Lib.hid h1
    cases h2 : inB m 1 64
    · have HN : Hid (mrOk R m = false) := Lib.hid (by unfold mrOk; rw [h2, Bool.and_false])
      have H2 := Lib.hid h2
      clear h1 h2
      go_enter Try.func17, Try.ntmps17
      go_wp2_with fail
      refine (IsValidRecords_any A R c w HX.out (by omega)).mono ?_
      rintro e w1 ⟨rfl, hb1⟩
      rw [H1.out]
      have HO := Lib.hid (World.ownsRow_nil w1 w.heap.size 24 1)
      have HB := Lib.hid (hb1)
      clear hb1
      go_wp2_with (go_at_call 23; refine (in_any _ _ _ _).mono ?_; rintro e w' ⟨rfl, rfl⟩; rw [H2.out])
      exact bodyPost_ret (v := .tuple #[.slice none 0 0, .bool false]) (by simp [results, Try.results17, go_sem]) rfl (GotR.no HN.out HO.out HB.out)
    · have HN : Hid (mrOk R m = true) := Lib.hid (by unfold mrOk; rw [h1, h2]; rfl)
      have H2 := Lib.hid h2
      obtain ⟨k1, k2⟩ := inB_iff.1 h2
      obtain ⟨k, rfl⟩ := Int.eq_ofNat_of_zero_le (show 0 ≤ m by omega)
      have hl64 : R.length ≤ 64 := by unfold rsOk at h1; simp only [Bool.and_eq_true, decide_eq_true_eq] at h1; exact h1.1
      clear h1 h2
      go_enter Try.func17, Try.ntmps17
      go_wp2_with fail
      refine (IsValidRecords_any A R c w HX.out (by omega)).mono ?_
      rintro e w1 ⟨rfl, hb1⟩
      rw [H1.out]
      have HM := Lib.hid (makeRuns_any A R c k w1 ((HX.out.below hb1).more hb1.size) hc hl64 (by omega) (by omega))
      have HB1 := Lib.hid hb1
      clear hb1
      go_wp2_with (go_at_call 23; refine (in_any _ _ _ _).mono ?_; rintro e w' ⟨rfl, rfl⟩; rw [H2.out])
      refine HM.out.mono ?_
      rintro e w2 ⟨g, d, rfl, ho, hb2⟩
      have HO := Lib.hid (ho.base' HB1.out.size)
      have HB := Lib.hid (bthen HB1.out hb2)
      clear ho hb2
      go_wp2_with fail
      exact bodyPost_ret (v := .tuple #[.slice (some ⟨g, 0, none⟩) (mkR R k).length d, .bool true]) (by simp [results, Try.results17, go_sem]) rfl (GotR.yes HN.out HO.out HB.out)
set_option maxRecDepth 100000 in
set_option maxHeartbeats 800000 in
theorem sMakeRuns_any (A : Option Addr) (R : List (Int × Int)) (c : Nat) (m : Int) (w : World) (hx : Reads w w.heap.size 2 A R.length (cmps R)) (hl : R.length ≤ 1048576) (hc : R.length ≤ c) :
    Calls Try.prog 15 #[.slice A R.length c, .int .i64 m] w fun e w' => GotR R m w e w' := by
  have HX := Lib.hid hx
  clear hx
  cases h1 : rsOk R
  · have HN : Hid (mrOk R m = false) := Lib.hid (by unfold mrOk; rw [h1]; rfl)
    have H1 := Lib.hid h1
    clear h1
    go_enter Try.func15, Try.ntmps15
    go_wp2_with fail
    refine (l2Records_any A R c w HX.out (by omega)).mono ?_
    rintro e w1 ⟨rfl, hb1⟩
    rw [H1.out]
    have HO := Lib.hid (made_at (w := w1) (base := w.heap.size) (g := w1.heap.size) (size := 1) (e := 24) hb1.size rfl)
    have HB := Lib.hid (alloc_ hb1 (.cells #[] 24))
    clear hb1
    go_wp2_with fail
    exact bodyPost_ret (v := .tuple #[.slice (some ⟨w1.heap.size, 0, none⟩) 0 0, .bool false]) (by simp [results, Try.results15, go_sem]) rfl (GotR.no HN.out HO.out HB.out)
  · have H1 := Lib.hid h1
    cases h2 : inB m 1 64
    · have HN : Hid (mrOk R m = false) := Lib.hid (by unfold mrOk; rw [h2, Bool.and_false])
      have H2 := Lib.hid h2
      clear h1 h2
      go_enter Try.func15, Try.ntmps15
      go_wp2_with fail
      refine (l2Records_any A R c w HX.out (by omega)).mono ?_
      rintro e w1 ⟨rfl, hb1⟩
      rw [H1.out]
      have HO := Lib.hid (made_at (w := w1) (base := w.heap.size) (g := w1.heap.size) (size := 1) (e := 24) hb1.size rfl)
      have HB := Lib.hid (alloc_ hb1 (.cells #[] 24))
      clear hb1
      go_wp2_with (go_at_call 19; refine (l1In_any _ _ _ _).mono ?_; rintro e w' ⟨rfl, rfl⟩; rw [H2.out])
      exact bodyPost_ret (v := .tuple #[.slice (some ⟨w1.heap.size, 0, none⟩) 0 0, .bool false]) (by simp [results, Try.results15, go_sem]) rfl (GotR.no HN.out HO.out HB.out)
    · have HN : Hid (mrOk R m = true) := Lib.hid (by unfold mrOk; rw [h1, h2]; rfl)
      have H2 := Lib.hid h2
      obtain ⟨k1, k2⟩ := inB_iff.1 h2
      obtain ⟨k, rfl⟩ := Int.eq_ofNat_of_zero_le (show 0 ≤ m by omega)
      have hl64 : R.length ≤ 64 := by unfold rsOk at h1; simp only [Bool.and_eq_true, decide_eq_true_eq] at h1; exact h1.1
      clear h1 h2
      go_enter Try.func15, Try.ntmps15
      go_wp2_with fail
      refine (l2Records_any A R c w HX.out (by omega)).mono ?_
      rintro e w1 ⟨rfl, hb1⟩
      rw [H1.out]
      have HM := Lib.hid (l17Runs_any A R c k w1 ((HX.out.below hb1).more hb1.size) hc hl64 (by omega) (by omega))
      have HB1 := Lib.hid hb1
      clear hb1
      go_wp2_with (go_at_call 19; refine (l1In_any _ _ _ _).mono ?_; rintro e w' ⟨rfl, rfl⟩; rw [H2.out])
      refine HM.out.mono ?_
      rintro e w2 ⟨g, d, rfl, ho, hb2⟩
      have HO := Lib.hid (ho.base' HB1.out.size)
      have HB := Lib.hid (bthen HB1.out hb2)
      clear ho hb2
      go_wp2_with fail
      exact bodyPost_ret (v := .tuple #[.slice (some ⟨g, 0, none⟩) (mkR R k).length d, .bool true]) (by simp [results, Try.results15, go_sem]) rfl (GotR.yes HN.out HO.out HB.out)
end Go.Proofs.Ytifjihpnhmemgaa
