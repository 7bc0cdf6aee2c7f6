/- DropWire: the reference's function. -/
import Derived.Test.YtkhfilkikpiepaaDrop
namespace Go.Proofs.Ytkhfilkikpiepaa
open Go.RowKit
set_option linter.unusedVariables false
theorem dw_bad {W : Int} {cs : List (Int × Int)} {x : Int} {k : Nat} (hk : k < cs.length) (h : cs[k].2 < cs[k].1) : dwOk W cs x = false := by
  have : cs.all ltB = false := all_hit hk (by simp [ltB]; omega)
  simp [dwOk, this]
theorem dw_good {W : Int} {cs : List (Int × Int)} {x : Int} (h1 : netOk W cs = true) (h2 : (W == 1) = false) (h3 : cs.all ltB = true) (h4 : inB x 0 (W - 1) = true) : dwOk W cs x = true := by
  simp [dwOk, h1, h2, h3, h4]
set_option maxRecDepth 100000 in
set_option maxHeartbeats 1600000 in
theorem sDropWire_any (W : Int) (A : Option Addr) (cs : List (Int × Int)) (c : Nat) (x : Int) (w : World) (hx : Reads w w.heap.size 2 A cs.length (cmps cs)) (hl : cs.length ≤ 1099511627776) :
    Calls Try.prog 20 #[.agg #[.int .i64 W, .slice A cs.length c], .int .i64 x] w fun e w' => ∃ A c, e = .returned (.tuple #[.agg #[.int .i64 (dwW W cs x), .slice A (dwV W cs x).length c], .bool (dwOk W cs x)]) ∧
      w'.ownsRow w.heap.size 54 2 (.slice A (dwV W cs x).length c) (dwV W cs x).length (cmps (dwV W cs x)) ∧ Below w.heap.size w w' := by
  obtain ⟨i0, hi, hz0, hz1, hz2⟩ := info_parts info_cmp
  have hb0 : Below w.heap.size w ((w.alloc (.cells #[.int .i64 W, .slice A cs.length c] 28)).alloc (.cells #[.int .i64 0, .slice none 0 0] 28)) := by go_grown
  have k0 := (Blk.new w 28 #[.int .i64 W, .slice A cs.length c]).alloc (.cells #[.int .i64 0, .slice none 0 0] 28)
  have k2 : Blk ((w.alloc (.cells #[.int .i64 W, .slice A cs.length c] 28)).alloc (.cells #[.int .i64 0, .slice none 0 0] 28)) (w.heap.size + 1) 28 #[.int .i64 0, .slice none 0 0] := blk_new_at (by simp)
  have hcase : (netOk W cs = true ∧ (W == 1) = false ∧ inB x 0 (W - 1) = true) ∨ (netOk W cs = false ∨ (netOk W cs = true ∧ (W == 1) = true) ∨ (netOk W cs = true ∧ (W == 1) = false ∧ inB x 0 (W - 1) = false)) := by
    cases h1 : netOk W cs <;> cases h2 : (W == 1) <;> cases h4 : inB x 0 (W - 1) <;> simp_all
  have hoff : dwOk W cs x = false → dwV W cs x = [] ∧ dwW W cs x = 0 := by
    intro h; simp [dwV, dwW, h]
  have hon : dwOk W cs x = true → dwV W cs x = dwT x cs ∧ dwW W cs x = W - 1 := by
    intro h; simp [dwV, dwW, h]
  have HOFF := Lib.hid hoff; clear hoff
  have HON := Lib.hid hon; clear hon
  rcases hcase with ⟨h1, h2, h4⟩ | hbad
  · skip
    have hwr := inB_iff.1 (show inB W 1 16 = true from by have := h1; simp [netOk] at this; exact this.1)
    obtain ⟨hwr1, hwr2⟩ := hwr
    have hcl := netOk_len h1
    have hcs : ∀ c ∈ cs, cmpOk W c = true := by
      simp only [netOk, Bool.and_eq_true, List.all_eq_true] at h1; exact h1.2.2
    have HC := Lib.hid hcs; clear hcs
    have HG := Lib.hid (fun h3 => dw_good h1 h2 h3 h4)
    have H1 := Lib.hid h1; clear h1
    have H4 := Lib.hid h4; clear h4
    go_enter Try.func20, Try.ntmps20
    go_wp2_with fail
    refine (l12Good_any W A cs c _ ((hx.below hb0).more hb0.size) hl).mono ?_
    rintro e w2 ⟨rfl, hb1⟩
    have B2 := bthen hb0 hb1
    have L0 := k0.below_ hb1
    have L2 := k2.below_ hb1
    clear k0 k2 hb0 hb1
    obtain ⟨x0, x1⟩ := L0.two
    have xl := L2.lt
    have xl0 := L0.lt
    rw [H1.out]
    have P1 := alloc_ (alloc_ B2 (.cells #[] 54)) (.cells #[.int .i64 (W - 1), .slice (some ⟨w2.heap.size, 0, none⟩) 0 0] 28)
    have P2 := (L0.alloc (.cells #[] 54)).alloc (.cells #[.int .i64 (W - 1), .slice (some ⟨w2.heap.size, 0, none⟩) 0 0] 28)
    have P4 := (L2.alloc (.cells #[] 54)).alloc (.cells #[.int .i64 (W - 1), .slice (some ⟨w2.heap.size, 0, none⟩) 0 0] 28)
    have P5 : Blk ((w2.alloc (.cells #[] 54)).alloc (.cells #[.int .i64 (W - 1), .slice (some ⟨w2.heap.size, 0, none⟩) 0 0] 28)) (w2.heap.size + 1) 28 #[.int .i64 (W - 1), .slice (some ⟨w2.heap.size, 0, none⟩) 0 0] := blk_new_at (by simp)
    have P6 := World.ownsRow.alloc (made_at (w := w2) (base := w.heap.size + 2) (size := 2) (e := 54) xl rfl) (.cells #[.int .i64 (W - 1), .slice (some ⟨w2.heap.size, 0, none⟩) 0 0] 28)
    have P8 := Lib.hid (show NetAt _ (w.heap.size + 2) (w2.heap.size + 1) (W - 1) [] from ⟨_, P5, P6, by omega⟩)
    have P7 : w.heap.size + 1 < w2.heap.size + 1 := by omega
    clear P5 P6
    go_wp2_with (go_at_call 42; refine (l1In_any _ _ _ _).mono ?_; rintro e w' ⟨rfl, rfl⟩; rw [H4.out])
    clear x0 x1 xl xl0 L0 L2 B2
    generalize (w2.alloc (.cells #[] 54)).alloc (.cells #[.int .i64 (W - 1), .slice (some ⟨w2.heap.size, 0, none⟩) 0 0] 28) = wz at P1 P2 P4 P8 ⊢
    generalize w2.heap.size + 1 = pz at P7 P8 ⊢
    go_loopw [7] (fun i wr => ∃ (k : Nat) (ys : List (Int × Int)), k ≤ cs.length ∧ i = .int .i64 k ∧ ys = dwT x (cs.take k) ∧ (cs.take k).all ltB = true ∧ Below w.heap.size w wr ∧ Blk wr w.heap.size 28 #[.int .i64 W, .slice A cs.length c] ∧ Blk wr (w.heap.size + 1) 28 #[.int .i64 0, .slice none 0 0] ∧
        NetAt wr (w.heap.size + 2) pz (W - 1) ys) (fun i _ => cs.length - (intOf i).toNat)
    case atStart => exact ⟨0, [], by omega, rfl, by simp [dwT], by simp, P1, P2, P4, P8.out⟩
    case round =>
      clear P1 P2 P4 P8
      obtain ⟨k, ys, hk, rfl, hys, hall, hb, L0, L2, hnet⟩ := hrel
      have hyl : ys.length ≤ cs.length := by
        rw [hys]; exact Nat.le_trans (dwT_len _ _) (by simp; omega)
      have HY := Lib.hid hys; clear hys
      have HA := Lib.hid hall; clear hall
      have hwz : w.heap.size + 1 < wr.heap.size := L2.lt
      have hw0 : w.heap.size < wr.heap.size := L0.lt
      obtain ⟨x0, x1⟩ := L0.two
      by_cases hlt : k < cs.length
      · obtain ⟨ad, rfl, had, hc0, hc1⟩ := (hx.below hb).cmp hlt
        obtain ⟨hcn, hlo0, hlo1, hhi0, hhi1⟩ := cmpOk_iffD (HC.out cs[k] (List.getElem_mem hlt))
        have hsu := dwT_succ x cs k hlt
        rw [← HY.out] at hsu
        have HSU := Lib.hid hsu; clear hsu
        have hh : dwHit x cs[k] = ((cs[k].1 != x) && (cs[k].2 != x)) := rfl
        have HH := Lib.hid hh; clear hh
        have hbad := fun h => dw_bad (W := W) (x := x) hlt h
        have HBAD := Lib.hid hbad; clear hbad
        have hts := fun h => all_take_succ (p := ltB) hlt HA.out h
        have HTS := Lib.hid hts; clear hts
        have hnm1 : dwN x cs[k].1 = if x < cs[k].1 then cs[k].1 - 1 else cs[k].1 := rfl
        have hnm2 : dwN x cs[k].2 = if x < cs[k].2 then cs[k].2 - 1 else cs[k].2 := rfl
        have HN1 := Lib.hid hnm1; clear hnm1
        have HN2 := Lib.hid hnm2; clear hnm2
        have hlb : ltB cs[k] = decide (cs[k].1 < cs[k].2) := rfl
        have HLB := Lib.hid hlb; clear hlb
        have M0 := L0.alloc (.cells #[.int .i64 cs[k].1, .int .i64 cs[k].2] 54)
        have M2 := L2.alloc (.cells #[.int .i64 cs[k].1, .int .i64 cs[k].2] 54)
        have hb1 := alloc_ hb (.cells #[.int .i64 cs[k].1, .int .i64 cs[k].2] 54)
        have hn1 := hnet.alloc' (.cells #[.int .i64 cs[k].1, .int .i64 cs[k].2] 54)
        obtain ⟨e0, e1⟩ := (Blk.new wr 54 #[.int .i64 cs[k].1, .int .i64 cs[k].2]).two
        generalize cs[k].1 = a at *
        generalize cs[k].2 = b at *
        by_cases hgt : b < a
        · have hdw := HBAD.out hgt
          obtain ⟨hV, hWz⟩ := HOFF.out hdw
          have HDW := Lib.hid hdw; clear hdw
          have HV := Lib.hid hV; clear hV
          have HWZ := Lib.hid hWz; clear hWz
          obtain ⟨d0, d1⟩ := M2.two
          have f0 := M2.frozen 0
          have f1 := M2.frozen 1
          obtain ⟨r0, r1⟩ := ((M2.set_ 0 (.int .i64 0)).set_ 1 (.slice none 0 0)).two
          have R0 := Lib.hid r0; clear r0
          have R1 := Lib.hid r1; clear r1
          go_upto_region 9 with fail
          generalize wr.heap.size = m at *
          generalize wr.alloc (.cells #[.int .i64 a, .int .i64 b] 54) = wc at *
          go_wp2_with fail
          refine bodyPost_ret (v := .tuple #[.agg #[.int .i64 0, .slice none 0 0], .bool false]) (by simp [results, Try.results20, go_sem, R0.out, R1.out]) rfl ?_
          rw [HV.out, HWZ.out, HDW.out]
          exact ⟨none, 0, rfl, World.ownsRow_nil _ _ _ _, Below.setCell (Below.setCell hb1 (by simp <;> omega) _) (by simp <;> omega) _⟩
        · have hab : a < b := by omega
          have hltb : ltB cs[k] = true := by rw [HLB.out]; simpa using hab
          have HTS2 := Lib.hid (HTS.out hltb)
          clear hltb
          cases c1 : (a != x)
          · have hhf : dwHit x cs[k] = false := by rw [HH.out, c1]; rfl
            rw [hhf] at HSU
            simp only [Bool.false_eq_true, if_false, List.append_nil] at HSU
            clear hhf
            obtain rfl : a = x := by simpa using c1
            clear c1
            go_wp2_with fail
            go_roundw
            case rel => exact ⟨k + 1, ys, by omega, by go_num, HSU.out.symm, HTS2.out, hb1, M0, M2, hn1⟩
            case measure => simp [intOf]; omega
          · cases c2 : (b != x)
            · have hhf : dwHit x cs[k] = false := by rw [HH.out, c1, c2]; rfl
              rw [hhf] at HSU
              simp only [Bool.false_eq_true, if_false, List.append_nil] at HSU
              clear hhf
              have hax : (a == x) = false := by simpa using c1
              obtain rfl : b = x := by simpa using c2
              clear c2
              go_wp2_with fail
              go_roundw
              case rel => exact ⟨k + 1, ys, by omega, by go_num, HSU.out.symm, HTS2.out, hb1, M0, M2, hn1⟩
              case measure => simp [intOf]; omega
            have hhf : dwHit x cs[k] = true := by rw [HH.out, c1, c2]; rfl
            rw [hhf] at HSU
            simp only [if_true] at HSU
            clear hhf
            have hax : (a == x) = false := by simpa using c1
            have hbx : (b == x) = false := by simpa using c2
            obtain ⟨v, hblk, hown, hBp⟩ := hnet
            obtain ⟨q0, q1⟩ := hblk.two
            have ql := hblk.lt
            by_cases n1 : x < a <;> by_cases n2 : x < b
            · go_wp2_with (at_builtin; refine wpList_push' _ rfl _ _ 26 rfl (w.heap.size + 2) 54 i0 _ 2 16 Try.underlying26 hi hz0 hz1 hz2 rfl (by decide) v _ _ rfl (World.ownsRow.alloc (World.ownsRow.alloc hown _) _) #[.int .i64 (a - 1), .int .i64 (b - 1)] (wr.heap.size + 1) rfl (blk_new_at (by simp)) rfl (by simp [Value.oneCell']) (by omega) (by unfold maxLen; omega) (by simp; omega) ?_; intro g1 d1 w3 hown2 hg2 hb3 hat3; have hblk2 := Blk.grown (Blk.alloc (Blk.alloc hblk _) _) hg2 (fun e => own_blk_ne hown hblk (by decide) e.symm); have z1 : w3.cell? ⟨pz, 1, none⟩ = some v := hblk2.cell 1; have zf := hblk2.frozen 1)
              go_roundw
              case rel =>
                refine ⟨k + 1, _, by omega, by go_num, HSU.out.symm, HTS2.out, ?_, ?_, ?_, ?_⟩
                · exact Below.setCell ((alloc_ (alloc_ hb _) _).trans (hb3.mono (by omega))) (by simp; omega) _
                · exact Blk.far (Blk.grown (Blk.alloc (Blk.alloc L0 _) _) hg2 (fun e => own_blk_ne hown L0 (by decide) e.symm)) (by simp; omega) _
                · exact Blk.far (Blk.grown (Blk.alloc (Blk.alloc L2 _) _) hg2 (fun e => own_blk_ne hown L2 (by decide) e.symm)) (by simp; omega) _
                · rw [HN1.out, HN2.out]
                  rw [if_pos n1, if_pos n2]
                  exact ⟨.slice (some ⟨g1, 0, none⟩) (ys.length + 1) d1, hblk2.set_ 1 _, own_setCell (p := ⟨pz, 1, none⟩) (cmps_push hown2) (own_blk_ne hown2 hblk2 (by decide)) _, hBp⟩
              case measure => simp [intOf]; omega
            · exfalso; omega
            · go_wp2_with (at_builtin; refine wpList_push' _ rfl _ _ 26 rfl (w.heap.size + 2) 54 i0 _ 2 16 Try.underlying26 hi hz0 hz1 hz2 rfl (by decide) v _ _ rfl (World.ownsRow.alloc (World.ownsRow.alloc hown _) _) #[.int .i64 a, .int .i64 (b - 1)] (wr.heap.size + 1) rfl (blk_new_at (by simp)) rfl (by simp [Value.oneCell']) (by omega) (by unfold maxLen; omega) (by simp; omega) ?_; intro g1 d1 w3 hown2 hg2 hb3 hat3; have hblk2 := Blk.grown (Blk.alloc (Blk.alloc hblk _) _) hg2 (fun e => own_blk_ne hown hblk (by decide) e.symm); have z1 : w3.cell? ⟨pz, 1, none⟩ = some v := hblk2.cell 1; have zf := hblk2.frozen 1)
              go_roundw
              case rel =>
                refine ⟨k + 1, _, by omega, by go_num, HSU.out.symm, HTS2.out, ?_, ?_, ?_, ?_⟩
                · exact Below.setCell ((alloc_ (alloc_ hb _) _).trans (hb3.mono (by omega))) (by simp; omega) _
                · exact Blk.far (Blk.grown (Blk.alloc (Blk.alloc L0 _) _) hg2 (fun e => own_blk_ne hown L0 (by decide) e.symm)) (by simp; omega) _
                · exact Blk.far (Blk.grown (Blk.alloc (Blk.alloc L2 _) _) hg2 (fun e => own_blk_ne hown L2 (by decide) e.symm)) (by simp; omega) _
                · rw [HN1.out, HN2.out]
                  rw [if_neg n1, if_pos n2]
                  exact ⟨.slice (some ⟨g1, 0, none⟩) (ys.length + 1) d1, hblk2.set_ 1 _, own_setCell (p := ⟨pz, 1, none⟩) (cmps_push hown2) (own_blk_ne hown2 hblk2 (by decide)) _, hBp⟩
              case measure => simp [intOf]; omega
            · go_wp2_with (at_builtin; refine wpList_push' _ rfl _ _ 26 rfl (w.heap.size + 2) 54 i0 _ 2 16 Try.underlying26 hi hz0 hz1 hz2 rfl (by decide) v _ _ rfl (World.ownsRow.alloc (World.ownsRow.alloc hown _) _) #[.int .i64 a, .int .i64 b] (wr.heap.size + 1) rfl (blk_new_at (by simp)) rfl (by simp [Value.oneCell']) (by omega) (by unfold maxLen; omega) (by simp; omega) ?_; intro g1 d1 w3 hown2 hg2 hb3 hat3; have hblk2 := Blk.grown (Blk.alloc (Blk.alloc hblk _) _) hg2 (fun e => own_blk_ne hown hblk (by decide) e.symm); have z1 : w3.cell? ⟨pz, 1, none⟩ = some v := hblk2.cell 1; have zf := hblk2.frozen 1)
              go_roundw
              case rel =>
                refine ⟨k + 1, _, by omega, by go_num, HSU.out.symm, HTS2.out, ?_, ?_, ?_, ?_⟩
                · exact Below.setCell ((alloc_ (alloc_ hb _) _).trans (hb3.mono (by omega))) (by simp; omega) _
                · exact Blk.far (Blk.grown (Blk.alloc (Blk.alloc L0 _) _) hg2 (fun e => own_blk_ne hown L0 (by decide) e.symm)) (by simp; omega) _
                · exact Blk.far (Blk.grown (Blk.alloc (Blk.alloc L2 _) _) hg2 (fun e => own_blk_ne hown L2 (by decide) e.symm)) (by simp; omega) _
                · rw [HN1.out, HN2.out]
                  rw [if_neg n1, if_neg n2]
                  exact ⟨.slice (some ⟨g1, 0, none⟩) (ys.length + 1) d1, hblk2.set_ 1 _, own_setCell (p := ⟨pz, 1, none⟩) (cmps_push hown2) (own_blk_ne hown2 hblk2 (by decide)) _, hBp⟩
              case measure => simp [intOf]; omega
      · have hks : k = cs.length := by omega
        have hall : cs.all ltB = true := by have h := HA.out; rwa [List.take_of_length_le (by omega)] at h
        have hdw := HG.out hall
        obtain ⟨hV, hWz⟩ := HON.out hdw
        have HDW := Lib.hid hdw; clear hdw
        have HV := Lib.hid hV; clear hV
        have HWZ := Lib.hid hWz; clear hWz
        have HALL := Lib.hid hall; clear hall
        obtain ⟨v, hblk, hown, hBp⟩ := hnet
        obtain ⟨G, g, rfl⟩ := own_slice hown
        have hye : ys = dwT x cs := by rw [HY.out, hks, List.take_length]
        rw [hye] at hown hblk
        obtain ⟨c0, c1⟩ := hblk.two
        obtain ⟨d0, d1⟩ := L2.two
        have f0 := L2.frozen 0
        have f1 := L2.frozen 1
        have hl2 := hblk.lt
        have o1 := own_setCell hown (p := ⟨w.heap.size + 1, 0, none⟩) (own_blk_ne hown L2 (by decide)) (.int .i64 (W - 1))
        have o2 := own_setCell o1 (p := ⟨w.heap.size + 1, 1, none⟩) (own_blk_ne hown L2 (by decide)) (.slice G (dwT x cs).length g)
        have O2 := Lib.hid (own_base (base' := w.heap.size) o2 (by omega)); clear o1 o2
        have hbe := Below.setCell (Below.setCell hb (p := ⟨w.heap.size + 1, 0, none⟩) (by simp) (.int .i64 (W - 1))) (p := ⟨w.heap.size + 1, 1, none⟩) (by simp) (.slice G (dwT x cs).length g)
        obtain ⟨r0, r1⟩ := ((L2.set_ 0 (.int .i64 (W - 1))).set_ 1 (.slice G (dwT x cs).length g)).two
        have R0 := Lib.hid r0; clear r0
        have R1 := Lib.hid r1; clear r1
        clear hown hblk hye HY
        go_wp2_with fail
        refine bodyPost_ret (v := .tuple #[.agg #[.int .i64 (W - 1), .slice G (dwT x cs).length g], .bool true]) (by simp [results, Try.results20, go_sem, R0.out, R1.out]) rfl ?_
        rw [HV.out, HWZ.out, HDW.out]
        exact ⟨G, g, rfl, O2.out, hbe⟩
  · have hdw : dwOk W cs x = false := by
      unfold dwOk
      rcases hbad with h1 | ⟨h1, h2⟩ | ⟨h1, h2, h4⟩
      · simp [h1]
      · simp [h2]
      · simp [h4]
    obtain ⟨hV, hWz⟩ := HOFF.out hdw
    rw [hV, hWz, hdw]
    clear hV hWz hdw HOFF HON
    rcases hbad with h1 | ⟨h1, h2⟩ | ⟨h1, h2, h4⟩
    all_goals
      have H1 := Lib.hid h1; clear h1
      try (have hwr := inB_iff.1 (show inB W 1 16 = true from by have := H1.out; simp [netOk] at this; exact this.1); obtain ⟨hwr1, hwr2⟩ := hwr)
      go_enter Try.func20, Try.ntmps20
      go_wp2_with fail
      refine (l12Good_any W A cs c _ ((hx.below hb0).more hb0.size) hl).mono ?_
      rintro e w2 ⟨rfl, hb2⟩
      have B2 := bthen hb0 hb2
      have L0 := k0.below_ hb2
      have L2 := k2.below_ hb2
      clear k0 k2 hb0 hb2
      obtain ⟨x0, x1⟩ := L0.two
      have xl := L2.lt
      have xl0 := L0.lt
      obtain ⟨d0, d1⟩ := L2.two
      have f0 := L2.frozen 0
      have f1 := L2.frozen 1
      obtain ⟨r0, r1⟩ := ((L2.set_ 0 (.int .i64 0)).set_ 1 (.slice none 0 0)).two
      have R0 := Lib.hid r0; clear r0
      have R1 := Lib.hid r1; clear r1
      rw [H1.out]
      go_wp2_with (go_at_call 42; refine (l1In_any _ _ _ _).mono ?_; rintro e w' ⟨rfl, rfl⟩; rw [h4])
      refine bodyPost_ret (v := .tuple #[.agg #[.int .i64 0, .slice none 0 0], .bool false]) (by simp [results, Try.results20, go_sem, R0.out, R1.out]) rfl ⟨none, 0, rfl, World.ownsRow_nil _ _ _ _, ?_⟩
      exact (B2.setCell (by simp <;> omega) _).setCell (by simp <;> omega) _
end Go.Proofs.Ytkhfilkikpiepaa
