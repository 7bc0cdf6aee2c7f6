/- DropWire: the program's function. -/
import Derived.Test.YtkhfilkikpiepaaNetTo
import Derived.Test.YtkhfilkikpiepaaPush
namespace Go.Proofs.Ytkhfilkikpiepaa
open Go.RowKit
set_option linter.unusedVariables false
def ltB (c : Int × Int) : Bool := decide (c.1 < c.2)
def dwOk (W : Int) (cs : List (Int × Int)) (x : Int) : Bool := netOk W cs && (!(W == 1) && (cs.all ltB && inB x 0 (W - 1)))
def dwN (x y : Int) : Int := if x < y then y - 1 else y
def dwHit (x : Int) (c : Int × Int) : Bool := (c.1 != x) && (c.2 != x)
def dwT (x : Int) (cs : List (Int × Int)) : List (Int × Int) := (cs.filter (dwHit x)).map fun c => (dwN x c.1, dwN x c.2)
theorem dwT_len (x : Int) (cs : List (Int × Int)) : (dwT x cs).length ≤ cs.length := by
  unfold dwT; rw [List.length_map]; exact List.length_filter_le _ _
theorem dwT_succ (x : Int) (cs : List (Int × Int)) (k : Nat) (hk : k < cs.length) : dwT x (cs.take (k + 1)) = dwT x (cs.take k) ++ if dwHit x cs[k] then [(dwN x cs[k].1, dwN x cs[k].2)] else [] := by
  unfold dwT
  rw [List.take_succ_eq_append_getElem hk, List.filter_append, List.map_append]
  cases h : dwHit x cs[k] <;> simp [h]
def dwW (W : Int) (cs : List (Int × Int)) (x : Int) : Int := if dwOk W cs x then W - 1 else 0
def dwV (W : Int) (cs : List (Int × Int)) (x : Int) : List (Int × Int) := if dwOk W cs x then dwT x cs else []
theorem netOk_len {W : Int} {cs : List (Int × Int)} (h : netOk W cs = true) : cs.length ≤ 200 := by simp [netOk] at h; exact h.2.1
theorem dw_len (W : Int) (cs : List (Int × Int)) (x : Int) : (dwV W cs x).length ≤ 200 := by
  unfold dwV
  split
  · rename_i h
    simp only [dwOk, Bool.and_eq_true] at h
    exact Nat.le_trans (dwT_len _ _) (netOk_len h.1)
  · simp
theorem NetAt.alloc' {w : World} {B p : Nat} {W : Int} {cs : List (Int × Int)} (h : NetAt w B p W cs) (o : Obj) : NetAt (w.alloc o) B p W cs := by
  obtain ⟨v, h1, h2, h3⟩ := h
  exact ⟨v, h1.alloc o, h2.alloc o, h3⟩
theorem NetAt.drew {w : World} {B p : Nat} {W : Int} {cs : List (Int × Int)} (h : NetAt w B p W cs) : NetAt w.drew B p W cs := h
theorem cmpOk_iffD {W : Int} {c : Int × Int} (h : cmpOk W c = true) : c.1 ≠ c.2 ∧ 0 ≤ c.1 ∧ c.1 < W ∧ 0 ≤ c.2 ∧ c.2 < W := by
  simp only [cmpOk, Bool.and_eq_true, Bool.not_eq_true', beq_eq_false_iff_ne] at h
  have := inB_iff.1 h.2.1
  have := inB_iff.1 h.2.2
  exact ⟨h.1, by omega, by omega, by omega, by omega⟩
theorem dropLt_one (a b : Int) (w : World) : Pred Try.prog 38 #[] w (.agg #[.int .i64 a, .int .i64 b]) (ltB (a, b)) := by
  intro w1 hb
  go_enter Try.func38, Try.ntmps38
  go_wp2_with fail
  go_ret
  exact ⟨rfl, by go_grown⟩
theorem dropName_any (x y : Int) (h : Nat) (w : World) (hc : w.cell? ⟨h, 0, none⟩ = some (.int .i64 x)) (h0 : 0 ≤ y) (h1 : y ≤ 100) :
    Calls Try.prog 40 #[.int .i64 y, .pointer (some ⟨h, 0, none⟩)] w fun e w' => e = .returned (.int .i64 (dwN x y)) ∧ w = w' := by
  by_cases hlt : x < y
  all_goals
    have e1 : dwN x y = if x < y then y - 1 else y := rfl
    simp only [hlt, if_true, if_false] at e1
    have E1 := Lib.hid e1; clear e1
    go_enter Try.func40, Try.ntmps40
    go_wp2_with fail
    go_ret
    exact ⟨reti E1.out.symm, rfl⟩
set_option maxRecDepth 100000 in
set_option maxHeartbeats 1600000 in
theorem DropWire_any (W : Int) (A : Option Addr) (cs : List (Int × Int)) (c : Nat) (x : Int) (w : World) (hx : Reads w w.heap.size 2 A cs.length (cmps cs)) (hl : cs.length ≤ 1099511627776) :
    Calls Try.prog 19 #[.agg #[.int .i64 W, .slice A cs.length c], .int .i64 x] w fun e w' => ∃ A c, e = .returned (.tuple #[.agg #[.int .i64 (dwW W cs x), .slice A (dwV W cs x).length c], .bool (dwOk W cs x)]) ∧
      w'.ownsRow w.heap.size 54 2 (.slice A (dwV W cs x).length c) (dwV W cs x).length (cmps (dwV W cs x)) ∧ Below w.heap.size w w' := by
  obtain ⟨i0, hi, hz0, hz1, hz2⟩ := info_parts info_cmp
  have hb0 : Below w.heap.size w (((w.alloc (.cells #[.int .i64 W, .slice A cs.length c] 28)).alloc (.cells #[.int .i64 x] 3)).alloc (.cells #[.int .i64 0, .slice none 0 0] 28)) := by go_grown
  have k0 := ((Blk.new w 28 #[.int .i64 W, .slice A cs.length c]).alloc (.cells #[.int .i64 x] 3)).alloc (.cells #[.int .i64 0, .slice none 0 0] 28)
  have k1 : Blk (((w.alloc (.cells #[.int .i64 W, .slice A cs.length c] 28)).alloc (.cells #[.int .i64 x] 3)).alloc (.cells #[.int .i64 0, .slice none 0 0] 28)) (w.heap.size + 1) 3 #[.int .i64 x] := Blk.alloc (blk_new_at (by simp)) _
  have k2 : Blk (((w.alloc (.cells #[.int .i64 W, .slice A cs.length c] 28)).alloc (.cells #[.int .i64 x] 3)).alloc (.cells #[.int .i64 0, .slice none 0 0] 28)) (w.heap.size + 2) 28 #[.int .i64 0, .slice none 0 0] := blk_new_at (by simp)
  have hst : cs.all ltB = true ∨ cs.all ltB = false := by cases cs.all ltB <;> simp
  have hWW : (W == 1) = true ∨ (W == 1) = false := by cases (W == 1) <;> simp
  cases hok : dwOk W cs x
  · rw [show dwV W cs x = [] from by simp [dwV, hok], show dwW W cs x = 0 from by simp [dwW, hok]]
    have ho : netOk W cs = false ∨ (netOk W cs = true ∧ (W == 1) = true) ∨ (netOk W cs = true ∧ (W == 1) = false ∧ cs.all ltB = false) ∨ (netOk W cs = true ∧ (W == 1) = false ∧ cs.all ltB = true ∧ inB x 0 (W - 1) = false) := by
      unfold dwOk at hok
      cases h1 : netOk W cs <;> cases h2 : (W == 1) <;> cases h3 : cs.all ltB <;> cases h4 : inB x 0 (W - 1) <;> simp_all
    clear hok hst hWW
    rcases ho with h1 | ⟨h1, h2⟩ | ⟨h1, h2, h3⟩ | ⟨h1, h2, h3, h4⟩
    all_goals
      have H1 := Lib.hid h1; clear h1
      try (have hwr := inB_iff.1 (show inB W 1 16 = true from by have := H1.out; simp [netOk] at this; exact this.1); obtain ⟨hwr1, hwr2⟩ := hwr)
      go_enter Try.func19, Try.ntmps19
      go_wp2_with fail
      refine (allCmps_any ltB 38 #[] A cs c _ ((hx.below hb0).more hb0.size) hl (plain_of Try.func38 (by kernel_rfl) (by kernel_rfl)) (fun y _ => dropLt_one y.1 y.2 _)).mono ?_
      rintro e w1 ⟨rfl, hb1⟩
      have B1 := bthen hb0 hb1
      have K0 := k0.below_ hb1
      have K1 := k1.below_ hb1
      have K2 := k2.below_ hb1
      obtain ⟨x0, x1⟩ := K0.two
      have xl := K2.lt
      go_wp2_with fail
      refine (IsValidNetwork_any W A cs c _ ((hx.below B1).more B1.size) hl).mono ?_
      rintro e w2 ⟨rfl, hb2⟩
      have B2 := bthen B1 hb2
      have L0 := K0.below_ hb2
      have L1 := K1.below_ hb2
      have L2 := K2.below_ hb2
      clear x0 x1 xl k0 k1 k2 K0 K1 K2 hb0 B1 hb1 hb2
      obtain ⟨x0, x1⟩ := L0.two
      have y0 : w2.cell? ⟨w.heap.size + 1, 0, none⟩ = some (.int .i64 x) := L1.cell 0
      have xl := L2.lt
      obtain ⟨d0, d1⟩ := L2.two
      have f0 := L2.frozen 0
      have f1 := L2.frozen 1
      obtain ⟨r0, r1⟩ := ((L2.set_ 0 (.int .i64 0)).set_ 1 (.slice none 0 0)).two
      have R0 := Lib.hid r0; clear r0
      have R1 := Lib.hid r1; clear r1
      rw [H1.out]
      go_wp2_with (go_at_call 39; refine (in_any _ _ _ _).mono ?_; rintro e w' ⟨rfl, rfl⟩; rw [h4])
      refine bodyPost_ret (v := .tuple #[.agg #[.int .i64 0, .slice none 0 0], .bool false]) (by simp [results, Try.results19, go_sem, R0.out, R1.out]) rfl ⟨none, 0, rfl, World.ownsRow_nil _ _ _ _, ?_⟩
      exact (B2.setCell (by simp <;> omega) _).setCell (by simp <;> omega) _
  · rw [show dwV W cs x = dwT x cs from by simp [dwV, hok], show dwW W cs x = W - 1 from by simp [dwW, hok]]
    have ho := hok
    simp only [dwOk, Bool.and_eq_true, Bool.not_eq_true'] at ho
    obtain ⟨h1, h2, h3, h4⟩ := ho
    clear hok hst hWW
    have hwr := inB_iff.1 (show inB W 1 16 = true from by have := h1; simp [netOk] at this; exact this.1)
    obtain ⟨hwr1, hwr2⟩ := hwr
    have hcl := netOk_len h1
    have hcs : ∀ c ∈ cs, cmpOk W c = true := by
      simp only [netOk, Bool.and_eq_true, List.all_eq_true] at h1; exact h1.2.2
    have HC := Lib.hid hcs; clear hcs
    have H1 := Lib.hid h1; clear h1
    have H4 := Lib.hid h4; clear h4
    go_enter Try.func19, Try.ntmps19
    go_wp2_with fail
    refine (allCmps_any ltB 38 #[] A cs c _ ((hx.below hb0).more hb0.size) hl (plain_of Try.func38 (by kernel_rfl) (by kernel_rfl)) (fun y _ => dropLt_one y.1 y.2 _)).mono ?_
    rintro e w1 ⟨rfl, hb1⟩
    have B1 := bthen hb0 hb1
    have K0 := k0.below_ hb1
    have K1 := k1.below_ hb1
    have K2 := k2.below_ hb1
    obtain ⟨x0, x1⟩ := K0.two
    have xl := K2.lt
    go_wp2_with fail
    refine (IsValidNetwork_any W A cs c _ ((hx.below B1).more B1.size) hl).mono ?_
    rintro e w2 ⟨rfl, hb2⟩
    have B2 := bthen B1 hb2
    have L0 := K0.below_ hb2
    have L1 := K1.below_ hb2
    have L2 := K2.below_ hb2
    clear x0 x1 xl k0 k1 k2 K0 K1 K2 hb0 B1 hb1 hb2
    obtain ⟨x0, x1⟩ := L0.two
    have y0 : w2.cell? ⟨w.heap.size + 1, 0, none⟩ = some (.int .i64 x) := L1.cell 0
    have xl := L2.lt
    have xl0 := L0.lt
    rw [H1.out]
    have P1 := alloc_ (alloc_ B2 (.cells #[] 54)) (.cells #[.int .i64 (W - 1), .slice (some ⟨w2.heap.size, 0, none⟩) 0 0] 28)
    have P2 := (L0.alloc (.cells #[] 54)).alloc (.cells #[.int .i64 (W - 1), .slice (some ⟨w2.heap.size, 0, none⟩) 0 0] 28)
    have P3 := (L1.alloc (.cells #[] 54)).alloc (.cells #[.int .i64 (W - 1), .slice (some ⟨w2.heap.size, 0, none⟩) 0 0] 28)
    have P4 := (L2.alloc (.cells #[] 54)).alloc (.cells #[.int .i64 (W - 1), .slice (some ⟨w2.heap.size, 0, none⟩) 0 0] 28)
    have P5 : Blk ((w2.alloc (.cells #[] 54)).alloc (.cells #[.int .i64 (W - 1), .slice (some ⟨w2.heap.size, 0, none⟩) 0 0] 28)) (w2.heap.size + 1) 28 #[.int .i64 (W - 1), .slice (some ⟨w2.heap.size, 0, none⟩) 0 0] := blk_new_at (by simp)
    have P6 := World.ownsRow.alloc (made_at (w := w2) (base := w.heap.size + 3) (size := 2) (e := 54) xl rfl) (.cells #[.int .i64 (W - 1), .slice (some ⟨w2.heap.size, 0, none⟩) 0 0] 28)
    have P8 := Lib.hid (show NetAt _ (w.heap.size + 3) (w2.heap.size + 1) (W - 1) [] from ⟨_, P5, P6, by omega⟩)
    have P7 : w.heap.size + 2 < w2.heap.size + 1 := by omega
    clear P5 P6
    go_wp2_with (go_at_call 39; refine (in_any _ _ _ _).mono ?_; rintro e w' ⟨rfl, rfl⟩; rw [H4.out])
    clear x0 x1 y0 xl xl0 L0 L1 L2 B2
    generalize (w2.alloc (.cells #[] 54)).alloc (.cells #[.int .i64 (W - 1), .slice (some ⟨w2.heap.size, 0, none⟩) 0 0] 28) = wz at P1 P2 P3 P4 P8 ⊢
    generalize w2.heap.size + 1 = pz at P7 P8 ⊢
    go_loopw [45] (fun i wr => ∃ (k : Nat) (ys : List (Int × Int)), k ≤ cs.length ∧ i = .int .i64 k ∧ ys = dwT x (cs.take k) ∧ Below w.heap.size w wr ∧ Blk wr w.heap.size 28 #[.int .i64 W, .slice A cs.length c] ∧ Blk wr (w.heap.size + 1) 3 #[.int .i64 x] ∧ Blk wr (w.heap.size + 2) 28 #[.int .i64 0, .slice none 0 0] ∧
        NetAt wr (w.heap.size + 3) pz (W - 1) ys) (fun i _ => cs.length - (intOf i).toNat)
    case atStart => exact ⟨0, [], by omega, rfl, by simp [dwT], P1, P2, P3, P4, P8.out⟩
    case round =>
      clear P1 P2 P3 P4 P8
      obtain ⟨k, ys, hk, rfl, hys, hb, L0, L1, L2, hnet⟩ := hrel
      have hyl : ys.length ≤ cs.length := by
        rw [hys]; exact Nat.le_trans (dwT_len _ _) (by simp; omega)
      have HY := Lib.hid hys; clear hys
      have hwz : w.heap.size + 2 < wr.heap.size := L2.lt
      by_cases hlt : k < cs.length
      · obtain ⟨ad, rfl, had, hc0, hc1⟩ := (hx.below hb).cmp hlt
        obtain ⟨hcn, hlo0, hlo1, hhi0, hhi1⟩ := cmpOk_iffD (HC.out cs[k] (List.getElem_mem hlt))
        have hsu := dwT_succ x cs k hlt
        rw [← HY.out] at hsu
        have HSU := Lib.hid hsu; clear hsu
        have hcb := Blk.new wr 54 #[.int .i64 cs[k].1, .int .i64 cs[k].2]
        have y0 : (wr.alloc (.cells #[.int .i64 cs[k].1, .int .i64 cs[k].2] 54)).cell? ⟨w.heap.size + 1, 0, none⟩ = some (.int .i64 x) := (L1.alloc _).cell 0
        have M0 := L0.alloc (.cells #[.int .i64 cs[k].1, .int .i64 cs[k].2] 54)
        have M1 := L1.alloc (.cells #[.int .i64 cs[k].1, .int .i64 cs[k].2] 54)
        have M2 := L2.alloc (.cells #[.int .i64 cs[k].1, .int .i64 cs[k].2] 54)
        have hb1 := alloc_ hb (.cells #[.int .i64 cs[k].1, .int .i64 cs[k].2] 54)
        have hn1 := hnet.alloc' (.cells #[.int .i64 cs[k].1, .int .i64 cs[k].2] 54)
        have hh : dwHit x cs[k] = ((cs[k].1 != x) && (cs[k].2 != x)) := rfl
        have HH := Lib.hid hh; clear hh
        obtain ⟨e0, e1⟩ := hcb.two
        cases c1 : (cs[k].1 != x)
        · have hhf : dwHit x cs[k] = false := by rw [HH.out, c1]; rfl
          rw [hhf] at HSU
          simp only [Bool.false_eq_true, if_false, List.append_nil] at HSU
          clear hhf
          go_wp2_with fail
          go_roundw
          case rel => exact ⟨k + 1, ys, by omega, by go_num, HSU.out.symm, hb1, M0, M1, M2, hn1⟩
          case measure => simp [intOf]; omega
        · cases c2 : (cs[k].2 != x)
          · have hhf : dwHit x cs[k] = false := by rw [HH.out, c1, c2]; rfl
            rw [hhf] at HSU
            simp only [Bool.false_eq_true, if_false, List.append_nil] at HSU
            clear hhf
            go_wp2_with fail
            go_roundw
            case rel => exact ⟨k + 1, ys, by omega, by go_num, HSU.out.symm, hb1, M0, M1, M2, hn1⟩
            case measure => simp [intOf]; omega
          · have hhf : dwHit x cs[k] = true := by rw [HH.out, c1, c2]; rfl
            rw [hhf] at HSU
            simp only [if_true] at HSU
            clear hhf
            go_upto_region 10 with fail
            go_region_with (first | (go_at_call 40; refine (dropName_any x _ (w.heap.size + 1) _ (by exact y0) (by omega) (by omega)).mono ?_; rintro e w' ⟨rfl, rfl⟩) | (go_at_call 41; refine (put_any _ _ _ _ _ _ _ (by exact hn1) (by omega)).mono ?_; rintro e w1 ⟨rfl, hN1, hB1⟩))
            all_goals
              have hB1' : Below (w.heap.size + 3) (wr.alloc (.cells #[.int .i64 cs[k].1, .int .i64 cs[k].2] 54)) w1 := ⟨hB1.os, hB1.tape, hB1.output, hB1.size, hB1.block⟩
              go_wp2_with fail
              go_roundw
              case rel => exact ⟨k + 1, _, by omega, by go_num, HSU.out.symm, hb1.trans (hB1'.mono (by omega)), M0.below hB1' (by omega), M1.below hB1' (by omega), M2.below hB1' (by omega), hN1⟩
              case measure => simp [intOf]; omega
      · have hks : k = cs.length := by omega
        obtain ⟨v, hblk, hown, hBp⟩ := hnet
        obtain ⟨G, g, rfl⟩ := own_slice hown
        have hye : ys = dwT x cs := by rw [HY.out, hks, List.take_length]
        rw [hye] at hown hblk
        obtain ⟨c0, c1⟩ := hblk.two
        obtain ⟨d0, d1⟩ := L2.two
        have f0 := L2.frozen 0
        have f1 := L2.frozen 1
        have hl2 := hblk.lt
        have o1 := own_setCell hown (p := ⟨w.heap.size + 2, 0, none⟩) (own_blk_ne hown L2 (by decide)) (.int .i64 (W - 1))
        have o2 := own_setCell o1 (p := ⟨w.heap.size + 2, 1, none⟩) (own_blk_ne hown L2 (by decide)) (.slice G (dwT x cs).length g)
        have O2 := Lib.hid (own_base (base' := w.heap.size) o2 (by omega)); clear o1 o2
        have hbe := Below.setCell (Below.setCell hb (p := ⟨w.heap.size + 2, 0, none⟩) (by simp) (.int .i64 (W - 1))) (p := ⟨w.heap.size + 2, 1, none⟩) (by simp) (.slice G (dwT x cs).length g)
        obtain ⟨r0, r1⟩ := ((L2.set_ 0 (.int .i64 (W - 1))).set_ 1 (.slice G (dwT x cs).length g)).two
        have R0 := Lib.hid r0; clear r0
        have R1 := Lib.hid r1; clear r1
        clear hown hblk hye HY
        go_wp2_with fail
        refine bodyPost_ret (v := .tuple #[.agg #[.int .i64 (W - 1), .slice G (dwT x cs).length g], .bool true]) (by simp [results, Try.results19, go_sem, R0.out, R1.out]) rfl ⟨G, g, rfl, O2.out, hbe⟩
end Go.Proofs.Ytkhfilkikpiepaa
