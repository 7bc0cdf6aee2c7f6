/- The draw of the law on inversion tables. -/
import Derived.Test.YtcecdodagmdnkaaDrawI
import Derived.Test.YtcecdodagmdnkaaVL
import Derived.Deep.DeepCutAuto
namespace Go.Proofs.Ytcecdodagmdnkaa
open Go.RowKit
set_option linter.unusedVariables false
set_option maxRecDepth 100000 in
set_option maxHeartbeats 3200000 in
theorem DrawFromInversionTable_any (A : Option Addr) (bs : List Nat) (c : Nat) (w : World) (hr : Reads w w.heap.size 1 A bs.length (byts bs)) (hb : ∀ b ∈ bs, b ≤ 255) (hl : bs.length ≤ 65536) :
    Calls Try.prog 18 #[.slice A bs.length c] w (GotL 3 w fun zs => zs.length ≤ 66) := by
  obtain ⟨i0, hi, hz0, hz1, hz2⟩ := info_parts (show (Try.prog.info? 3).map (fun i => (i.zero, i.size, i.bytes)) = some (some (.int .i64 0), 1, 8) by kernel_rfl)
  have HC0 := Lib.hid (cur_box (c := c) hr hb hl)
  have hG0 : w.grownBy (w.alloc (.cells #[.slice A bs.length c, .int .i64 0, .int .u64 0] 52)) (some w.heap.size) := World.grownBy_alloc _ _ _
  clear hr hb
  go_enter Try.func18, Try.ntmps18
  go_wp2_with fail
  refine (pick_any w.heap.size A bs c 0 9 _ HC0.out (by omega) (by omega) (by omega)).mono ?_
  rintro e w1 ⟨x1, hx1, rfl, hc1, hg1⟩
  have hG1 := near_step hG0 hg1 (fun k hk => .inl hk.symm)
  have HC1 := Lib.hid hc1
  clear hc1 hG0 hg1
  go_wp2_with fail
  refine (one_any w.heap.size A bs c _ 40 _ HC1.out (by omega) (by omega) (by omega)).mono ?_
  rintro e w2 ⟨b, rfl, hc2, hg2⟩
  have hG2 := near_step hG1 hg2 (fun k hk => .inl hk.symm)
  have HC2 := Lib.hid hc2
  clear hc2 hG1 hg2
  go_upto_if 13 with (fail)
  go_cut [4] (fun nv wc => ∃ n : Nat, nv = .int .i64 (n : Nat) ∧ n ≤ 65 ∧ Hid (Cur wc w.heap.size A bs c 10) ∧ w.grownBy wc (some w.heap.size))
  case first =>
    cases b
    case false =>
      go_wp2_with fail
      go_meet
      exact ⟨x1, rfl, by omega, Lib.hid (HC2.out.more (by omega)), hG2⟩
    case true =>
      go_wp2_with fail
      refine (pick_any w.heap.size A bs c _ 2 _ HC2.out (by omega) (by omega) (by omega)).mono ?_
      rintro e w3 ⟨x3, hx3, rfl, hc3, hg3⟩
      have hG3 := near_step hG2 hg3 (fun k hk => .inl hk.symm)
      have HC3 := Lib.hid hc3
      have hx3b : (x3 : Int) ≤ 1 := by omega
      clear hc3
      go_wp2_with fail
      go_meet
      exact ⟨64 + x3, by go_num, by omega, Lib.hid (HC3.out.more (by omega)), hG3⟩
  case rest =>
    clear hG2
    obtain ⟨n, rfl, hn, HC3, hG3⟩ := hcut
    rename_i wc
    have hO3 := made_at (w := wc) (base := w.heap.size + 1) (g := wc.heap.size) (size := 1) (e := 3) (HC3.out.lt) rfl
    have HC4 := Lib.hid (HC3.out.alloc (.cells #[] 3))
    have hG4 := near_step hG3 (World.grownBy_alloc wc (.cells #[] 3) (some w.heap.size)) (fun k hk => .inl hk.symm)
    go_wp2_with fail
    go_loopw [5, 6] (fun v nv wr => ∃ (j : Nat) (zs : List Int), nv = .int .i64 (j : Nat) ∧ j ≤ n ∧ zs.length = j ∧ wr.ownsRow (w.heap.size + 1) 3 1 v zs.length (ints zs) ∧ Hid (Cur wr w.heap.size A bs c (10 + 4 * j)) ∧ w.grownBy wr (some w.heap.size)) (fun _ nv _ => n - (intOf nv).toNat)
    case atStart => exact ⟨0, [], rfl, by omega, rfl, hO3, HC4, hG4⟩
    case round =>
      clear hO3 hG4 hG3 HC4 HC3
      obtain ⟨j, zs, rfl, hj, hzj, hO, HK, hG⟩ := hrel
      have HZ := Lib.hid hzj
      have hzj2 : zs.length ≤ j := by omega
      clear hzj
      by_cases hjn : j < n
      · have j1 : (j : Int) < (n : Int) := by omega
        go_wp2_with fail
        refine (pick_any w.heap.size A bs c _ ((n : Int) - j) _ HK.out (by omega) (by omega) (by omega)).mono ?_
        rintro e w5 ⟨x, hx, rfl, hc6, hg6⟩
        have hO6 := Cur.row HK.out hO hg6 (by decide)
        have hG6 := near_step hG hg6 (fun k hk => .inl hk.symm)
        have HC6 := Lib.hid hc6
        have HLT := Lib.hid hc6.lt
        clear hc6 hO hG hg6 hx
        have hwle := hG6.size
        go_wp2_with (at_builtin; refine wpList_push' _ rfl (.tmp 23) (.tmp 29) 24 rfl (w.heap.size + 1) 3 i0 _ 1 8 Try.underlying24 hi hz0 hz1 hz2 rfl (by decide) _ zs.length _ rfl (World.ownsRow.alloc hO6 _) #[.int .i64 (x : Int)] w5.heap.size rfl (Blk.new _ _ _) rfl (by simp [Value.oneCell']) (by omega) (by unfold maxLen; omega) (by rw [World.size_alloc]; have := HLT.out; omega) ?_; intro g7 c7 w7 o7 gr7 bl7 at7)
        have HC7 := Lib.hid (Cur.grown (HC6.out.alloc (.cells #[.int .i64 (x : Int)] 3)) gr7 (fun k hk => by have := (own_lt hO6 k hk).1; omega))
        have hG7 := near_step (near_step hG6 (World.grownBy_alloc w5 (.cells #[.int .i64 (x : Int)] 3) (some w.heap.size)) (fun k hk => .inl hk.symm)) gr7 (fun k hk => .inr (Nat.le_of_succ_le (own_lt hO6 k hk).1))
        rw [ints_snoc] at o7
        have hl7 : (zs ++ [(x : Int)]).length = zs.length + 1 := by simp
        rw [← hl7] at o7
        have HO7 := Lib.hid o7
        have HL7 := Lib.hid hl7
        clear o7 hl7 gr7 bl7 at7 hO6 hG6
        rw [HL7.out] at HO7
        go_wp2_with fail
        go_roundw
        case rel => exact ⟨j + 1, zs ++ [(x : Int)], by go_num, by omega, by rw [HL7.out, HZ.out], by rw [HL7.out]; exact HO7.out, Lib.hid (HC7.out.more (by omega)), hG7⟩
        case measure => simp [intOf]; omega
      · have j1 : ¬ (j : Int) < (n : Int) := by omega
        go_wp2_with fail
        refine (one_any w.heap.size A bs c _ 12 _ HK.out (by omega) (by omega) (by omega)).mono ?_
        rintro e w4 ⟨b4, rfl, hc4, hg4⟩
        have hO4 := Cur.row HK.out hO hg4 (by decide)
        have hG4 := near_step hG hg4 (fun k hk => .inl hk.symm)
        have HC4 := Lib.hid hc4
        clear hc4 hO hG hg4
        cases b4
        case false =>
          go_wp2_with fail
          go_ret
          exact GotL.mk ⟨_, zs, rfl, own_base hO4 (Nat.le_succ _), by omega, below_near hG4 (Nat.le_refl _) (Nat.le_refl _)⟩
        case true =>
          by_cases hn0 : 0 < n
          case neg =>
            have n0 : ¬ (0 : Int) < (n : Int) := by omega
            have n1 : ¬ (n : Int) > 0 := by omega
            go_wp2_with fail
            go_ret
            exact GotL.mk ⟨_, zs, rfl, own_base hO4 (Nat.le_succ _), by omega, below_near hG4 (Nat.le_refl _) (Nat.le_refl _)⟩
          case pos =>
            have n0 : (0 : Int) < (n : Int) := by omega
            have n1 : (n : Int) > 0 := by omega
            go_wp2_with fail
            refine (pick_any w.heap.size A bs c _ (n : Int) _ HC4.out (by omega) (by omega) (by omega)).mono ?_
            rintro e w5 ⟨x, hx, rfl, hc6, hg6⟩
            have hxn : x < n := by omega
            have hzn : n ≤ zs.length := by have := HZ.out; omega
            have hO5 := Cur.row HC4.out hO4 hg6 (by decide)
            have hG5 := near_step hG4 hg6 (fun k hk => .inl hk.symm)
            have HC5 := Lib.hid hc6
            have hp5 := hc6.lt
            clear hc6 hO4 hG4 hg6 hx
            have HC6 := Lib.hid (HC5.out.alloc (.cells (ints [-1, (n : Int), 1]).toArray 3))
            have hO6 := World.ownsRow.alloc hO5 (.cells (ints [-1, (n : Int), 1]).toArray 3)
            have hG6 := near_step hG5 (World.grownBy_alloc w5 (.cells (ints [-1, (n : Int), 1]).toArray 3) (some w.heap.size)) (fun k hk => .inl hk.symm)
            have HD := Lib.hid (fun w' hg => lit_hold (w := w5) (w' := w') (T := 3) (zs := [-1, (n : Int), 1]) hp5 hg)
            have HA := Lib.hid (among_any w.heap.size A bs c _ (some ⟨w5.heap.size, 0, none⟩) [-1, (n : Int), 1] 3 _ HC6.out (by omega) (HD.out _ (near_refl _ _)) (by simp) (by simp) HD.out)
            go_wp2_with fail
            refine HA.out.mono ?_
            rintro e w6 ⟨z, hz, rfl, hc7, hg7⟩
            have hO7 := Cur.row HC6.out hO6 hg7 (by decide)
            have hG7 := near_step hG6 hg7 (fun k hk => .inl hk.symm)
            clear hc7 hO6 hG6 hg7 hz hO5 hG5 HD HA
            obtain ⟨gO, cO, eO, hgO, hgl, -⟩ := own_some hO7 (by omega)
            subst eO
            have hst := hO7.stored x (.int .i64 z)
            rw [ints_set] at hst
            have HST := Lib.hid hst
            have hxzI : (x : Int) < zs.length := by omega
            have hcx := hO7.cellAt x (by omega)
            rw [ints_get (show x < zs.length by omega)] at hcx
            have hfx := hO7.frozenAt x
            clear hst
            go_wp2_with fail
            go_ret
            exact GotL.mk ⟨_, zs.set x z, rfl, by rw [List.length_set]; exact own_base HST.out.1 (Nat.le_succ _), by rw [List.length_set]; omega, below_near (near_step hG7 HST.out.2 (fun k hk => .inr (by cases hk; omega))) (Nat.le_refl _) (Nat.le_refl _)⟩
end Go.Proofs.Ytcecdodagmdnkaa
