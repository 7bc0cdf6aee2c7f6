/- Lists of integers out of the cursor. -/
import Derived.Test.YtfpojoabfdiadaaCur
import Derived.Deep.DeepCutAuto
namespace Go.Proofs.Ytfpojoabfdiadaa
open Go.RowKit
set_option linter.unusedVariables false
theorem lit_hold {w w' : World} {T : TypeId} {zs : List Int} {p : Nat} (hp : p < w.heap.size) (hg : (w.alloc (.cells (ints zs).toArray T)).grownBy w' (some p)) :
    Reads w' (w.alloc (.cells (ints zs).toArray T)).heap.size 1 (some ⟨w.heap.size, 0, none⟩) zs.length (ints zs) := by
  have hb := (Blk.new w T (ints zs).toArray).grown hg (by intro e; have := Option.some.inj e; omega)
  refine ⟨by simp, fun _ => ⟨_, rfl, by simp, fun j u hu => ?_⟩⟩
  have hadd : (⟨w.heap.size, 0, none⟩ : Addr).add j = ⟨w.heap.size, j, none⟩ := by unfold Addr.add; split <;> simp_all
  rw [hadd, hb.cell]
  simpa using hu
/-- what may come out of a draw -/
def smallI (zs : List Int) : Prop := ∀ z ∈ zs, -1099511627776 ≤ z ∧ z ≤ 1099511627776
theorem smallI_push {zs : List Int} {z : Int} (h : smallI zs) (hz : -1099511627776 ≤ z ∧ z ≤ 1099511627776) : smallI (zs ++ [z]) := by
  intro y hy
  rcases List.mem_append.1 hy with h1 | h1
  · exact h y h1
  · rw [List.mem_singleton.1 h1]; exact hz
theorem smallI_nil : smallI [] := by intro z hz; cases hz
theorem ints_snoc (zs : List Int) (z : Int) : ints zs ++ (#[Value.int .i64 z] : Array Value).toList = ints (zs ++ [z]) := by simp [ints]
set_option maxRecDepth 100000 in
set_option maxHeartbeats 3200000 in
theorem ints_any (p : Nat) (A : Option Addr) (bs : List Nat) (c M : Nat) (w : World) (hc : Cur w p A bs c M) (hM : M ≤ 274877906944) :
    Calls Try.prog 46 #[.pointer (some ⟨p, 0, none⟩)] w fun e w' => ∃ v zs, e = .returned v ∧ w'.ownsRow w.heap.size 3 1 v zs.length (ints zs) ∧ zs.length ≤ 24 ∧ smallI zs ∧ Cur w' p A bs c (M + 200) ∧ w.grownBy w' (some p) := by
  obtain ⟨i0, hi, hz0, hz1, hz2⟩ := info_parts (show (Try.prog.info? 3).map (fun i => (i.zero, i.size, i.bytes)) = some (some (.int .i64 0), 1, 8) by kernel_rfl)
  have HC := Lib.hid hc
  have hplt := hc.lt
  clear hc
  have hO0 := made_at (w := w) (base := w.heap.size) (g := w.heap.size) (size := 1) (e := 3) (Nat.le_refl _) rfl
  have hC0 := Lib.hid (HC.out.alloc (.cells #[] 3))
  have hG0 : w.grownBy (w.alloc (.cells #[] 3)) (some p) := World.grownBy_alloc _ _ _
  go_enter Try.func46, Try.ntmps46
  go_wp2_with fail
  refine (pick_any p A bs c M 9 _ hC0.out (by omega) (by omega) (by omega)).mono ?_
  rintro e w1 ⟨x1, hx1, rfl, hc1, hg1⟩
  have hO1 := Cur.row hC0.out hO0 hg1 (by decide)
  have hG1 := near_step hG0 hg1 (fun k hk => .inl hk.symm)
  have HC1 := Lib.hid hc1
  clear hc1 hO0 hG0 hg1
  go_wp2_with fail
  refine (one_any p A bs c (M + 2) 6 _ HC1.out (by omega) (by omega) (by omega)).mono ?_
  rintro e w2 ⟨b, rfl, hc2, hg2⟩
  have hO2 := Cur.row HC1.out hO1 hg2 (by decide)
  have hG2 := near_step hG1 hg2 (fun k hk => .inl hk.symm)
  have HC2 := Lib.hid hc2
  clear hc2 hO1 hG1 hg2
  go_upto_if 9 with (fail)
  go_cut [4] (fun nv wc => ∃ n : Nat, nv = .int .i64 (n : Nat) ∧ n ≤ 24 ∧ Hid (Cur wc p A bs c (M + 6)) ∧ wc.ownsRow w.heap.size 3 1 (.slice (some ⟨w.heap.size, 0, none⟩) 0 0) 0 [] ∧ w.grownBy wc (some p))
  case first =>
    cases b
    case false =>
      go_wp2_with fail
      go_meet
      exact ⟨x1, rfl, by omega, Lib.hid (HC2.out.more (by omega)), hO2, hG2⟩
    case true =>
      go_wp2_with fail
      refine (pick_any p A bs c (M + 2 + 2) 24 _ HC2.out (by omega) (by omega) (by omega)).mono ?_
      rintro e w3 ⟨x3, hx3, rfl, hc3, hg3⟩
      have hO3 := Cur.row HC2.out hO2 hg3 (by decide)
      have hG3 := near_step hG2 hg3 (fun k hk => .inl hk.symm)
      have HC3 := Lib.hid hc3
      clear hc3
      go_wp2_with fail
      go_meet
      exact ⟨x3, rfl, by omega, HC3, hO3, hG3⟩
  case rest =>
    clear hO2 hG2
    obtain ⟨n, rfl, hn, HC3, hO3, hG3⟩ := hcut
    go_wp2_with fail
    go_loopw [3, 4] (fun v nv wr => ∃ (j : Nat) (zs : List Int), nv = .int .i64 (j : Nat) ∧ zs.length + j ≤ 24 ∧ Hid (smallI zs) ∧ wr.ownsRow w.heap.size 3 1 v zs.length (ints zs) ∧ Hid (Cur wr p A bs c (M + 6 + 6 * (24 - j))) ∧ w.grownBy wr (some p)) (fun _ nv _ => (intOf nv).toNat)
    case atStart => exact ⟨n, [], rfl, by simpa using hn, Lib.hid smallI_nil, hO3, Lib.hid (HC3.out.more (by omega)), hG3⟩
    case round =>
      clear hO3 hG3
      obtain ⟨j, zs, rfl, hj, HS, hO, HK, hG⟩ := hrel
      by_cases hj0 : 0 < j
      · have j1 : (j : Int) > 0 := by omega
        have j2 : (0 : Int) < (j : Int) := by omega
        go_wp2_with fail
        refine (one_any p A bs c _ 8 _ HK.out (by omega) (by omega) (by omega)).mono ?_
        rintro e w4 ⟨b4, rfl, hc4, hg4⟩
        have hO4 := Cur.row HK.out hO hg4 (by decide)
        have hG4 := near_step hG hg4 (fun k hk => .inl hk.symm)
        have HC4 := Lib.hid hc4
        clear hc4 hO hG hg4
        cases b4
        case true =>
          have hp4 := HC4.out.lt
          have HC5 := Lib.hid (HC4.out.alloc (.cells (ints [100000, -100000, 999, -5]).toArray 3))
          have hO5 := World.ownsRow.alloc hO4 (.cells (ints [100000, -100000, 999, -5]).toArray 3)
          have hG5 := near_step hG4 (World.grownBy_alloc w4 (.cells (ints [100000, -100000, 999, -5]).toArray 3) (some p)) (fun k hk => .inl hk.symm)
          have HD := Lib.hid (fun w' hg => lit_hold (w := w4) (w' := w') (T := 3) (zs := [100000, -100000, 999, -5]) hp4 hg)
          have HA := Lib.hid (among_any p A bs c _ (some ⟨w4.heap.size, 0, none⟩) [100000, -100000, 999, -5] 4 _ HC5.out (by omega) (HD.out _ (near_refl _ _)) (by decide) (by decide) HD.out)
          go_wp2_with fail
          refine HA.out.mono ?_
          rintro e w5 ⟨z, hz, rfl, hc6, hg6⟩
          have hO6 := Cur.row HC5.out hO5 hg6 (by decide)
          have hG6 := near_step hG5 hg6 (fun k hk => .inl hk.symm)
          have HC6 := Lib.hid hc6
          have hzb : -1099511627776 ≤ z ∧ z ≤ 1099511627776 := by
            simp at hz
            rcases hz with rfl | rfl | rfl | rfl <;> omega
          clear hc6 hO5 hG5 hg6 hz hO4 hG4
          have hwle := hG6.size
          go_wp2_with (at_builtin; refine wpList_push' _ rfl (.tmp 18) (.tmp 22) 22 rfl w.heap.size 3 i0 _ 1 8 Try.underlying22 hi hz0 hz1 hz2 rfl (by decide) _ zs.length _ rfl (World.ownsRow.alloc hO6 _) #[.int .i64 z] w5.heap.size rfl (Blk.new _ _ _) rfl (by simp [Value.oneCell']) (by omega) (by unfold maxLen; omega) (by rw [World.size_alloc]; omega) ?_; intro g7 c7 w7 o7 gr7 bl7 at7)
          have HC7 := Lib.hid (Cur.grown (HC6.out.alloc (.cells #[.int .i64 z] 3)) gr7 (fun k hk => by have := (own_lt hO6 k hk).1; omega))
          have hG7 := near_step (near_step hG6 (World.grownBy_alloc w5 (.cells #[.int .i64 z] 3) (some p)) (fun k hk => .inl hk.symm)) gr7 (fun k hk => .inr (own_lt hO6 k hk).1)
          rw [ints_snoc] at o7
          have hl7 : (zs ++ [(z : Int)]).length = zs.length + 1 := by simp
          rw [← hl7] at o7
          have HS7 := Lib.hid (smallI_push HS.out hzb)
          have HO7 := Lib.hid o7
          have HL7 := Lib.hid hl7
          clear o7 hl7 gr7 bl7 at7 hO6 hG6
          rw [HL7.out] at HO7
          go_wp2_with fail
          go_roundw
          case rel => exact ⟨j - 1, zs ++ [(z : Int)], by rw [show ((j : Int) - 1) = ((j - 1 : Nat) : Int) by omega], by rw [HL7.out]; omega, HS7, by rw [HL7.out]; exact HO7.out, Lib.hid (HC7.out.more (by omega)), hG7⟩
          case measure => simp [intOf]; omega
        case false =>
          go_wp2_with fail
          refine (pick_any p A bs c _ 7 _ HC4.out (by omega) (by omega) (by omega)).mono ?_
          rintro e w5 ⟨x, hx, rfl, hc6, hg6⟩
          have hO6 := Cur.row HC4.out hO4 hg6 (by decide)
          have hG6 := near_step hG4 hg6 (fun k hk => .inl hk.symm)
          have HC6 := Lib.hid hc6
          have hzb : -1099511627776 ≤ (x : Int) ∧ (x : Int) ≤ 1099511627776 := by omega
          clear hc6 hO4 hG4 hg6
          have hwle := hG6.size
          go_wp2_with (at_builtin; refine wpList_push' _ rfl (.tmp 24) (.tmp 27) 22 rfl w.heap.size 3 i0 _ 1 8 Try.underlying22 hi hz0 hz1 hz2 rfl (by decide) _ zs.length _ rfl (World.ownsRow.alloc hO6 _) #[.int .i64 (x : Int)] w5.heap.size rfl (Blk.new _ _ _) rfl (by simp [Value.oneCell']) (by omega) (by unfold maxLen; omega) (by rw [World.size_alloc]; omega) ?_; intro g7 c7 w7 o7 gr7 bl7 at7)
          have HC7 := Lib.hid (Cur.grown (HC6.out.alloc (.cells #[.int .i64 (x : Int)] 3)) gr7 (fun k hk => by have := (own_lt hO6 k hk).1; omega))
          have hG7 := near_step (near_step hG6 (World.grownBy_alloc w5 (.cells #[.int .i64 (x : Int)] 3) (some p)) (fun k hk => .inl hk.symm)) gr7 (fun k hk => .inr (own_lt hO6 k hk).1)
          rw [ints_snoc] at o7
          have hl7 : (zs ++ [(x : Int)]).length = zs.length + 1 := by simp
          rw [← hl7] at o7
          have HS7 := Lib.hid (smallI_push HS.out hzb)
          have HO7 := Lib.hid o7
          have HL7 := Lib.hid hl7
          clear o7 hl7 gr7 bl7 at7 hO6 hG6
          rw [HL7.out] at HO7
          go_wp2_with fail
          go_roundw
          case rel => exact ⟨j - 1, zs ++ [(x : Int)], by rw [show ((j : Int) - 1) = ((j - 1 : Nat) : Int) by omega], by rw [HL7.out]; omega, HS7, by rw [HL7.out]; exact HO7.out, Lib.hid (HC7.out.more (by omega)), hG7⟩
          case measure => simp [intOf]; omega
      · obtain rfl : j = 0 := by omega
        go_wp2_with fail
        go_ret
        exact ⟨_, zs, rfl, hO, by omega, HS.out, HK.out.more (by omega), hG⟩
set_option maxRecDepth 100000 in
set_option maxHeartbeats 3200000 in
theorem anyInts_any (p : Nat) (A : Option Addr) (bs : List Nat) (c M : Nat) (w : World) (hc : Cur w p A bs c M) (hM : M ≤ 274877906000) :
    Calls Try.prog 38 #[.pointer (some ⟨p, 0, none⟩)] w fun e w' => ∃ v zs, e = .returned v ∧ w'.ownsRow w.heap.size 3 1 v zs.length (ints zs) ∧ zs.length ≤ 65 ∧ smallI zs ∧ Cur w' p A bs c (M + 500) ∧ w.grownBy w' (some p) := by
  obtain ⟨i0, hi, hz0, hz1, hz2⟩ := info_parts (show (Try.prog.info? 3).map (fun i => (i.zero, i.size, i.bytes)) = some (some (.int .i64 0), 1, 8) by kernel_rfl)
  have HC := Lib.hid hc
  have hplt := hc.lt
  clear hc
  go_enter Try.func38, Try.ntmps38
  go_wp2_with fail
  refine (ints_any p A bs c M _ HC.out (by omega)).mono ?_
  rintro e w1 ⟨v, zs, rfl, hO1, hl1, hs1, hc1, hG1⟩
  have HC1 := Lib.hid hc1; have HS1 := Lib.hid hs1
  clear hc1 hs1
  go_wp2_with fail
  refine (pick_any p A bs c (M + 200) 24 _ HC1.out (by omega) (by omega) (by omega)).mono ?_
  rintro e w4 ⟨x1, hx1, rfl, hc4, hg4⟩
  have hO4 := Cur.row HC1.out hO1 hg4 (by decide)
  have hG4 := near_step hG1 hg4 (fun k hk => .inl hk.symm)
  have HC4 := Lib.hid hc4
  clear hc4 hO1 hG1 hg4 hx1
  by_cases h0 : x1 = 0
  case pos =>
    subst h0
    have hp4 := HC4.out.lt
    have HC5 := Lib.hid (HC4.out.alloc (.cells (ints [100001, -100001, 1099511627776]).toArray 3))
    have hO5 := World.ownsRow.alloc hO4 (.cells (ints [100001, -100001, 1099511627776]).toArray 3)
    have hG5 := near_step hG4 (World.grownBy_alloc w4 (.cells (ints [100001, -100001, 1099511627776]).toArray 3) (some p)) (fun k hk => .inl hk.symm)
    have HD := Lib.hid (fun w' hg => lit_hold (w := w4) (w' := w') (T := 3) (zs := [100001, -100001, 1099511627776]) hp4 hg)
    have HA := Lib.hid (among_any p A bs c _ (some ⟨w4.heap.size, 0, none⟩) [100001, -100001, 1099511627776] 3 _ HC5.out (by omega) (HD.out _ (near_refl _ _)) (by decide) (by decide) HD.out)
    have e00 : ((0 : Int) == 0) = true := rfl
    go_wp2_with fail
    refine HA.out.mono ?_
    rintro e w5 ⟨z, hz, rfl, hc6, hg6⟩
    have hO6 := Cur.row HC5.out hO5 hg6 (by decide)
    have hG6 := near_step hG5 hg6 (fun k hk => .inl hk.symm)
    have HC6 := Lib.hid hc6
    have hzb : -1099511627776 ≤ z ∧ z ≤ 1099511627776 := by
      simp at hz
      rcases hz with rfl | rfl | rfl <;> omega
    clear hc6 hO5 hG5 hg6 hz hO4 hG4
    have hwle := hG6.size
    go_wp2_with (at_builtin; refine wpList_push' _ rfl (.tmp 10) (.tmp 14) 22 rfl w.heap.size 3 i0 _ 1 8 Try.underlying22 hi hz0 hz1 hz2 rfl (by decide) _ zs.length _ rfl (World.ownsRow.alloc hO6 _) #[.int .i64 z] w5.heap.size rfl (Blk.new _ _ _) rfl (by simp [Value.oneCell']) (by omega) (by unfold maxLen; omega) (by rw [World.size_alloc]; omega) ?_; intro g7 c7 w7 o7 gr7 bl7 at7)
    have HC7 := Lib.hid (Cur.grown (HC6.out.alloc (.cells #[.int .i64 z] 3)) gr7 (fun k hk => by have := (own_lt hO6 k hk).1; omega))
    have hG7 := near_step (near_step hG6 (World.grownBy_alloc w5 (.cells #[.int .i64 z] 3) (some p)) (fun k hk => .inl hk.symm)) gr7 (fun k hk => .inr (own_lt hO6 k hk).1)
    rw [ints_snoc] at o7
    have hl7 : (zs ++ [(z : Int)]).length = zs.length + 1 := by simp
    rw [← hl7] at o7
    have HS7 := Lib.hid (smallI_push HS1.out hzb)
    have HO7 := Lib.hid o7
    have HL7 := Lib.hid hl7
    clear o7 hl7 gr7 bl7 at7 hO6 hG6
    rw [HL7.out] at HO7
    go_wp2_with fail
    go_ret
    first | exact ⟨_, zs ++ [z], rfl, by rw [HL7.out]; exact HO7.out, by rw [HL7.out]; omega, HS7.out, HC7.out.more (by omega), hG7⟩ | exact ⟨_, rfl, zs ++ [z], by rw [HL7.out]; exact HO7.out, by rw [HL7.out]; omega, HS7.out, HC7.out.more (by omega), hG7⟩
  case neg =>
    have e00 : ((x1 : Int) == 0) = false := by rw [beq_eq_false_iff_ne]; omega
    by_cases h1 : x1 = 1
    case neg =>
      have e01 : ((x1 : Int) == 1) = false := by rw [beq_eq_false_iff_ne]; omega
      go_wp2_with fail
      go_ret
      exact ⟨_, zs, rfl, hO4, by omega, HS1.out, HC4.out.more (by omega), hG4⟩
    case pos =>
      subst h1
      have e01 : ((1 : Int) == 1) = true := rfl
      have e02 : ((1 : Int) == 0) = false := by decide
      clear e00
      go_wp2_with fail
      go_loopw [3] (fun v wr => ∃ (ys : List Int), ys.length ≤ 65 ∧ Hid (smallI ys) ∧ wr.ownsRow w.heap.size 3 1 v ys.length (ints ys) ∧ Hid (Cur wr p A bs c (M + 202 + 4 * ys.length)) ∧ w.grownBy wr (some p)) (fun v _ => 65 - (match v with | .slice _ n _ => n | _ => 0))
      case atStart => exact ⟨zs, by omega, HS1, hO4, Lib.hid (HC4.out.more (by omega)), hG4⟩
      case round =>
        clear hO4 hG4 HC4 HC1
        obtain ⟨ys, hyl, HS, hO, HK, hG⟩ := hrel
        obtain ⟨AV, CV, rfl⟩ := own_slice hO
        go_wp2_with fail
        refine (pick_any p A bs c _ 2 _ HK.out (by omega) (by omega) (by omega)).mono ?_
        rintro e w4 ⟨x4, hx4, rfl, hc4, hg4⟩
        have hO4 := Cur.row HK.out hO hg4 (by decide)
        have hG4 := near_step hG hg4 (fun k hk => .inl hk.symm)
        have HC4 := Lib.hid hc4
        clear hc4 hO hG hg4
        by_cases hlt : ys.length < 64 + x4
        · have hltI : (ys.length : Int) < 64 + (x4 : Int) := by omega
          go_wp2_with fail
          refine (pick_any p A bs c _ 5 _ HC4.out (by omega) (by omega) (by omega)).mono ?_
          rintro e w5 ⟨x, hx, rfl, hc6, hg6⟩
          have hO6 := Cur.row HC4.out hO4 hg6 (by decide)
          have hG6 := near_step hG4 hg6 (fun k hk => .inl hk.symm)
          have HC6 := Lib.hid hc6
          have hzb : -1099511627776 ≤ (x : Int) ∧ (x : Int) ≤ 1099511627776 := by omega
          clear hc6 hO4 hG4 hg6
          have hwle := hG6.size
          go_wp2_with (at_builtin; refine wpList_push' _ rfl (.tmp 24) (.tmp 27) 22 rfl w.heap.size 3 i0 _ 1 8 Try.underlying22 hi hz0 hz1 hz2 rfl (by decide) _ ys.length _ rfl (World.ownsRow.alloc hO6 _) #[.int .i64 (x : Int)] w5.heap.size rfl (Blk.new _ _ _) rfl (by simp [Value.oneCell']) (by omega) (by unfold maxLen; omega) (by rw [World.size_alloc]; omega) ?_; intro g7 c7 w7 o7 gr7 bl7 at7)
          have HC7 := Lib.hid (Cur.grown (HC6.out.alloc (.cells #[.int .i64 (x : Int)] 3)) gr7 (fun k hk => by have := (own_lt hO6 k hk).1; omega))
          have hG7 := near_step (near_step hG6 (World.grownBy_alloc w5 (.cells #[.int .i64 (x : Int)] 3) (some p)) (fun k hk => .inl hk.symm)) gr7 (fun k hk => .inr (own_lt hO6 k hk).1)
          rw [ints_snoc] at o7
          have hl7 : (ys ++ [(x : Int)]).length = ys.length + 1 := by simp
          rw [← hl7] at o7
          have HS7 := Lib.hid (smallI_push HS.out hzb)
          have HO7 := Lib.hid o7
          have HL7 := Lib.hid hl7
          clear o7 hl7 gr7 bl7 at7 hO6 hG6
          rw [HL7.out] at HO7
          go_wp2_with fail
          go_roundw
          case rel => exact ⟨ys ++ [(x : Int)], by rw [HL7.out]; omega, HS7, by rw [HL7.out]; exact HO7.out, Lib.hid (HC7.out.more (by rw [HL7.out]; omega)), hG7⟩
          case measure => simp; omega
        · have hltI : ¬ (ys.length : Int) < 64 + (x4 : Int) := by omega
          go_wp2_with fail
          go_ret
          exact ⟨_, ys, rfl, hO4, hyl, HS.out, HC4.out.more (by omega), hG4⟩
end Go.Proofs.Ytfpojoabfdiadaa
