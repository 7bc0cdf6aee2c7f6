/- Lists of flags out of the cursor, and the draw of a compaction. -/
import Derived.Test.YtphcfjdhichfkaaDrawI
import Derived.Test.YtphcfjdhichfkaaVL
import Derived.Test.YtphcfjdhichfkaaCompM
import Derived.Deep.DeepCutAuto
namespace Go.Proofs.Ytphcfjdhichfkaa
open Go.RowKit
set_option linter.unusedVariables false
theorem bools_snoc (zs : List Bool) (z : Bool) : bools zs ++ (#[Value.bool z] : Array Value).toList = bools (zs ++ [z]) := by simp [bools]
set_option maxRecDepth 100000 in
set_option maxHeartbeats 1600000 in
theorem bools_any (p : Nat) (A : Option Addr) (bs : List Nat) (c M n : Nat) (w : World) (hc : Cur w p A bs c M) (hM : M ≤ 274877900000) (hn : n ≤ 70) :
    Calls Try.prog 45 #[.pointer (some ⟨p, 0, none⟩), .int .i64 (n : Nat)] w fun e w' => ∃ v ks, e = .returned v ∧ w'.ownsRow w.heap.size 4 1 v ks.length (bools ks) ∧ ks.length = n ∧ Cur w' p A bs c (M + 200) ∧ w.grownBy w' (some p) := by
  obtain ⟨i0, hi, hz0, hz1, hz2⟩ := info_parts (show (Try.prog.info? 4).map (fun i => (i.zero, i.size, i.bytes)) = some (some (.bool false), 1, 1) by kernel_rfl)
  have HC := Lib.hid hc
  have hplt := hc.lt
  clear hc
  have hO0 := made_at (w := w) (base := w.heap.size) (g := w.heap.size) (size := 1) (e := 4) (Nat.le_refl _) rfl
  have hC0 := Lib.hid (HC.out.alloc (.cells #[] 4))
  have hG0 : w.grownBy (w.alloc (.cells #[] 4)) (some p) := World.grownBy_alloc _ _ _
  go_enter Try.func45, Try.ntmps45
  go_wp2_with fail
  go_loopw [5, 6] (fun v nv wr => ∃ (j : Nat) (ks : List Bool), nv = .int .i64 (j : Nat) ∧ j ≤ n ∧ Hid (ks.length = j) ∧ wr.ownsRow w.heap.size 4 1 v j (bools ks) ∧ Hid (Cur wr p A bs c (M + 2 * j)) ∧ w.grownBy wr (some p)) (fun _ nv _ => n - (intOf nv).toNat)
  case atStart => exact ⟨0, [], rfl, by omega, Lib.hid rfl, hO0, Lib.hid (hC0.out.more (by omega)), hG0⟩
  case round =>
    clear hO0 hG0
    obtain ⟨j, ks, rfl, hj, HL, hO, HK, hG⟩ := hrel
    by_cases hjn : j < n
    · have j1 : (j : Int) < (n : Int) := by omega
      go_wp2_with fail
      refine (one_any p A bs c _ 2 _ HK.out (by omega) (by omega) (by omega)).mono ?_
      rintro e w4 ⟨b4, rfl, hc4, hg4⟩
      have hO6 := Cur.row HK.out hO hg4 (by decide)
      have hG6 := near_step hG hg4 (fun k hk => .inl hk.symm)
      have HC6 := Lib.hid hc4
      have hwle := hG6.size
      clear hc4 hO hG hg4
      go_wp2_with (at_builtin; refine wpList_push' _ rfl (.tmp 13) (.tmp 16) 26 rfl w.heap.size 4 i0 _ 1 1 Try.underlying26 hi hz0 hz1 hz2 rfl (by decide) _ j _ rfl (World.ownsRow.alloc hO6 _) #[.bool b4] w4.heap.size rfl (Blk.new _ _ _) rfl (by simp [Value.oneCell']) (by omega) (by unfold maxLen; omega) (by rw [World.size_alloc]; omega) ?_; intro g7 c7 w7 o7 gr7 bl7 at7)
      have HC7 := Lib.hid (Cur.grown (HC6.out.alloc (.cells #[.bool b4] 4)) gr7 (fun k hk => by have := (own_lt hO6 k hk).1; omega))
      have hG7 := near_step (near_step hG6 (World.grownBy_alloc w4 (.cells #[.bool b4] 4) (some p)) (fun k hk => .inl hk.symm)) gr7 (fun k hk => .inr (own_lt hO6 k hk).1)
      rw [bools_snoc] at o7
      have HO7 := Lib.hid o7
      have HL7 : Hid ((ks ++ [b4]).length = j + 1) := Lib.hid (by rw [List.length_append, HL.out]; rfl)
      clear o7 gr7 bl7 at7 hO6 hG6
      go_roundw
      case rel => exact ⟨j + 1, ks ++ [b4], by go_num, by omega, HL7, HO7.out, Lib.hid (HC7.out.more (by omega)), hG7⟩
      case measure => simp [intOf]; omega
    · obtain rfl : j = n := by omega
      have j1 : ¬ (j : Int) < (j : Int) := by omega
      go_wp2_with fail
      go_ret
      first | exact ⟨_, ks, rfl, by rw [HL.out]; exact hO, HL.out, HK.out.more (by omega), hG⟩ | exact ⟨_, rfl, ks, by rw [HL.out]; exact hO, HL.out, HK.out.more (by omega), hG⟩
/-- a call has returned a list and flags of its own -/
def GotC (w : World) (e : Ending) (w' : World) : Prop := ∃ (v u : Value) (zs : List Int) (ks : List Bool), e = .returned (.tuple #[v, u]) ∧ w'.ownsRow w.heap.size 3 1 v zs.length (ints zs) ∧ w'.ownsRow w.heap.size 4 1 u ks.length (bools ks) ∧
  zs.length ≤ 65 ∧ ks.length ≤ 66 ∧ smallI zs ∧ Below w.heap.size w w'
theorem GotC.mk {w : World} {e : Ending} {w' : World} (h : ∃ (v u : Value) (zs : List Int) (ks : List Bool), e = .returned (.tuple #[v, u]) ∧ w'.ownsRow w.heap.size 3 1 v zs.length (ints zs) ∧ w'.ownsRow w.heap.size 4 1 u ks.length (bools ks) ∧
  zs.length ≤ 65 ∧ ks.length ≤ 66 ∧ smallI zs ∧ Below w.heap.size w w') : GotC w e w' := h
set_option maxRecDepth 100000 in
set_option maxHeartbeats 1600000 in
theorem DrawObliviousCompact_any (A : Option Addr) (bs : List Nat) (c : Nat) (w : World) (hr : Reads w w.heap.size 1 A bs.length (byts bs)) (hb : ∀ b ∈ bs, b ≤ 255) (hl : bs.length ≤ 65536) :
    Calls Try.prog 17 #[.slice A bs.length c] w (GotC w) := by
  have HC0 := Lib.hid (cur_box (c := c) hr hb hl)
  have hB0 := alloc_ (Below.refl w.heap.size w) (.cells #[.slice A bs.length c, .int .i64 0, .int .u64 0] 66)
  clear hr hb
  go_enter Try.func17, Try.ntmps17
  go_wp2_with fail
  refine (anyInts_any w.heap.size A bs c 0 _ HC0.out (by omega)).mono ?_
  rintro e w1 ⟨v, zs, rfl, hO1, hl1, hs1, hc1, hg1⟩
  have hB1 := hB0.trans (below_near hg1 (Nat.le_refl _) hB0.size)
  have HC1 := Lib.hid hc1
  have hO1' := own_base hO1 hB0.size
  have HS := Lib.hid hs1
  clear hc1 hO1 hs1 hg1
  obtain ⟨AV, CV, rfl⟩ := own_slice hO1'
  go_wp2_with fail
  refine (one_any w.heap.size A bs c _ 16 _ HC1.out (by omega) (by omega) (by omega)).mono ?_
  rintro e w2 ⟨b2, rfl, hc2, hg2⟩
  have hO2 := Cur.row HC1.out hO1' hg2 (by decide)
  have hB2 := hB1.trans (below_near hg2 (Nat.le_refl _) hB1.size)
  have HC2 := Lib.hid hc2
  clear hc2 hO1' hg2
  cases b2
  case false =>
    have HB := Lib.hid (bools_any w.heap.size A bs c _ zs.length _ HC2.out (by omega) (by omega))
    go_wp2_with fail
    refine HB.out.mono ?_
    rintro e w3 ⟨u, ks, rfl, hK, hkl, hc3, hg3⟩
    have hO3 := Cur.row HC2.out hO2 hg3 (by decide)
    have hB3 := hB2.trans (below_near hg3 (Nat.le_refl _) hB2.size)
    have hK3 := own_base hK hB2.size
    obtain ⟨AK, CK, rfl⟩ := own_slice hK3
    have HKL := Lib.hid hkl
    clear hkl
    go_wp2_with fail
    refine bodyPost_ret (v := .tuple #[.slice AV zs.length CV, .slice AK ks.length CK]) (by simp [results, Try.results17, go_sem]) rfl (GotC.mk ⟨_, _, zs, ks, rfl, hO3, hK3, hl1, by rw [HKL.out]; omega, HS.out, hB3⟩)
  case true =>
    have HB := Lib.hid (bools_any w.heap.size A bs c _ (zs.length + 1) _ HC2.out (by omega) (by omega))
    go_wp2_with fail
    refine HB.out.mono ?_
    rintro e w3 ⟨u, ks, rfl, hK, hkl, hc3, hg3⟩
    have hO3 := Cur.row HC2.out hO2 hg3 (by decide)
    have hB3 := hB2.trans (below_near hg3 (Nat.le_refl _) hB2.size)
    have hK3 := own_base hK hB2.size
    obtain ⟨AK, CK, rfl⟩ := own_slice hK3
    have HKL := Lib.hid hkl
    clear hkl
    go_wp2_with fail
    refine bodyPost_ret (v := .tuple #[.slice AV zs.length CV, .slice AK ks.length CK]) (by simp [results, Try.results17, go_sem]) rfl (GotC.mk ⟨_, _, zs, ks, rfl, hO3, hK3, hl1, by rw [HKL.out]; omega, HS.out, hB3⟩)
end Go.Proofs.Ytphcfjdhichfkaa
