/- laws.vTree on two alike trees. -/
import Derived.Test.YteigceeghnphmaaVN
import Derived.Test.YteigceeghnphmaaTreeEq
import Derived.Deep.DeepCutAuto
namespace Go.Proofs.Yteigceeghnphmaa
open Go.RowKit
set_option linter.unusedVariables false
set_option maxRecDepth 100000 in
set_option maxHeartbeats 3200000 in
theorem vTree_same (AK BK AD BD AL BL : Option Addr) (ks ls : List Int) (ds : List Bool) (k m l cK dK cD dD cL dL : Nat) (W : Int) (w : World) (hk : ks.length = k) (hm : ds.length = m) (hl : ls.length = l) (hs : k ≤ 64 ∧ m ≤ 64 ∧ l ≤ 64)
    (hx : Reads w w.heap.size 1 AK k (ints ks)) (hx' : Reads w w.heap.size 1 BK k (ints ks)) (hy : Reads w w.heap.size 1 AD m (bools ds)) (hy' : Reads w w.heap.size 1 BD m (bools ds)) (hz : Reads w w.heap.size 1 AL l (ints ls)) (hz' : Reads w w.heap.size 1 BL l (ints ls)) :
    Calls Try.prog 46 #[.agg #[.slice AK k cK, .slice AD m cD, .slice AL l cL, .int .i64 W], .agg #[.slice BK k dK, .slice BD m dD, .slice BL l dL, .int .i64 W]] w fun e w' => e = .returned (.bool true) ∧ Below w.heap.size w w' := by
  have x1 : ∀ x : Int, (x != x) = false := by simp
  have x2 : ∀ x : Bool, (x != x) = false := by simp
  have hA0 := (Blk.new w 57 #[.slice AK k cK, .slice AD m cD, .slice AL l cL, .int .i64 W]).alloc (.cells #[.slice BK k dK, .slice BD m dD, .slice BL l dL, .int .i64 W] 57)
  have hE0 := blk_new_at (w := w.alloc (.cells #[.slice AK k cK, .slice AD m cD, .slice AL l cL, .int .i64 W] 57)) (g := w.heap.size + 1) (t := 57) (cs := #[.slice BK k dK, .slice BD m dD, .slice BL l dL, .int .i64 W]) (by simp)
  have hB0 := alloc_ (alloc_ (Below.refl w.heap.size w) (.cells #[.slice AK k cK, .slice AD m cD, .slice AL l cL, .int .i64 W] 57)) (.cells #[.slice BK k dK, .slice BD m dD, .slice BL l dL, .int .i64 W] 57)
  obtain ⟨q0, q1, q2, q3⟩ := hA0.four
  obtain ⟨r0, r1, r2, r3⟩ := hE0.four
  have ql := hA0.lt
  have rl := hE0.lt
  go_enter Try.func46, Try.ntmps46
  go_wp2_with fail
  refine (vInts_n AK BK ks k cK dK _ hk (by omega) ((hx.below hB0).more hB0.size) ((hx'.below hB0).more hB0.size)).mono ?_
  rintro e w1 ⟨rfl, n1, rfl⟩
  generalize (w.alloc (.cells #[.slice AK k cK, .slice AD m cD, .slice AL l cL, .int .i64 W] 57)).alloc (.cells #[.slice BK k dK, .slice BD m dD, .slice BL l dL, .int .i64 W] 57) = w2 at *
  have hA1 := hA0.drewN n1
  have hE1 := hE0.drewN n1
  have hB1 := below_drewN hB0 n1
  clear q0 q1 q2 q3 r0 r1 r2 r3 ql rl hA0 hE0 hB0
  generalize w2.drewN n1 = w3 at *
  obtain ⟨q0, q1, q2, q3⟩ := hA1.four
  obtain ⟨r0, r1, r2, r3⟩ := hE1.four
  have ql := hA1.lt
  have rl := hE1.lt
  go_wp2_with fail
  refine (vInts_n AL BL ls l cL dL _ hl (by omega) ((hz.below hB1).more hB1.size) ((hz'.below hB1).more hB1.size)).mono ?_
  rintro e w4 ⟨rfl, n4, rfl⟩
  have hA2 := hA1.drewN n4
  have hE2 := hE1.drewN n4
  have hB2 := below_drewN hB1 n4
  clear q0 q1 q2 q3 r0 r1 r2 r3 ql rl hA1 hE1 hB1
  generalize w3.drewN n4 = w5 at *
  obtain ⟨q0, q1, q2, q3⟩ := hA2.four
  obtain ⟨r0, r1, r2, r3⟩ := hE2.four
  have ql := hA2.lt
  have rl := hE2.lt
  have HY := Lib.hid ((hy.below hB2).more hB2.size)
  have HY' := Lib.hid ((hy'.below hB2).more hB2.size)
  clear hx hx' hy hy' hz hz'
  go_wp2_with fail
  go_loopw [5] (fun vi wr => ∃ i n : Nat, i ≤ m ∧ vi = .int .i64 (i : Nat) ∧ wr = w5.drewN n) (fun vi _ => m - (intOf vi).toNat)
  case atStart => exact ⟨0, 0, by omega, rfl, rfl⟩
  case round =>
    obtain ⟨i, n, hi, rfl, rfl⟩ := hrel
    by_cases hlt : i < m
    · have hiI : (i : Int) < (m : Int) := by omega
      obtain ⟨ad, u, rfl, -, hu, hc⟩ := HY.out.at_ hlt
      obtain ⟨bd, u', rfl, -, hu', hc'⟩ := HY'.out.at_ hlt
      obtain rfl : u = u' := Option.some.inj (hu.symm.trans hu')
      rw [bools_get (by omega)] at hu
      cases hu
      generalize ds[i] = bb at *
      go_wp2_with fail
      go_quiet (fail)
      go_wp2_with fail
      go_roundw
      case rel => exact ⟨i + 1, n + nq, by omega, by go_num, rfl⟩
      case measure => simp [intOf]; omega
    · have hiI : ¬ (i : Int) < (m : Int) := by omega
      go_wp2_with fail
      go_ret
      exact ⟨rfl, below_drewN hB2 n⟩
end Go.Proofs.Yteigceeghnphmaa
