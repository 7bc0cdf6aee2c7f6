/- RedundantComparators: the reference's function. -/
import Derived.Test.YteigceeghnphmaaRedA
import Derived.Test.YteigceeghnphmaaIdleS
namespace Go.Proofs.Yteigceeghnphmaa
open Go.RowKit
set_option linter.unusedVariables false
set_option maxRecDepth 100000 in
set_option maxHeartbeats 1600000 in
theorem sRedundantComparators_any (W : Int) (A : Option Addr) (cs : List (Int × Int)) (c : Nat) (w : World) (hx : Reads w w.heap.size 2 A cs.length (cmps cs)) (hl : cs.length ≤ 1099511627776) :
    Calls Try.prog 27 #[.agg #[.int .i64 W, .slice A cs.length c]] w fun e w' => ∃ A c, e = .returned (.tuple #[.slice A (rcV W cs).length c, .bool (chkOk W cs)]) ∧
      w'.ownsRow w.heap.size 3 1 (.slice A (rcV W cs).length c) (rcV W cs).length (ints (rcV W cs)) ∧ Below w.heap.size w w' := by
  have hb0 : Below w.heap.size w (w.alloc (.cells #[.int .i64 W, .slice A cs.length c] 26)) := by go_grown
  cases hok : chkOk W cs
  · rw [show rcV W cs = [] from by simp [rcV, hok]]
    go_enter Try.func27, Try.ntmps27
    go_wp2_with fail
    refine (l12Checked_any W A cs c _ ((hx.below hb0).more hb0.size) hl).mono ?_
    rintro e w1 ⟨rfl, hb1⟩
    obtain ⟨B1, k1⟩ := step_box hb1
    rw [hok]
    go_wp2_with fail
    refine bodyPost_ret (v := .tuple #[.slice (some ⟨w1.heap.size, 0, none⟩) 0 0, .bool false]) (by simp [results, Try.results27, go_sem]) rfl ⟨some ⟨w1.heap.size, 0, none⟩, 0, rfl, World.ownsRow_made w1 #[] 0 B1.size (by simp) (by simp), alloc_ B1 _⟩
  · rw [show rcV W cs = idleT cs (2 ^ W.toNat) cs.length from by simp [rcV, hok]]
    obtain ⟨n, rfl, hnet, hn12, hcl⟩ := chk_parts hok
    rw [Int.toNat_natCast]
    have HO := Lib.hid hok; clear hok
    have HN := Lib.hid hnet; clear hnet
    go_enter Try.func27, Try.ntmps27
    go_wp2_with fail
    refine (l12Checked_any n A cs c _ ((hx.below hb0).more hb0.size) hl).mono ?_
    rintro e w1 ⟨rfl, hb1⟩
    obtain ⟨B1, k1⟩ := step_box hb1
    obtain ⟨x0, x1⟩ := k1.two
    have xl := k1.lt
    rw [HO.out]
    go_wp2_with fail
    refine (l12Idle_any n A cs c _ ((hx.below B1).more B1.size) HN.out hn12).mono ?_
    rintro e w2 ⟨v2, rfl, own2, hb2⟩
    obtain ⟨G, g, rfl⟩ := own_slice own2
    go_wp2_with fail
    refine bodyPost_ret (v := .tuple #[.slice G (idleT cs (2 ^ n) cs.length).length g, .bool true]) (by simp [results, Try.results27, go_sem]) rfl ⟨G, g, rfl, own_base own2 B1.size, bthen B1 hb2⟩
end Go.Proofs.Yteigceeghnphmaa
