/- NetworkLayers: the program's and the reference's function. -/
import Derived.Test.YteigceeghnphmaaLayersS
import Derived.Test.YteigceeghnphmaaHold
namespace Go.Proofs.Yteigceeghnphmaa
open Go.RowKit
set_option linter.unusedVariables false
def nlV (W : Int) (cs : List (Int × Int)) : List Int := if netOk W cs then layersL W cs else []
theorem nl_len (W : Int) (cs : List (Int × Int)) : (nlV W cs).length ≤ 200 := by
  unfold nlV
  split
  · rename_i h
    have h1 := (layFold_inv W cs cs.length (Nat.le_refl _)).2.2.1
    rw [List.take_of_length_le (Nat.le_refl _)] at h1
    have := (netOk_iff h).2.2.1
    unfold layersL
    omega
  · simp
set_option maxRecDepth 100000 in
set_option maxHeartbeats 800000 in
theorem NetworkLayers_any (W : Int) (A : Option Addr) (cs : List (Int × Int)) (c : Nat) (w : World) (hx : Reads w w.heap.size 2 A cs.length (cmps cs)) (hl : cs.length ≤ 1099511627776) :
    Calls Try.prog 14 #[.agg #[.int .i64 W, .slice A cs.length c]] w fun e w' => ∃ A c, e = .returned (.tuple #[.slice A (nlV W cs).length c, .bool (netOk W cs)]) ∧
      w'.ownsRow w.heap.size 3 1 (.slice A (nlV W cs).length c) (nlV W cs).length (ints (nlV W cs)) ∧ Below w.heap.size w w' := by
  have hb0 : Below w.heap.size w (w.alloc (.cells #[.int .i64 W, .slice A cs.length c] 26)) := by go_grown
  cases h : netOk W cs
  · rw [show nlV W cs = [] from by simp [nlV, h]]
    go_enter Try.func14, Try.ntmps14
    go_wp2_with fail
    refine (IsValidNetwork_any W A cs c _ ((hx.below hb0).more hb0.size) hl).mono ?_
    rintro e w1 ⟨rfl, hb1⟩
    obtain ⟨B1, k1⟩ := step_box hb1
    go_wp2_with fail
    refine bodyPost_ret (v := .tuple #[.slice none 0 0, .bool false]) (by simp [results, Try.results14, go_sem]) rfl ⟨none, 0, rfl, World.ownsRow_nil _ _ _ _, B1⟩
  · rw [show nlV W cs = layersL W cs from by simp [nlV, h]]
    go_enter Try.func14, Try.ntmps14
    go_wp2_with fail
    refine (IsValidNetwork_any W A cs c _ ((hx.below hb0).more hb0.size) hl).mono ?_
    rintro e w1 ⟨rfl, hb1⟩
    obtain ⟨B1, k1⟩ := step_box hb1
    obtain ⟨x0, x1⟩ := k1.two
    have xl := k1.lt
    go_wp2_with fail
    refine (layers_any W A cs c _ ((hx.below B1).more B1.size) h).mono ?_
    rintro e w2 ⟨v, rfl, own2, hb2⟩
    obtain ⟨D, d, rfl⟩ := own_slice own2
    go_wp2_with fail
    refine bodyPost_ret (v := .tuple #[.slice D (layersL W cs).length d, .bool true]) (by simp [results, Try.results14, go_sem]) rfl ⟨D, d, rfl, own_base own2 B1.size, bthen B1 hb2⟩
end Go.Proofs.Yteigceeghnphmaa
