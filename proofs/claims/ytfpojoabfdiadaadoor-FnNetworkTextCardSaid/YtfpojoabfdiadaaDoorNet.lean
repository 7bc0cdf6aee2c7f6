/- Contracts of the helpers on networks. -/
import Derived.Test.YtfpojoabfdiadaaDoorCmp
namespace Go.Proofs.YtfpojoabfdiadaaDoor
open Go.RowKit
set_option linter.unusedVariables false

/-- a network that is being built behind a pointer -/
def NetAt (w : World) (B p : Nat) (W : Int) (cs : List (Int × Int)) : Prop :=
  ∃ v, Blk w p 30 #[.int .i64 W, v] ∧ w.ownsRow B 48 2 v cs.length (cmps cs) ∧ B ≤ p
theorem NetAt.below {w w' : World} {B p : Nat} {W : Int} {cs : List (Int × Int)} (h : NetAt w B p W cs) (hb : Below w.heap.size w w') : NetAt w' B p W cs := by
  obtain ⟨v, h1, h2, h3⟩ := h
  exact ⟨v, h1.below hb h1.lt, own_below h2 hb (Nat.le_refl _), h3⟩
set_option maxHeartbeats 400000 in
theorem eqNetwork_any (W V : Int) (A B : Option Addr) (xs ys : List (Int × Int)) (c d : Nat) (w : World) (hx : Reads w w.heap.size 2 A xs.length (cmps xs)) (hy : Reads w w.heap.size 2 B ys.length (cmps ys))
    (hl : xs.length ≤ 1099511627776) (hl' : ys.length ≤ 1099511627776) :
    Calls Tryd.prog 10 #[.agg #[.int .i64 W, .slice A xs.length c], .agg #[.int .i64 V, .slice B ys.length d]] w fun e w' => e = .returned (.bool (decide (W = V) && decide (xs = ys))) ∧ Below w.heap.size w w' := by
  by_cases h1 : W = V
  · subst h1
    have hd : (W == W) = true := by simp
    have hd' : (W != W) = false := by simp
    have hb0 : Below w.heap.size w ((w.alloc (.cells #[.int .i64 W, .slice A xs.length c] 30)).alloc (.cells #[.int .i64 W, .slice B ys.length d] 30)) := by go_grown
    have hx' := (hx.below hb0).more hb0.size
    have hy' := (hy.below hb0).more hb0.size
    go_enter Tryd.func10, Tryd.ntmps10
    go_wp2_with fail
    refine (eqComparatorS_any A B xs ys c d _ hx' hy' hl hl').mono ?_
    rintro e w1 ⟨rfl, hb1⟩
    cases h2 : decide (xs = ys)
    all_goals
      go_wp2_with fail
      go_ret
      exact ⟨retb (by simp [h2]), bthen hb0 hb1⟩
  · have hd : (W == V) = false := by simpa using h1
    have hd' : (W != V) = true := by simpa using h1
    go_enter Tryd.func10, Tryd.ntmps10
    go_wp2_with fail
    go_ret
    exact ⟨retb (by simp [h1]), by go_grown⟩
set_option maxHeartbeats 400000 in
theorem markNetwork_any (B : Nat) (W : Int) (A : Option Addr) (cs : List (Int × Int)) (c : Nat) (k0 : Int) (w : World) (hl : cs.length ≤ 1048576) (h0 : 0 ≤ k0) (h1 : k0 ≤ 1099511627776)
    (hown : w.ownsRow B 48 2 (.slice A cs.length c) cs.length (cmps cs)) :
    Calls Tryd.prog 13 #[.agg #[.int .i64 W, .slice A cs.length c], .int .i64 k0] w fun e w' => e = .returned (.int .i64 (k0 + 2 * cs.length)) ∧
      w'.ownsRow B 48 2 (.slice A cs.length c) cs.length (cmps (cmarks k0 cs.length)) ∧ w.grownBy w' (Value.slice A cs.length c).ownBlock := by
  have hg0 := World.grownBy_alloc w (.cells #[.int .i64 W, .slice A cs.length c] 30) (Value.slice A cs.length c).ownBlock
  have ho0 := hown.alloc (.cells #[.int .i64 W, .slice A cs.length c] 30)
  go_enter Tryd.func13, Tryd.ntmps13
  go_wp2_with fail
  refine (markComparatorS_any B A cs c k0 _ hl h0 h1 ho0).mono ?_
  rintro e w1 ⟨rfl, o1, g1⟩
  go_wp2_with fail
  go_ret
  exact ⟨rfl, o1, hg0.trans g1⟩
set_option maxHeartbeats 400000 in
theorem heldNetwork_any (W : Int) (A : Option Addr) (n c : Nat) (k0 : Int) (w : World) (hl : n ≤ 1048576) (h0 : 0 ≤ k0) (h1 : k0 ≤ 1099511627776)
    (hx : Reads w w.heap.size 2 A n (cmps (cmarks k0 n))) :
    Calls Tryd.prog 14 #[.agg #[.int .i64 W, .slice A n c], .int .i64 k0] w fun e w' => e = .returned (.int .i64 (k0 + 2 * n)) ∧ Below w.heap.size w w' := by
  have hb0 : Below w.heap.size w (w.alloc (.cells #[.int .i64 W, .slice A n c] 30)) := by go_grown
  have hx' := (hx.below hb0).more hb0.size
  go_enter Tryd.func14, Tryd.ntmps14
  go_wp2_with fail
  refine (heldComparatorS_any A n c k0 _ hl h0 h1 hx').mono ?_
  rintro e w1 ⟨rfl, rfl⟩
  go_wp2_with fail
  go_ret
  exact ⟨rfl, hb0⟩
end Go.Proofs.YtfpojoabfdiadaaDoor
