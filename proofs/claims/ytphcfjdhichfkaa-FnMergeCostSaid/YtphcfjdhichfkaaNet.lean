/- Contracts of the helpers on networks. -/
import Derived.Test.YtphcfjdhichfkaaCmp
namespace Go.Proofs.Ytphcfjdhichfkaa
open Go.RowKit
set_option linter.unusedVariables false

/-- a network that is being built behind a pointer -/
def NetAt (w : World) (B p : Nat) (W : Int) (cs : List (Int × Int)) : Prop :=
  ∃ v, Blk w p 41 #[.int .i64 W, v] ∧ w.ownsRow B 37 2 v cs.length (cmps cs) ∧ B ≤ p
theorem NetAt.below {w w' : World} {B p : Nat} {W : Int} {cs : List (Int × Int)} (h : NetAt w B p W cs) (hb : Below w.heap.size w w') : NetAt w' B p W cs := by
  obtain ⟨v, h1, h2, h3⟩ := h
  exact ⟨v, h1.below hb h1.lt, own_below h2 hb (Nat.le_refl _), h3⟩
set_option maxRecDepth 100000 in
set_option maxHeartbeats 800000 in
theorem put_any (B p : Nat) (W : Int) (cs : List (Int × Int)) (l h : Int) (w : World) (hn : NetAt w B p W cs) (hl : cs.length ≤ 1048576) :
    Calls Try.prog 73 #[.pointer (some ⟨p, 0, none⟩), .int .i64 l, .int .i64 h] w fun e w' => e = .returned (.tuple #[]) ∧ NetAt w' B p W (cs ++ [(l, h)]) ∧ Below B w w' := by
  obtain ⟨v, hblk, hown, hBp⟩ := hn
  obtain ⟨i0, hi, hz0, hz1, hz2⟩ := info_parts info_cmp
  have c1 : w.cell? ⟨p, 1, none⟩ = some v := hblk.cell 1
  have hlt := hblk.lt
  go_enter Try.func73, Try.ntmps73
  go_wp2_with (at_builtin; refine wpList_push _ rfl _ _ 28 rfl B 37 i0 _ 2 16 Try.underlying28 hi hz0 hz1 hz2 rfl (by decide) v _ _ rfl hown #[.int .i64 l, .int .i64 h] rfl rfl (by simp [Value.oneCell']) (by omega) (by unfold maxLen; omega) (by omega) ?_; intro g1 k1 w1 hown1 hg1 hb1 hat1; have hblk1 := hblk.grown hg1 (fun e => own_blk_ne hown hblk (by decide) e.symm); have c2 : w1.cell? ⟨p, 1, none⟩ = some v := hblk1.cell 1; have f2 := hblk1.frozen 1)
  refine bodyPost_end (results_none rfl _ _ _) rfl ⟨rfl, ⟨.slice (some ⟨g1, 0, none⟩) (cs.length + 1) k1, hblk1.set_ 1 _, ?_, hBp⟩, hb1.setCell hBp _⟩
  refine own_setCell ?_ (own_blk_ne hown1 hblk1 (by decide)) _
  exact cmps_push hown1
end Go.Proofs.Ytphcfjdhichfkaa
