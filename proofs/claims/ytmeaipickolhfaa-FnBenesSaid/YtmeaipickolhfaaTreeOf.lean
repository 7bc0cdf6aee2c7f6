/- The tree of leaves: the program's side. -/
import Derived.Test.YtmeaipickolhfaaPlay
namespace Go.Proofs.Ytmeaipickolhfaa
open Go.RowKit
set_option linter.unusedVariables false
/-- the three rows of a tree, all of one's own -/
def TreeOwn (w : World) (base tI tB : Nat) (k : Nat) (AK : Option Addr) (cK : Nat) (AD : Option Addr) (cD : Nat) (AL : Option Addr) (cL : Nat) (ks : List Int) (ds : List Bool) (ls : List Int) : Prop :=
  w.ownsRow base tI 1 (.slice AK k cK) k (ints ks) ∧ w.ownsRow base tB 1 (.slice AD k cD) k (bools ds) ∧ w.ownsRow base tI 1 (.slice AL k cL) k (ints ls) ∧
    ((Value.slice AK k cK).ownBlock = none ∨ (Value.slice AK k cK).ownBlock ≠ (Value.slice AL k cL).ownBlock)
def loserI (ks : List Int) (ds : List Bool) : List Int := (loserV ks ds).map Int.ofNat
theorem loserI_len (ks : List Int) (ds : List Bool) : (loserI ks ds).length = ks.length := by simp [loserI, loser_len]
theorem nats_loser (ks : List Int) (ds : List Bool) : nats (loserV ks ds) = ints (loserI ks ds) := rfl
theorem Blk.four {w : World} {g : Nat} {T : TypeId} {a b c d : Value} (h : Blk w g T #[a, b, c, d]) : w.cell? ⟨g, 0, none⟩ = some a ∧ w.cell? ⟨g, 1, none⟩ = some b ∧ w.cell? ⟨g, 2, none⟩ = some c ∧ w.cell? ⟨g, 3, none⟩ = some d := ⟨h.cell 0, h.cell 1, h.cell 2, h.cell 3⟩
theorem Blk.ice {w : World} {g : Nat} {T : TypeId} {cs : Array Value} (h : Blk w g T cs) : w.frozen? ⟨g, 0, none⟩ = false ∧ w.frozen? ⟨g, 1, none⟩ = false ∧ w.frozen? ⟨g, 2, none⟩ = false ∧ w.frozen? ⟨g, 3, none⟩ = false := ⟨h.frozen 0, h.frozen 1, h.frozen 2, h.frozen 3⟩
set_option maxHeartbeats 400000 in
theorem copyI_any (A : Option Addr) (zs : List Int) (k c : Nat) (w : World) (hk : zs.length = k) (hx : Reads w w.heap.size 1 A zs.length (ints zs)) (hl : k ≤ 1048576) :
    Calls Try.prog 62 #[.slice A k c] w fun e w' => ∃ v, e = .returned v ∧ w'.ownsRow w.heap.size 3 1 v k (ints zs) ∧ Below w.heap.size w w' := by
  subst hk
  obtain ⟨i0, hi, hz0, hz1, hz2⟩ := info_parts (show (Try.prog.info? 3).map (fun i => (i.zero, i.size, i.bytes)) = some (some (.int .i64 0), 1, 8) by kernel_rfl)
  have ho := World.ownsRow_made (base := w.heap.size) (size := 1) (e := 3) w #[] 0 (Nat.le_refl _) (by simp) (by simp)
  have hb := alloc_ (Below.refl w.heap.size w) (.cells #[] 3)
  have hr := hx.alloc (Nat.le_refl _) (.cells #[] 3)
  go_enter Try.func62, Try.ntmps62
  go_wp2_with (at_builtin; refine wpList_append_any _ rfl _ _ 22 rfl w.heap.size 3 i0 _ 1 8 Try.underlying22 hi hz0 hz1 hz2 rfl (by decide) (.slice (some ⟨w.heap.size, 0, none⟩) 0 0) _ _ rfl ho w.heap.size A zs.length c (ints zs) rfl hr (by intro u hu; simp [ints] at hu; obtain ⟨z, _, rfl⟩ := hu; rfl) (by unfold maxLen; omega) (by omega) (by simp) ?_; intro v1 w1 hown1 hg1 hat1)
  go_ret
  simp only [Nat.zero_add, List.nil_append] at hown1
  exact ⟨v1, rfl, hown1, hb.grown hg1 (by simp) (by simp [Value.ownBlock])⟩
end Go.Proofs.Ytmeaipickolhfaa
