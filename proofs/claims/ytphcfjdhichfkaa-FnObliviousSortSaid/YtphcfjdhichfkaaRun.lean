/- A network runs on a list. -/
import Derived.Test.YtphcfjdhichfkaaNetTo
import Derived.BigQuiet
import Derived.Deep.QuietTactic
namespace Go.Proofs.Ytphcfjdhichfkaa
open Go.RowKit
set_option linter.unusedVariables false
theorem cmpOk_iff' {W : Int} {c : Int × Int} (h : cmpOk W c = true) : c.1 ≠ c.2 ∧ 0 ≤ c.1 ∧ c.1 < W ∧ 0 ≤ c.2 ∧ c.2 < W := by
  simp only [cmpOk, Bool.and_eq_true, Bool.not_eq_true', beq_eq_false_iff_ne] at h
  have := inB_iff.1 h.2.1
  have := inB_iff.1 h.2.2
  exact ⟨h.1, by omega, by omega, by omega, by omega⟩
/-- one comparator at work -/
def cmpDo (l : List Int) (c : Int × Int) : List Int :=
  if (l[c.2.toNat]?.getD 0) < (l[c.1.toNat]?.getD 0) then (l.set c.1.toNat (l[c.2.toNat]?.getD 0)).set c.2.toNat (l[c.1.toNat]?.getD 0) else l
def netRun (cs : List (Int × Int)) (l : List Int) : List Int := cs.foldl cmpDo l
@[simp] theorem cmpDo_len (l : List Int) (c : Int × Int) : (cmpDo l c).length = l.length := by unfold cmpDo; split <;> simp
theorem netRun_len (cs : List (Int × Int)) : ∀ l : List Int, (netRun cs l).length = l.length := by
  unfold netRun
  induction cs with
  | nil => intro l; rfl
  | cons c cs ih => intro l; rw [List.foldl_cons, ih, cmpDo_len]
theorem netRun_take (cs : List (Int × Int)) (l : List Int) (k : Nat) (hk : k < cs.length) : netRun (cs.take (k + 1)) l = cmpDo (netRun (cs.take k) l) cs[k] := by
  rw [netRun, netRun, List.take_succ_eq_append_getElem hk, List.foldl_append]; rfl
set_option maxHeartbeats 400000 in
theorem copyInts_any (A : Option Addr) (zs : List Int) (c : Nat) (w : World) (hx : Reads w w.heap.size 1 A zs.length (ints zs)) (hl : zs.length ≤ 1048576) :
    Calls Try.prog 65 #[.slice A zs.length c] w fun e w' => ∃ v, e = .returned v ∧ w'.ownsRow w.heap.size 3 1 v zs.length (ints zs) ∧ Below w.heap.size w w' := by
  obtain ⟨i0, hi, hz0, hz1, hz2⟩ := info_parts (show (Try.prog.info? 3).map (fun i => (i.zero, i.size, i.bytes)) = some (some (.int .i64 0), 1, 8) by kernel_rfl)
  have ho := World.ownsRow_made (base := w.heap.size) (size := 1) (e := 3) w #[] 0 (Nat.le_refl _) (by simp) (by simp)
  have hb := alloc_ (Below.refl w.heap.size w) (.cells #[] 3)
  have hr := hx.alloc (Nat.le_refl _) (.cells #[] 3)
  go_enter Try.func65, Try.ntmps65
  go_wp2_with (at_builtin; refine wpList_append_any _ rfl _ _ 24 rfl w.heap.size 3 i0 _ 1 8 Try.underlying24 hi hz0 hz1 hz2 rfl (by decide) (.slice (some ⟨w.heap.size, 0, none⟩) 0 0) _ _ rfl ho w.heap.size A zs.length c (ints zs) rfl hr (by intro u hu; simp [ints] at hu; obtain ⟨z, _, rfl⟩ := hu; rfl) (by unfold maxLen; omega) (by omega) (by simp) ?_; intro v1 w1 hown1 hg1 hat1)
  go_ret
  simp only [Nat.zero_add, List.nil_append] at hown1
  exact ⟨v1, rfl, hown1, hb.grown hg1 (by simp) (by simp [Value.ownBlock])⟩
end Go.Proofs.Ytphcfjdhichfkaa
