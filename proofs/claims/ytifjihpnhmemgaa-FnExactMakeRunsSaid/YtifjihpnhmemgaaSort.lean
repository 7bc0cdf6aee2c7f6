/- Sorted lists of integers; the reference's sort by insertion. -/
import Derived.Test.YtifjihpnhmemgaaCore
import Derived.Test.YtifjihpnhmemgaaPush
import Derived.IntWalk
import Derived.BigQuiet
import Derived.Deep.QuietTactic
namespace Go.Proofs.Ytifjihpnhmemgaa
open Go.RowKit
set_option linter.unusedVariables false
/-- the sorted arrangement -/
def srt (zs : List Int) : List Int := zs.mergeSort (fun a b => decide (a ≤ b))
theorem srt_len (zs : List Int) : (srt zs).length = zs.length := by simp [srt]
theorem srt_perm (zs : List Int) : (srt zs).Perm zs := List.mergeSort_perm _ _
theorem srt_pair (zs : List Int) : (srt zs).Pairwise (· ≤ ·) := by
  have h := List.pairwise_mergeSort (le := fun a b : Int => decide (a ≤ b)) (fun a b c h1 h2 => by simp at h1 h2 ⊢; omega) (fun a b => by simp; omega) zs
  exact h.imp fun h => by simpa using h
theorem srt_of {ys zs : List Int} (hp : ys.Perm zs) (hs : ys.Pairwise (· ≤ ·)) : ys = srt zs :=
  List.Perm.eq_of_pairwise (fun a b _ _ h1 h2 => by omega) hs (srt_pair zs) (hp.trans (srt_perm zs).symm)
theorem srt_congr {a b : List Int} (h : a.Perm b) : srt a = srt b := srt_of ((srt_perm a).trans h) (srt_pair a)
theorem srt_idem (zs : List Int) : srt (srt zs) = srt zs := srt_congr (srt_perm zs)
/-- the first i elements ascend, but for what stands behind place k -/
def Ins (ys : List Int) (i k : Nat) : Prop := ∀ a b : Nat, a < b → b < i → b ≠ k → (ys[a]?.getD 0) ≤ (ys[b]?.getD 0)
theorem Ins.start {ys : List Int} {i : Nat} (h : Ins ys i i) : Ins ys (i + 1) i := fun a b h1 h2 h3 => h a b h1 (by omega) h3
theorem Ins.step {ys : List Int} {i k : Nat} (hk : 0 < k) (hki : k < i) (hl : i ≤ ys.length) (h : Ins ys i k) (hgt : (ys[k]?.getD 0) < (ys[k - 1]?.getD 0)) :
    Ins ((ys.set (k - 1) (ys[k]?.getD 0)).set k (ys[k - 1]?.getD 0)) i (k - 1) := by
  have g : ∀ t, t < i → (((ys.set (k - 1) (ys[k]?.getD 0)).set k (ys[k - 1]?.getD 0))[t]?.getD 0) = if t = k then (ys[k - 1]?.getD 0) else if t = k - 1 then (ys[k]?.getD 0) else (ys[t]?.getD 0) := by
    intro t ht
    rw [List.getElem?_set, List.getElem?_set]
    by_cases h1 : k = t
    · subst h1; rw [if_pos rfl, if_pos (by simp; omega), if_pos rfl, Option.getD_some]
    · rw [if_neg h1, if_neg (Ne.symm h1)]
      by_cases h2 : k - 1 = t
      · rw [if_pos h2, if_pos (by omega), if_pos h2.symm, Option.getD_some]
      · rw [if_neg h2, if_neg (Ne.symm h2)]
  intro a b hab hb hbk
  rw [g a (by omega), g b hb]
  by_cases h1 : b = k
  · rw [if_pos h1, if_neg (by omega)]
    by_cases h2 : a = k - 1
    · rw [if_pos h2]; omega
    · rw [if_neg h2]; exact h a (k - 1) (by omega) (by omega) (by omega)
  · rw [if_neg h1, if_neg hbk]
    by_cases h2 : a = k
    · rw [if_pos h2]; exact h (k - 1) b (by omega) hb h1
    · rw [if_neg h2]
      by_cases h3 : a = k - 1
      · rw [if_pos h3]
        rcases Nat.lt_or_ge b k with h4 | h4
        · omega
        · exact h k b (by omega) hb h1
      · rw [if_neg h3]; exact h a b hab hb h1
theorem Ins.stop {ys : List Int} {i k : Nat} (h : Ins ys i k) (hk : k = 0 ∨ (ys[k - 1]?.getD 0) ≤ (ys[k]?.getD 0)) : Ins ys i i := by
  intro a b hab hb hbi
  by_cases h1 : b = k
  · subst h1
    rcases hk with h0 | h0
    · omega
    · by_cases h2 : a = b - 1
      · rw [h2]; exact h0
      · have := h a (b - 1) (by omega) (by omega) (by omega); omega
  · exact h a b hab hb h1
theorem Ins.done {ys : List Int} {i : Nat} (h : Ins ys i i) (hl : ys.length ≤ i) : ys.Pairwise (· ≤ ·) := by
  rw [List.pairwise_iff_getElem]
  intro a b ha hb hab
  have := h a b hab (by omega) (by omega)
  rwa [List.getElem?_eq_getElem ha, List.getElem?_eq_getElem hb, Option.getD_some, Option.getD_some] at this
theorem swap_perm {ys : List Int} {k : Nat} (hk : 0 < k) (hl : k < ys.length) : ((ys.set (k - 1) (ys[k]?.getD 0)).set k (ys[k - 1]?.getD 0)).Perm ys := by
  rw [List.getElem?_eq_getElem hl, List.getElem?_eq_getElem (show k - 1 < ys.length by omega), Option.getD_some, Option.getD_some]
  exact List.set_set_perm (by omega) hl
theorem l1OwnS_any (A : Option Addr) (zs : List Int) (c : Nat) (w : World) (hx : Reads w w.heap.size 1 A zs.length (ints zs)) (hl : zs.length ≤ 1048576) :
    Calls Try.prog 42 #[.slice A zs.length c] w fun e w' => ∃ v, e = .returned v ∧ w'.ownsRow w.heap.size 3 1 v zs.length (ints zs) ∧ Below w.heap.size w w' := by
  obtain ⟨i0, hi, hz0, hz1, hz2⟩ := info_parts (show (Try.prog.info? 3).map (fun i => (i.zero, i.size, i.bytes)) = some (some (.int .i64 0), 1, 8) by kernel_rfl)
  have ho := World.ownsRow_made (base := w.heap.size) (size := 1) (e := 3) w #[] 0 (Nat.le_refl _) (by simp) (by simp)
  have hb := alloc_ (Below.refl w.heap.size w) (.cells #[] 3)
  have hr := hx.alloc (Nat.le_refl _) (.cells #[] 3)
  go_enter Try.func42, Try.ntmps42
  go_wp2_with (at_builtin; refine wpList_append_any _ rfl _ _ 51 rfl w.heap.size 3 i0 _ 1 8 Try.underlying51 hi hz0 hz1 hz2 rfl (by decide) (.slice (some ⟨w.heap.size, 0, none⟩) 0 0) _ _ rfl ho w.heap.size A zs.length c (ints zs) rfl hr (by intro u hu; simp [ints] at hu; obtain ⟨z, _, rfl⟩ := hu; rfl) (by unfold maxLen; omega) (by omega) (by simp) ?_; intro v1 w1 hown1 hg1 hat1)
  go_ret
  simp only [Nat.zero_add, List.nil_append] at hown1
  exact ⟨v1, rfl, hown1, hb.grown hg1 (by simp) (by simp [Value.ownBlock])⟩
end Go.Proofs.Ytifjihpnhmemgaa
