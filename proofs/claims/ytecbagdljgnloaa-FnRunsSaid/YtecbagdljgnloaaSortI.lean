/- A sorted copy, by the library's sort. -/
import Derived.Test.YtecbagdljgnloaaSort
import Derived.Test.YtecbagdljgnloaaShelf
import Derived.Sort.OwnSortedInts
namespace Go.Proofs.Ytecbagdljgnloaa
open Go.RowKit
set_option linter.unusedVariables false
set_option maxHeartbeats 400000 in
theorem copyInt_any (A : Option Addr) (zs : List Int) (c : Nat) (w : World) (hx : Reads w w.heap.size 1 A zs.length (ints zs)) (hl : zs.length ≤ 1048576) :
    Calls Try.prog 49 #[.slice A zs.length c] w fun e w' => ∃ v, e = .returned v ∧ w'.ownsRow w.heap.size 3 1 v zs.length (ints zs) ∧ Below w.heap.size w w' := by
  obtain ⟨i0, hi, hz0, hz1, hz2⟩ := info_parts (show (Try.prog.info? 3).map (fun i => (i.zero, i.size, i.bytes)) = some (some (.int .i64 0), 1, 8) by kernel_rfl)
  have ho := World.ownsRow_made (base := w.heap.size) (size := 1) (e := 3) w #[] 0 (Nat.le_refl _) (by simp) (by simp)
  have hb := alloc_ (Below.refl w.heap.size w) (.cells #[] 3)
  have hr := hx.alloc (Nat.le_refl _) (.cells #[] 3)
  go_enter Try.func49, Try.ntmps49
  go_wp2_with (at_builtin; refine wpList_append_any _ rfl _ _ 22 rfl w.heap.size 3 i0 _ 1 8 Try.underlying22 hi hz0 hz1 hz2 rfl (by decide) (.slice (some ⟨w.heap.size, 0, none⟩) 0 0) _ _ rfl ho w.heap.size A zs.length c (ints zs) rfl hr (by intro u hu; simp [ints] at hu; obtain ⟨z, _, rfl⟩ := hu; rfl) (by unfold maxLen; omega) (by omega) (by simp) ?_; intro v1 w1 hown1 hg1 hat1)
  go_ret
  simp only [Nat.zero_add, List.nil_append] at hown1
  exact ⟨v1, rfl, hown1, hb.grown hg1 (by simp) (by simp [Value.ownBlock])⟩
set_option maxHeartbeats 400000 in
theorem sorted_any (A : Option Addr) (zs : List Int) (c : Nat) (w : World) (hx : Reads w w.heap.size 1 A zs.length (ints zs)) (hl : zs.length ≤ 1048576) :
    Calls Try.prog 35 #[.slice A zs.length c] w fun e w' => ∃ v, e = .returned v ∧ w'.ownsRow w.heap.size 3 1 v zs.length (ints (srt zs)) ∧ Below w.heap.size w w' := by
  go_enter Try.func35, Try.ntmps35
  go_wp2_with fail
  refine (copyInt_any A zs c _ hx hl).mono ?_
  rintro e w1 ⟨v1, rfl, hown, hb⟩
  rcases hown.2 with ⟨hv, hn⟩ | ⟨g, cap, cur, hv, hg, hcells, hn, hcap, hsz, htk⟩
  · subst hv
    have hz : zs = [] := List.length_eq_zero_iff.1 hn
    subst hz
    go_wp2_with fail
    refine (Try.slices_Sort_int_none none 0 w1).mono ?_
    rintro e w2 ⟨rfl, rfl⟩
    go_wp2_with fail
    go_ret
    exact ⟨_, rfl, by simpa [srt] using hown, hb⟩
  · subst hv
    go_wp2_with fail
    refine (Try.slices_Sort_int g 0 cap zs w1 (Go.holds_of_blockI hcells (by simpa [ints] using htk)) (Array.getElem?_eq_some_iff.1 hcells).1 (by omega)).mono ?_
    rintro e w2 ⟨rfl, n, os, rfl⟩
    have h2 := Go.ownsRow_sortedI (w := w1) (n := n) (os := os) (ss := zs) (ts := srt zs) (srt_len zs) hg hcells hn hcap hsz
    have h3 := Go.grownBy_sortedI (w := w1) (g := g) (n := n) (os := os) (srt zs).toArray
    have h4 := hb.grown h3 (hb.size) (by intro k hk; cases hk; exact hg)
    go_wp2_with fail
    go_ret
    exact ⟨_, rfl, h2, h4⟩
end Go.Proofs.Ytecbagdljgnloaa
