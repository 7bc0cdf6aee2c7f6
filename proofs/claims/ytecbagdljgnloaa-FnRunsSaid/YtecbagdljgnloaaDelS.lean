/- slices.Delete of one element at a row of two-cell elements. -/
import Derived.Test.YtecbagdljgnloaaSlt
import Derived.Test.YtecbagdljgnloaaCore
import Derived.StillTailTactics
import Derived.Deep.RegionLaw
namespace Go.Proofs.Ytecbagdljgnloaa
open Go.RowKit
set_option linter.unusedVariables false
set_option maxHeartbeats 4000000 in
set_option maxRecDepth 1000000 in
theorem delS_any (base n c k : Nat) (A : Option Addr) (sl : List Slt) (w : World) (h : w.ownsRow base 60 2 (.slice A n c) n (sls sl)) (hn : sl.length = n) (hk : k < n) :
    Calls Try.prog 45 #[.slice A n c, .int .i64 (k : Nat), .int .i64 ((k : Int) + 1)] w fun e w' => e = .returned (.slice A (n - 1) c) ∧ w'.ownsRow base 60 2 (.slice A (n - 1) c) (n - 1) (sls (sl.eraseIdx k)) ∧ w.grownBy w' (Value.slice A n c).ownBlock := by
  obtain ⟨g, c', e, hbg, hgl, hnc, hcm⟩ := own_some h (by omega)
  cases e
  obtain ⟨i0, hi, hz0, hz1, hz2⟩ := info_parts (show (Try.prog.info? 60).map (fun i => (i.zero, i.size, i.bytes)) = some (some (.agg #[.int .i64 0, .bool false]), 2, 16) by kernel_rfl)
  have hv : ∀ w, (zeroValue 60).run Try.prog w = .ok (.agg #[.int .i64 0, .bool false]) w := zero_at hi hz0
  obtain ⟨j, hj⟩ : ∃ j, j = k + 1 := ⟨_, rfl⟩
  have hij : k ≤ j := by omega
  have hjn : j ≤ n := by omega
  have hne : k ≠ j := by omega
  have hcm2 : c ≤ 9223372036854775807 := by unfold maxLen at hcm; exact hcm
  obtain ⟨news, hnews⟩ : ∃ news, news = (sls sl).drop (j * 2) := ⟨_, rfl⟩
  have hlen : news.length = (n - j) * 2 := by rw [hnews]; simp; omega
  obtain ⟨X, hX, hsrc⟩ : ∃ X : Addr, (if c = j then some (⟨g, 0, none⟩ : Addr) else some ⟨g, j * 2, none⟩) = some X ∧ Hid (∀ t u, news[t]? = some u → w.drew.cell? (X.add t) = some u) := by
    by_cases hc : c = j
    · refine ⟨⟨g, 0, none⟩, by simp [hc], Lib.hid fun t u hu => ?_⟩
      have h0 : news.length = 0 := by rw [hlen]; omega
      rw [List.length_eq_zero_iff.1 h0] at hu
      simp at hu
    · refine ⟨⟨g, j * 2, none⟩, by simp [hc], Lib.hid fun t u hu => ?_⟩
      rw [hnews, List.getElem?_drop] at hu
      have h1 := h.cells (g := g) rfl _ _ hu
      have e1 : (⟨g, 0, none⟩ : Addr).add (j * 2 + t) = (⟨g, j * 2, none⟩ : Addr).add t := by
        unfold Addr.add
        split <;> split <;> simp_all
      rw [e1] at h1
      exact h1
  have s1 : Hid (news.length = (n - j) * 2) := Lib.hid hlen
  have s2 : Hid (∀ u ∈ news, u.oneCell' = true) := Lib.hid fun u hu => by rw [hnews] at hu; exact sls_one sl u (List.mem_of_mem_drop hu)
  have hcell : ∀ y, y < n * 2 → (w.cell? ⟨g, y, none⟩).isSome = true ∧ w.frozen? ⟨g, y, none⟩ = false := by
    intro y hy
    refine ⟨?_, h.frozenAt y⟩
    rw [h.cellAt y (by omega), List.getElem?_eq_getElem (by rw [sls_length]; omega)]; rfl
  have s3 : Hid (∀ t, t < news.length → (w.drew.cell? ⟨g, 0 + k * 2 + t, none⟩).isSome = true ∧ w.drew.frozen? ⟨g, 0 + k * 2 + t, none⟩ = false) := Lib.hid fun t ht => hcell _ (by rw [hlen] at ht; omega)
  obtain ⟨W1, hW1⟩ : ∃ W1, W1 = w.drew.setCells g (0 + k * 2) news := ⟨_, rfl⟩
  have hd : w.drew.ownsRow base 60 2 (.slice (some ⟨g, 0, none⟩) n c) n (sls sl) := h
  obtain ⟨o1, g1⟩ := own_setCellsN news w.drew (0 + k * 2) (sls sl) hd (by rw [hlen]; omega)
  rw [← hW1] at o1 g1
  have hcl : ∀ ty, (Builtin.clear_ #[58] ty #[.slice (some ⟨g, (k + (n - j)) * 2, none⟩) (n - (k + (n - j))) (c - (k + (n - j)))]).run Try.prog W1 = .ok (.tuple #[]) (W1.setCells g ((k + (n - j)) * 2) [.int .i64 0, .bool false]) := by
    intro ty
    have e1 : n - (k + (n - j)) = 1 := by omega
    rw [e1]
    refine run_clear_two W1 _ _ ty _ _ _ Try.underlying58 hv rfl rfl rfl g _ _ (fun y hy => ?_) (fun y hy => o1.frozenAt _)
    have hl1 := o1.1
    rw [o1.cellAt _ (by omega), List.getElem?_eq_getElem (by omega)]; rfl
  have HO := Lib.hid (own_setCellsN [.int .i64 0, .bool false] W1 ((k + (n - j)) * 2) _ o1 (by simp; omega)); clear o1
  have HG := Lib.hid g1; clear g1
  have hW : Hid (W1 = w.drew.setCells g (0 + k * 2) news) := Lib.hid hW1
  have HN := Lib.hid hnews
  have hkc : k ≤ c := by omega
  have hjc : j ≤ c := by omega
  have e0 : ((k : Int) + 1) = (j : Int) := by omega
  have HR : Hid (∀ w' : World, w' = W1.setCells g ((k + (n - j)) * 2) [.int .i64 0, .bool false] → w'.ownsRow base 60 2 (.slice (some ⟨g, 0, none⟩) (n - 1) c) (n - 1) (sls (sl.eraseIdx k)) ∧ w.grownBy w' (some g)) := Lib.hid fun w' hw' => by
    subst hw'
    refine ⟨?_, (World.grownBy.trans (show w.grownBy w.drew (some g) from ⟨rfl, rfl, rfl, Nat.le_refl _, fun _ _ _ => rfl⟩) HG.out).trans HO.out.2⟩
    have h2 := own_cutN HO.out.1 (m := n - 1) (by omega)
    have e2 : (List.take ((k + (n - j)) * 2) (List.take (0 + k * 2) (sls sl) ++ news ++ List.drop (0 + k * 2 + news.length) (sls sl)) ++ [Value.int IntKind.i64 0, Value.bool false] ++ List.drop ((k + (n - j)) * 2 + [Value.int IntKind.i64 0, Value.bool false].length) (List.take (0 + k * 2) (sls sl) ++ news ++ List.drop (0 + k * 2 + news.length) (sls sl))).take ((n - 1) * 2) = sls (sl.eraseIdx k) := by
      have e3 := sls_erase sl k (by omega)
      rw [← hj] at e3
      rw [← HN.out, hn] at e3
      rw [show 0 + k * 2 = k * 2 by omega, ← e3]
      have hl : (List.take (k * 2) (sls sl) ++ news ++ List.drop (k * 2 + news.length) (sls sl)).length = n * 2 := by
        simp only [List.length_append, List.length_take, List.length_drop, sls_length, hlen]; omega
      rw [List.append_assoc, List.take_append_of_le_length (by rw [List.length_take]; omega), List.take_take]
      congr 1
      omega
    rw [e2] at h2
    exact h2
  clear HO HG hW1 hnews hlen hcell hd h HN hn
  rw [e0]
  clear e0
  have HJ := Lib.hid hj; clear hj
  go_enter Try.func45, Try.ntmps45
  go_wp2_with fail
  go_region_law (refine step_append_room rfl (.tmp 22) (.tmp 25) 58 rfl 60 i0 2 Try.underlying58 hi hz1 g 0 k c (by simp [Act.eval, Act.put]) X (n - j) (c - j) news (by simp [Act.eval, Act.put]) s1.out hsrc.out s2.out (by omega) s3.out ?_; rw [← hW.out])
  go_wp2_with fail
  go_ret
  have := HJ.out
  have HRR := HR.out _ rfl
  refine ⟨?_, HRR.1, HRR.2⟩
  have e9 : k + (n - j) = n - 1 := by omega
  simp [e9]
end Go.Proofs.Ytecbagdljgnloaa
