/- Plain mathematics of merge networks. -/
import Derived.Test.YteigceeghnphmaaBuildM
import Derived.Test.YteigceeghnphmaaMergesW
import Derived.Test.YteigceeghnphmaaNet
namespace Go.Proofs.Yteigceeghnphmaa
open Go.RowKit
set_option linter.unusedVariables false
/-- bits of a number out of a list -/
def encB : List Bool → Nat
  | [] => 0
  | b :: l => 2 * encB l + (if b then 1 else 0)
theorem encB_bit : ∀ (l : List Bool) (j : Nat), (encB l).testBit j = l[j]?.getD false := by
  intro l
  induction l with
  | nil => intro j; simp [encB]
  | cons b l ih =>
    intro j
    cases j with
    | zero =>
      rw [encB, Nat.testBit_zero]
      cases b <;> simp
    | succ j =>
      rw [encB, Nat.testBit_succ, List.getElem?_cons_succ, ← ih j]
      congr 1
      split <;> omega
/-- the inputs that are tested, and the wires' tables over them -/
def mgPairs (W a : Nat) : List (Nat × Nat) := (List.range (a + 1)).flatMap fun i => (List.range (W - a + 1)).map fun d => (i, a + d)
def mgTabs (W a : Nat) : List Nat := (List.range W).map fun v => encB ((mgPairs W a).map fun p => pB a p.1 p.2 v)
theorem mg_tab {W a j : Nat} {p : Nat × Nat} (h : (mgPairs W a)[j]? = some p) : (mgTabs W a).map (fun t => bitI t j) = fillP a W p.1 p.2 W := by
  unfold mgTabs fillP
  rw [List.map_map]
  refine List.map_congr_left (fun v hv => ?_)
  have hv2 := List.mem_range.1 hv
  show bitI _ j = _
  unfold bitI
  rw [encB_bit, List.getElem?_map, h]
  simp [hv2]
theorem mg_all {W a : Nat} {cs : List (Int × Int)} (hcs : ∀ c ∈ cs, cmpOk W c = true) (h : ttAsc (ttRun cs (mgTabs W a)) = true) : msAll W cs a (a + 1) = true := by
  unfold msAll rowOk
  rw [List.all_eq_true]
  intro i hi
  rw [List.all_eq_true]
  intro d hd
  have hm : (i, a + d) ∈ mgPairs W a := by
    simp only [mgPairs, List.mem_flatMap, List.mem_map]
    exact ⟨i, hi, d, hd, rfl⟩
  obtain ⟨j, hj, he⟩ := List.getElem_of_mem hm
  have ht := mg_tab (W := W) (a := a) (j := j) (p := (i, a + d)) (by rw [List.getElem?_eq_getElem hj, he])
  unfold okP
  rw [← ht, tt_run j cs hcs (mgTabs W a) (by simp [mgTabs])]
  exact pair_asc (ttAsc_pair j _ h)
def mgGood (a b : Nat) : Bool := netOk ((a + b : Nat) : Int) (mergeFrom b a) && ttAsc (ttRun (mergeFrom b a) (mgTabs (a + b) a))
theorem mg_good : ∀ a b : Fin 12, 1 ≤ a.val → 1 ≤ b.val → a.val + b.val ≤ 12 → mgGood a.val b.val = true := by decide +kernel
theorem merge_good {a b : Nat} (h : mergeOk (a : Int) (b : Int) = true) : (mergeV (a : Int) (b : Int)).length = a * b ∧ (msOk (mergeW (a : Int) (b : Int)) (mergeV (a : Int) (b : Int)) (a : Int) = true → msV (mergeW (a : Int) (b : Int)) (mergeV (a : Int) (b : Int)) (a : Int) = true) := by
  have hh := h
  simp only [mergeOk, Bool.and_eq_true] at h
  obtain ⟨h1, h2⟩ := h
  obtain ⟨a1, a2⟩ := inB_iff.1 h1
  obtain ⟨b1, b2⟩ := inB_iff.1 h2
  have hv : mergeV (a : Int) (b : Int) = mergeFrom b a := by rw [mergeV, if_pos hh]; rfl
  have hw : mergeW (a : Int) (b : Int) = ((a + b : Nat) : Int) := by rw [mergeW, if_pos hh]; omega
  rw [hv, hw]
  refine ⟨by rw [mergeFrom_len]; rfl, fun hm => ?_⟩
  have hm2 := hm
  simp only [msOk, chkOk, Bool.and_eq_true, decide_eq_true_eq] at hm
  obtain ⟨⟨h3, h4⟩, h5⟩ := hm
  have hg := mg_good ⟨a, by omega⟩ ⟨b, by omega⟩ (by show 1 ≤ a; omega) (by show 1 ≤ b; omega) (by show a + b ≤ 12; omega)
  simp only [mgGood, Bool.and_eq_true] at hg
  rw [msV, hm2, Bool.true_and, Int.toNat_natCast, Int.toNat_natCast]
  exact mg_all (netOk_parts h3).2.2.2 hg.2
theorem sorts_merges {W : Int} {cs : List (Int × Int)} {a : Int} (h1 : msOk W cs a = true) (h2 : chkOk W cs = true) (h3 : fuV W cs = -1) : msV W cs a = true := by
  rw [fuV, if_pos h2] at h3
  simp only [chkOk, Bool.and_eq_true] at h2
  obtain ⟨w1, w2, w3, w4⟩ := netOk_parts h2.1
  obtain ⟨n, rfl⟩ := Int.eq_ofNat_of_zero_le (show 0 ≤ W by omega)
  have hs := fu_sorts w4 h3
  rw [msV, h1, Bool.true_and]
  unfold msAll rowOk
  rw [List.all_eq_true]
  intro i _
  rw [List.all_eq_true]
  intro d _
  unfold okP
  rw [Int.toNat_natCast, hs _ (by simp [fillP])]
  exact pair_asc (srt_pair _)
end Go.Proofs.Yteigceeghnphmaa
