/- Plain mathematics of concatenation and of dropping the last wire. -/
import Derived.Test.YtkhfilkikpiepaaNetM
import Derived.Test.YtkhfilkikpiepaaDropS
namespace Go.Proofs.Ytkhfilkikpiepaa
open Go.RowKit
set_option linter.unusedVariables false
def ccOk (W V : Int) (cs ds : List (Int × Int)) : Bool := (netOk W cs && netOk V ds) && (decide (W = V) && netOk W (cs ++ ds))
def ccV (W V : Int) (cs ds : List (Int × Int)) : List (Int × Int) := if ccOk W V cs ds then cs ++ ds else []
def ccW (W V : Int) (cs ds : List (Int × Int)) : Int := if ccOk W V cs ds then W else 0
theorem ccOk_parts {W V : Int} {cs ds : List (Int × Int)} (h : ccOk W V cs ds = true) : netOk W cs = true ∧ netOk V ds = true ∧ W = V ∧ netOk W (cs ++ ds) = true := by
  simpa [ccOk, and_assoc] using h
theorem cc_len (W V : Int) (cs ds : List (Int × Int)) : (ccV W V cs ds).length ≤ 200 := by
  unfold ccV
  split
  · rename_i h; exact (netOk_parts (ccOk_parts h).2.2.2).2.2.1
  · simp
theorem run_cat (cs ds : List (Int × Int)) (l : List Int) : netRun (cs ++ ds) l = netRun ds (netRun cs l) := by simp [netRun, List.foldl_append]
/-- without the comparators at the last wire, a network does the same to the wires ahead, if the greatest stands last -/
theorem drop_run {n : Nat} {cs : List (Int × Int)} (hcs : ∀ c ∈ cs, ∃ a b : Nat, c = ((a : Int), (b : Int)) ∧ a < b ∧ b < n + 1) (M : Int) :
    ∀ l : List Int, l.length = n → (∀ x ∈ l, x ≤ M) → netRun cs (l ++ [M]) = netRun (dwT (n : Int) cs) l ++ [M] := by
  induction cs with
  | nil => intro l _ _; rfl
  | cons c cs ih =>
    intro l hl hM
    obtain ⟨a, b, rfl, hab, hb⟩ := hcs c (by simp)
    have ih2 := ih (fun d hd => hcs d (by simp [hd]))
    have hg : ∀ i, i < n → (l ++ [M])[i]?.getD 0 = l[i]?.getD 0 := fun i hi => by rw [List.getElem?_append_left (by omega)]
    have hlast : (l ++ [M])[n]?.getD 0 = M := by rw [List.getElem?_append_right (by omega), hl]; simp
    by_cases hbn : b = n
    · subst hbn
      have h1 : cmpDo (l ++ [M]) ((a : Int), (b : Int)) = l ++ [M] := by
        unfold cmpDo
        simp only [Int.toNat_natCast]
        rw [hlast, hg a hab, List.getElem?_eq_getElem (by omega), if_neg]
        have := hM l[a] (List.getElem_mem _)
        simp only [Option.getD_some]; omega
      have h2 : dwT (b : Int) (((a : Int), (b : Int)) :: cs) = dwT (b : Int) cs := by
        unfold dwT
        rw [List.filter_cons_of_neg (by simp [dwHit])]
      show netRun cs (cmpDo _ _) = _
      rw [h1, h2]
      exact ih2 l hl hM
    · have hbl : b < n := by omega
      have h1 : cmpDo (l ++ [M]) ((a : Int), (b : Int)) = cmpDo l ((a : Int), (b : Int)) ++ [M] := by
        unfold cmpDo
        simp only [Int.toNat_natCast]
        rw [hg a (by omega), hg b hbl]
        split
        · rw [List.set_append_left _ _ (by omega), List.set_append_left _ _ (by simp; omega)]
        · rfl
      have h2 : dwT (n : Int) (((a : Int), (b : Int)) :: cs) = ((a : Int), (b : Int)) :: dwT (n : Int) cs := by
        unfold dwT
        rw [List.filter_cons_of_pos (by simp [dwHit]; omega), List.map_cons]
        congr 1
        unfold dwN
        rw [if_neg (by simp; omega), if_neg (by simp; omega)]
      show netRun cs (cmpDo _ _) = netRun (dwT (n : Int) _) l ++ [M]
      rw [h1, h2]
      show _ = netRun (dwT (n : Int) cs) (cmpDo l _) ++ [M]
      refine ih2 _ (by simp [hl]) (fun x hx => ?_)
      exact hM x ((cmpDo_perm l _ (by simp; omega) (by simp; omega)).mem_iff.1 hx)
theorem le_top (l : List Int) : ∃ M : Int, ∀ x ∈ l, x ≤ M := by
  induction l with
  | nil => exact ⟨0, fun x hx => by cases hx⟩
  | cons a l ih =>
    obtain ⟨M, h⟩ := ih
    refine ⟨max a M, fun x hx => ?_⟩
    rcases List.mem_cons.1 hx with rfl | hx
    · omega
    · have := h x hx; omega
/-- a sorting network without its last wire still sorts -/
theorem drop_sorts {W : Int} {cs : List (Int × Int)} (hd : dwOk W cs (W - 1) = true) (hck : chkOk W cs = true) (hX : fuV W cs = -1) :
    chkOk (dwW W cs (W - 1)) (dwV W cs (W - 1)) = true ∧ fuV (dwW W cs (W - 1)) (dwV W cs (W - 1)) = -1 := by
  have hd2 := hd
  simp only [dwOk, Bool.and_eq_true, Bool.not_eq_true', beq_eq_false_iff_ne, List.all_eq_true] at hd2
  obtain ⟨h1, h2, h3, h4⟩ := hd2
  obtain ⟨w1, w2, w3, w4⟩ := netOk_parts h1
  obtain ⟨n, rfl⟩ : ∃ n : Nat, W = (n : Int) + 1 := ⟨(W - 1).toNat, by omega⟩
  have hW12 : (n : Int) + 1 ≤ 12 := by simp only [chkOk, Bool.and_eq_true, decide_eq_true_eq] at hck; exact hck.2
  have e1 : (n : Int) + 1 - 1 = n := by omega
  rw [e1] at hd ⊢
  have hdw : dwW ((n : Int) + 1) cs n = n := by rw [dwW, if_pos hd]; omega
  have hdv : dwV ((n : Int) + 1) cs n = dwT n cs := by rw [dwV, if_pos hd]
  rw [hdw, hdv]
  have hup : ∀ c ∈ cs, ∃ a b : Nat, c = ((a : Int), (b : Int)) ∧ a < b ∧ b < n + 1 := by
    intro c hc
    obtain ⟨a, b, rfl, hab, ha, hb⟩ := cmp_nat (w4 c hc)
    have := h3 _ hc
    simp only [ltB, decide_eq_true_eq] at this
    exact ⟨a, b, rfl, by omega, by omega⟩
  have hmem : ∀ c ∈ dwT n cs, ∃ a b : Nat, c = ((a : Int), (b : Int)) ∧ a < b ∧ b < n := by
    intro c hc
    simp only [dwT, List.mem_map, List.mem_filter] at hc
    obtain ⟨d, ⟨hd1, hd2⟩, rfl⟩ := hc
    obtain ⟨a, b, rfl, hab, hb⟩ := hup d hd1
    simp only [dwHit, Bool.and_eq_true, bne_iff_ne] at hd2
    have hbn : b ≠ n := fun e => hd2.2 (by rw [e])
    refine ⟨a, b, ?_, hab, by omega⟩
    unfold dwN
    rw [if_neg (by simp; omega), if_neg (by simp; omega)]
  have hok : netOk (n : Int) (dwT n cs) = true := by
    simp only [netOk, Bool.and_eq_true, decide_eq_true_eq, List.all_eq_true]
    refine ⟨inB_iff.2 ⟨by omega, by omega⟩, Nat.le_trans (dwT_len _ _) w3, fun c hc => ?_⟩
    obtain ⟨a, b, rfl, hab, hb⟩ := hmem c hc
    simp only [cmpOk, Bool.and_eq_true, Bool.not_eq_true', beq_eq_false_iff_ne]
    exact ⟨by show (a : Int) ≠ (b : Int); omega, inB_iff.2 ⟨by show (0 : Int) ≤ (a : Int); omega, by show (a : Int) ≤ (n : Int) - 1; omega⟩, inB_iff.2 ⟨by show (0 : Int) ≤ (b : Int); omega, by show (b : Int) ≤ (n : Int) - 1; omega⟩⟩
  have hck2 : chkOk (n : Int) (dwT n cs) = true := by
    simp only [chkOk, Bool.and_eq_true, decide_eq_true_eq]
    exact ⟨hok, by omega⟩
  refine ⟨hck2, ?_⟩
  rw [fuV, if_pos hck2]
  rw [fuV, if_pos hck] at hX
  have ht : ((n : Int) + 1).toNat = n + 1 := by omega
  rw [ht] at hX
  have hs := fu_sorts (W := n + 1) (by rwa [show ((n + 1 : Nat) : Int) = (n : Int) + 1 by omega]) hX
  rw [Int.toNat_natCast]
  refine sorts_fu (fun l hl => ?_)
  obtain ⟨M, hM⟩ := le_top l
  have hr := drop_run hup M l hl hM
  rw [hs (l ++ [M]) (by simp [hl])] at hr
  have hp := srt_pair (l ++ [M])
  rw [hr] at hp
  refine srt_of (netRun_perm n (dwT n cs) (fun c hc => ?_) l hl) (List.pairwise_append.1 hp).1
  obtain ⟨a, b, rfl, hab, hb⟩ := hmem c hc
  simp; omega
end Go.Proofs.Ytkhfilkikpiepaa
