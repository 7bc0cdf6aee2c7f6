/- A network read out of a text: the reference's pieces. -/
import Derived.Test.YtfpojoabfdiadaaDoorParP
namespace Go.Proofs.YtfpojoabfdiadaaDoor
open Go.RowKit
set_option linter.unusedVariables false
def strs (ws : List (List UInt8)) : List Value := ws.map fun l => .string (bs l)
theorem strs_push {ws : List (List UInt8)} {x : List UInt8} : strs ws ++ #[Value.string (bs x)].toList = strs (ws ++ [x]) := by simp [strs]
theorem bs_get {l : List UInt8} {i : Nat} (h : i < l.length) : (bs l)[i]'(by rw [bs_size]; exact h) = l[i] := by
  show (bs l).data[i]'_ = l[i]
  simp [bs]
theorem bs_ext (l : List UInt8) (a b : Nat) : (bs l).extract a b = bs ((l.drop a).take (b - a)) := ByteArray.extract_mk l a b
theorem bs_from (l : List UInt8) (a : Nat) : (bs l).extract a l.length = bs (l.drop a) := by
  rw [bs_ext, List.take_of_length_le (by simp)]
theorem spl_bd (c : UInt8) : ∀ (l : List UInt8), ∀ x ∈ spl c l, x.length ≤ l.length := by
  intro l
  induction l with
  | nil => intro x hx; simp [spl] at hx; subst hx; simp
  | cons b l ih =>
    intro x hx
    by_cases h : b = c
    · subst h
      rw [spl_cons_eq] at hx
      simp only [List.mem_cons] at hx
      rcases hx with rfl | hx
      · simp
      · have := ih x hx; simp; omega
    · rw [spl_cons h] at hx
      simp only [List.mem_cons] at hx
      have hne := spl_ne c l
      obtain ⟨y, r, hyr⟩ : ∃ y r, spl c l = y :: r := by
        cases hc : spl c l with
        | nil => exact absurd hc hne
        | cons y r => exact ⟨y, r, rfl⟩
      rw [hyr] at hx ih
      simp only [List.headD_cons, List.tail_cons] at hx
      rcases hx with rfl | hx
      · have := ih y (by simp); simp; omega
      · have := ih x (by simp [hx]); simp; omega
theorem info_str : (Tryd.prog.info? 9).map (fun i => (i.zero, i.size, i.bytes)) = some (some (.string ByteArray.empty), 1, 16) := by kernel_rfl
set_option maxRecDepth 100000 in
set_option maxHeartbeats 1600000 in
theorem l1Split_any (l : List UInt8) (b : UInt8) (w : World) (hl : l.length ≤ 1048576) :
    Calls Tryd.prog 26 #[.string (bs l), .int .u8 (b.toNat : Int)] w fun e w' => ∃ A c, e = .returned (.slice A (spl b l).length c) ∧
      w'.ownsRow w.heap.size 9 1 (.slice A (spl b l).length c) (spl b l).length (strs (spl b l)) ∧ Below w.heap.size w w' := by
  obtain ⟨i0, hi, hz0, hz1, hz2⟩ := info_parts info_str
  have ho0 : (w.alloc (.cells #[] 9)).ownsRow w.heap.size 9 1 (.slice (some ⟨w.heap.size, 0, none⟩) 0 0) 0 [] := World.ownsRow_made w #[] 0 (Nat.le_refl _) (by simp) (by simp)
  have hb0 : Below w.heap.size w (w.alloc (.cells #[] 9)) := (Below.refl _ _).alloc (Nat.le_refl _) _
  have HS := Lib.hid (bs_size l)
  have hsz : (bs l).size = l.length := bs_size l
  go_enter Tryd.func26, Tryd.ntmps26
  go_wp2_with fail
  go_loopw [5, 6, 7] (fun o vf vi wr => ∃ (i f : Nat) (acc : List (List UInt8)), f ≤ i ∧ i ≤ l.length ∧ vf = .int .i64 (f : Nat) ∧ vi = .int .i64 (i : Nat) ∧ Hid (b ∉ (l.drop f).take (i - f)) ∧ Hid (acc ++ spl b (l.drop f) = spl b l) ∧ acc.length ≤ i ∧
    wr.ownsRow w.heap.size 9 1 o acc.length (strs acc) ∧ Below w.heap.size w wr) (fun _ _ vi _ => l.length - (intOf vi).toNat)
  case atStart => exact ⟨0, 0, [], by omega, by omega, rfl, rfl, Lib.hid (by simp), Lib.hid (by simp), by simp, ho0, hb0⟩
  case round =>
    clear ho0 hb0
    obtain ⟨i, f, acc, hf, hil, rfl, rfl, HB, HA, hac, hown, hb⟩ := hrel
    by_cases hlt : i < l.length
    · have hx := bs_get hlt
      have hst : (l.drop f).take (i + 1 - f) = (l.drop f).take (i - f) ++ [l[i]] := by
        rw [show i + 1 - f = (i - f) + 1 by omega, List.take_succ_eq_append_getElem (by simp; omega), List.getElem_drop]
        simp only [show f + (i - f) = i by omega]
      have hdr : l.drop f = (l.drop f).take (i - f) ++ l[i] :: l.drop (i + 1) := by
        conv => lhs; rw [← List.take_append_drop (i - f) (l.drop f)]
        rw [List.drop_drop, show f + (i - f) = i by omega, List.drop_eq_getElem_cons hlt]
      generalize l[i] = x at *
      have HST := Lib.hid hst; clear hst
      have HDR := Lib.hid hdr; clear hdr
      by_cases hxb : x = b
      · subst hxb
        have ht : ((x.toNat : Int) == (x.toNat : Int)) = true := by simp
        have he := bs_ext l f i
        have HE := Lib.hid he
        have hfi : (f : Int) ≤ i := by omega
        have hf0 : (0 : Int) ≤ f := by omega
        have hi1 : (i : Int) ≤ (bs l).size := by rw [hsz]; omega
        go_wp2_with (at_builtin; refine wpList_push _ rfl _ _ 50 rfl w.heap.size 9 i0 _ 1 16 Tryd.underlying50 hi hz0 hz1 hz2 rfl (by decide) _ _ _ rfl hown #[.string (bs ((l.drop f).take (i - f)))] rfl rfl (by simp [Value.oneCell']) (by omega) (by unfold maxLen; omega) hb.size ?_; intro g1 k1 w2 hown1 hg1 hb3 hat3)
        go_roundw
        case rel =>
          refine ⟨i + 1, i + 1, acc ++ [(l.drop f).take (i - f)], by omega, by omega, by go_num, by go_num, Lib.hid (by simp), Lib.hid ?_, by simp; omega, ?_, hb.trans hb3⟩
          · rw [← HA.out, List.append_assoc]
            conv => rhs; rw [HDR.out, spl_hit HB.out]
            rfl
          · rw [List.length_append, ← strs_push]; exact hown1
        case measure => simp [intOf]; omega
      · have ht : ((x.toNat : Int) == (b.toNat : Int)) = false := by
          simp only [beq_eq_false_iff_ne, ne_eq]
          intro h
          exact hxb (UInt8.toNat_inj.1 (by omega))
        go_wp2_with fail
        go_roundw
        case rel =>
          refine ⟨i + 1, f, acc, by omega, by omega, rfl, by go_num, Lib.hid ?_, HA, by omega, hown, hb⟩
          rw [HST.out]
          simp only [List.mem_append, List.mem_singleton, not_or]
          exact ⟨HB.out, fun h => hxb h.symm⟩
        case measure => simp [intOf]; omega
    · obtain rfl : i = l.length := by omega
      have hfz : (f : Int) ≤ (bs l).size := by rw [hsz]; omega
      have hf0 : (0 : Int) ≤ f := by omega
      have he := bs_from l f
      have hb2 : b ∉ l.drop f := by
        have := HB.out
        rwa [List.take_of_length_le (by simp)] at this
      have hfin : spl b l = acc ++ [l.drop f] := by rw [← HA.out, spl_miss hb2]
      have HF := Lib.hid hfin
      clear hfin hb2
      go_wp2_with (at_builtin; refine wpList_push _ rfl _ _ 50 rfl w.heap.size 9 i0 _ 1 16 Tryd.underlying50 hi hz0 hz1 hz2 rfl (by decide) _ _ _ rfl hown #[.string (bs (l.drop f))] rfl rfl (by simp [Value.oneCell']) (by omega) (by unfold maxLen; omega) hb.size ?_; intro g1 k1 w2 hown1 hg1 hb3 hat3)
      go_ret
      rw [HF.out, List.length_append, ← strs_push]
      exact ⟨_, _, rfl, hown1, hb.trans hb3⟩
end Go.Proofs.YtfpojoabfdiadaaDoor
