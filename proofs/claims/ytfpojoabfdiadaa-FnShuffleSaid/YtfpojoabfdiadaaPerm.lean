/- Permutations: whether a list is one; the program's and the reference's test. -/
import Derived.Test.YtfpojoabfdiadaaHold
import Derived.Test.YtfpojoabfdiadaaPush
import Derived.Deep.DeepCutAuto
import Derived.IntWalk
namespace Go.Proofs.Ytfpojoabfdiadaa
open Go.RowKit
set_option linter.unusedVariables false
/-- element k lies in range and did not stand earlier -/
def okAt (zs : List Int) (k : Nat) : Bool := inB (zs[k]?.getD 0) 0 ((zs.length : Int) - 1) && !((zs.take k).contains (zs[k]?.getD 0))
def permB (zs : List Int) : Bool := decide (zs.length ≤ 64) && (List.range zs.length).all (okAt zs)
/-- what has been seen behind k steps -/
def seenB (zs : List Int) (k : Nat) : List Bool := (List.range zs.length).map fun x : Nat => (zs.take k).contains (x : Int)
theorem seenB_len (zs : List Int) (k : Nat) : (seenB zs k).length = zs.length := by simp [seenB]
theorem seenB_zero (zs : List Int) : seenB zs 0 = List.replicate zs.length false := by
  apply List.ext_getElem <;> simp [seenB]
theorem seenB_get (zs : List Int) (k x : Nat) (hx : x < zs.length) : (seenB zs k)[x]? = some ((zs.take k).contains (x : Int)) := by simp [seenB, hx]
theorem seenB_set (zs : List Int) (k x : Nat) (hk : k < zs.length) (hx : zs[k] = (x : Int)) : (seenB zs k).set x true = seenB zs (k + 1) := by
  apply List.ext_getElem
  · simp [seenB]
  intro j h1 h2
  simp only [seenB, List.length_set, List.length_map, List.length_range] at h1 h2
  rw [List.getElem_set]
  simp only [seenB, List.getElem_map, List.getElem_range]
  rw [List.take_succ_eq_append_getElem hk, hx, Bool.eq_iff_iff]
  by_cases h : x = j
  · subst h; simp
  · rw [if_neg h]
    simp only [List.contains_iff_mem, List.mem_append, List.mem_singleton]
    constructor
    · intro h3; exact .inl h3
    · intro h3
      rcases h3 with h3 | h3
      · exact h3
      · exact absurd (Int.ofNat.inj h3).symm h
theorem ok_step {zs : List Int} {k : Nat} (h : (List.range k).all (okAt zs) = true) (hp : okAt zs k = true) : (List.range (k + 1)).all (okAt zs) = true := by
  rw [List.range_succ, List.all_append, h]; simp [hp]
theorem ok_stop {zs : List Int} {k : Nat} (hk : k < zs.length) (hp : okAt zs k = false) : permB zs = false := by
  have : (List.range zs.length).all (okAt zs) = false := by
    rw [List.all_eq_false]
    exact ⟨k, by simpa using hk, by simp [hp]⟩
  simp [permB, this]
theorem permB_iff {zs : List Int} (h : permB zs = true) : zs.length ≤ 64 ∧ (∀ x ∈ zs, 0 ≤ x ∧ x < (zs.length : Int)) ∧ zs.Nodup := by
  simp only [permB, Bool.and_eq_true, decide_eq_true_eq, List.all_eq_true, List.mem_range] at h
  obtain ⟨h1, h2⟩ := h
  have h3 : ∀ k (hk : k < zs.length), (0 ≤ zs[k] ∧ zs[k] ≤ (zs.length : Int) - 1) ∧ zs[k] ∉ zs.take k := by
    intro k hk
    have := h2 k hk
    simp only [okAt, Bool.and_eq_true, List.getElem?_eq_getElem hk, Option.getD_some, Bool.not_eq_true', List.contains_eq_mem, decide_eq_false_iff_not] at this
    exact ⟨inB_iff.1 this.1, this.2⟩
  refine ⟨h1, fun x hx => ?_, ?_⟩
  · obtain ⟨k, hk, rfl⟩ := List.getElem_of_mem hx
    have := (h3 k hk).1; omega
  · rw [List.Nodup, List.pairwise_iff_getElem]
    intro i j hi hj hij he
    refine (h3 j hj).2 ?_
    rw [List.mem_take_iff_getElem]
    exact ⟨i, by omega, he⟩
theorem permB_of {zs : List Int} (h1 : zs.length ≤ 64) (h2 : ∀ x ∈ zs, 0 ≤ x ∧ x < (zs.length : Int)) (h3 : zs.Nodup) : permB zs = true := by
  simp only [permB, Bool.and_eq_true, decide_eq_true_eq, List.all_eq_true, List.mem_range]
  refine ⟨h1, fun k hk => ?_⟩
  simp only [okAt, Bool.and_eq_true, List.getElem?_eq_getElem hk, Option.getD_some, Bool.not_eq_true', List.contains_eq_mem, decide_eq_false_iff_not]
  refine ⟨inB_iff.2 (by have := h2 zs[k] (List.getElem_mem hk); omega), fun hm => ?_⟩
  rw [List.mem_take_iff_getElem] at hm
  obtain ⟨i, hi, he⟩ := hm
  exact List.pairwise_iff_getElem.1 h3 i k (by omega) hk (by omega) he
theorem permB_perm {zs : List Int} {n : Nat} (h : zs.Perm ((List.range n).map fun i : Nat => (i : Int))) (hn : n ≤ 64) : permB zs = true ∧ zs.length = n := by
  have hl : zs.length = n := by rw [h.length_eq]; simp
  refine ⟨permB_of (by omega) (fun x hx => ?_) ?_, hl⟩
  · have := h.mem_iff.1 hx
    simp only [List.mem_map, List.mem_range] at this
    obtain ⟨i, hi, rfl⟩ := this
    omega
  · rw [h.nodup_iff, List.Nodup, List.pairwise_map]
    exact List.nodup_range.imp (fun h3 h4 => h3 (Int.ofNat.inj h4))
set_option maxRecDepth 100000 in
set_option maxHeartbeats 1600000 in
theorem IsValidPermutation_any (A : Option Addr) (zs : List Int) (c : Nat) (w : World) (hx : Reads w w.heap.size 1 A zs.length (ints zs)) (hl : zs.length ≤ 1099511627776) :
    Calls Try.prog 31 #[.slice A zs.length c] w fun e w' => e = .returned (.bool (permB zs)) ∧ Below w.heap.size w w' := by
  by_cases h64 : zs.length ≤ 64
  case neg =>
    have h' : (zs.length : Int) > 64 := by omega
    have hp : permB zs = false := by simp [permB, h64]
    rw [hp]
    clear hp
    go_enter Try.func31, Try.ntmps31
    go_wp2_with fail
    go_ret
    exact ⟨rfl, Below.refl _ _⟩
  have h' : ¬ (zs.length : Int) > 64 := by omega
  obtain ⟨i0, hi, hz0, hz1, hz2⟩ := info_parts (show (Try.prog.info? 4).map (fun i => (i.zero, i.size, i.bytes)) = some (some (.bool false), 1, 1) by kernel_rfl)
  have hmk : ∀ w0 : World, (Instr.makeSlice 54 (.int .i64 zs.length) (.int .i64 zs.length)).run Try.prog w0 = .ok (.slice (some ⟨w0.heap.size, 0, none⟩) zs.length zs.length) (w0.alloc (.cells (madeCells #[.bool false] zs.length) 4)) := by
    intro w0
    have := run_make (P := Try.prog) w0 54 4 i0 (.bool false) Try.underlying54 hi hz0 .i64 .i64 zs.length zs.length (by omega) (by omega) (by rw [hz2]; omega) (by omega)
    simpa [Value.cells, hz1] using this
  have hs0 : (w.alloc (.cells (madeCells #[.bool false] zs.length) 4)).ownsRow w.heap.size 4 1 (.slice (some ⟨w.heap.size, 0, none⟩) zs.length zs.length) zs.length (bools (seenB zs 0)) := by
    have := own_full (base := w.heap.size) (size := 1) (e := 4) w (madeCells #[.bool false] zs.length) zs.length (Nat.le_refl _) (by unfold maxLen; omega) (by simp [madeCells])
    rw [toList_madeCells_one] at this
    rw [seenB_zero]
    simpa [bools] using this
  have hb0 := alloc_ (Below.refl w.heap.size w) (.cells (madeCells #[.bool false] zs.length) 4)
  go_enter Try.func31, Try.ntmps31
  go_wp2_with fail
  generalize w.alloc (.cells (madeCells #[.bool false] zs.length) 4) = w0 at *
  go_loopw [14] (fun i wr => ∃ k : Nat, k ≤ zs.length ∧ i = .int .i64 (k : Nat) ∧ Hid ((List.range k).all (okAt zs) = true) ∧ Below w.heap.size w wr ∧ wr.ownsRow w.heap.size 4 1 (.slice (some ⟨w.heap.size, 0, none⟩) zs.length zs.length) zs.length (bools (seenB zs k))) (fun i _ => zs.length - (intOf i).toNat)
  case atStart => exact ⟨0, by omega, rfl, Lib.hid rfl, hb0, hs0⟩
  case round =>
    clear hs0 hb0 hmk
    obtain ⟨k, hk, rfl, HO, hb, hown⟩ := hrel
    by_cases hlt : k < zs.length
    · obtain ⟨ad, rfl, -, hc⟩ := (hx.below hb).int hlt
      have hat : okAt zs k = (inB zs[k] 0 ((zs.length : Int) - 1) && !((zs.take k).contains zs[k])) := by simp only [okAt, List.getElem?_eq_getElem hlt, Option.getD_some]
      have hkI : (k : Int) < zs.length := by omega
      cases hp : inB zs[k] 0 ((zs.length : Int) - 1)
      · have HPB := Lib.hid (ok_stop hlt (by rw [hat, hp]; rfl))
        have HP := Lib.hid hp
        clear hp hat
        generalize zs[k] = z at *
        go_wp2_with (go_at_call 24; refine (in_any _ _ _ _).mono ?_; rintro e w' ⟨rfl, rfl⟩; rw [HP.out])
        go_ret
        exact ⟨by rw [HPB.out]; rfl, hb⟩
      · obtain ⟨z1, z2⟩ := inB_iff.1 hp
        obtain ⟨x, hxz⟩ := Int.eq_ofNat_of_zero_le z1
        have hxl : x < zs.length := by omega
        have hxI : (x : Int) < zs.length := by omega
        have HP := Lib.hid (hp.symm.trans (by rw [hxz]))
        have hcl := hown.cellAt x (by omega)
        have hg : (bools (seenB zs k))[x]? = some (.bool ((zs.take k).contains (x : Int))) := by
          rw [bools_get (by rw [seenB_len]; exact hxl)]
          have := seenB_get zs k x hxl
          rw [List.getElem?_eq_getElem (by rw [seenB_len]; exact hxl)] at this
          rw [Option.some.inj this]
        rw [hg] at hcl
        have hst := hown.stored x (.bool true)
        rw [bools_set, seenB_set zs k x hlt hxz] at hst
        have HST := Lib.hid hst.1
        have hfz := hown.frozenAt x
        have hbs := Below.setCell hb (p := ⟨w.heap.size, x, none⟩) (Nat.le_refl _) (.bool true)
        rw [hp, hxz] at hat
        have HA := Lib.hid hat
        rw [hxz] at hc
        clear hp hat hst hg z1 z2
        cases hct : (zs.take k).contains (x : Int)
        · rw [hct] at hcl
          have HOK := Lib.hid (ok_step HO.out (HA.out.trans (by rw [hct]; rfl)))
          clear hct hxz
          go_wp2_with (go_at_call 24; refine (in_any _ _ _ _).mono ?_; rintro e w' ⟨rfl, rfl⟩; rw [← HP.out])
          go_roundw
          case rel => exact ⟨k + 1, by omega, by go_num, HOK, hbs, HST.out⟩
          case measure => simp [intOf]; omega
        · rw [hct] at hcl
          have HPB := Lib.hid (ok_stop hlt (HA.out.trans (by rw [hct]; rfl)))
          clear hct hxz
          go_wp2_with (go_at_call 24; refine (in_any _ _ _ _).mono ?_; rintro e w' ⟨rfl, rfl⟩; rw [← HP.out])
          go_ret
          exact ⟨by rw [HPB.out]; rfl, hb⟩
    · have hkI : ¬ (k : Int) < zs.length := by omega
      have HPB : Hid (permB zs = true) := Lib.hid (by
        have := HO.out
        rw [show k = zs.length by omega] at this
        simp [permB, this, h64])
      go_wp2_with fail
      go_ret
      exact ⟨by rw [HPB.out]; rfl, hb⟩
end Go.Proofs.Ytfpojoabfdiadaa
