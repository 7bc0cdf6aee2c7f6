/- Contracts of what the laws do to a network that came in: its size, its copy. -/
import Derived.Test.YteigceeghnphmaaNet
namespace Go.Proofs.Yteigceeghnphmaa
open Go.RowKit
set_option linter.unusedVariables false

/-- what is left of the allowance -/
def szv (n : Nat) (left : Int) : Int := if left - n < 0 then -1 else left - n
/-- valid comparators -/
def cmpOk (W : Int) (c : Int × Int) : Bool := !(c.1 == c.2) && (inB c.1 0 (W - 1) && inB c.2 0 (W - 1))
def netOk (W : Int) (cs : List (Int × Int)) : Bool := inB W 1 16 && (decide (cs.length ≤ 200) && cs.all (cmpOk W))
set_option maxHeartbeats 400000 in
theorem indexCmps_any (p : Int × Int → Bool) (g : FuncId) (caps : Array Value) (A : Option Addr) (cs : List (Int × Int)) (c : Nat) (w : World) (hx : Reads w w.heap.size 2 A cs.length (cmps cs))
    (hl : cs.length ≤ 1099511627776) (hg : Plain Try.prog g) (hf : ∀ x ∈ cs, Pred Try.prog g caps w (.agg #[.int .i64 x.1, .int .i64 x.2]) (p x)) :
    Calls Try.prog 114 #[.slice A cs.length c, .func (.func g) #[] caps] w fun e w' => e = .returned (.int .i64 (idx p cs)) ∧ Below w.heap.size w w' := by
  have Hf := Lib.hid hf; clear hf
  have Hg := hg
  unfold Plain at hg
  go_enter Try.func114, Try.ntmps114
  go_wp2_with fail
  go_loopw [8] (fun i wr => ∃ k : Nat, k ≤ cs.length ∧ i = .int .i64 k ∧ Below w.heap.size w wr ∧ (cs.take k).any p = false) (fun i _ => cs.length - (intOf i).toNat)
  case atStart => exact ⟨0, by omega, rfl, Below.refl _ _, by simp⟩
  case round =>
    obtain ⟨k, hk, rfl, hb, hn⟩ := hrel
    have Hn := Lib.hid hn; clear hn
    by_cases hlt : k < cs.length
    · obtain ⟨ad, rfl, -, hc, hc'⟩ := (hx.below hb).cmp hlt
      go_wp2_with fail
      refine (Hf.out _ (List.getElem_mem hlt) _ hb).mono ?_
      rintro e w1 ⟨rfl, hb1⟩
      cases hp : p cs[k]
      · have HP := Lib.hid hp; clear hp
        go_wp2_with fail
        go_roundw
        case rel => exact ⟨k + 1, by omega, by go_num, hb.trans (hb1.mono hb.size), any_take_succ hlt Hn.out HP.out⟩
        case measure => simp [intOf]; omega
      · have HP := Lib.hid hp; clear hp
        go_wp2_with fail
        go_ret
        exact ⟨reti (idx_found hlt Hn.out HP.out).symm, hb.trans (hb1.mono hb.size)⟩
    · go_wp2_with fail
      go_ret
      exact ⟨reti (idx_none (by omega) Hn.out).symm, hb⟩
theorem containsCmps_any (p : Int × Int → Bool) (g : FuncId) (caps : Array Value) (A : Option Addr) (cs : List (Int × Int)) (c : Nat) (w : World) (hx : Reads w w.heap.size 2 A cs.length (cmps cs))
    (hl : cs.length ≤ 1099511627776) (hg : Plain Try.prog g) (hf : ∀ x ∈ cs, Pred Try.prog g caps w (.agg #[.int .i64 x.1, .int .i64 x.2]) (p x)) :
    Calls Try.prog 103 #[.slice A cs.length c, .func (.func g) #[] caps] w fun e w' => e = .returned (.bool (cs.any p)) ∧ Below w.heap.size w w' := by
  have Hf := Lib.hid hf; clear hf
  have Hg := hg
  unfold Plain at hg
  go_enter Try.func103, Try.ntmps103
  go_wp2_with fail
  refine (indexCmps_any p g caps A cs c w hx hl Hg Hf.out).mono ?_
  rintro e w1 ⟨rfl, hb1⟩
  go_wp2_with fail
  go_ret
  exact ⟨retb (idx_nonneg p cs), hb1⟩
set_option maxHeartbeats 400000 in
theorem allCmps_one (p : Bool) (a b : Int) (g : FuncId) (caps : Array Value) (h : Nat) (w : World) (hc : w.cell? ⟨h, 0, none⟩ = some (.func (.func g) #[] caps)) (hg : Plain Try.prog g) (hp : Pred Try.prog g caps w (.agg #[.int .i64 a, .int .i64 b]) p) :
    Pred Try.prog 104 #[.pointer (some ⟨h, 0, none⟩)] w (.agg #[.int .i64 a, .int .i64 b]) (!p) := by
  intro w1 hb
  have hh := World.block_lt_of_cell? w _ hc
  have hc1 : w1.cell? ⟨h, 0, none⟩ = some (.func (.func g) #[] caps) := (hb.cell hh).trans hc
  have hs := hb.size
  have Hp := Lib.hid hp; clear hp
  have hh' : h < w1.heap.size := by have : h < w.heap.size := hh; omega
  have hb0 : Below w1.heap.size w1 (w1.alloc (.cells #[.int .i64 a, .int .i64 b] 32)) := by go_grown
  unfold Plain at hg
  go_enter Try.func104, Try.ntmps104
  go_wp2_with fail
  refine (Hp.out _ (hb.trans (hb0.mono hs))).mono ?_
  rintro e w2 ⟨rfl, hb2⟩
  go_wp2_with fail
  go_ret
  exact ⟨rfl, bthen hb0 hb2⟩
theorem allCmps_any (p : Int × Int → Bool) (g : FuncId) (caps : Array Value) (A : Option Addr) (cs : List (Int × Int)) (c : Nat) (w : World) (hx : Reads w w.heap.size 2 A cs.length (cmps cs))
    (hl : cs.length ≤ 1099511627776) (hg : Plain Try.prog g) (hf : ∀ x ∈ cs, Pred Try.prog g caps w (.agg #[.int .i64 x.1, .int .i64 x.2]) (p x)) :
    Calls Try.prog 75 #[.slice A cs.length c, .func (.func g) #[] caps] w fun e w' => e = .returned (.bool (cs.all p)) ∧ Below w.heap.size w w' := by
  have Hf := Lib.hid hf; clear hf
  have Hg := hg
  unfold Plain at hg
  go_enter Try.func75, Try.ntmps75
  go_wp2_with fail
  refine (containsCmps_any (fun x => !p x) 104 #[.pointer (some ⟨w.heap.size, 0, none⟩)] A cs c _ ?_ hl ?_ ?_).mono ?_
  · exact (hx.alloc (Nat.le_refl _) _).more (by simp)
  · exact plain_of Try.func104 (by kernel_rfl) (by kernel_rfl)
  · intro x hx
    refine allCmps_one (p x) x.1 x.2 g caps _ _ ?_ Hg ?_
    · simp [World.cell?_alloc_at]
    · exact Pred.later (Hf.out x hx) ((Below.refl _ _).alloc (Nat.le_refl _) _)
  rintro e w1 ⟨rfl, hb1⟩
  go_wp2_with fail
  go_ret
  exact ⟨retb (by rw [List.all_eq_not_any_not]), ((Below.refl _ _).alloc (Nat.le_refl _) _).trans (hb1.mono (by simp))⟩
theorem vnet_one (W : Int) (V : Value) (a b : Int) (h : Nat) (w : World) (hblk : Blk w h 26 #[.int .i64 W, V]) (hW : 1 ≤ W) (hW' : W ≤ 16) :
    Pred Try.prog 76 #[.pointer (some ⟨h, 0, none⟩)] w (.agg #[.int .i64 a, .int .i64 b]) (cmpOk W (a, b)) := by
  intro w1 hb
  have k1 := hblk.below_ hb
  have c0 : w1.cell? ⟨h, 0, none⟩ = some (.int .i64 W) := k1.cell 0
  have l1 := k1.lt
  cases h1 : (a == b) <;> cases h2 : inB a 0 (W - 1) <;> cases h3 : inB b 0 (W - 1)
  all_goals
    have h1' : (a != b) = !(a == b) := rfl
    rw [h1] at h1'
    go_enter Try.func76, Try.ntmps76
    go_wp2_with (go_at_call 60; refine (in_any _ _ _ _).mono ?_; rintro e w' ⟨rfl, rfl⟩)
    go_ret
    exact ⟨retb (by simp only [cmpOk]; rw [h1]; simp [h2, h3]), by go_grown⟩
set_option maxHeartbeats 400000 in
theorem IsValidNetwork_any (W : Int) (A : Option Addr) (cs : List (Int × Int)) (c : Nat) (w : World) (hx : Reads w w.heap.size 2 A cs.length (cmps cs)) (hl : cs.length ≤ 1099511627776) :
    Calls Try.prog 32 #[.agg #[.int .i64 W, .slice A cs.length c]] w fun e w' => e = .returned (.bool (netOk W cs)) ∧ Below w.heap.size w w' := by
  cases h1 : inB W 1 16
  · go_enter Try.func32, Try.ntmps32
    go_wp2_with (go_at_call 60; refine (in_any _ _ _ _).mono ?_; rintro e w' ⟨rfl, rfl⟩)
    go_ret
    exact ⟨retb (by simp [netOk, h1]), by go_grown⟩
  have ⟨g1, g2⟩ := inB_iff.1 h1
  by_cases h2 : cs.length ≤ 200
  · have h2' : (cs.length : Int) ≤ 200 := by omega
    have hb0 : Below w.heap.size w (w.alloc (.cells #[.int .i64 W, .slice A cs.length c] 26)) := by go_grown
    have k0 := Blk.new w 26 #[.int .i64 W, .slice A cs.length c]
    go_enter Try.func32, Try.ntmps32
    go_wp2_with (go_at_call 60; refine (in_any _ _ _ _).mono ?_; rintro e w' ⟨rfl, rfl⟩)
    refine (allCmps_any (cmpOk W) 76 #[.pointer (some ⟨w.heap.size, 0, none⟩)] A cs c _ ((hx.below hb0).more hb0.size) hl (plain_of Try.func76 (by kernel_rfl) (by kernel_rfl)) (fun x _ => vnet_one W _ x.1 x.2 _ _ k0 g1 g2)).mono ?_
    rintro e w1 ⟨rfl, hb1⟩
    go_wp2_with fail
    go_ret
    exact ⟨retb (by simp [netOk, h1, h2]), bthen hb0 hb1⟩
  · have h2' : ¬ (cs.length : Int) ≤ 200 := by omega
    go_enter Try.func32, Try.ntmps32
    go_wp2_with (go_at_call 60; refine (in_any _ _ _ _).mono ?_; rintro e w' ⟨rfl, rfl⟩)
    go_ret
    exact ⟨retb (by simp [netOk, h2]), by go_grown⟩
theorem netOk_long {W : Int} {cs : List (Int × Int)} (h : 200 < cs.length) : netOk W cs = false := by
  have : decide (cs.length ≤ 200) = false := by simp; omega
  simp [netOk, this]
theorem netOk_of {W : Int} {cs : List (Int × Int)} (h : inB W 1 16 = true) (h2 : cs.length ≤ 200) : netOk W cs = cs.all (cmpOk W) := by simp [netOk, h, h2]
set_option maxRecDepth 100000 in
set_option maxHeartbeats 800000 in
theorem l12Good_any (W : Int) (A : Option Addr) (cs : List (Int × Int)) (c : Nat) (w : World) (hx : Reads w w.heap.size 2 A cs.length (cmps cs)) (hl : cs.length ≤ 1099511627776) :
    Calls Try.prog 53 #[.agg #[.int .i64 W, .slice A cs.length c]] w fun e w' => e = .returned (.bool (netOk W cs)) ∧ Below w.heap.size w w' := by
  cases h1 : inB W 1 16
  · go_enter Try.func53, Try.ntmps53
    go_wp2_with (go_at_call 62; refine (l1In_any _ _ _ _).mono ?_; rintro e w' ⟨rfl, rfl⟩)
    go_ret
    exact ⟨retb (by simp [netOk, h1]), by go_grown⟩
  have ⟨g1, g2⟩ := inB_iff.1 h1
  by_cases h2 : cs.length ≤ 200
  case neg =>
    have h2' : (200 : Int) < cs.length := by omega
    go_enter Try.func53, Try.ntmps53
    go_wp2_with (go_at_call 62; refine (l1In_any _ _ _ _).mono ?_; rintro e w' ⟨rfl, rfl⟩)
    go_ret
    exact ⟨retb (netOk_long (by omega)).symm, by go_grown⟩
  have h2' : ¬ (200 : Int) < cs.length := by omega
  have HO := Lib.hid (netOk_of h1 h2)
  have k0 := Blk.new w 26 #[.int .i64 W, .slice A cs.length c]
  have hb0 : Below w.heap.size w (w.alloc (.cells #[.int .i64 W, .slice A cs.length c] 26)) := by go_grown
  have b0 : Below (w.heap.size + 1) (w.alloc (.cells #[.int .i64 W, .slice A cs.length c] 26)) (w.alloc (.cells #[.int .i64 W, .slice A cs.length c] 26)) := Below.refl _ _
  go_enter Try.func53, Try.ntmps53
  go_wp2_with (go_at_call 62; refine (l1In_any _ _ _ _).mono ?_; rintro e w' ⟨rfl, rfl⟩)
  clear h1
  go_loopw [3] (fun i wr => ∃ k : Nat, k ≤ cs.length ∧ i = .int .i64 k ∧ (cs.take k).all (cmpOk W) = true ∧ Below (w.heap.size + 1) (w.alloc (.cells #[.int .i64 W, .slice A cs.length c] 26)) wr) (fun i _ => cs.length - (intOf i).toNat)
  case atStart => exact ⟨0, by omega, rfl, by simp, b0⟩
  case round =>
    obtain ⟨k, hk, rfl, hn, hb⟩ := hrel
    have Hn := Lib.hid hn; clear hn
    have k1 := k0.below hb (by omega)
    have c0 : wr.cell? ⟨w.heap.size, 0, none⟩ = some (.int .i64 W) := k1.cell 0
    have c1 : wr.cell? ⟨w.heap.size, 1, none⟩ = some (.slice A cs.length c) := k1.cell 1
    have hlw := k1.lt
    have hb' := hb0.trans (hb.mono (by omega))
    by_cases hlt : k < cs.length
    · obtain ⟨ad, rfl, had, hc, hc'⟩ := (hx.below hb').cmp hlt
      have hco : cmpOk W cs[k] = (!(cs[k].1 == cs[k].2) && (inB cs[k].1 0 (W - 1) && inB cs[k].2 0 (W - 1))) := rfl
      have HC := Lib.hid hco; clear hco
      have hsz := hb.size
      simp only [World.size_alloc] at hsz
      cases h3 : inB cs[k].1 0 (W - 1) <;> cases h4 : inB cs[k].2 0 (W - 1) <;> cases h5 : (cs[k].1 == cs[k].2)
      all_goals
        go_wp2_with (go_at_call 62; refine (l1In_any _ _ _ _).mono ?_; rintro e w' ⟨rfl, rfl⟩)
      all_goals first
        | (go_ret; exact ⟨retb (by rw [HO.out]; exact (all_hit hlt (by rw [HC.out, h3, h4, h5]; rfl)).symm), hb'.alloc (by omega) _⟩)
        | (go_roundw
           case rel => exact ⟨k + 1, by omega, by go_num, all_take_succ hlt Hn.out (by rw [HC.out, h3, h4, h5]; rfl), hb.alloc (by omega) _⟩
           case measure => simp [intOf]; omega)
    · go_wp2_with fail
      go_ret
      exact ⟨retb (by rw [HO.out]; exact (all_end (by omega) Hn.out).symm), hb'⟩
theorem sIsValidNetwork_any (W : Int) (A : Option Addr) (cs : List (Int × Int)) (c : Nat) (w : World) (hx : Reads w w.heap.size 2 A cs.length (cmps cs)) (hl : cs.length ≤ 1099511627776) :
    Calls Try.prog 33 #[.agg #[.int .i64 W, .slice A cs.length c]] w fun e w' => e = .returned (.bool (netOk W cs)) ∧ Below w.heap.size w w' := by
  have hb0 : Below w.heap.size w (w.alloc (.cells #[.int .i64 W, .slice A cs.length c] 26)) := by go_grown
  go_enter Try.func33, Try.ntmps33
  go_wp2_with fail
  refine (l12Good_any W A cs c _ ((hx.below hb0).more hb0.size) hl).mono ?_
  rintro e w1 ⟨rfl, hb1⟩
  go_wp2_with fail
  go_ret
  exact ⟨rfl, bthen hb0 hb1⟩
theorem szv_cases (n : Nat) (left : Int) (h : left ≤ 1048576) (h0 : 0 ≤ left) : (szv n left < 0) ∨ (n ≤ 1048576 ∧ szv n left = left - n ∧ 0 ≤ szv n left) := by
  unfold szv; split <;> omega
end Go.Proofs.Yteigceeghnphmaa
