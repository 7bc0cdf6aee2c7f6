/- Contracts of the small helpers: bounds, 'all', copies and comparisons of integer lists. -/
import Derived.Test.YteigceeghnphmaaLib
import Derived.Test.YteigceeghnphmaaProg
import Derived.WalkKit
import Derived.ProofKit
import Derived.WalkSpells
import Derived.WalkLawsBesides
import Derived.Deep.QuietTactic
import Derived.BigQuiet
import Derived.Deep.LoopGhost
import Derived.Deep.Light
import Derived.Handy
namespace Go.Proofs.Yteigceeghnphmaa
open Go.RowKit
set_option linter.unusedVariables false

theorem in_any (n lo hi : Int) (w : World) :
    Calls Try.prog 60 #[.int .i64 n, .int .i64 lo, .int .i64 hi] w fun e w' => e = .returned (.bool (inB n lo hi)) ∧ w = w' := by
  go_enter Try.func60, Try.ntmps60
  go_wp2
  all_goals
    go_ret
    refine ⟨retb ?_, rfl⟩
    first | exact inB_t (by assumption) | exact inB_f (by assumption)

theorem l1In_any (n lo hi : Int) (w : World) :
    Calls Try.prog 62 #[.int .i64 n, .int .i64 lo, .int .i64 hi] w fun e w' => e = .returned (.bool (inB n lo hi)) ∧ w = w' := by
  go_enter Try.func62, Try.ntmps62
  go_wp2
  all_goals
    go_ret
    refine ⟨retb ?_, rfl⟩
    first | exact inB_t (by assumption) | exact inB_f (by assumption)

theorem isKey_any (n : Int) (w : World) :
    Calls Try.prog 90 #[.int .i64 n] w fun e w' => e = .returned (.bool (inB n (-100000) 100000)) ∧ w = w' := by
  go_enter Try.func90, Try.ntmps90
  go_wp2_with (go_at_call 60; refine (in_any _ _ _ _).mono ?_; rintro e w' ⟨rfl, rfl⟩)
  go_ret
  exact ⟨rfl, rfl⟩

set_option maxHeartbeats 400000 in
theorem indexInts_any (p : Int → Bool) (g : FuncId) (caps : Array Value) (A : Option Addr) (zs : List Int) (c : Nat) (w : World) (hx : Reads w w.heap.size 1 A zs.length (ints zs))
    (hl : zs.length ≤ 1099511627776) (hg : Plain Try.prog g) (hf : ∀ x ∈ zs, Pred Try.prog g caps w (.int .i64 x) (p x)) :
    Calls Try.prog 116 #[.slice A zs.length c, .func (.func g) #[] caps] w fun e w' => e = .returned (.int .i64 (idx p zs)) ∧ Below w.heap.size w w' := by
  have Hf := Lib.hid hf; clear hf
  have Hg := hg
  unfold Plain at hg
  go_enter Try.func116, Try.ntmps116
  go_wp2_with fail
  go_loopw [8] (fun i wr => ∃ k : Nat, k ≤ zs.length ∧ i = .int .i64 k ∧ Below w.heap.size w wr ∧ (zs.take k).any p = false) (fun i _ => zs.length - (intOf i).toNat)
  case atStart => exact ⟨0, by omega, rfl, Below.refl _ _, by simp⟩
  case round =>
    obtain ⟨k, hk, rfl, hb, hn⟩ := hrel
    have Hn := Lib.hid hn; clear hn
    by_cases hlt : k < zs.length
    · obtain ⟨ad, rfl, -, hc⟩ := (hx.below hb).int hlt
      go_wp2_with fail
      refine (Hf.out _ (List.getElem_mem hlt) _ hb).mono ?_
      rintro e w1 ⟨rfl, hb1⟩
      cases hp : p zs[k]
      · have HP := Lib.hid hp; clear hp
        go_wp2_with fail
        go_roundw
        case rel => exact ⟨k + 1, by omega, by go_num, hb.trans (hb1.mono hb.size), any_take_succ hlt Hn.out HP.out⟩
        case measure => simp [intOf]; omega
      · have HP := Lib.hid hp; clear hp
        go_wp2_with fail
        go_ret
        exact ⟨reti (idx_found hlt Hn.out HP.out).symm, hb.trans (hb1.mono hb.size)⟩
    · go_wp2_with fail
      go_ret
      exact ⟨reti (idx_none (by omega) Hn.out).symm, hb⟩

theorem containsInts_any (p : Int → Bool) (g : FuncId) (caps : Array Value) (A : Option Addr) (zs : List Int) (c : Nat) (w : World) (hx : Reads w w.heap.size 1 A zs.length (ints zs))
    (hl : zs.length ≤ 1099511627776) (hg : Plain Try.prog g) (hf : ∀ x ∈ zs, Pred Try.prog g caps w (.int .i64 x) (p x)) :
    Calls Try.prog 111 #[.slice A zs.length c, .func (.func g) #[] caps] w fun e w' => e = .returned (.bool (zs.any p)) ∧ Below w.heap.size w w' := by
  have Hf := Lib.hid hf; clear hf
  have Hg := hg
  unfold Plain at hg
  go_enter Try.func111, Try.ntmps111
  go_wp2_with fail
  refine (indexInts_any p g caps A zs c w hx hl Hg Hf.out).mono ?_
  rintro e w1 ⟨rfl, hb1⟩
  go_wp2_with fail
  go_ret
  exact ⟨retb (idx_nonneg p zs), hb1⟩

theorem allInts_one (p : Bool) (g : FuncId) (caps : Array Value) (v : Value) (h : Nat) (w : World) (hc : w.cell? ⟨h, 0, none⟩ = some (.func (.func g) #[] caps)) (hg : Plain Try.prog g) (hp : Pred Try.prog g caps w v p) :
    Pred Try.prog 112 #[.pointer (some ⟨h, 0, none⟩)] w v (!p) := by
  intro w1 hb
  have hc1 : w1.cell? ⟨h, 0, none⟩ = some (.func (.func g) #[] caps) := (hb.cell (World.block_lt_of_cell? w _ hc)).trans hc
  have Hp := Lib.hid hp; clear hp
  unfold Plain at hg
  go_enter Try.func112, Try.ntmps112
  go_wp2_with fail
  refine (Hp.out _ hb).mono ?_
  rintro e w2 ⟨rfl, hb2⟩
  go_wp2_with fail
  go_ret
  exact ⟨rfl, hb2⟩

theorem allInts_any (p : Int → Bool) (g : FuncId) (caps : Array Value) (A : Option Addr) (zs : List Int) (c : Nat) (w : World) (hx : Reads w w.heap.size 1 A zs.length (ints zs))
    (hl : zs.length ≤ 1099511627776) (hg : Plain Try.prog g) (hf : ∀ x ∈ zs, Pred Try.prog g caps w (.int .i64 x) (p x)) :
    Calls Try.prog 98 #[.slice A zs.length c, .func (.func g) #[] caps] w fun e w' => e = .returned (.bool (zs.all p)) ∧ Below w.heap.size w w' := by
  have Hf := Lib.hid hf; clear hf
  have Hg := hg
  unfold Plain at hg
  go_enter Try.func98, Try.ntmps98
  go_wp2_with fail
  refine (containsInts_any (fun x => !p x) 112 #[.pointer (some ⟨w.heap.size, 0, none⟩)] A zs c _ ?_ hl ?_ ?_).mono ?_
  · exact (hx.alloc (Nat.le_refl _) _).more (by simp)
  · exact plain_of Try.func112 (by kernel_rfl) (by kernel_rfl)
  · intro x hx
    refine allInts_one (p x) g caps _ _ _ ?_ Hg ?_
    · simp [World.cell?_alloc_at]
    · exact Pred.later (Hf.out x hx) ((Below.refl _ _).alloc (Nat.le_refl _) _)
  rintro e w1 ⟨rfl, hb1⟩
  go_wp2_with fail
  go_ret
  exact ⟨retb (by rw [List.all_eq_not_any_not]), ((Below.refl _ _).alloc (Nat.le_refl _) _).trans (hb1.mono (by simp))⟩

theorem isKey_pred (x : Int) (w : World) : Pred Try.prog 90 #[] w (.int .i64 x) (keyB x) :=
  fun w1 _ => (isKey_any x w1).mono fun _ _ ⟨h, h'⟩ => ⟨h, h' ▸ Below.refl _ _⟩
theorem isKey_plain : Plain Try.prog 90 := plain_of Try.func90 (by kernel_rfl) (by kernel_rfl)
theorem IsValidList_any (A : Option Addr) (zs : List Int) (c : Nat) (w : World) (hx : Reads w w.heap.size 1 A zs.length (ints zs)) (hl : zs.length ≤ 1099511627776) :
    Calls Try.prog 71 #[.slice A zs.length c] w fun e w' => e = .returned (.bool (vList zs)) ∧ Below w.heap.size w w' := by
  by_cases h : zs.length ≤ 64
  · have h' : (zs.length : Int) ≤ 64 := by omega
    go_enter Try.func71, Try.ntmps71
    go_wp2_with fail
    refine (allInts_any keyB _ _ A zs c _ hx hl isKey_plain (fun x _ => isKey_pred x _)).mono ?_
    rintro e w1 ⟨rfl, hb1⟩
    go_wp2_with fail
    go_ret
    exact ⟨retb (by simp [vList, h]), hb1⟩
  · have h' : ¬ (zs.length : Int) ≤ 64 := by omega
    go_enter Try.func71, Try.ntmps71
    go_wp2_with fail
    go_ret
    exact ⟨retb (by simp [vList, h]), Below.refl _ _⟩

theorem l2List_any (A : Option Addr) (zs : List Int) (c : Nat) (w : World) (hx : Reads w w.heap.size 1 A zs.length (ints zs)) (hl : zs.length ≤ 1099511627776) :
    Calls Try.prog 78 #[.slice A zs.length c] w fun e w' => e = .returned (.bool (vList zs)) ∧ w = w' := by
  go_enter Try.func78, Try.ntmps78
  go_wp2_with fail
  go_loop [3] (fun i => ∃ k : Nat, k ≤ zs.length ∧ k ≤ 65 ∧ i = .int .i64 k ∧ (zs.take k).all keyB = true) (fun i => 65 - (intOf i).toNat)
  case atStart => exact ⟨0, by omega, by omega, rfl, by simp⟩
  case round =>
    obtain ⟨k, hk, hk6, rfl, hn⟩ := hrel
    have Hn := Lib.hid hn; clear hn
    by_cases hlt : k < zs.length
    · by_cases h6 : k ≤ 64
      · obtain ⟨ad, rfl, -, hc⟩ := hx.int hlt
        cases hp : keyB zs[k]
        · have HP := Lib.hid hp; clear hp
          go_wp2_with (go_at_call 62; refine (l1In_any _ _ _ _).mono ?_; rintro e w' ⟨rfl, rfl⟩; rw [show inB zs[k] (-100000) 100000 = false from HP.out])
          go_ret
          exact ⟨retb (by simp [vList, all_hit hlt HP.out]), rfl⟩
        · have HP := Lib.hid hp; clear hp
          go_wp2_with (go_at_call 62; refine (l1In_any _ _ _ _).mono ?_; rintro e w' ⟨rfl, rfl⟩; rw [show inB zs[k] (-100000) 100000 = true from HP.out])
          go_round
          case rel => exact ⟨k + 1, by omega, by omega, by go_num, all_take_succ hlt Hn.out HP.out⟩
          case measure => simp [intOf]; omega
      · go_wp2_with fail
        go_ret
        exact ⟨retb (by rw [vList_long (by omega)]; simp; omega), rfl⟩
    · have ha := Lib.hid (all_end (by omega) Hn.out); clear Hn
      by_cases h6 : zs.length ≤ 64
      all_goals
        go_wp2_with fail
        go_ret
      · exact ⟨retb (by rw [vList_short h6, ha.out]; simp; omega), rfl⟩
      · exact ⟨retb (by rw [vList_long (by omega)]; simp; omega), rfl⟩

end Go.Proofs.Yteigceeghnphmaa
