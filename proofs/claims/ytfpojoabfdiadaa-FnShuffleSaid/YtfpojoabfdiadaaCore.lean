/- Contracts of the small helpers: bounds, 'all', copies and comparisons of integer lists. -/
import Derived.Test.YtfpojoabfdiadaaLib
import Derived.Test.YtfpojoabfdiadaaProg
import Derived.WalkKit
import Derived.ProofKit
import Derived.WalkSpells
import Derived.WalkLawsBesides
import Derived.Deep.QuietTactic
import Derived.BigQuiet
import Derived.Deep.LoopGhost
import Derived.Deep.Light
import Derived.Handy
namespace Go.Proofs.Ytfpojoabfdiadaa
open Go.RowKit
set_option linter.unusedVariables false

theorem in_any (n lo hi : Int) (w : World) :
    Calls Try.prog 24 #[.int .i64 n, .int .i64 lo, .int .i64 hi] w fun e w' => e = .returned (.bool (inB n lo hi)) ∧ w = w' := by
  go_enter Try.func24, Try.ntmps24
  go_wp2
  all_goals
    go_ret
    refine ⟨retb ?_, rfl⟩
    first | exact inB_t (by assumption) | exact inB_f (by assumption)

theorem l1In_any (n lo hi : Int) (w : World) :
    Calls Try.prog 22 #[.int .i64 n, .int .i64 lo, .int .i64 hi] w fun e w' => e = .returned (.bool (inB n lo hi)) ∧ w = w' := by
  go_enter Try.func22, Try.ntmps22
  go_wp2
  all_goals
    go_ret
    refine ⟨retb ?_, rfl⟩
    first | exact inB_t (by assumption) | exact inB_f (by assumption)

theorem isKey_any (n : Int) (w : World) :
    Calls Try.prog 35 #[.int .i64 n] w fun e w' => e = .returned (.bool (inB n (-100000) 100000)) ∧ w = w' := by
  go_enter Try.func35, Try.ntmps35
  go_wp2_with (go_at_call 24; refine (in_any _ _ _ _).mono ?_; rintro e w' ⟨rfl, rfl⟩)
  go_ret
  exact ⟨rfl, rfl⟩

set_option maxHeartbeats 400000 in
theorem indexInts_any (p : Int → Bool) (g : FuncId) (caps : Array Value) (A : Option Addr) (zs : List Int) (c : Nat) (w : World) (hx : Reads w w.heap.size 1 A zs.length (ints zs))
    (hl : zs.length ≤ 1099511627776) (hg : Plain Try.prog g) (hf : ∀ x ∈ zs, Pred Try.prog g caps w (.int .i64 x) (p x)) :
    Calls Try.prog 50 #[.slice A zs.length c, .func (.func g) #[] caps] w fun e w' => e = .returned (.int .i64 (idx p zs)) ∧ Below w.heap.size w w' := by
  have Hf := Lib.hid hf; clear hf
  have Hg := hg
  unfold Plain at hg
  go_enter Try.func50, Try.ntmps50
  go_wp2_with fail
  go_loopw [8] (fun i wr => ∃ k : Nat, k ≤ zs.length ∧ i = .int .i64 k ∧ Below w.heap.size w wr ∧ (zs.take k).any p = false) (fun i _ => zs.length - (intOf i).toNat)
  case atStart => exact ⟨0, by omega, rfl, Below.refl _ _, by simp⟩
  case round =>
    obtain ⟨k, hk, rfl, hb, hn⟩ := hrel
    have Hn := Lib.hid hn; clear hn
    by_cases hlt : k < zs.length
    · obtain ⟨ad, rfl, -, hc⟩ := (hx.below hb).int hlt
      go_wp2_with fail
      refine (Hf.out _ (List.getElem_mem hlt) _ hb).mono ?_
      rintro e w1 ⟨rfl, hb1⟩
      cases hp : p zs[k]
      · have HP := Lib.hid hp; clear hp
        go_wp2_with fail
        go_roundw
        case rel => exact ⟨k + 1, by omega, by go_num, hb.trans (hb1.mono hb.size), any_take_succ hlt Hn.out HP.out⟩
        case measure => simp [intOf]; omega
      · have HP := Lib.hid hp; clear hp
        go_wp2_with fail
        go_ret
        exact ⟨reti (idx_found hlt Hn.out HP.out).symm, hb.trans (hb1.mono hb.size)⟩
    · go_wp2_with fail
      go_ret
      exact ⟨reti (idx_none (by omega) Hn.out).symm, hb⟩

theorem containsInts_any (p : Int → Bool) (g : FuncId) (caps : Array Value) (A : Option Addr) (zs : List Int) (c : Nat) (w : World) (hx : Reads w w.heap.size 1 A zs.length (ints zs))
    (hl : zs.length ≤ 1099511627776) (hg : Plain Try.prog g) (hf : ∀ x ∈ zs, Pred Try.prog g caps w (.int .i64 x) (p x)) :
    Calls Try.prog 42 #[.slice A zs.length c, .func (.func g) #[] caps] w fun e w' => e = .returned (.bool (zs.any p)) ∧ Below w.heap.size w w' := by
  have Hf := Lib.hid hf; clear hf
  have Hg := hg
  unfold Plain at hg
  go_enter Try.func42, Try.ntmps42
  go_wp2_with fail
  refine (indexInts_any p g caps A zs c w hx hl Hg Hf.out).mono ?_
  rintro e w1 ⟨rfl, hb1⟩
  go_wp2_with fail
  go_ret
  exact ⟨retb (idx_nonneg p zs), hb1⟩

theorem allInts_one (p : Bool) (g : FuncId) (caps : Array Value) (v : Value) (h : Nat) (w : World) (hc : w.cell? ⟨h, 0, none⟩ = some (.func (.func g) #[] caps)) (hg : Plain Try.prog g) (hp : Pred Try.prog g caps w v p) :
    Pred Try.prog 43 #[.pointer (some ⟨h, 0, none⟩)] w v (!p) := by
  intro w1 hb
  have hc1 : w1.cell? ⟨h, 0, none⟩ = some (.func (.func g) #[] caps) := (hb.cell (World.block_lt_of_cell? w _ hc)).trans hc
  have Hp := Lib.hid hp; clear hp
  unfold Plain at hg
  go_enter Try.func43, Try.ntmps43
  go_wp2_with fail
  refine (Hp.out _ hb).mono ?_
  rintro e w2 ⟨rfl, hb2⟩
  go_wp2_with fail
  go_ret
  exact ⟨rfl, hb2⟩

theorem allInts_any (p : Int → Bool) (g : FuncId) (caps : Array Value) (A : Option Addr) (zs : List Int) (c : Nat) (w : World) (hx : Reads w w.heap.size 1 A zs.length (ints zs))
    (hl : zs.length ≤ 1099511627776) (hg : Plain Try.prog g) (hf : ∀ x ∈ zs, Pred Try.prog g caps w (.int .i64 x) (p x)) :
    Calls Try.prog 34 #[.slice A zs.length c, .func (.func g) #[] caps] w fun e w' => e = .returned (.bool (zs.all p)) ∧ Below w.heap.size w w' := by
  have Hf := Lib.hid hf; clear hf
  have Hg := hg
  unfold Plain at hg
  go_enter Try.func34, Try.ntmps34
  go_wp2_with fail
  refine (containsInts_any (fun x => !p x) 43 #[.pointer (some ⟨w.heap.size, 0, none⟩)] A zs c _ ?_ hl ?_ ?_).mono ?_
  · exact (hx.alloc (Nat.le_refl _) _).more (by simp)
  · exact plain_of Try.func43 (by kernel_rfl) (by kernel_rfl)
  · intro x hx
    refine allInts_one (p x) g caps _ _ _ ?_ Hg ?_
    · simp [World.cell?_alloc_at]
    · exact Pred.later (Hf.out x hx) ((Below.refl _ _).alloc (Nat.le_refl _) _)
  rintro e w1 ⟨rfl, hb1⟩
  go_wp2_with fail
  go_ret
  exact ⟨retb (by rw [List.all_eq_not_any_not]), ((Below.refl _ _).alloc (Nat.le_refl _) _).trans (hb1.mono (by simp))⟩

theorem isKey_pred (x : Int) (w : World) : Pred Try.prog 35 #[] w (.int .i64 x) (keyB x) :=
  fun w1 _ => (isKey_any x w1).mono fun _ _ ⟨h, h'⟩ => ⟨h, h' ▸ Below.refl _ _⟩
theorem isKey_plain : Plain Try.prog 35 := plain_of Try.func35 (by kernel_rfl) (by kernel_rfl)
theorem IsValidList_any (A : Option Addr) (zs : List Int) (c : Nat) (w : World) (hx : Reads w w.heap.size 1 A zs.length (ints zs)) (hl : zs.length ≤ 1099511627776) :
    Calls Try.prog 23 #[.slice A zs.length c] w fun e w' => e = .returned (.bool (vList zs)) ∧ Below w.heap.size w w' := by
  by_cases h : zs.length ≤ 64
  · have h' : (zs.length : Int) ≤ 64 := by omega
    go_enter Try.func23, Try.ntmps23
    go_wp2_with fail
    refine (allInts_any keyB _ _ A zs c _ hx hl isKey_plain (fun x _ => isKey_pred x _)).mono ?_
    rintro e w1 ⟨rfl, hb1⟩
    go_wp2_with fail
    go_ret
    exact ⟨retb (by simp [vList, h]), hb1⟩
  · have h' : ¬ (zs.length : Int) ≤ 64 := by omega
    go_enter Try.func23, Try.ntmps23
    go_wp2_with fail
    go_ret
    exact ⟨retb (by simp [vList, h]), Below.refl _ _⟩

theorem l2List_any (A : Option Addr) (zs : List Int) (c : Nat) (w : World) (hx : Reads w w.heap.size 1 A zs.length (ints zs)) (hl : zs.length ≤ 1099511627776) :
    Calls Try.prog 21 #[.slice A zs.length c] w fun e w' => e = .returned (.bool (vList zs)) ∧ w = w' := by
  go_enter Try.func21, Try.ntmps21
  go_wp2_with fail
  go_loop [3] (fun i => ∃ k : Nat, k ≤ zs.length ∧ k ≤ 65 ∧ i = .int .i64 k ∧ (zs.take k).all keyB = true) (fun i => 65 - (intOf i).toNat)
  case atStart => exact ⟨0, by omega, by omega, rfl, by simp⟩
  case round =>
    obtain ⟨k, hk, hk6, rfl, hn⟩ := hrel
    have Hn := Lib.hid hn; clear hn
    by_cases hlt : k < zs.length
    · by_cases h6 : k ≤ 64
      · obtain ⟨ad, rfl, -, hc⟩ := hx.int hlt
        cases hp : keyB zs[k]
        · have HP := Lib.hid hp; clear hp
          go_wp2_with (go_at_call 22; refine (l1In_any _ _ _ _).mono ?_; rintro e w' ⟨rfl, rfl⟩; rw [show inB zs[k] (-100000) 100000 = false from HP.out])
          go_ret
          exact ⟨retb (by simp [vList, all_hit hlt HP.out]), rfl⟩
        · have HP := Lib.hid hp; clear hp
          go_wp2_with (go_at_call 22; refine (l1In_any _ _ _ _).mono ?_; rintro e w' ⟨rfl, rfl⟩; rw [show inB zs[k] (-100000) 100000 = true from HP.out])
          go_round
          case rel => exact ⟨k + 1, by omega, by omega, by go_num, all_take_succ hlt Hn.out HP.out⟩
          case measure => simp [intOf]; omega
      · go_wp2_with fail
        go_ret
        exact ⟨retb (by rw [vList_long (by omega)]; simp; omega), rfl⟩
    · have ha := Lib.hid (all_end (by omega) Hn.out); clear Hn
      by_cases h6 : zs.length ≤ 64
      all_goals
        go_wp2_with fail
        go_ret
      · exact ⟨retb (by rw [vList_short h6, ha.out]; simp; omega), rfl⟩
      · exact ⟨retb (by rw [vList_long (by omega)]; simp; omega), rfl⟩

set_option maxHeartbeats 400000 in
theorem eqIntS_any (A B : Option Addr) (xs ys : List Int) (c d : Nat) (w : World) (hx : Reads w w.heap.size 1 A xs.length (ints xs)) (hy : Reads w w.heap.size 1 B ys.length (ints ys))
    (hl : xs.length ≤ 1099511627776) (hl' : ys.length ≤ 1099511627776) :
    Calls Try.prog 9 #[.slice A xs.length c, .slice B ys.length d] w fun e w' => e = .returned (.bool (decide (xs = ys))) ∧ ∃ n, w' = w.drewN n := by
  by_cases hne : xs.length = ys.length
  case neg =>
    have hd : ((xs.length : Int) == (ys.length : Int)) = false := by simp; omega
    have hd' : ((xs.length : Int) != (ys.length : Int)) = true := by simp; omega
    go_enter Try.func9, Try.ntmps9
    go_wp2_with fail
    go_ret
    exact ⟨retb (by symm; simp; intro h; exact hne (by rw [h])), 0, rfl⟩
  have hd : ((xs.length : Int) == (ys.length : Int)) = true := by simp; omega
  have hd' : ((xs.length : Int) != (ys.length : Int)) = false := by simp; omega
  have Hne := Lib.hid hne; clear hne
  go_enter Try.func9, Try.ntmps9
  go_wp2_with fail
  go_loopw [5] (fun i wr => ∃ k n : Nat, k ≤ xs.length ∧ i = .int .i64 k ∧ wr = w.drewN n ∧ xs.take k = ys.take k) (fun i _ => xs.length - (intOf i).toNat)
  case atStart => exact ⟨0, 0, by omega, rfl, rfl, by simp⟩
  case round =>
    obtain ⟨k, n, hk, rfl, rfl, heq⟩ := hrel
    have HE := Lib.hid heq; clear heq
    by_cases hlt : k < xs.length
    · have hlt' : k < ys.length := by have := Hne.out; omega
      obtain ⟨ad, rfl, -, hc⟩ := hx.int hlt
      obtain ⟨bd, rfl, -, hc'⟩ := hy.int hlt'
      go_wp2_with fail
      by_cases hv : xs[k] = ys[k]
      · have hb : (xs[k] != ys[k]) = false := by simpa using hv
        have hb' : (xs[k] == ys[k]) = true := by simpa using hv
        have HV := Lib.hid hv; clear hv
        go_quiet (fail)
        go_wp2_with fail
        go_roundw
        case rel => exact ⟨k + 1, n + nq, by omega, by go_num, rfl, take_succ_eq HE.out hlt hlt' HV.out⟩
        case measure => simp [intOf]; omega
      · have hb : (xs[k] != ys[k]) = true := by simpa using hv
        have hb' : (xs[k] == ys[k]) = false := by simpa using hv
        have HV := Lib.hid hv; clear hv
        go_quiet (fail)
        go_wp2_with fail
        go_ret
        exact ⟨retb (by symm; simp only [decide_eq_false_iff_not]; intro h; exact HV.out (by simp [h])), _, by rw [World.drewN_drewN]⟩
    · go_wp2_with fail
      go_ret
      refine ⟨retb (by symm; simp only [decide_eq_true_eq]; have h := HE.out; have hk' := Hne.out; rwa [List.take_of_length_le (by omega), List.take_of_length_le (by omega)] at h), n, rfl⟩

set_option maxHeartbeats 400000 in
theorem toIntS_any (A : Option Addr) (zs : List Int) (c : Nat) (w : World) (hx : Reads w w.heap.size 1 A zs.length (ints zs)) (hl : zs.length ≤ 1099511627776) :
    Calls Try.prog 7 #[.slice A zs.length c] w fun e w' => ∃ g, e = .returned (.slice (some ⟨g, 0, none⟩) zs.length zs.length) ∧
      w'.ownsRow w.heap.size 3 1 (.slice (some ⟨g, 0, none⟩) zs.length zs.length) zs.length (ints zs) ∧ Below w.heap.size w w' := by
  have hm : ((zs.length : Int)).toNat = zs.length := by omega
  obtain ⟨i0, hi, hz0, hz1, hz2⟩ := info_parts (show (Try.prog.info? 3).map (fun i => (i.zero, i.size, i.bytes)) = some (some (.int .i64 0), 1, 8) by kernel_rfl)
  have hz0' : (madeCells (Value.int .i64 0).cells (zs.length * 1)).toList = ints (List.replicate zs.length 0) := by
    rw [Nat.mul_one]; simp [ints, Value.cells, toList_madeCells_one]
  obtain ⟨w1, hmk, hown, hgr⟩ := run_make_full (P := Try.prog) w w.heap.size 22 3 i0 (.int .i64 0) 1 Try.underlying22 hi hz0 hz1 .i64 .i64 zs.length (by rw [hz2]; omega) (by unfold maxLen; omega) (Nat.le_refl _)
  have hb1 : Below w.heap.size w w1 := (Below.refl _ _).grown hgr (Nat.le_refl _) (by simp)
  rw [hz0'] at hown
  go_enter Try.func7, Try.ntmps7
  go_wp2_with fail
  clear hmk
  go_loopw [4] (fun i wr => ∃ (k : Nat) (ys : List Int), k ≤ zs.length ∧ i = .int .i64 k ∧ ys.length = zs.length ∧ ys.take k = zs.take k ∧
      wr.ownsRow w.heap.size 3 1 (.slice (some ⟨w.heap.size, 0, none⟩) zs.length zs.length) zs.length (ints ys) ∧ Below w.heap.size w wr) (fun i _ => zs.length - (intOf i).toNat)
  case atStart => exact ⟨0, List.replicate zs.length 0, by omega, rfl, by simp, by simp, hown, hb1⟩
  case round =>
    obtain ⟨k, ys, hk, rfl, hly, hpre, hown, hb⟩ := hrel
    have HP := Lib.hid hpre; clear hpre
    have HL := Lib.hid hly; clear hly
    by_cases hlt : k < zs.length
    · obtain ⟨ad, rfl, had, hc⟩ := (hx.below hb).int hlt
      have hc2 := hown.cellAt k (by omega)
      rw [ints_get (by rw [HL.out]; exact hlt)] at hc2
      have hf2 := hown.frozenAt k
      go_wp2_with fail
      go_roundw
      case rel =>
        have hs := hown.stored k (.int .i64 zs[k])
        rw [ints_set] at hs
        exact ⟨k + 1, ys.set k zs[k], by omega, by go_num, by simp [HL.out], set_take_succ HL.out HP.out hlt, hs.1, hb.grown hs.2 hb.size (by simp)⟩
      case measure => simp [intOf]; omega
    · go_wp2_with fail
      go_ret
      exact ⟨w.heap.size, rfl, by rwa [take_all_eq HL.out (by omega) HP.out] at hown, hb⟩
end Go.Proofs.Ytfpojoabfdiadaa
