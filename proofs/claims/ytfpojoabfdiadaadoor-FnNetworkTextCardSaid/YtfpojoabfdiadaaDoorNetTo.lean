/- Contracts of what the laws do to a network that came in: its size, its copy. -/
import Derived.Test.YtfpojoabfdiadaaDoorNet
namespace Go.Proofs.YtfpojoabfdiadaaDoor
open Go.RowKit
set_option linter.unusedVariables false

/-- what is left of the allowance -/
def szv (n : Nat) (left : Int) : Int := if left - n < 0 then -1 else left - n
theorem szComparatorS_any (A : Option Addr) (n c : Nat) (left : Int) (w : World) (hn : n ≤ maxLen) (h0 : -1 ≤ left) (h1 : left ≤ 1048576) :
    Calls Tryd.prog 19 #[.slice A n c, .int .i64 left] w fun e w' => e = .returned (.int .i64 (szv n left)) ∧ w = w' := by
  unfold maxLen at hn
  by_cases h : left - n < 0
  all_goals
    go_enter Tryd.func19, Tryd.ntmps19
    go_wp2_with fail
    go_ret
    exact ⟨reti (by simp only [szv]; split <;> omega), rfl⟩
theorem szNetwork_any (W : Int) (A : Option Addr) (n c : Nat) (left : Int) (w : World) (hn : n ≤ maxLen) (h0 : -1 ≤ left) (h1 : left ≤ 1048576) :
    Calls Tryd.prog 6 #[.agg #[.int .i64 W, .slice A n c], .int .i64 left] w fun e w' => e = .returned (.int .i64 (szv n left)) ∧ Below w.heap.size w w' := by
  have hs : szv n left = -1 ∨ 0 ≤ szv n left := by unfold szv; split <;> omega
  rcases hs with hs | hs
  · have h3 : szv n left < 0 := by omega
    have HS := Lib.hid hs; clear hs
    go_enter Tryd.func6, Tryd.ntmps6
    go_wp2_with (go_at_call 19; refine (szComparatorS_any A n c left _ hn h0 h1).mono ?_; rintro e w1 ⟨rfl, rfl⟩)
    go_ret
    exact ⟨reti HS.out.symm, by go_grown⟩
  · have h3 : ¬ szv n left < 0 := by omega
    go_enter Tryd.func6, Tryd.ntmps6
    go_wp2_with (go_at_call 19; refine (szComparatorS_any A n c left _ hn h0 h1).mono ?_; rintro e w1 ⟨rfl, rfl⟩)
    go_ret
    exact ⟨rfl, by go_grown⟩
theorem toComparator_any (a b : Int) (w : World) :
    Calls Tryd.prog 39 #[.agg #[.int .i64 a, .int .i64 b]] w fun e w' => e = .returned (.agg #[.int .i64 a, .int .i64 b]) ∧ Below w.heap.size w w' := by
  go_enter Tryd.func39, Tryd.ntmps39
  go_wp2
  refine bodyPost_ret (v := .agg #[.int .i64 a, .int .i64 b]) (by simp [results, Tryd.results39, go_sem]) rfl ⟨rfl, ?_⟩
  go_grown
theorem made_cmps (n : Nat) : (madeCells #[.int .i64 0, .int .i64 0] (n * 2)).toList = cmps (List.replicate n (0, 0)) := by
  have hl : (cmps (List.replicate n ((0 : Int), (0 : Int)))) = List.replicate (n * 2) (Value.int .i64 0) := by
    induction n with
    | zero => rfl
    | succ n ih => rw [List.replicate_succ, cmps_cons, ih, show (n + 1) * 2 = n * 2 + 1 + 1 from by omega, List.replicate_succ, List.replicate_succ]
  rw [hl]
  apply List.ext_getElem?
  intro j
  by_cases hj : j < n * 2
  · have h2 : j % 2 = 0 ∨ j % 2 = 1 := by omega
    rcases h2 with h2 | h2 <;> simp [madeCells, hj, h2]
  · simp [madeCells, hj]
set_option maxRecDepth 100000 in
set_option maxHeartbeats 800000 in
theorem toComparatorS_any (A : Option Addr) (cs : List (Int × Int)) (c : Nat) (w : World) (hx : Reads w w.heap.size 2 A cs.length (cmps cs)) (hl : cs.length ≤ 1048576) :
    Calls Tryd.prog 22 #[.slice A cs.length c] w fun e w' => ∃ g, e = .returned (.slice (some ⟨g, 0, none⟩) cs.length cs.length) ∧
      w'.ownsRow w.heap.size 48 2 (.slice (some ⟨g, 0, none⟩) cs.length cs.length) cs.length (cmps cs) ∧ Below w.heap.size w w' := by
  have hm : ((cs.length : Int)).toNat = cs.length := by omega
  obtain ⟨i0, hi, hz0, hz1, hz2⟩ := info_parts info_cmp
  obtain ⟨w1, hmk, hown, hgr⟩ := run_make_full (P := Tryd.prog) w w.heap.size 28 48 i0 _ 2 Tryd.underlying28 hi hz0 hz1 .i64 .i64 cs.length (by rw [hz2]; omega) (by unfold maxLen; omega) (Nat.le_refl _)
  have hb1 : Below w.heap.size w w1 := (Below.refl _ _).grown hgr (Nat.le_refl _) (by simp)
  rw [show (Value.agg #[.int .i64 0, .int .i64 0]).cells = #[.int .i64 0, .int .i64 0] from rfl, made_cmps] at hown
  go_enter Tryd.func22, Tryd.ntmps22
  go_wp2_with fail
  clear hmk
  go_loopw [4] (fun i wr => ∃ (k : Nat) (ys : List (Int × Int)), k ≤ cs.length ∧ i = .int .i64 k ∧ ys.length = cs.length ∧ ys.take k = cs.take k ∧
      wr.ownsRow w.heap.size 48 2 (.slice (some ⟨w.heap.size, 0, none⟩) cs.length cs.length) cs.length (cmps ys) ∧ Below w.heap.size w wr) (fun i _ => cs.length - (intOf i).toNat)
  case atStart => exact ⟨0, List.replicate cs.length (0, 0), by omega, rfl, by simp, by simp, hown, hb1⟩
  case round =>
    obtain ⟨k, ys, hk, rfl, hly, hpre, hown, hb⟩ := hrel
    have HP := Lib.hid hpre; clear hpre
    have HL := Lib.hid hly; clear hly
    by_cases hlt : k < cs.length
    · obtain ⟨ad, rfl, had, hc, hc'⟩ := (hx.below hb).cmp hlt
      have hky : k < ys.length := by rw [HL.out]; exact hlt
      go_wp2_with fail
      refine (toComparator_any _ _ _).mono ?_
      rintro e w2 ⟨rfl, hb2⟩
      have hown2 := own_below hown hb2 (Nat.le_refl _)
      have hc2 := hown2.cellAt (k * 2) (by omega)
      rw [(cmps_get hky).1] at hc2
      have hc3 := hown2.cellAt (k * 2 + 1) (by omega)
      rw [(cmps_get hky).2] at hc3
      have hf2 := hown2.frozenAt (k * 2)
      have hf3 := hown2.frozenAt (k * 2 + 1)
      have hb3 := hb.trans (hb2.mono hb.size)
      have s1 := hown2.stored (k * 2) (.int .i64 cs[k].1)
      rw [cmps_set1 _ _ _ hky] at s1
      have s2 := s1.1.stored (k * 2 + 1) (.int .i64 cs[k].2)
      rw [cmps_set2 _ _ _ (by simpa using hky)] at s2
      simp only [List.getElem_set_self, List.set_set] at s2
      have S1 := Lib.hid s1; clear s1
      have S2 := Lib.hid s2; clear s2
      go_wp2_with fail
      go_roundw
      case rel =>
        exact ⟨k + 1, ys.set k cs[k], by omega, by go_num, by simp [HL.out], set_take_succ HL.out HP.out hlt, S2.out.1, (hb3.grown S1.out.2 hb3.size (by simp)).grown S2.out.2 (by simpa [World.setCell] using hb3.size) (by simp)⟩
      case measure => simp [intOf]; omega
    · go_wp2_with fail
      go_ret
      exact ⟨w.heap.size, rfl, by rwa [take_all_eq HL.out (by omega) HP.out] at hown, hb⟩
set_option maxHeartbeats 800000 in
theorem toNetwork_any (W : Int) (A : Option Addr) (cs : List (Int × Int)) (c : Nat) (w : World) (hx : Reads w w.heap.size 2 A cs.length (cmps cs)) (hl : cs.length ≤ 1048576) :
    Calls Tryd.prog 8 #[.agg #[.int .i64 W, .slice A cs.length c]] w fun e w' => ∃ g, e = .returned (.agg #[.int .i64 W, .slice (some ⟨g, 0, none⟩) cs.length cs.length]) ∧
      w'.ownsRow w.heap.size 48 2 (.slice (some ⟨g, 0, none⟩) cs.length cs.length) cs.length (cmps cs) ∧ Below w.heap.size w w' := by
  go_enter Tryd.func8, Tryd.ntmps8
  go_wp2_with fail
  have hb0 : Below w.heap.size w (((w.alloc (.cells #[.int .i64 W, .slice A cs.length c] 24)).alloc (.cells #[.int .i64 0, .slice none 0 0] 30)).alloc (.cells #[.int .i64 W, .slice none 0 0] 30)) := by go_grown
  have k2 := (Blk.new (w.alloc (.cells #[.int .i64 W, .slice A cs.length c] 24)) 30 #[.int .i64 0, .slice none 0 0]).alloc (.cells #[.int .i64 W, .slice none 0 0] 30)
  have k3 := Blk.new ((w.alloc (.cells #[.int .i64 W, .slice A cs.length c] 24)).alloc (.cells #[.int .i64 0, .slice none 0 0] 30)) 30 #[.int .i64 W, .slice none 0 0]
  simp only [World.size_alloc] at k2 k3
  refine (toComparatorS_any A cs c _ ((hx.below hb0).more hb0.size) hl).mono ?_
  rintro e w1 ⟨g, rfl, o1, b1⟩
  have k21 := k2.below_ b1
  have k31 := k3.below_ b1
  have b1 := bthen hb0 b1
  have o1 := own_base o1 hb0.size
  have c0 : w1.cell? ⟨w.heap.size + 1 + 1, 0, none⟩ = some (.int .i64 W) := k31.cell 0
  have c1 : w1.cell? ⟨w.heap.size + 1 + 1, 1, none⟩ = some (.slice none 0 0) := k31.cell 1
  have d0 : w1.cell? ⟨w.heap.size + 1, 0, none⟩ = some (.int .i64 0) := k21.cell 0
  have d1 : w1.cell? ⟨w.heap.size + 1, 1, none⟩ = some (.slice none 0 0) := k21.cell 1
  have f1 := k31.frozen 1
  have f2 := k21.frozen 0
  have f3 := k21.frozen 1
  have l1 := k31.lt
  have n1 := own_blk_ne o1 k31 (by decide)
  have n2 := own_blk_ne o1 k21 (by decide)
  have o2 := own_setCell (own_setCell (own_setCell o1 (p := ⟨w.heap.size + 1 + 1, 1, none⟩) n1 (.slice (some ⟨g, 0, none⟩) cs.length cs.length)) (p := ⟨w.heap.size + 1, 0, none⟩) n2 (.int .i64 W)) (p := ⟨w.heap.size + 1, 1, none⟩) n2 (.slice (some ⟨g, 0, none⟩) cs.length cs.length)
  have b2 := ((b1.setCell (p := ⟨w.heap.size + 1 + 1, 1, none⟩) (by simp; omega) (.slice (some ⟨g, 0, none⟩) cs.length cs.length)).setCell (p := ⟨w.heap.size + 1, 0, none⟩) (by simp) (.int .i64 W)).setCell (p := ⟨w.heap.size + 1, 1, none⟩) (by simp) (.slice (some ⟨g, 0, none⟩) cs.length cs.length)
  have kf := ((k21.far (p := ⟨w.heap.size + 1 + 1, 1, none⟩) (by simp) (.slice (some ⟨g, 0, none⟩) cs.length cs.length)).set_ 0 (.int .i64 W)).set_ 1 (.slice (some ⟨g, 0, none⟩) cs.length cs.length)
  have R0 := Lib.hid (show _ = some (Value.int .i64 W) from kf.cell 0)
  have R1 := Lib.hid (show _ = some (Value.slice (some ⟨g, 0, none⟩) cs.length cs.length) from kf.cell 1)
  have O2 := Lib.hid o2; clear o2 n1 n2
  go_wp2_with fail
  refine bodyPost_ret (v := .agg #[.int .i64 W, .slice (some ⟨g, 0, none⟩) cs.length cs.length]) (by simp [results, Tryd.results8, go_sem, R0.out, R1.out]) rfl ⟨g, rfl, O2.out, b2⟩
/-- valid comparators -/
def cmpOk (W : Int) (c : Int × Int) : Bool := !(c.1 == c.2) && (inB c.1 0 (W - 1) && inB c.2 0 (W - 1))
def netOk (W : Int) (cs : List (Int × Int)) : Bool := inB W 1 16 && (decide (cs.length ≤ 200) && cs.all (cmpOk W))
set_option maxHeartbeats 400000 in
theorem indexCmps_any (p : Int × Int → Bool) (g : FuncId) (caps : Array Value) (A : Option Addr) (cs : List (Int × Int)) (c : Nat) (w : World) (hx : Reads w w.heap.size 2 A cs.length (cmps cs))
    (hl : cs.length ≤ 1099511627776) (hg : Plain Tryd.prog g) (hf : ∀ x ∈ cs, Pred Tryd.prog g caps w (.agg #[.int .i64 x.1, .int .i64 x.2]) (p x)) :
    Calls Tryd.prog 62 #[.slice A cs.length c, .func (.func g) #[] caps] w fun e w' => e = .returned (.int .i64 (idx p cs)) ∧ Below w.heap.size w w' := by
  have Hf := Lib.hid hf; clear hf
  have Hg := hg
  unfold Plain at hg
  go_enter Tryd.func62, Tryd.ntmps62
  go_wp2_with fail
  go_loopw [8] (fun i wr => ∃ k : Nat, k ≤ cs.length ∧ i = .int .i64 k ∧ Below w.heap.size w wr ∧ (cs.take k).any p = false) (fun i _ => cs.length - (intOf i).toNat)
  case atStart => exact ⟨0, by omega, rfl, Below.refl _ _, by simp⟩
  case round =>
    obtain ⟨k, hk, rfl, hb, hn⟩ := hrel
    have Hn := Lib.hid hn; clear hn
    by_cases hlt : k < cs.length
    · obtain ⟨ad, rfl, -, hc, hc'⟩ := (hx.below hb).cmp hlt
      go_wp2_with fail
      refine (Hf.out _ (List.getElem_mem hlt) _ hb).mono ?_
      rintro e w1 ⟨rfl, hb1⟩
      cases hp : p cs[k]
      · have HP := Lib.hid hp; clear hp
        go_wp2_with fail
        go_roundw
        case rel => exact ⟨k + 1, by omega, by go_num, hb.trans (hb1.mono hb.size), any_take_succ hlt Hn.out HP.out⟩
        case measure => simp [intOf]; omega
      · have HP := Lib.hid hp; clear hp
        go_wp2_with fail
        go_ret
        exact ⟨reti (idx_found hlt Hn.out HP.out).symm, hb.trans (hb1.mono hb.size)⟩
    · go_wp2_with fail
      go_ret
      exact ⟨reti (idx_none (by omega) Hn.out).symm, hb⟩
theorem containsCmps_any (p : Int × Int → Bool) (g : FuncId) (caps : Array Value) (A : Option Addr) (cs : List (Int × Int)) (c : Nat) (w : World) (hx : Reads w w.heap.size 2 A cs.length (cmps cs))
    (hl : cs.length ≤ 1099511627776) (hg : Plain Tryd.prog g) (hf : ∀ x ∈ cs, Pred Tryd.prog g caps w (.agg #[.int .i64 x.1, .int .i64 x.2]) (p x)) :
    Calls Tryd.prog 51 #[.slice A cs.length c, .func (.func g) #[] caps] w fun e w' => e = .returned (.bool (cs.any p)) ∧ Below w.heap.size w w' := by
  have Hf := Lib.hid hf; clear hf
  have Hg := hg
  unfold Plain at hg
  go_enter Tryd.func51, Tryd.ntmps51
  go_wp2_with fail
  refine (indexCmps_any p g caps A cs c w hx hl Hg Hf.out).mono ?_
  rintro e w1 ⟨rfl, hb1⟩
  go_wp2_with fail
  go_ret
  exact ⟨retb (idx_nonneg p cs), hb1⟩
set_option maxHeartbeats 400000 in
theorem allCmps_one (p : Bool) (a b : Int) (g : FuncId) (caps : Array Value) (h : Nat) (w : World) (hc : w.cell? ⟨h, 0, none⟩ = some (.func (.func g) #[] caps)) (hg : Plain Tryd.prog g) (hp : Pred Tryd.prog g caps w (.agg #[.int .i64 a, .int .i64 b]) p) :
    Pred Tryd.prog 52 #[.pointer (some ⟨h, 0, none⟩)] w (.agg #[.int .i64 a, .int .i64 b]) (!p) := by
  intro w1 hb
  have hh := World.block_lt_of_cell? w _ hc
  have hc1 : w1.cell? ⟨h, 0, none⟩ = some (.func (.func g) #[] caps) := (hb.cell hh).trans hc
  have hs := hb.size
  have Hp := Lib.hid hp; clear hp
  have hh' : h < w1.heap.size := by have : h < w.heap.size := hh; omega
  have hb0 : Below w1.heap.size w1 (w1.alloc (.cells #[.int .i64 a, .int .i64 b] 48)) := by go_grown
  unfold Plain at hg
  go_enter Tryd.func52, Tryd.ntmps52
  go_wp2_with fail
  refine (Hp.out _ (hb.trans (hb0.mono hs))).mono ?_
  rintro e w2 ⟨rfl, hb2⟩
  go_wp2_with fail
  go_ret
  exact ⟨rfl, bthen hb0 hb2⟩
theorem allCmps_any (p : Int × Int → Bool) (g : FuncId) (caps : Array Value) (A : Option Addr) (cs : List (Int × Int)) (c : Nat) (w : World) (hx : Reads w w.heap.size 2 A cs.length (cmps cs))
    (hl : cs.length ≤ 1099511627776) (hg : Plain Tryd.prog g) (hf : ∀ x ∈ cs, Pred Tryd.prog g caps w (.agg #[.int .i64 x.1, .int .i64 x.2]) (p x)) :
    Calls Tryd.prog 41 #[.slice A cs.length c, .func (.func g) #[] caps] w fun e w' => e = .returned (.bool (cs.all p)) ∧ Below w.heap.size w w' := by
  have Hf := Lib.hid hf; clear hf
  have Hg := hg
  unfold Plain at hg
  go_enter Tryd.func41, Tryd.ntmps41
  go_wp2_with fail
  refine (containsCmps_any (fun x => !p x) 52 #[.pointer (some ⟨w.heap.size, 0, none⟩)] A cs c _ ?_ hl ?_ ?_).mono ?_
  · exact (hx.alloc (Nat.le_refl _) _).more (by simp)
  · exact plain_of Tryd.func52 (by kernel_rfl) (by kernel_rfl)
  · intro x hx
    refine allCmps_one (p x) x.1 x.2 g caps _ _ ?_ Hg ?_
    · simp [World.cell?_alloc_at]
    · exact Pred.later (Hf.out x hx) ((Below.refl _ _).alloc (Nat.le_refl _) _)
  rintro e w1 ⟨rfl, hb1⟩
  go_wp2_with fail
  go_ret
  exact ⟨retb (by rw [List.all_eq_not_any_not]), ((Below.refl _ _).alloc (Nat.le_refl _) _).trans (hb1.mono (by simp))⟩
theorem vnet_one (W : Int) (V : Value) (a b : Int) (h : Nat) (w : World) (hblk : Blk w h 30 #[.int .i64 W, V]) (hW : 1 ≤ W) (hW' : W ≤ 16) :
    Pred Tryd.prog 42 #[.pointer (some ⟨h, 0, none⟩)] w (.agg #[.int .i64 a, .int .i64 b]) (cmpOk W (a, b)) := by
  intro w1 hb
  have k1 := hblk.below_ hb
  have c0 : w1.cell? ⟨h, 0, none⟩ = some (.int .i64 W) := k1.cell 0
  have l1 := k1.lt
  cases h1 : (a == b) <;> cases h2 : inB a 0 (W - 1) <;> cases h3 : inB b 0 (W - 1)
  all_goals
    have h1' : (a != b) = !(a == b) := rfl
    rw [h1] at h1'
    go_enter Tryd.func42, Tryd.ntmps42
    go_wp2_with (go_at_call 40; refine (in_any _ _ _ _).mono ?_; rintro e w' ⟨rfl, rfl⟩)
    go_ret
    exact ⟨retb (by simp only [cmpOk]; rw [h1]; simp [h2, h3]), by go_grown⟩
set_option maxHeartbeats 400000 in
theorem IsValidNetwork_any (W : Int) (A : Option Addr) (cs : List (Int × Int)) (c : Nat) (w : World) (hx : Reads w w.heap.size 2 A cs.length (cmps cs)) (hl : cs.length ≤ 1099511627776) :
    Calls Tryd.prog 23 #[.agg #[.int .i64 W, .slice A cs.length c]] w fun e w' => e = .returned (.bool (netOk W cs)) ∧ Below w.heap.size w w' := by
  cases h1 : inB W 1 16
  · go_enter Tryd.func23, Tryd.ntmps23
    go_wp2_with (go_at_call 40; refine (in_any _ _ _ _).mono ?_; rintro e w' ⟨rfl, rfl⟩)
    go_ret
    exact ⟨retb (by simp [netOk, h1]), by go_grown⟩
  have ⟨g1, g2⟩ := inB_iff.1 h1
  by_cases h2 : cs.length ≤ 200
  · have h2' : (cs.length : Int) ≤ 200 := by omega
    have hb0 : Below w.heap.size w (w.alloc (.cells #[.int .i64 W, .slice A cs.length c] 30)) := by go_grown
    have k0 := Blk.new w 30 #[.int .i64 W, .slice A cs.length c]
    go_enter Tryd.func23, Tryd.ntmps23
    go_wp2_with (go_at_call 40; refine (in_any _ _ _ _).mono ?_; rintro e w' ⟨rfl, rfl⟩)
    refine (allCmps_any (cmpOk W) 42 #[.pointer (some ⟨w.heap.size, 0, none⟩)] A cs c _ ((hx.below hb0).more hb0.size) hl (plain_of Tryd.func42 (by kernel_rfl) (by kernel_rfl)) (fun x _ => vnet_one W _ x.1 x.2 _ _ k0 g1 g2)).mono ?_
    rintro e w1 ⟨rfl, hb1⟩
    go_wp2_with fail
    go_ret
    exact ⟨retb (by simp [netOk, h1, h2]), bthen hb0 hb1⟩
  · have h2' : ¬ (cs.length : Int) ≤ 200 := by omega
    go_enter Tryd.func23, Tryd.ntmps23
    go_wp2_with (go_at_call 40; refine (in_any _ _ _ _).mono ?_; rintro e w' ⟨rfl, rfl⟩)
    go_ret
    exact ⟨retb (by simp [netOk, h2]), by go_grown⟩
theorem netOk_long {W : Int} {cs : List (Int × Int)} (h : 200 < cs.length) : netOk W cs = false := by
  have : decide (cs.length ≤ 200) = false := by simp; omega
  simp [netOk, this]
theorem netOk_of {W : Int} {cs : List (Int × Int)} (h : inB W 1 16 = true) (h2 : cs.length ≤ 200) : netOk W cs = cs.all (cmpOk W) := by simp [netOk, h, h2]
set_option maxRecDepth 100000 in
set_option maxHeartbeats 800000 in
theorem l12Good_any (W : Int) (A : Option Addr) (cs : List (Int × Int)) (c : Nat) (w : World) (hx : Reads w w.heap.size 2 A cs.length (cmps cs)) (hl : cs.length ≤ 1099511627776) :
    Calls Tryd.prog 20 #[.agg #[.int .i64 W, .slice A cs.length c]] w fun e w' => e = .returned (.bool (netOk W cs)) ∧ Below w.heap.size w w' := by
  cases h1 : inB W 1 16
  · go_enter Tryd.func20, Tryd.ntmps20
    go_wp2_with (go_at_call 37; refine (l1In_any _ _ _ _).mono ?_; rintro e w' ⟨rfl, rfl⟩)
    go_ret
    exact ⟨retb (by simp [netOk, h1]), by go_grown⟩
  have ⟨g1, g2⟩ := inB_iff.1 h1
  by_cases h2 : cs.length ≤ 200
  case neg =>
    have h2' : (200 : Int) < cs.length := by omega
    go_enter Tryd.func20, Tryd.ntmps20
    go_wp2_with (go_at_call 37; refine (l1In_any _ _ _ _).mono ?_; rintro e w' ⟨rfl, rfl⟩)
    go_ret
    exact ⟨retb (netOk_long (by omega)).symm, by go_grown⟩
  have h2' : ¬ (200 : Int) < cs.length := by omega
  have HO := Lib.hid (netOk_of h1 h2)
  have k0 := Blk.new w 30 #[.int .i64 W, .slice A cs.length c]
  have hb0 : Below w.heap.size w (w.alloc (.cells #[.int .i64 W, .slice A cs.length c] 30)) := by go_grown
  have b0 : Below (w.heap.size + 1) (w.alloc (.cells #[.int .i64 W, .slice A cs.length c] 30)) (w.alloc (.cells #[.int .i64 W, .slice A cs.length c] 30)) := Below.refl _ _
  go_enter Tryd.func20, Tryd.ntmps20
  go_wp2_with (go_at_call 37; refine (l1In_any _ _ _ _).mono ?_; rintro e w' ⟨rfl, rfl⟩)
  clear h1
  go_loopw [3] (fun i wr => ∃ k : Nat, k ≤ cs.length ∧ i = .int .i64 k ∧ (cs.take k).all (cmpOk W) = true ∧ Below (w.heap.size + 1) (w.alloc (.cells #[.int .i64 W, .slice A cs.length c] 30)) wr) (fun i _ => cs.length - (intOf i).toNat)
  case atStart => exact ⟨0, by omega, rfl, by simp, b0⟩
  case round =>
    obtain ⟨k, hk, rfl, hn, hb⟩ := hrel
    have Hn := Lib.hid hn; clear hn
    have k1 := k0.below hb (by omega)
    have c0 : wr.cell? ⟨w.heap.size, 0, none⟩ = some (.int .i64 W) := k1.cell 0
    have c1 : wr.cell? ⟨w.heap.size, 1, none⟩ = some (.slice A cs.length c) := k1.cell 1
    have hlw := k1.lt
    have hb' := hb0.trans (hb.mono (by omega))
    by_cases hlt : k < cs.length
    · obtain ⟨ad, rfl, had, hc, hc'⟩ := (hx.below hb').cmp hlt
      have hco : cmpOk W cs[k] = (!(cs[k].1 == cs[k].2) && (inB cs[k].1 0 (W - 1) && inB cs[k].2 0 (W - 1))) := rfl
      have HC := Lib.hid hco; clear hco
      have hsz := hb.size
      simp only [World.size_alloc] at hsz
      cases h3 : inB cs[k].1 0 (W - 1) <;> cases h4 : inB cs[k].2 0 (W - 1) <;> cases h5 : (cs[k].1 == cs[k].2)
      all_goals
        go_wp2_with (go_at_call 37; refine (l1In_any _ _ _ _).mono ?_; rintro e w' ⟨rfl, rfl⟩)
      all_goals first
        | (go_ret; exact ⟨retb (by rw [HO.out]; exact (all_hit hlt (by rw [HC.out, h3, h4, h5]; rfl)).symm), hb'.alloc (by omega) _⟩)
        | (go_roundw
           case rel => exact ⟨k + 1, by omega, by go_num, all_take_succ hlt Hn.out (by rw [HC.out, h3, h4, h5]; rfl), hb.alloc (by omega) _⟩
           case measure => simp [intOf]; omega)
    · go_wp2_with fail
      go_ret
      exact ⟨retb (by rw [HO.out]; exact (all_end (by omega) Hn.out).symm), hb'⟩
theorem szv_cases (n : Nat) (left : Int) (h : left ≤ 1048576) (h0 : 0 ≤ left) : (szv n left < 0) ∨ (n ≤ 1048576 ∧ szv n left = left - n ∧ 0 ≤ szv n left) := by
  unfold szv; split <;> omega
end Go.Proofs.YtfpojoabfdiadaaDoor
