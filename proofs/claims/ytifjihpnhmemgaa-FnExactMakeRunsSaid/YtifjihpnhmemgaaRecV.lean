/- Records: valid, ascending (the part on 'all' printed by gen_recv.py from that on comparators). -/
import Derived.Test.YtifjihpnhmemgaaRec
import Derived.Test.YtifjihpnhmemgaaNestQ
import Derived.IntWalk
import Derived.Deep.QuietTactic
import Derived.BigQuiet
namespace Go.Proofs.Ytifjihpnhmemgaa
open Go.RowKit
set_option linter.unusedVariables false
def rOk (c : Int × Int) : Bool := inB c.1 (-100000) 100000 && inB c.2 0 999
def rsOk (cs : List (Int × Int)) : Bool := decide (cs.length ≤ 64) && cs.all rOk
/-- a record's key -/
def ky (cs : List (Int × Int)) (i : Nat) : Int := (cs[i]?.getD (0, 0)).1
theorem ky_at {cs : List (Int × Int)} {i : Nat} (h : i < cs.length) : ky cs i = cs[i].1 := by simp [ky, h]
def ascB (cs : List (Int × Int)) : Bool := (List.range (cs.length - 1)).all fun i => decide (ky cs i ≤ ky cs (i + 1))
theorem ascB_iff {cs : List (Int × Int)} : ascB cs = true ↔ ∀ i, i + 1 < cs.length → ky cs i ≤ ky cs (i + 1) := by
  unfold ascB
  simp only [List.all_eq_true, List.mem_range, decide_eq_true_eq]
  exact ⟨fun h i hi => h i (by omega), fun h i hi => h i (by omega)⟩
theorem ascB_no {cs : List (Int × Int)} {i : Nat} (hi : i + 1 < cs.length) (h : ¬ ky cs i ≤ ky cs (i + 1)) : ascB cs = false := by
  cases hb : ascB cs with
  | false => rfl
  | true => exact absurd (ascB_iff.1 hb i hi) h
def cmpR (x y : Int) : Int := if x < y then -1 else if y < x then 1 else 0
theorem all_at {α : Type} {l : List α} {p : α → Bool} {k : Nat} (h : k < l.length) (hp : p l[k] = false) : l.all p = false := by
  cases ha : l.all p with
  | false => rfl
  | true => rw [List.all_eq_true.1 ha _ (List.getElem_mem h)] at hp; cases hp
theorem all_take {α : Type} {l : List α} {p : α → Bool} {k : Nat} (h : k < l.length) (h0 : (l.take k).all p = true) (hp : p l[k] = true) : (l.take (k + 1)).all p = true := by
  rw [List.take_succ_eq_append_getElem h, List.all_append, h0]; simp [hp]
set_option maxHeartbeats 400000 in
theorem indexRecs_any (p : Int × Int → Bool) (g : FuncId) (caps : Array Value) (A : Option Addr) (cs : List (Int × Int)) (c : Nat) (w : World) (hx : Reads w w.heap.size 2 A cs.length (cmps cs))
    (hl : cs.length ≤ 1099511627776) (hg : Plain Try.prog g) (hf : ∀ x ∈ cs, Pred Try.prog g caps w (.agg #[.int .i64 x.1, .int .i64 x.2]) (p x)) :
    Calls Try.prog 56 #[.slice A cs.length c, .func (.func g) #[] caps] w fun e w' => e = .returned (.int .i64 (idx p cs)) ∧ Below w.heap.size w w' := by
  have Hf := Lib.hid hf; clear hf
  have Hg := hg
  unfold Plain at hg
  go_enter Try.func56, Try.ntmps56
  go_wp2_with fail
  go_loopw [8] (fun i wr => ∃ k : Nat, k ≤ cs.length ∧ i = .int .i64 k ∧ Below w.heap.size w wr ∧ (cs.take k).any p = false) (fun i _ => cs.length - (intOf i).toNat)
  case atStart => exact ⟨0, by omega, rfl, Below.refl _ _, by simp⟩
  case round =>
    obtain ⟨k, hk, rfl, hb, hn⟩ := hrel
    have Hn := Lib.hid hn; clear hn
    by_cases hlt : k < cs.length
    · obtain ⟨ad, rfl, -, hc, hc'⟩ := (hx.below hb).cmp hlt
      go_wp2_with fail
      refine (Hf.out _ (List.getElem_mem hlt) _ hb).mono ?_
      rintro e w1 ⟨rfl, hb1⟩
      cases hp : p cs[k]
      · have HP := Lib.hid hp; clear hp
        go_wp2_with fail
        go_roundw
        case rel => exact ⟨k + 1, by omega, by go_num, hb.trans (hb1.mono hb.size), any_take_succ hlt Hn.out HP.out⟩
        case measure => simp [intOf]; omega
      · have HP := Lib.hid hp; clear hp
        go_wp2_with fail
        go_ret
        exact ⟨reti (idx_found hlt Hn.out HP.out).symm, hb.trans (hb1.mono hb.size)⟩
    · go_wp2_with fail
      go_ret
      exact ⟨reti (idx_none (by omega) Hn.out).symm, hb⟩
theorem containsRecs_any (p : Int × Int → Bool) (g : FuncId) (caps : Array Value) (A : Option Addr) (cs : List (Int × Int)) (c : Nat) (w : World) (hx : Reads w w.heap.size 2 A cs.length (cmps cs))
    (hl : cs.length ≤ 1099511627776) (hg : Plain Try.prog g) (hf : ∀ x ∈ cs, Pred Try.prog g caps w (.agg #[.int .i64 x.1, .int .i64 x.2]) (p x)) :
    Calls Try.prog 49 #[.slice A cs.length c, .func (.func g) #[] caps] w fun e w' => e = .returned (.bool (cs.any p)) ∧ Below w.heap.size w w' := by
  have Hf := Lib.hid hf; clear hf
  have Hg := hg
  unfold Plain at hg
  go_enter Try.func49, Try.ntmps49
  go_wp2_with fail
  refine (indexRecs_any p g caps A cs c w hx hl Hg Hf.out).mono ?_
  rintro e w1 ⟨rfl, hb1⟩
  go_wp2_with fail
  go_ret
  exact ⟨retb (idx_nonneg p cs), hb1⟩
set_option maxHeartbeats 400000 in
theorem allRecs_one (p : Bool) (a b : Int) (g : FuncId) (caps : Array Value) (h : Nat) (w : World) (hc : w.cell? ⟨h, 0, none⟩ = some (.func (.func g) #[] caps)) (hg : Plain Try.prog g) (hp : Pred Try.prog g caps w (.agg #[.int .i64 a, .int .i64 b]) p) :
    Pred Try.prog 50 #[.pointer (some ⟨h, 0, none⟩)] w (.agg #[.int .i64 a, .int .i64 b]) (!p) := by
  intro w1 hb
  have hh := World.block_lt_of_cell? w _ hc
  have hc1 : w1.cell? ⟨h, 0, none⟩ = some (.func (.func g) #[] caps) := (hb.cell hh).trans hc
  have hs := hb.size
  have Hp := Lib.hid hp; clear hp
  have hh' : h < w1.heap.size := by have : h < w.heap.size := hh; omega
  have hb0 : Below w1.heap.size w1 (w1.alloc (.cells #[.int .i64 a, .int .i64 b] 47)) := by go_grown
  unfold Plain at hg
  go_enter Try.func50, Try.ntmps50
  go_wp2_with fail
  refine (Hp.out _ (hb.trans (hb0.mono hs))).mono ?_
  rintro e w2 ⟨rfl, hb2⟩
  go_wp2_with fail
  go_ret
  exact ⟨rfl, bthen hb0 hb2⟩
theorem allRecs_any (p : Int × Int → Bool) (g : FuncId) (caps : Array Value) (A : Option Addr) (cs : List (Int × Int)) (c : Nat) (w : World) (hx : Reads w w.heap.size 2 A cs.length (cmps cs))
    (hl : cs.length ≤ 1099511627776) (hg : Plain Try.prog g) (hf : ∀ x ∈ cs, Pred Try.prog g caps w (.agg #[.int .i64 x.1, .int .i64 x.2]) (p x)) :
    Calls Try.prog 39 #[.slice A cs.length c, .func (.func g) #[] caps] w fun e w' => e = .returned (.bool (cs.all p)) ∧ Below w.heap.size w w' := by
  have Hf := Lib.hid hf; clear hf
  have Hg := hg
  unfold Plain at hg
  go_enter Try.func39, Try.ntmps39
  go_wp2_with fail
  refine (containsRecs_any (fun x => !p x) 50 #[.pointer (some ⟨w.heap.size, 0, none⟩)] A cs c _ ?_ hl ?_ ?_).mono ?_
  · exact (hx.alloc (Nat.le_refl _) _).more (by simp)
  · exact plain_of Try.func50 (by kernel_rfl) (by kernel_rfl)
  · intro x hx
    refine allRecs_one (p x) x.1 x.2 g caps _ _ ?_ Hg ?_
    · simp [World.cell?_alloc_at]
    · exact Pred.later (Hf.out x hx) ((Below.refl _ _).alloc (Nat.le_refl _) _)
  rintro e w1 ⟨rfl, hb1⟩
  go_wp2_with fail
  go_ret
  exact ⟨retb (by rw [List.all_eq_not_any_not]), ((Below.refl _ _).alloc (Nat.le_refl _) _).trans (hb1.mono (by simp))⟩
theorem isRecord_one (a b : Int) (w : World) : Pred Try.prog 40 #[] w (.agg #[.int .i64 a, .int .i64 b]) (rOk (a, b)) := by
  intro w1 hb
  cases h1 : inB a (-100000) 100000 <;> cases h2 : inB b 0 999
  all_goals
    go_enter Try.func40, Try.ntmps40
    go_wp2_with (first | (go_at_call 51; refine (isKey_any _ _).mono ?_; rintro e w' ⟨rfl, rfl⟩) | (go_at_call 23; refine (in_any _ _ _ _).mono ?_; rintro e w' ⟨rfl, rfl⟩))
    go_ret
    exact ⟨retb (by simp only [rOk]; rw [h1, h2]; rfl), by go_grown⟩
theorem IsValidRecords_any (A : Option Addr) (cs : List (Int × Int)) (c : Nat) (w : World) (hx : Reads w w.heap.size 2 A cs.length (cmps cs)) (hl : cs.length ≤ 1099511627776) :
    Calls Try.prog 29 #[.slice A cs.length c] w fun e w' => e = .returned (.bool (rsOk cs)) ∧ Below w.heap.size w w' := by
  by_cases h2 : cs.length ≤ 64
  · have h2' : (cs.length : Int) ≤ 64 := by omega
    have HA := Lib.hid (allRecs_any rOk 40 #[] A cs c w hx hl (plain_of Try.func40 (by kernel_rfl) (by kernel_rfl)) (fun x _ => isRecord_one x.1 x.2 w))
    go_enter Try.func29, Try.ntmps29
    go_wp2_with fail
    refine HA.out.mono ?_
    rintro e w1 ⟨rfl, hb1⟩
    go_wp2_with fail
    go_ret
    exact ⟨retb (by simp [rsOk, h2]), hb1⟩
  · have h2' : ¬ (cs.length : Int) ≤ 64 := by omega
    go_enter Try.func29, Try.ntmps29
    go_wp2_with fail
    go_ret
    exact ⟨retb (by simp [rsOk, h2]), Below.refl _ _⟩
theorem isNaNR (x : Int) (w : World) : Calls Try.prog 58 #[.int .i64 x] w fun e w' => e = .returned (.bool false) ∧ w = w' := by
  have e3 : (x != x) = false := by simp
  go_enter Try.func58, Try.ntmps58
  go_wp2_with fail
  go_ret
  exact ⟨rfl, rfl⟩
theorem CompareR (x y : Int) (w : World) : Calls Try.prog 54 #[.int .i64 x, .int .i64 y] w fun e w' => e = .returned (.int .i64 (cmpR x y)) ∧ w' = w := by
  by_cases h1 : x < y
  · have HE := Lib.hid (show cmpR x y = -1 from by simp [cmpR, h1])
    go_enter Try.func54, Try.ntmps54
    go_wp2_with (go_at_call 58; refine (isNaNR _ _).mono ?_; rintro e w' ⟨rfl, rfl⟩)
    go_ret
    exact ⟨reti HE.out.symm, rfl⟩
  · by_cases h2 : y < x
    · have h3 : x > y := h2
      have HE := Lib.hid (show cmpR x y = 1 from by unfold cmpR; rw [if_neg h1, if_pos h2])
      go_enter Try.func54, Try.ntmps54
      go_wp2_with (go_at_call 58; refine (isNaNR _ _).mono ?_; rintro e w' ⟨rfl, rfl⟩)
      go_ret
      exact ⟨reti HE.out.symm, rfl⟩
    · have h3 : ¬ x > y := h2
      have HE := Lib.hid (show cmpR x y = 0 from by unfold cmpR; rw [if_neg h1, if_neg h2])
      go_enter Try.func54, Try.ntmps54
      go_wp2_with (go_at_call 58; refine (isNaNR _ _).mono ?_; rintro e w' ⟨rfl, rfl⟩)
      go_ret
      exact ⟨reti HE.out.symm, rfl⟩
theorem compareKeys_any (a1 a2 b1 b2 : Int) (w : World) : Calls Try.prog 45 #[.agg #[.int .i64 a1, .int .i64 a2], .agg #[.int .i64 b1, .int .i64 b2]] w fun e w' => e = .returned (.int .i64 (cmpR a1 b1)) ∧ Below w.heap.size w w' := by
  go_enter Try.func45, Try.ntmps45
  go_wp2_with (go_at_call 54; refine (CompareR _ _ _).mono ?_; rintro e w' ⟨rfl, rfl⟩)
  go_ret
  exact ⟨rfl, by go_grown⟩
set_option maxRecDepth 100000 in
set_option maxHeartbeats 800000 in
theorem IsSorted_any (A : Option Addr) (cs : List (Int × Int)) (c : Nat) (w : World) (hx : Reads w w.heap.size 2 A cs.length (cmps cs)) (hl : cs.length ≤ 1099511627776) :
    Calls Try.prog 44 #[.slice A cs.length c, .func (.func 45) #[] #[]] w fun e w' => e = .returned (.bool (ascB cs)) ∧ Below w.heap.size w w' := by
  have hg := plain_of Try.func45 (by kernel_rfl) (by kernel_rfl)
  unfold Plain at hg
  go_enter Try.func44, Try.ntmps44
  go_wp2_with fail
  go_loopw [5] (fun i wr => ∃ k : Nat, k ≤ cs.length ∧ i = .int .i64 ((k : Int) - 1) ∧ Hid (∀ j, k ≤ j + 1 → j + 1 < cs.length → ky cs j ≤ ky cs (j + 1)) ∧ Below w.heap.size w wr) (fun i _ => (intOf i + 1).toNat)
  case atStart => exact ⟨cs.length, by omega, rfl, Lib.hid (fun j h1 h2 => by omega), Below.refl _ _⟩
  case round =>
    obtain ⟨k, hk, rfl, HI, hb⟩ := hrel
    by_cases hlt : 2 ≤ k
    · have c1 : (0 : Int) < (k : Int) - 1 := by omega
      obtain ⟨m, n, hmn, rfl⟩ : ∃ m n, n = m + 1 ∧ k = n + 1 := ⟨k - 2, k - 1, by omega, by omega⟩
      have hn1 : n < cs.length := by omega
      have hm1 : m < cs.length := by omega
      obtain ⟨ad, rfl, had, hc0, hc1⟩ := (hx.below hb).cmp hn1
      obtain ⟨bd, ebd, -, hd0, hd1⟩ := (hx.below hb).cmp hm1
      cases ebd
      have e1 : ((n + 1 : Nat) : Int) - 1 = (n : Int) := by omega
      have e2 : (n : Int) - 1 = (m : Int) := by omega
      have hnl : (n : Int) < cs.length := by omega
      have hml : (m : Int) < cs.length := by omega
      have hm0 : (0 : Int) ≤ (m : Int) := by omega
      have hw : IntKind.i64.wrap (m : Int) = (m : Int) := IntWalk.i64_in _ (by omega)
      have hkx := ky_at hn1
      have hky := ky_at hm1
      have hstep : ky cs m ≤ ky cs n → Hid (∀ j, n ≤ j + 1 → j + 1 < cs.length → ky cs j ≤ ky cs (j + 1)) := fun h => Lib.hid (fun j h1 h2 => by
        by_cases hj : n = j + 1
        · obtain rfl : m = j := by omega
          rw [← hj]; exact h
        · exact HI.out j (by omega) h2)
      have hfail : ¬ ky cs m ≤ ky cs n → ascB cs = false := fun h => ascB_no (i := m) (by omega) (by rw [← hmn]; exact h)
      rw [hkx, hky] at hstep hfail
      have HST := Lib.hid hstep
      have HFA := Lib.hid hfail
      have hsz := hb.size
      have had1 : (ad.add (n * 2)).block < wr.heap.size := by rw [block_of_add]; omega
      have had2 : (ad.add (m * 2)).block < wr.heap.size := by rw [block_of_add]; omega
      clear hkx hky hstep hfail HI hmn
      generalize hxx : cs[n] = x at *
      generalize hyy : cs[m] = y at *
      clear hxx hyy
      obtain ⟨x1, x2⟩ := x
      obtain ⟨y1, y2⟩ := y
      simp only at hc0 hc1 hd0 hd1 HST HFA
      rw [e1]
      have hcv : cmpR x1 y1 < 0 ↔ x1 < y1 := by unfold cmpR; split <;> (try split) <;> omega
      by_cases hxy : y1 ≤ x1
      · have hne : ¬ cmpR x1 y1 < 0 := by rw [hcv]; omega
        have HN := Lib.hid (HST.out hxy)
        clear hcv HST HFA
        go_wp2_with fail
        go_region_held3 (fun w' => w'.cell? (ad.add (n * 2)) = some (.int .i64 x1) ∧ w'.cell? ⟨(ad.add (n * 2)).block, (ad.add (n * 2)).off + 1, none⟩ = some (.int .i64 x2) ∧ w'.cell? (ad.add (m * 2)) = some (.int .i64 y1) ∧ w'.cell? ⟨(ad.add (m * 2)).block, (ad.add (m * 2)).off + 1, none⟩ = some (.int .i64 y2)) (first | go_keep | (go_split_ands; refine ⟨?_, ?_, ?_, ?_⟩ <;> (rw [Below.cell hb9 (by simp; omega)]; assumption)))
          (first | (go_at_call 45; refine (compareKeys_any x1 x2 y1 y2 _).mono ?_; rintro e w1 ⟨rfl, hb9⟩))
        go_wp2_with fail
        go_roundw
        case rel => exact ⟨n, by omega, by go_num, HN, bthen hb (bthen (below_drewN (Below.refl _ _) 1) hb9)⟩
        case measure => simp [intOf]; omega
      · have hne : cmpR x1 y1 < 0 := by rw [hcv]; omega
        have HN := Lib.hid (HFA.out hxy)
        clear hcv HST HFA
        go_wp2_with fail
        go_region_held3 (fun w' => w'.cell? (ad.add (n * 2)) = some (.int .i64 x1) ∧ w'.cell? ⟨(ad.add (n * 2)).block, (ad.add (n * 2)).off + 1, none⟩ = some (.int .i64 x2) ∧ w'.cell? (ad.add (m * 2)) = some (.int .i64 y1) ∧ w'.cell? ⟨(ad.add (m * 2)).block, (ad.add (m * 2)).off + 1, none⟩ = some (.int .i64 y2)) (first | go_keep | (go_split_ands; refine ⟨?_, ?_, ?_, ?_⟩ <;> (rw [Below.cell hb9 (by simp; omega)]; assumption)))
          (first | (go_at_call 45; refine (compareKeys_any x1 x2 y1 y2 _).mono ?_; rintro e w1 ⟨rfl, hb9⟩))
        go_wp2_with fail
        go_ret
        exact ⟨retb HN.out.symm, bthen hb (bthen (below_drewN (Below.refl _ _) 1) hb9)⟩
    · have c1 : ¬ (0 : Int) < (k : Int) - 1 := by omega
      have hfin := Lib.hid (show ascB cs = true from ascB_iff.2 fun i hi => HI.out i (by omega) hi)
      go_wp2_with fail
      go_ret
      exact ⟨retb hfin.out.symm, hb⟩
end Go.Proofs.Ytifjihpnhmemgaa
