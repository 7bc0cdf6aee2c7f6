/- Contracts of the helpers on lists of comparators. -/
import Derived.Test.YtfpojoabfdiadaaDoorCore
import Derived.StillTailTactics
import Derived.Deep.RegionHeld3
namespace Go.Proofs.YtfpojoabfdiadaaDoor
open Go.RowKit
set_option linter.unusedVariables false

/-- the cells of a list of comparators -/
def cmps (cs : List (Int × Int)) : List Value := cs.flatMap fun c => [.int .i64 c.1, .int .i64 c.2]
@[simp] theorem cmps_nil : cmps [] = [] := rfl
@[simp] theorem cmps_cons (c : Int × Int) (cs : List (Int × Int)) : cmps (c :: cs) = .int .i64 c.1 :: .int .i64 c.2 :: cmps cs := rfl
@[simp] theorem cmps_append (xs ys : List (Int × Int)) : cmps (xs ++ ys) = cmps xs ++ cmps ys := by simp [cmps]
@[simp] theorem cmps_length (cs : List (Int × Int)) : (cmps cs).length = cs.length * 2 := by
  induction cs with
  | nil => rfl
  | cons c cs ih => simp [ih]; omega
theorem cmps_get {cs : List (Int × Int)} {k : Nat} (h : k < cs.length) : (cmps cs)[k * 2]? = some (.int .i64 cs[k].1) ∧ (cmps cs)[k * 2 + 1]? = some (.int .i64 cs[k].2) := by
  induction cs generalizing k with
  | nil => simp at h
  | cons c cs ih =>
    cases k with
    | zero => simp
    | succ k =>
      have := ih (k := k) (by simpa using h)
      rw [show (k + 1) * 2 = k * 2 + 1 + 1 from by omega]
      simpa using this
theorem cmps_one (cs : List (Int × Int)) : ∀ u ∈ cmps cs, u.oneCell' = true := by
  induction cs with
  | nil => simp
  | cons c cs ih => intro u hu; simp at hu; rcases hu with rfl | rfl | hu
                    · rfl
                    · rfl
                    · exact ih u hu
theorem Reads.cmp {w : World} {B : Nat} {A : Option Addr} {cs : List (Int × Int)} {k : Nat} (h : Reads w B 2 A cs.length (cmps cs)) (hk : k < cs.length) :
    ∃ ad, A = some ad ∧ ad.block < B ∧ w.cell? (ad.add (k * 2)) = some (.int .i64 cs[k].1) ∧ w.cell? ⟨(ad.add (k * 2)).block, (ad.add (k * 2)).off + 1, none⟩ = some (.int .i64 cs[k].2) := by
  obtain ⟨ad, e, hb, hc⟩ := h.2 (by omega)
  refine ⟨ad, e, hb, hc _ _ (cmps_get hk).1, ?_⟩
  have := hc _ _ (cmps_get hk).2
  rw [← add_of_add] at this
  exact this

theorem cmps_push {w : World} {B : Nat} {e : TypeId} {v : Value} {acc : List (Int × Int)} {a b : Int} (h : w.ownsRow B e 2 v (acc.length + 1) (cmps acc ++ #[Value.int .i64 a, .int .i64 b].toList)) :
    w.ownsRow B e 2 v (acc ++ [(a, b)]).length (cmps (acc ++ [(a, b)])) := by simpa using h
theorem eqComparator_any (a b : Int × Int) (w : World) :
    Calls Tryd.prog 44 #[.agg #[.int .i64 a.1, .int .i64 a.2], .agg #[.int .i64 b.1, .int .i64 b.2]] w fun e w' => e = .returned (.bool (decide (a = b))) ∧ Below w.heap.size w w' := by
  cases h1 : a.1 != b.1
  · have h1' : (a.1 == b.1) = true := by simpa [bne] using h1
    cases h2 : a.2 != b.2
    · have h2' : (a.2 == b.2) = true := by simpa [bne] using h2
      go_enter Tryd.func44, Tryd.ntmps44
      go_wp2
      go_ret
      exact ⟨retb (by symm; simp at h1' h2'; simp [Prod.ext_iff, h1', h2']), by go_grown⟩
    · have h2' : (a.2 == b.2) = false := by simpa [bne] using h2
      go_enter Tryd.func44, Tryd.ntmps44
      go_wp2
      go_ret
      exact ⟨retb (by symm; simp at h1' h2'; simp [Prod.ext_iff, h1', h2']), by go_grown⟩
  · have h1' : (a.1 == b.1) = false := by simpa [bne] using h1
    go_enter Tryd.func44, Tryd.ntmps44
    go_wp2
    go_ret
    exact ⟨retb (by symm; simp at h1'; simp [Prod.ext_iff, h1']), by go_grown⟩
set_option maxHeartbeats 400000 in
theorem eqComparatorS_any (A B : Option Addr) (xs ys : List (Int × Int)) (c d : Nat) (w : World) (hx : Reads w w.heap.size 2 A xs.length (cmps xs)) (hy : Reads w w.heap.size 2 B ys.length (cmps ys))
    (hl : xs.length ≤ 1099511627776) (hl' : ys.length ≤ 1099511627776) :
    Calls Tryd.prog 25 #[.slice A xs.length c, .slice B ys.length d] w fun e w' => e = .returned (.bool (decide (xs = ys))) ∧ Below w.heap.size w w' := by
  by_cases hne : xs.length = ys.length
  case neg =>
    have hd : ((xs.length : Int) == (ys.length : Int)) = false := by simp; omega
    have hd' : ((xs.length : Int) != (ys.length : Int)) = true := by simp; omega
    go_enter Tryd.func25, Tryd.ntmps25
    go_wp2_with fail
    go_ret
    exact ⟨retb (by symm; simp; intro h; exact hne (by rw [h])), Below.refl _ _⟩
  have hd : ((xs.length : Int) == (ys.length : Int)) = true := by simp; omega
  have hd' : ((xs.length : Int) != (ys.length : Int)) = false := by simp; omega
  have Hne := Lib.hid hne; clear hne
  go_enter Tryd.func25, Tryd.ntmps25
  go_wp2_with fail
  go_loopw [5] (fun i wr => ∃ k : Nat, k ≤ xs.length ∧ i = .int .i64 k ∧ Below w.heap.size w wr ∧ xs.take k = ys.take k) (fun i _ => xs.length - (intOf i).toNat)
  case atStart => exact ⟨0, by omega, rfl, Below.refl _ _, by simp⟩
  case round =>
    obtain ⟨k, hk, rfl, hb, heq⟩ := hrel
    have HE := Lib.hid heq; clear heq
    by_cases hlt : k < xs.length
    · have hlt' : k < ys.length := by have := Hne.out; omega
      obtain ⟨ad, rfl, had, hc0, hc1⟩ := (hx.below hb).cmp hlt
      obtain ⟨bd, rfl, hbd, hd0, hd1⟩ := (hy.below hb).cmp hlt'
      have hsz := hb.size
      have had1 : (ad.add (k * 2)).block < wr.heap.size := by rw [block_of_add]; omega
      have hbd1 : (bd.add (k * 2)).block < wr.heap.size := by rw [block_of_add]; omega
      go_wp2_with fail
      by_cases hv : xs[k] = ys[k]
      · have hde : decide (xs[k] = ys[k]) = true := by simpa using hv
        have HV := Lib.hid hv; clear hv
        go_region_held3 (fun w' => w'.cell? (ad.add (k * 2)) = some (.int .i64 xs[k].1) ∧ w'.cell? ⟨(ad.add (k * 2)).block, (ad.add (k * 2)).off + 1, none⟩ = some (.int .i64 xs[k].2) ∧ w'.cell? (bd.add (k * 2)) = some (.int .i64 ys[k].1) ∧ w'.cell? ⟨(bd.add (k * 2)).block, (bd.add (k * 2)).off + 1, none⟩ = some (.int .i64 ys[k].2)) (first | go_keep | (go_split_ands; refine ⟨?_, ?_, ?_, ?_⟩ <;> (rw [Below.cell hb1 (by simp; omega)]; assumption)))
          (first | (go_at_call 44; refine (eqComparator_any xs[k] ys[k] _).mono ?_; rintro e w1 ⟨rfl, hb1⟩))
        go_wp2_with fail
        go_roundw
        case rel => exact ⟨k + 1, by omega, by go_num, bthen hb (bthen (below_drewN (Below.refl _ _) 1) hb1), take_succ_eq HE.out hlt hlt' HV.out⟩
        case measure => simp [intOf]; omega
      · have hde : decide (xs[k] = ys[k]) = false := by simpa using hv
        have HV := Lib.hid hv; clear hv
        go_region_held3 (fun w' => w'.cell? (ad.add (k * 2)) = some (.int .i64 xs[k].1) ∧ w'.cell? ⟨(ad.add (k * 2)).block, (ad.add (k * 2)).off + 1, none⟩ = some (.int .i64 xs[k].2) ∧ w'.cell? (bd.add (k * 2)) = some (.int .i64 ys[k].1) ∧ w'.cell? ⟨(bd.add (k * 2)).block, (bd.add (k * 2)).off + 1, none⟩ = some (.int .i64 ys[k].2)) (first | go_keep | (go_split_ands; refine ⟨?_, ?_, ?_, ?_⟩ <;> (rw [Below.cell hb1 (by simp; omega)]; assumption)))
          (first | (go_at_call 44; refine (eqComparator_any xs[k] ys[k] _).mono ?_; rintro e w1 ⟨rfl, hb1⟩))
        go_wp2_with fail
        go_ret
        exact ⟨retb (by symm; simp only [decide_eq_false_iff_not]; intro h; exact HV.out (by simp [h])), bthen hb (bthen (below_drewN (Below.refl _ _) 1) hb1)⟩
    · go_wp2_with fail
      go_ret
      exact ⟨retb (by symm; simp only [decide_eq_true_eq]; have h := HE.out; have hk' := Hne.out; rwa [List.take_of_length_le (by omega), List.take_of_length_le (by omega)] at h), hb⟩
theorem info_cmp : (Tryd.prog.info? 48).map (fun i => (i.zero, i.size, i.bytes)) = some (some (.agg #[.int .i64 0, .int .i64 0]), 2, 16) := by kernel_rfl
/-- the marks that a walk through n comparators leaves, from k on -/
def cmarks (k : Int) (n : Nat) : List (Int × Int) := (List.range n).map fun i : Nat => (k + 2 * i, k + 2 * i + 1)
@[simp] theorem cmarks_length (k : Int) (n : Nat) : (cmarks k n).length = n := by simp [cmarks]
theorem cmarks_get {k : Int} {n i : Nat} (h : i < n) : (cmarks k n)[i]'(by simpa using h) = (k + 2 * i, k + 2 * i + 1) := by simp [cmarks]
theorem cmps_set1 (cs : List (Int × Int)) (k : Nat) (z : Int) (h : k < cs.length) : (cmps cs).set (k * 2) (.int .i64 z) = cmps (cs.set k (z, cs[k].2)) := by
  induction cs generalizing k with
  | nil => simp at h
  | cons c cs ih =>
    cases k with
    | zero => simp
    | succ k =>
      rw [show (k + 1) * 2 = k * 2 + 1 + 1 from by omega]
      simpa using ih k (by simpa using h)
theorem cmps_set2 (cs : List (Int × Int)) (k : Nat) (z : Int) (h : k < cs.length) : (cmps cs).set (k * 2 + 1) (.int .i64 z) = cmps (cs.set k (cs[k].1, z)) := by
  induction cs generalizing k with
  | nil => simp at h
  | cons c cs ih =>
    cases k with
    | zero => simp
    | succ k =>
      rw [show (k + 1) * 2 + 1 = (k * 2 + 1) + 1 + 1 from by omega]
      simpa using ih k (by simpa using h)
set_option maxRecDepth 100000 in
set_option maxHeartbeats 800000 in
theorem markComparatorS_any (B : Nat) (A : Option Addr) (cs : List (Int × Int)) (c : Nat) (k0 : Int) (w : World) (hl : cs.length ≤ 1048576) (h0 : 0 ≤ k0) (h1 : k0 ≤ 1099511627776)
    (hown : w.ownsRow B 48 2 (.slice A cs.length c) cs.length (cmps cs)) :
    Calls Tryd.prog 31 #[.slice A cs.length c, .int .i64 k0] w fun e w' => e = .returned (.int .i64 (k0 + 2 * cs.length)) ∧
      w'.ownsRow B 48 2 (.slice A cs.length c) cs.length (cmps (cmarks k0 cs.length)) ∧ w.grownBy w' (Value.slice A cs.length c).ownBlock := by
  go_enter Tryd.func31, Tryd.ntmps31
  go_wp2_with fail
  go_loopw [1, 5] (fun kv i wr => ∃ (k : Nat) (xs : List (Int × Int)), k ≤ cs.length ∧ i = .int .i64 k ∧ kv = .int .i64 (k0 + 2 * k) ∧ xs.length = cs.length ∧ xs.take k = (cmarks k0 cs.length).take k ∧
      wr.ownsRow B 48 2 (.slice A cs.length c) cs.length (cmps xs) ∧ w.grownBy wr (Value.slice A cs.length c).ownBlock) (fun _ i _ => cs.length - (intOf i).toNat)
  case atStart => exact ⟨0, cs, by omega, rfl, by simp, rfl, by simp, hown, World.grownBy.refl _ _⟩
  case round =>
    obtain ⟨k, xs, hk, rfl, rfl, hlx, hpre, hown, hg⟩ := hrel
    have HX := Lib.hid hlx; clear hlx
    have HP := Lib.hid hpre; clear hpre
    by_cases hlt : k < cs.length
    · obtain ⟨g, rfl, hBg, hgl⟩ := own_at hown (by omega)
      have hkx : k < xs.length := by rw [HX.out]; exact hlt
      have c1 := hown.cellAt (k * 2) (by omega)
      rw [(cmps_get hkx).1] at c1
      have c2 := hown.cellAt (k * 2 + 1) (by omega)
      rw [(cmps_get hkx).2] at c2
      have f1 := hown.frozenAt (k * 2)
      have f2 := hown.frozenAt (k * 2 + 1)
      have s1 := hown.stored (k * 2) (.int .i64 (k0 + 2 * k))
      rw [cmps_set1 _ _ _ hkx] at s1
      have s2 := s1.1.stored (k * 2 + 1) (.int .i64 (k0 + 2 * k + 1))
      rw [cmps_set2 _ _ _ (by simpa using hkx)] at s2
      have S1 := Lib.hid s1; clear s1
      have S2 := Lib.hid s2; clear s2
      have G := Lib.hid hg; clear hg
      go_wp2_with fail
      go_roundw
      case rel =>
        refine ⟨k + 1, _, by omega, by go_num, by go_num, ?_, ?_, S2.out.1, (G.out.trans S1.out.2).trans S2.out.2⟩
        · simp [HX.out]
        · simp only [List.getElem_set_self, List.set_set]
          have e := cmarks_get (k := k0) hlt
          rw [← e]
          exact set_take_succ (by rw [HX.out, cmarks_length]) HP.out (by simpa using hlt)
      case measure => simp [intOf]; omega
    · go_wp2_with fail
      go_ret
      refine ⟨reti (by omega), ?_, hg⟩
      rwa [take_all_eq (by rw [HX.out, cmarks_length]) (by rw [cmarks_length]; omega) HP.out] at hown
set_option maxRecDepth 100000 in
set_option maxHeartbeats 800000 in
theorem heldComparatorS_any (A : Option Addr) (n c : Nat) (k0 : Int) (w : World) (hl : n ≤ 1048576) (h0 : 0 ≤ k0) (h1 : k0 ≤ 1099511627776)
    (hx : Reads w w.heap.size 2 A n (cmps (cmarks k0 n))) :
    Calls Tryd.prog 32 #[.slice A n c, .int .i64 k0] w fun e w' => e = .returned (.int .i64 (k0 + 2 * n)) ∧ w = w' := by
  go_enter Tryd.func32, Tryd.ntmps32
  go_wp2_with fail
  go_loop [1, 5] (fun kv i => ∃ (k : Nat), k ≤ n ∧ i = .int .i64 k ∧ kv = .int .i64 (k0 + 2 * k)) (fun _ i => n - (intOf i).toNat)
  case atStart => exact ⟨0, by omega, rfl, by simp⟩
  case round =>
    obtain ⟨k, hk, rfl, rfl⟩ := hrel
    by_cases hlt : k < n
    · have hx' : Reads w w.heap.size 2 A (cmarks k0 n).length (cmps (cmarks k0 n)) := by rw [cmarks_length]; exact hx
      obtain ⟨ad, rfl, -, c1, c2⟩ := hx'.cmp (k := k) (by simpa using hlt)
      rw [cmarks_get hlt] at c1 c2
      dsimp only at c1 c2
      clear hx'
      go_wp2_with fail
      go_round
      case rel => exact ⟨k + 1, by omega, by go_num, by go_num⟩
      case measure => simp [intOf]; omega
    · go_wp2_with fail
      go_ret
      exact ⟨reti (by omega), rfl⟩
end Go.Proofs.YtfpojoabfdiadaaDoor
