/- Lists of integers and of truth values: comparing, marking and holding them. -/
import Derived.Test.YtfpojoabfdiadaaCore
namespace Go.Proofs.Ytfpojoabfdiadaa
open Go.RowKit
set_option linter.unusedVariables false
theorem eqIntS_b (A B : Option Addr) (xs ys : List Int) (c d : Nat) (w : World) (hx : Reads w w.heap.size 1 A xs.length (ints xs)) (hy : Reads w w.heap.size 1 B ys.length (ints ys))
    (hl : xs.length ≤ 1099511627776) (hl' : ys.length ≤ 1099511627776) :
    Calls Try.prog 9 #[.slice A xs.length c, .slice B ys.length d] w fun e w' => e = .returned (.bool (decide (xs = ys))) ∧ Below w.heap.size w w' :=
  (eqIntS_any A B xs ys c d w hx hy hl hl').mono fun e w' h => ⟨h.1, below_of_drewN h.2⟩
def imarks (k : Int) (n : Nat) : List Int := (List.range n).map fun i : Nat => k + i
@[simp] theorem imarks_length (k : Int) (n : Nat) : (imarks k n).length = n := by simp [imarks]
theorem imarks_get {k : Int} {n i : Nat} (h : i < n) : (imarks k n)[i]'(by simpa using h) = k + i := by simp [imarks]
def bmarks (k : Int) (n : Nat) : List Bool := (List.range n).map fun i : Nat => (k + i) % 3 == 0
@[simp] theorem bmarks_length (k : Int) (n : Nat) : (bmarks k n).length = n := by simp [bmarks]
theorem bmarks_get {k : Int} {n i : Nat} (h : i < n) : (bmarks k n)[i]'(by simpa using h) = ((k + i) % 3 == 0) := by simp [bmarks]
/-- the cells of a list of truth values -/
def bools (zs : List Bool) : List Value := zs.map Value.bool
@[simp] theorem bools_length (zs : List Bool) : (bools zs).length = zs.length := by simp [bools]
theorem bools_get {zs : List Bool} {k : Nat} (h : k < zs.length) : (bools zs)[k]? = some (.bool zs[k]) := by simp [bools, h]
theorem Reads.tv {w : World} {B : Nat} {A : Option Addr} {zs : List Bool} {k : Nat} (h : Reads w B 1 A zs.length (bools zs)) (hk : k < zs.length) :
    ∃ ad, A = some ad ∧ ad.block < B ∧ w.cell? (ad.add k) = some (.bool zs[k]) := by
  obtain ⟨ad, u, rfl, hb, hx, hc⟩ := h.at_ hk
  rw [bools_get hk] at hx; cases hx
  exact ⟨ad, rfl, hb, hc⟩
theorem bools_set (zs : List Bool) (k : Nat) (z : Bool) : (bools zs).set k (.bool z) = bools (zs.set k z) := by simp [bools, List.map_set]
set_option maxRecDepth 100000 in
set_option maxHeartbeats 800000 in
theorem markIntS_b (B : Nat) (A : Option Addr) (cs : List Int) (c : Nat) (k0 : Int) (w : World) (hl : cs.length ≤ 1048576) (h0 : 0 ≤ k0) (h1 : k0 ≤ 1099511627776)
    (hown : w.ownsRow B 3 1 (.slice A cs.length c) cs.length (ints cs)) :
    Calls Try.prog 10 #[.slice A cs.length c, .int .i64 k0] w fun e w' => e = .returned (.int .i64 (k0 + cs.length)) ∧
      w'.ownsRow B 3 1 (.slice A cs.length c) cs.length (ints (imarks k0 cs.length)) ∧ w.grownBy w' (Value.slice A cs.length c).ownBlock := by
  go_enter Try.func10, Try.ntmps10
  go_wp2_with fail
  go_loopw [1, 5] (fun kv i wr => ∃ (k : Nat) (xs : List Int), k ≤ cs.length ∧ i = .int .i64 k ∧ kv = .int .i64 (k0 + k) ∧ xs.length = cs.length ∧ xs.take k = (imarks k0 cs.length).take k ∧
      wr.ownsRow B 3 1 (.slice A cs.length c) cs.length (ints xs) ∧ w.grownBy wr (Value.slice A cs.length c).ownBlock) (fun _ i _ => cs.length - (intOf i).toNat)
  case atStart => exact ⟨0, cs, by omega, rfl, by simp, rfl, by simp, hown, World.grownBy.refl _ _⟩
  case round =>
    obtain ⟨k, xs, hk, rfl, rfl, hlx, hpre, hown, hg⟩ := hrel
    have HX := Lib.hid hlx; clear hlx
    have HP := Lib.hid hpre; clear hpre
    by_cases hlt : k < cs.length
    · obtain ⟨g, rfl, hBg, hgl⟩ := own_at hown (by omega)
      have hkx : k < xs.length := by rw [HX.out]; exact hlt
      have c1 := hown.cellAt k (by omega)
      rw [ints_get hkx] at c1
      have f1 := hown.frozenAt k
      have s1 := hown.stored k (.int .i64 (k0 + k))
      rw [ints_set] at s1
      have S1 := Lib.hid s1; clear s1
      have G := Lib.hid hg; clear hg
      go_wp2_with fail
      go_roundw
      case rel =>
        refine ⟨k + 1, _, by omega, by go_num, by go_num, ?_, ?_, S1.out.1, G.out.trans S1.out.2⟩
        · simp [HX.out]
        · have e := imarks_get (k := k0) hlt
          rw [← e]
          exact set_take_succ (by rw [HX.out, imarks_length]) HP.out (by simpa using hlt)
      case measure => simp [intOf]; omega
    · go_wp2_with fail
      go_ret
      refine ⟨reti (by omega), ?_, hg⟩
      rwa [take_all_eq (by rw [HX.out, imarks_length]) (by rw [imarks_length]; omega) HP.out] at hown
set_option maxRecDepth 100000 in
set_option maxHeartbeats 800000 in
theorem heldIntS_b (A : Option Addr) (n c : Nat) (k0 : Int) (w : World) (hl : n ≤ 1048576) (h0 : 0 ≤ k0) (h1 : k0 ≤ 1099511627776)
    (hx : Reads w w.heap.size 1 A n (ints (imarks k0 n))) :
    Calls Try.prog 11 #[.slice A n c, .int .i64 k0] w fun e w' => e = .returned (.int .i64 (k0 + n)) ∧ Below w.heap.size w w' := by
  have hx' : Reads w w.heap.size 1 A (imarks k0 n).length (ints (imarks k0 n)) := by rw [imarks_length]; exact hx
  have HX := Lib.hid hx'; clear hx'
  go_enter Try.func11, Try.ntmps11
  go_wp2_with fail
  go_loopw [1, 5] (fun kv i wr => ∃ (k nd : Nat), k ≤ n ∧ i = .int .i64 k ∧ kv = .int .i64 (k0 + k) ∧ wr = w.drewN nd) (fun _ i _ => n - (intOf i).toNat)
  case atStart => exact ⟨0, 0, by omega, rfl, by simp, rfl⟩
  case round =>
    obtain ⟨k, nd, hk, rfl, rfl, rfl⟩ := hrel
    by_cases hlt : k < n
    · obtain ⟨ad, rfl, -, c1⟩ := HX.out.int (k := k) (by simpa using hlt)
      rw [imarks_get hlt] at c1
      have e1 : ((k0 + k : Int) != (k0 + k)) = false := by simp
      go_wp2_with fail
      go_roundw
      case rel => exact ⟨k + 1, nd, by omega, by go_num, by go_num, rfl⟩
      case measure => simp [intOf]; omega
    · go_wp2_with fail
      go_ret
      exact ⟨reti (by omega), below_drewN (Below.refl _ _) nd⟩
end Go.Proofs.Ytfpojoabfdiadaa
