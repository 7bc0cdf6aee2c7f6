/- ScanSelect: the program's and the reference's. -/
import Derived.Test.YthmgoeafecpgeaaCore
namespace Go.Proofs.Ythmgoeafecpgeaa
open Go.RowKit
set_option linter.unusedVariables false

def scanOk (zs : List Int) (i : Int) : Bool := vList zs && inB i 0 (zs.length - 1)
def scanV (zs : List Int) (i : Int) : Int := if scanOk zs i then zs[i.toNat]?.getD 0 else 0
def scanN (zs : List Int) (i : Int) : Int := if scanOk zs i then zs.length else 0
theorem ret3_eq {a b c d : Int} {x y : Bool} (h : a = b) (h' : c = d) (h'' : x = y) : Ending.returned (.tuple #[.int .i64 a, .int .i64 c, .bool x]) = .returned (.tuple #[.int .i64 b, .int .i64 d, .bool y]) := by rw [h, h', h'']
theorem vList_len {zs : List Int} (h : vList zs = true) : zs.length ≤ 64 := by simp [vList] at h; exact h.1
set_option maxHeartbeats 400000 in
theorem ScanSelect_any (A : Option Addr) (zs : List Int) (c : Nat) (i : Int) (w : World) (hx : Reads w w.heap.size 1 A zs.length (ints zs)) (hl : zs.length ≤ 1099511627776) (h0 : -9223372036854775808 ≤ i) (h1 : i ≤ 9223372036854775807) :
    Calls Try.prog 19 #[.slice A zs.length c, .int .i64 i] w fun e w' =>
      e = .returned (.tuple #[.int .i64 (scanV zs i), .int .i64 (scanN zs i), .bool (scanOk zs i)]) ∧ Below w.heap.size w w' := by
  cases g1 : vList zs
  · go_enter Try.func19, Try.ntmps19
    go_wp2_with fail
    refine (IsValidList_any A zs c _ hx hl).mono ?_
    rintro e w1 ⟨rfl, hb1⟩
    go_wp2_with fail
    go_ret3
    exact ⟨ret3_eq (by simp [scanV, scanOk, g1]) (by simp [scanN, scanOk, g1]) (by simp [scanOk, g1]), hb1⟩
  have hlen := vList_len g1
  cases g2 : inB i 0 (zs.length - 1)
  · go_enter Try.func19, Try.ntmps19
    go_wp2_with fail
    refine (IsValidList_any A zs c _ hx hl).mono ?_
    rintro e w1 ⟨rfl, hb1⟩
    go_wp2_with (go_at_call 23; refine (in_any _ _ _ _).mono ?_; rintro e w' ⟨rfl, rfl⟩)
    go_ret3
    exact ⟨ret3_eq (by simp [scanV, scanOk, g1, g2]) (by simp [scanN, scanOk, g1, g2]) (by simp [scanOk, g1, g2]), hb1⟩
  · have ⟨k1, k2⟩ := inB_iff.1 g2
    obtain ⟨k, rfl⟩ := Int.eq_ofNat_of_zero_le k1
    have hk : k < zs.length := by omega
    obtain ⟨ad, rfl, hbad, hc⟩ := hx.int hk
    go_enter Try.func19, Try.ntmps19
    go_wp2_with fail
    refine (IsValidList_any (some ad) zs c _ hx hl).mono ?_
    rintro e w1 ⟨rfl, hb1⟩
    have hc1 : w1.cell? (ad.add k) = some (.int .i64 zs[k]) := (hb1.cell (by rw [block_of_add]; exact hbad)).trans hc
    go_wp2_with (go_at_call 23; refine (in_any _ _ _ _).mono ?_; rintro e w' ⟨rfl, rfl⟩)
    go_ret3
    exact ⟨ret3_eq (by simp [scanV, scanOk, g1, g2, hk]) (by simp [scanN, scanOk, g1, g2]) (by simp [scanOk, g1, g2]), hb1⟩
set_option maxHeartbeats 400000 in
theorem sScanSelect_any (A : Option Addr) (zs : List Int) (c : Nat) (i : Int) (w : World) (hx : Reads w w.heap.size 1 A zs.length (ints zs)) (hl : zs.length ≤ 1099511627776) (h0 : -9223372036854775808 ≤ i) (h1 : i ≤ 9223372036854775807) :
    Calls Try.prog 17 #[.slice A zs.length c, .int .i64 i] w fun e w' =>
      e = .returned (.tuple #[.int .i64 (scanV zs i), .int .i64 (scanN zs i), .bool (scanOk zs i)]) ∧ w = w' := by
  cases g1 : vList zs
  · go_enter Try.func17, Try.ntmps17
    go_wp2_with (go_at_call 30; refine (l2List_any A zs c _ hx hl).mono ?_; rintro e w1 ⟨rfl, rfl⟩)
    go_ret3
    exact ⟨ret3_eq (by simp [scanV, scanOk, g1]) (by simp [scanN, scanOk, g1]) (by simp [scanOk, g1]), rfl⟩
  have hlen := vList_len g1
  cases g2 : inB i 0 (zs.length - 1)
  · go_enter Try.func17, Try.ntmps17
    go_wp2_with (first | (go_at_call 30; refine (l2List_any A zs c _ hx hl).mono ?_; rintro e w1 ⟨rfl, rfl⟩) | (go_at_call 21; refine (l1In_any _ _ _ _).mono ?_; rintro e w' ⟨rfl, rfl⟩))
    go_ret3
    exact ⟨ret3_eq (by simp [scanV, scanOk, g1, g2]) (by simp [scanN, scanOk, g1, g2]) (by simp [scanOk, g1, g2]), rfl⟩
  · have ⟨k1, k2⟩ := inB_iff.1 g2
    obtain ⟨k, rfl⟩ := Int.eq_ofNat_of_zero_le k1
    have hk : k < zs.length := by omega
    obtain ⟨ad, rfl, hbad, hc⟩ := hx.int hk
    go_enter Try.func17, Try.ntmps17
    go_wp2_with (first | (go_at_call 30; refine (l2List_any (some ad) zs c _ hx hl).mono ?_; rintro e w1 ⟨rfl, rfl⟩) | (go_at_call 21; refine (l1In_any _ _ _ _).mono ?_; rintro e w' ⟨rfl, rfl⟩))
    go_ret3
    exact ⟨ret3_eq (by simp [scanV, scanOk, g1, g2, hk]) (by simp [scanN, scanOk, g1, g2]) (by simp [scanOk, g1, g2]), rfl⟩
set_option maxHeartbeats 400000 in
theorem FnExactScanSelect_any (A : Option Addr) (zs : List Int) (c : Nat) (i : Int) (w : World) (hx : Reads w w.heap.size 1 A zs.length (ints zs)) (hm : zs.length ≤ maxLen) (h0 : -9223372036854775808 ≤ i) (h1 : i ≤ 9223372036854775807) :
    Calls Try.prog 7 #[.slice A zs.length c, .int .i64 i] w fun e w' => e = .returned (.bool true) ∧ Below w.heap.size w w' := by
  unfold maxLen at hm
  by_cases hl : zs.length ≤ 1048576
  case neg =>
    have hl' : (1048576 : Int) < zs.length := by omega
    go_enter Try.func7, Try.ntmps7
    go_wp2_with fail
    go_ret
    exact ⟨rfl, Below.refl _ _⟩
  have hl' : ¬ (1048576 : Int) < zs.length := by omega
  have e1 : ∀ x : Int, (x != x) = false := by simp
  have e2 : ∀ x : Bool, (x != x) = false := by simp
  go_enter Try.func7, Try.ntmps7
  go_wp2_with fail
  refine (toIntS_any A zs c _ hx (by omega)).mono ?_
  rintro e w1 ⟨g, rfl, hown, hb1⟩
  have hr := Reads.of_own hown
  go_wp2_with fail
  refine (sScanSelect_any _ zs _ i _ hr (by omega) h0 h1).mono ?_
  rintro e w2 ⟨rfl, rfl⟩
  go_wp2_with fail
  refine (toIntS_any A zs c _ ((hx.below hb1).more hb1.size) (by omega)).mono ?_
  rintro e w2 ⟨g2, rfl, hown2, hb2⟩
  have hb2' := bthen hb1 hb2
  go_wp2_with fail
  refine (ScanSelect_any _ zs _ i _ (Reads.of_own hown2) (by omega) h0 h1).mono ?_
  rintro e w3 ⟨rfl, hb3⟩
  have hb3' := bthen hb2' hb3
  go_wp2_with fail
  refine (toIntS_any A zs c _ ((hx.below hb3').more hb3'.size) (by omega)).mono ?_
  rintro e w4 ⟨g4, rfl, hown4, hb4⟩
  have hb4' := bthen hb3' hb4
  go_wp2_with fail
  refine (eqIntS_any _ _ zs zs _ _ _ ((((Reads.of_own hown2).below hb3).more hb3.size).below hb4 |>.more hb4.size) (Reads.of_own hown4) (by omega) (by omega)).mono ?_
  rintro e w5 ⟨rfl, hn⟩
  have hb5 := bthen hb4' (below_of_drewN hn)
  have hd : decide (zs = zs) = true := by simp
  go_wp2_with fail
  go_ret
  exact ⟨rfl, hb5⟩
end Go.Proofs.Ythmgoeafecpgeaa
