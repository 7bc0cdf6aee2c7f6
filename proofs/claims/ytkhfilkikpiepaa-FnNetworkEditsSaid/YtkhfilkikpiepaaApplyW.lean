/- ApplyNetwork: the program's and the reference's function. -/
import Derived.Test.YtkhfilkikpiepaaApply
namespace Go.Proofs.Ytkhfilkikpiepaa
open Go.RowKit
set_option linter.unusedVariables false
def apOk (W : Int) (cs : List (Int × Int)) (zs : List Int) : Bool := netOk W cs && (vList zs && decide ((zs.length : Int) = W))
def apV (W : Int) (cs : List (Int × Int)) (zs : List Int) : List Int := if apOk W cs zs then netRun cs zs else []
theorem vList_len' {zs : List Int} (h : vList zs = true) : zs.length ≤ 64 := by simp [vList] at h; exact h.1
theorem apOk_iff {W : Int} {cs : List (Int × Int)} {zs : List Int} (h : apOk W cs zs = true) : netOk W cs = true ∧ vList zs = true ∧ (zs.length : Int) = W := by simpa [apOk] using h
theorem ap_len (W : Int) (cs : List (Int × Int)) (zs : List Int) : (apV W cs zs).length ≤ 64 := by
  unfold apV
  split
  · rename_i h; rw [netRun_len]; exact vList_len' (apOk_iff h).2.1
  · simp
set_option maxRecDepth 100000 in
set_option maxHeartbeats 1600000 in
theorem ApplyNetwork_any (W : Int) (A : Option Addr) (cs : List (Int × Int)) (c : Nat) (D : Option Addr) (zs : List Int) (d : Nat) (w : World) (hx : Reads w w.heap.size 2 A cs.length (cmps cs)) (hl : cs.length ≤ 1099511627776)
    (hx1 : Reads w w.heap.size 1 D zs.length (ints zs)) (hl1 : zs.length ≤ 1099511627776) :
    Calls Try.prog 16 #[.agg #[.int .i64 W, .slice A cs.length c], .slice D zs.length d] w fun e w' => ∃ A c, e = .returned (.tuple #[.slice A (apV W cs zs).length c, .bool (apOk W cs zs)]) ∧
      w'.ownsRow w.heap.size 3 1 (.slice A (apV W cs zs).length c) (apV W cs zs).length (ints (apV W cs zs)) ∧ Below w.heap.size w w' := by
  have hb0 : Below w.heap.size w (w.alloc (.cells #[.int .i64 W, .slice A cs.length c] 28)) := by go_grown
  cases hok : apOk W cs zs
  · rw [show apV W cs zs = [] from by simp [apV, hok]]
    cases h : netOk W cs
    · clear hok
      go_enter Try.func16, Try.ntmps16
      go_wp2_with fail
      refine (IsValidNetwork_any W A cs c _ ((hx.below hb0).more hb0.size) hl).mono ?_
      rintro e w1 ⟨rfl, hb1⟩
      obtain ⟨B1, k1⟩ := step_box hb1
      go_wp2_with fail
      refine bodyPost_ret (v := .tuple #[.slice none 0 0, .bool false]) (by simp [results, Try.results16, go_sem]) rfl ⟨none, 0, rfl, World.ownsRow_nil _ _ _ _, B1⟩
    · cases hv : vList zs
      · clear hok
        go_enter Try.func16, Try.ntmps16
        go_wp2_with fail
        refine (IsValidNetwork_any W A cs c _ ((hx.below hb0).more hb0.size) hl).mono ?_
        rintro e w1 ⟨rfl, hb1⟩
        obtain ⟨B1, k1⟩ := step_box hb1
        obtain ⟨x0, x1⟩ := k1.two
        go_wp2_with fail
        refine (IsValidList_any D zs d _ ((hx1.below B1).more B1.size) hl1).mono ?_
        rintro e w2 ⟨rfl, hb2⟩
        have B2 := bthen B1 hb2
        have k2 := Blk.below_ k1 hb2
        obtain ⟨y0, y1⟩ := k2.two
        have yl := k2.lt
        go_wp2_with fail
        refine bodyPost_ret (v := .tuple #[.slice none 0 0, .bool false]) (by simp [results, Try.results16, go_sem]) rfl ⟨none, 0, rfl, World.ownsRow_nil _ _ _ _, B2⟩
      · have hd : ((zs.length : Int) != W) = true := by simpa [apOk, h, hv] using hok
        clear hok
        go_enter Try.func16, Try.ntmps16
        go_wp2_with fail
        refine (IsValidNetwork_any W A cs c _ ((hx.below hb0).more hb0.size) hl).mono ?_
        rintro e w1 ⟨rfl, hb1⟩
        obtain ⟨B1, k1⟩ := step_box hb1
        obtain ⟨x0, x1⟩ := k1.two
        go_wp2_with fail
        refine (IsValidList_any D zs d _ ((hx1.below B1).more B1.size) hl1).mono ?_
        rintro e w2 ⟨rfl, hb2⟩
        have B2 := bthen B1 hb2
        have k2 := Blk.below_ k1 hb2
        obtain ⟨y0, y1⟩ := k2.two
        have yl := k2.lt
        go_wp2_with fail
        refine bodyPost_ret (v := .tuple #[.slice none 0 0, .bool false]) (by simp [results, Try.results16, go_sem]) rfl ⟨none, 0, rfl, World.ownsRow_nil _ _ _ _, B2⟩
  · obtain ⟨h, hv, hle⟩ := apOk_iff hok
    have hd : ((zs.length : Int) != W) = false := by simpa using hle
    have h64 := vList_len' hv
    rw [show apV W cs zs = netRun cs zs from by simp [apV, hok]]
    clear hok
    have hle' : zs.length = W.toNat := by omega
    have HL := Lib.hid hle'; clear hle hle'
    go_enter Try.func16, Try.ntmps16
    go_wp2_with fail
    refine (IsValidNetwork_any W A cs c _ ((hx.below hb0).more hb0.size) hl).mono ?_
    rintro e w1 ⟨rfl, hb1⟩
    obtain ⟨B1, k1⟩ := step_box hb1
    obtain ⟨x0, x1⟩ := k1.two
    go_wp2_with fail
    refine (IsValidList_any D zs d _ ((hx1.below B1).more B1.size) hl1).mono ?_
    rintro e w2 ⟨rfl, hb2⟩
    have B2 := bthen B1 hb2
    have k2 := Blk.below_ k1 hb2
    obtain ⟨y0, y1⟩ := k2.two
    have yl := k2.lt
    go_wp2_with fail
    refine (copyInts_any D zs d _ ((hx1.below B2).more B2.size) (by omega)).mono ?_
    rintro e w3 ⟨v3, rfl, own3, hb3⟩
    obtain ⟨G, g, rfl⟩ := own_slice own3
    have B3 := bthen B2 hb3
    have k3 := Blk.below_ k2 hb3
    obtain ⟨z0, z1⟩ := k3.two
    have zl := k3.lt
    go_wp2_with fail
    refine (run_any w2.heap.size W A cs c G zs g _ hb3.size ((hx.below B3).more B2.size) h HL.out own3).mono ?_
    rintro e w4 ⟨rfl, own4, hb4⟩
    have hnl := netRun_len cs zs
    go_wp2_with fail
    refine bodyPost_ret (v := .tuple #[.slice G zs.length g, .bool true]) (by simp [results, Try.results16, go_sem]) rfl ⟨G, g, by rw [netRun_len], ?_, B2.trans ((hb3.trans hb4).mono B2.size)⟩
    rw [netRun_len]
    exact own_base own4 B2.size
end Go.Proofs.Ytkhfilkikpiepaa
