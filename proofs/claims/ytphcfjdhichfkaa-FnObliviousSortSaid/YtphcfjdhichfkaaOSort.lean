/- ObliviousSort: the odd-even network's comparators and the sorted list. -/
import Derived.Test.YtphcfjdhichfkaaSortI
import Derived.Test.YtphcfjdhichfkaaOddZ
import Derived.Test.YtphcfjdhichfkaaBuildOddEven
import Derived.Test.YtphcfjdhichfkaaHold
namespace Go.Proofs.Ytphcfjdhichfkaa
open Go.RowKit
set_option linter.unusedVariables false
def osV (zs : List Int) : List Int := if vList zs then srt zs else []
def osT (zs : List Int) : List (Int × Int) := if vList zs then oddEvenL zs.length else []
theorem os_len (zs : List Int) : (osV zs).length ≤ 64 ∧ (osT zs).length ≤ 4096 := by
  cases h : vList zs
  · simp [osV, osT, h]
  · have h64 : zs.length ≤ 64 := by simp [vList] at h; exact h.1
    simp only [osV, osT, h, if_true, srt_len]
    exact ⟨h64, oddEvenL_len _ h64⟩
set_option maxRecDepth 100000 in
set_option maxHeartbeats 1600000 in
theorem ObliviousSort_any (A0 : Option Addr) (z0 : List Int) (c0 : Nat) (w : World) (hx0 : Reads w w.heap.size 1 A0 z0.length (ints z0)) (hl0 : z0.length ≤ 1048576) :
    Calls Try.prog 24 #[.slice A0 z0.length c0] w fun e w' => ∃ A c A' c', e = .returned (.tuple #[.slice A (osV z0).length c, .slice A' (osT z0).length c', .bool (vList z0)]) ∧
      w'.ownsRow w.heap.size 3 1 (.slice A (osV z0).length c) (osV z0).length (ints (osV z0)) ∧
      w'.ownsRow w.heap.size 37 2 (.slice A' (osT z0).length c') (osT z0).length (cmps (osT z0)) ∧ Below w.heap.size w w' := by
  cases hv : vList z0
  · rw [show osV z0 = [] from by simp [osV, hv], show osT z0 = [] from by simp [osT, hv]]
    go_enter Try.func24, Try.ntmps24
    go_wp2_with (go_at_call 38; refine (IsValidList_any A0 z0 c0 _ hx0 (by omega)).mono ?_; rintro e w1 ⟨rfl, hb1⟩; rw [hv])
    exact bodyPost_ret (v := .tuple #[.slice none 0 0, .slice none 0 0, .bool false]) (by simp [results, Try.results24, go_sem]) rfl ⟨none, 0, none, 0, rfl, World.ownsRow_nil _ _ _ _, World.ownsRow_nil _ _ _ _, hb1⟩
  · have h64 : z0.length ≤ 64 := by simp [vList] at hv; exact hv.1
    rw [show osV z0 = srt z0 from by simp [osV, hv], show osT z0 = oddEvenL z0.length from by simp [osT, hv], srt_len]
    go_enter Try.func24, Try.ntmps24
    go_wp2_with (go_at_call 38; refine (IsValidList_any A0 z0 c0 _ hx0 (by omega)).mono ?_; rintro e w1 ⟨rfl, hb1⟩; rw [hv])
    have hN : NetAt ((w1.alloc (.cells #[] 37)).alloc (.cells #[.int .i64 (z0.length : Int), .slice (some ⟨w1.heap.size, 0, none⟩) 0 0] 41)) w.heap.size (w1.heap.size + 1) z0.length [] := by
      have hs := hb1.size
      refine ⟨.slice (some ⟨w1.heap.size, 0, none⟩) 0 0, ?_, ?_, by omega⟩
      · have := Blk.new (w1.alloc (.cells #[] 37)) 41 #[.int .i64 (z0.length : Int), .slice (some ⟨w1.heap.size, 0, none⟩) 0 0]
        simpa using this
      · have := World.ownsRow_made (base := w.heap.size) (size := 2) (e := 37) w1 #[] 0 (by omega) (by simp) (by simp)
        exact this.alloc _
    have hbN := alloc_ (alloc_ hb1 (.cells #[] 37)) (.cells #[.int .i64 (z0.length : Int), .slice (some ⟨w1.heap.size, 0, none⟩) 0 0] 41)
    refine (oddEvenZ_any w.heap.size (w1.heap.size + 1) z0.length _ (by exact hN) (by omega)).mono ?_
    rintro e w2 ⟨rfl, hN2, hb2⟩
    have hb2 := Below.trans hbN hb2
    clear hN hbN
    obtain ⟨v, hbl, how, hP⟩ := hN2
    obtain ⟨A', c', rfl⟩ := own_slice how
    have q0 := hbl.two
    have q0l := hbl.lt
    go_wp2_with fail
    go_region_held3 (fun w' => w'.cell? ⟨w1.heap.size + 1, 0, none⟩ = some (.int .i64 (z0.length : Int)) ∧ w'.cell? ⟨w1.heap.size + 1, 1, none⟩ = some (.slice A' (oddEvenL z0.length).length c')) (first | go_keep | (go_split_ands; refine ⟨?_, ?_⟩ <;> (rw [Below.cell b3 (by simp; omega)]; assumption))) ((go_at_call 56; refine (sorted_any A0 z0 c0 _ (by exact ((hx0.below hb2).more hb2.size)) (by omega)).mono ?_; rintro e w3 ⟨v3, rfl, o3, b3⟩; obtain ⟨A3, c3, rfl⟩ := own_slice o3))
    have b3 := undrew b3
    go_wp2_with fail
    exact bodyPost_ret (v := .tuple #[.slice A3 z0.length c3, .slice A' (oddEvenL z0.length).length c', .bool true]) (by simp [results, Try.results24, go_sem]) rfl ⟨A3, c3, A', c', rfl, own_base o3 (by simpa using hb2.size), own_below how b3 (Nat.le_refl _), bthen hb2 b3⟩
end Go.Proofs.Ytphcfjdhichfkaa
