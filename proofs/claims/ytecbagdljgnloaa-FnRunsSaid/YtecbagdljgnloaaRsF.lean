/- ReplacementSelection and RunLengths, both sides. -/
import Derived.Test.YtecbagdljgnloaaRsI
import Derived.Test.YtecbagdljgnloaaRsS
import Derived.Test.YtecbagdljgnloaaBatch
import Derived.Test.YtecbagdljgnloaaNestL
namespace Go.Proofs.Ytecbagdljgnloaa
open Go.RowKit
set_option linter.unusedVariables false
def rpV (zs : List Int) (m : Int) : List (List Int) := if memOk zs m then rsV zs m.toNat else []
def rlV (zs : List Int) (m : Int) : List Int := (rpV zs m).map fun r => (r.length : Int)
theorem memOk_iff {zs : List Int} {m : Int} (h : memOk zs m = true) : vList zs = true ∧ zs.length ≤ 64 ∧ 1 ≤ m ∧ m ≤ 16 := by
  simp only [memOk, Bool.and_eq_true] at h
  refine ⟨h.1, ?_, inB_iff.1 h.2⟩
  have h1 := h.1
  simp [vList] at h1
  exact h1.1
theorem rp_out {zs : List Int} {m : Int} (h : memOk zs m = true) : RsO zs m.toNat (rpV zs m) := by
  have h1 := memOk_iff h
  unfold rpV
  rw [if_pos h]
  exact rsV_out zs (by omega)
theorem runs_le : ∀ (l : List (List Int)), (∀ r ∈ l, 0 < r.length) → l.length ≤ l.flatten.length
  | [], _ => by simp
  | a :: l, h => by
    have h1 := runs_le l fun r hr => h r (List.mem_cons_of_mem _ hr)
    have h2 := h a List.mem_cons_self
    rw [List.flatten_cons, List.length_append, List.length_cons]
    omega
theorem rp_len (zs : List Int) (m : Int) : (rpV zs m).length ≤ 64 ∧ ((rpV zs m).map List.length).sum ≤ 64 := by
  by_cases h : memOk zs m = true
  · have h1 := memOk_iff h
    have h2 := rp_out h
    have h3 := h2.perm.length_eq
    have h4 := runs_le _ fun r hr => (h2.asc_ r hr).2
    rw [List.length_flatten] at h3 h4
    omega
  · unfold rpV
    rw [if_neg h]
    simp
theorem rl_len (zs : List Int) (m : Int) : (rlV zs m).length ≤ 64 := by
  have := (rp_len zs m).1
  simpa [rlV] using this
set_option maxRecDepth 100000 in
set_option maxHeartbeats 1600000 in
theorem ReplacementSelection_any (A0 : Option Addr) (z0 : List Int) (c0 : Nat) (y : Int) (w : World) (hx0 : Reads w w.heap.size 1 A0 z0.length (ints z0)) (hl0 : z0.length ≤ 1048576) (hcap : z0.length ≤ c0) :
    Calls Try.prog 14 #[.slice A0 z0.length c0, .int .i64 y] w fun e w' => ∃ A c, e = .returned (.tuple #[.slice A (rpV z0 y).length c, .bool (memOk z0 y)]) ∧
      OwnsRR w' w.heap.size 22 3 (.slice A (rpV z0 y).length c) (rpV z0 y) ∧ Below w.heap.size w w' := by
  cases hv : memOk z0 y
  · rw [show rpV z0 y = [] from by simp [rpV, hv]]
    go_enter Try.func14, Try.ntmps14
    go_wp2_with (go_at_call 31; refine (isMemory_any A0 z0 c0 y _ hx0 (by omega)).mono ?_; rintro e w1 ⟨rfl, hb1⟩; rw [hv])
    exact bodyPost_ret (v := .tuple #[.slice none 0 0, .bool false]) (by simp [results, Try.results14, go_sem]) rfl ⟨none, 0, rfl, ⟨[], World.ownsRow_nil _ _ _ _, Inner.nil⟩, hb1⟩
  · obtain ⟨-, h64, y1, y2⟩ := memOk_iff hv
    have HV := Lib.hid hv
    obtain ⟨m, rfl⟩ : ∃ m : Nat, y = (m : Int) := ⟨y.toNat, by omega⟩
    have HRV := Lib.hid (show rpV z0 (m : Int) = rsV z0 m from by simp [rpV, hv])
    clear hv
    go_enter Try.func14, Try.ntmps14
    go_wp2_with (go_at_call 31; refine (isMemory_any A0 z0 c0 _ _ hx0 (by omega)).mono ?_; rintro e w1 ⟨rfl, hb1⟩; rw [HV.out])
    have hbA := hb1
    refine (replacement_any A0 z0 z0.length c0 m _ (by exact (hx0.below hbA).more hbA.size) rfl hcap h64 (by omega) (by omega)).mono ?_
    rintro e w2 ⟨v, rfl, ho, hb2⟩
    obtain ⟨A, c, rfl⟩ := ho.slice
    have HO := Lib.hid ho
    clear ho
    go_wp2_with fail
    exact bodyPost_ret (v := .tuple #[.slice A (rsV z0 m).length c, .bool true]) (by simp [results, Try.results14, go_sem]) rfl ⟨A, c, by rw [HRV.out], by rw [HRV.out]; exact HO.out.base' hbA.size, bthen hbA hb2⟩
set_option maxRecDepth 100000 in
set_option maxHeartbeats 1600000 in
theorem RunLengths_any (A0 : Option Addr) (z0 : List Int) (c0 : Nat) (y : Int) (w : World) (hx0 : Reads w w.heap.size 1 A0 z0.length (ints z0)) (hl0 : z0.length ≤ 1048576) (hcap : z0.length ≤ c0) :
    Calls Try.prog 9 #[.slice A0 z0.length c0, .int .i64 y] w fun e w' => ∃ A c, e = .returned (.tuple #[.slice A (rlV z0 y).length c, .bool (memOk z0 y)]) ∧
      w'.ownsRow w.heap.size 3 1 (.slice A (rlV z0 y).length c) (rlV z0 y).length (ints (rlV z0 y)) ∧ Below w.heap.size w w' := by
  cases hv : memOk z0 y
  · rw [show rlV z0 y = [] from by simp [rlV, rpV, hv]]
    go_enter Try.func9, Try.ntmps9
    go_wp2_with (go_at_call 31; refine (isMemory_any A0 z0 c0 y _ hx0 (by omega)).mono ?_; rintro e w1 ⟨rfl, hb1⟩; rw [hv])
    exact bodyPost_ret (v := .tuple #[.slice none 0 0, .bool false]) (by simp [results, Try.results9, go_sem]) rfl ⟨none, 0, rfl, World.ownsRow_nil _ _ _ _, hb1⟩
  · obtain ⟨-, h64, y1, y2⟩ := memOk_iff hv
    have HV := Lib.hid hv
    obtain ⟨m, rfl⟩ : ∃ m : Nat, y = (m : Int) := ⟨y.toNat, by omega⟩
    have HLN := Lib.hid (rp_len z0 (m : Int)).1
    have HRV := Lib.hid (show rpV z0 (m : Int) = rsV z0 m from by simp [rpV, hv])
    clear hv
    obtain ⟨i0, hi, hz0, hz1, hz2⟩ := info_parts (show (Try.prog.info? 3).map (fun i => (i.zero, i.size, i.bytes)) = some (some (.int .i64 0), 1, 8) by kernel_rfl)
    go_enter Try.func9, Try.ntmps9
    go_wp2_with (go_at_call 31; refine (isMemory_any A0 z0 c0 _ _ hx0 (by omega)).mono ?_; rintro e w1 ⟨rfl, hb1⟩; rw [HV.out])
    have hb0 : Below w.heap.size w w1 := hb1
    have hbA := alloc_ hb0 (.cells #[] 3)
    have hoA := made_at (w := w1) (base := w.heap.size) (g := w1.heap.size) (size := 1) (e := 3) hb0.size rfl
    refine (replacement_any A0 z0 z0.length c0 m _ (by exact (hx0.below hbA).more hbA.size) rfl hcap h64 (by omega) (by omega)).mono ?_
    rintro e w3 ⟨v, rfl, ho, hb3⟩
    rw [← HRV.out] at ho
    clear HRV
    obtain ⟨Ar, cr, rfl⟩ := ho.slice
    have hbs1 := hbA.size
    have hRC := OwnsRC.born (base' := (w1.alloc (.cells #[] 3)).heap.size) ho (Nat.le_refl _)
    have hoB := own_below hoA hb3 (Nat.le_refl _)
    have hbB := bthen hbA hb3
    obtain ⟨W3, hW3⟩ : ∃ W3 : World, W3 = w3 := ⟨_, rfl⟩
    have hnew : Hid (∀ g, (Value.slice (some ⟨w1.heap.size, 0, none⟩) 0 0).ownBlock = some g → g < (w1.alloc (.cells #[] 3)).heap.size ∨ W3.heap.size ≤ g) := Lib.hid (fun g hg => by cases hg; exact .inl (by simp))
    obtain ⟨R, hR⟩ : ∃ R, rpV z0 (m : Int) = R := ⟨_, rfl⟩
    have HRL : Hid (rlV z0 (m : Int) = R.map fun r => (r.length : Int)) := Lib.hid (by rw [rlV, hR])
    rw [hR] at hRC HLN ⊢
    have hR64 : R.length ≤ 64 := HLN.out
    obtain ⟨n, hn⟩ : ∃ n, R.length = n := ⟨_, rfl⟩
    rw [hn] at hRC hR64 ⊢
    have HN := Lib.hid hn
    rw [hW3.symm] at hRC hoB hbB
    obtain ⟨S3, hS3⟩ : ∃ S3, (w1.alloc (.cells #[] 3)).heap.size = S3 := ⟨_, rfl⟩
    rw [hS3] at hnew hRC
    clear ho hb3 hoA hbA hn hR hS3
    have HRC := Lib.hid hRC
    have HOB := Lib.hid hoB
    have HBB := Lib.hid hbB
    clear hRC hoB hbB
    subst hW3
    go_wp2_with fail
    go_loopw [6, 18] (fun vo vi wr => ∃ (k : Nat) (Ao : Option Addr) (co : Nat), k ≤ n ∧ vi = .int .i64 (k : Nat) ∧ vo = .slice Ao k co ∧ Hid (wr.ownsRow w.heap.size 3 1 (.slice Ao k co) k (ints ((R.map fun r => (r.length : Int)).take k))) ∧ Hid (∀ g, (Value.slice Ao k co).ownBlock = some g → g < S3 ∨ W3.heap.size ≤ g) ∧ Hid (W3.heap.size ≤ wr.heap.size) ∧ Hid (OwnsRC wr S3 W3.heap.size 22 3 (.slice Ar n cr) R) ∧ Hid (Below w.heap.size w wr)) (fun _ vi _ => n - (intOf vi).toNat)
    case atStart => exact ⟨0, _, _, by omega, rfl, rfl, HOB, hnew, Lib.hid (Nat.le_refl _), HRC, HBB⟩
    case round =>
      clear HOB hnew HRC HBB
      obtain ⟨k, Ao, co, hkn, rfl, rfl, HO, HG, HS, HRC, HB⟩ := hrel
      have hbs := HB.out.size
      by_cases hlt : k < n
      · have kI : (k : Int) < (n : Int) := by omega
        have hkR : k < R.length := by rw [HN.out]; exact hlt
        obtain ⟨ad, Ai, ci, rfl, hc, -⟩ := (ReadsRR.of_rc HRC.out).at_ hkR
        have HT : Hid ((R.map fun r => (r.length : Int)).take (k + 1) = (R.map fun r => (r.length : Int)).take k ++ [(R[k].length : Int)]) := Lib.hid (by rw [List.take_succ_eq_append_getElem (by simpa using hkR)]; simp)
        obtain ⟨x, hx⟩ : ∃ x, R[k].length = x := ⟨_, rfl⟩
        rw [hx] at hc HT
        clear hx hkR
        have ho1 := World.ownsRow.alloc HO.out (.cells #[.int .i64 (x : Nat)] 3)
        have hRC1 := OwnsRC.below HRC.out (alloc_ (Below.refl wr.heap.size wr) (.cells #[.int .i64 (x : Nat)] 3)) (Nat.le_refl _)
        go_wp2_with (at_builtin; go_loud (refine wpList_push' _ rfl _ _ 22 rfl w.heap.size 3 i0 _ 1 8 Try.underlying22 hi hz0 hz1 hz2 rfl (by decide) (.slice Ao k co) _ (ints ((R.map fun r => (r.length : Int)).take k)) rfl ho1 #[.int .i64 (x : Nat)] wr.heap.size rfl (Blk.new _ _ _) rfl (by simp [Value.oneCell']) (by omega) (by unfold maxLen; omega) (Nat.le_trans hbs (by simp)) ?_; intro g5 d5 w5 hown5 hg5 hb5 hat5))
        have HO2 : Hid (w5.ownsRow w.heap.size 3 1 (.slice (some ⟨g5, 0, none⟩) (k + 1) d5) (k + 1) (ints ((R.map fun r => (r.length : Int)).take (k + 1)))) := Lib.hid (by rw [HT.out]; have h9 := hown5; simpa [ints] using h9)
        have hs5 : wr.heap.size ≤ w5.heap.size := Nat.le_trans (by simp) hg5.size
        have HG2 : Hid (∀ g, (Value.slice (some ⟨g5, 0, none⟩) (k + 1) d5).ownBlock = some g → g < S3 ∨ W3.heap.size ≤ g) := Lib.hid (fun g hg => by
          cases hg
          rcases hat5 with h | h
          · exact HG.out _ h
          · exact .inr (Nat.le_trans HS.out (Nat.le_trans (by simp) h)))
        have HS2 : Hid (W3.heap.size ≤ w5.heap.size) := Lib.hid (Nat.le_trans HS.out hs5)
        have HRC2 := Lib.hid (OwnsRC.kept hRC1 hg5 (fun g hg => HG.out g hg))
        have HB2 : Hid (Below w.heap.size w w5) := Lib.hid ((alloc_ HB.out _).trans hb5)
        clear hown5 hg5 hb5 hat5 ho1 hRC1
        go_wp2_with fail
        go_roundw
        case rel => exact ⟨k + 1, _, _, by omega, by go_num, rfl, HO2, HG2, HS2, HRC2, HB2⟩
        case measure => simp [intOf]; omega
      · have kI : ¬ (k : Int) < (n : Int) := by omega
        obtain rfl : n = k := by omega
        have HE : Hid (ints ((R.map fun r => (r.length : Int)).take n) = ints (rlV z0 (m : Int)) ∧ n = (rlV z0 (m : Int)).length) := Lib.hid (by
          rw [HRL.out, List.take_of_length_le (by simp [HN.out])]
          exact ⟨rfl, by simp [HN.out]⟩)
        go_wp2_with fail
        exact bodyPost_ret (v := .tuple #[.slice Ao n co, .bool true]) (by simp [results, Try.results9, go_sem]) rfl ⟨Ao, co, by rw [← HE.out.2], by rw [← HE.out.2, ← HE.out.1]; exact HO.out, HB.out⟩
set_option maxRecDepth 100000 in
set_option maxHeartbeats 1600000 in
theorem sReplacementSelection_any (A0 : Option Addr) (z0 : List Int) (c0 : Nat) (y : Int) (w : World) (hx0 : Reads w w.heap.size 1 A0 z0.length (ints z0)) (hl0 : z0.length ≤ 1048576) (hcap : z0.length ≤ c0) :
    Calls Try.prog 13 #[.slice A0 z0.length c0, .int .i64 y] w fun e w' => ∃ A c, e = .returned (.tuple #[.slice A (rpV z0 y).length c, .bool (memOk z0 y)]) ∧
      OwnsRR w' w.heap.size 22 3 (.slice A (rpV z0 y).length c) (rpV z0 y) ∧ Below w.heap.size w w' := by
  cases hv : memOk z0 y
  · rw [show rpV z0 y = [] from by simp [rpV, hv]]
    go_enter Try.func13, Try.ntmps13
    go_wp2_with (go_at_call 29; refine (l15Good_any A0 z0 c0 y _ hx0 (by omega)).mono ?_; rintro e w1 ⟨rfl, rfl⟩; rw [hv])
    exact bodyPost_ret (v := .tuple #[.slice none 0 0, .bool false]) (by simp [results, Try.results13, go_sem]) rfl ⟨none, 0, rfl, ⟨[], World.ownsRow_nil _ _ _ _, Inner.nil⟩, (Below.refl _ _)⟩
  · obtain ⟨-, h64, y1, y2⟩ := memOk_iff hv
    have HV := Lib.hid hv
    obtain ⟨m, rfl⟩ : ∃ m : Nat, y = (m : Int) := ⟨y.toNat, by omega⟩
    have HRV := Lib.hid (show rpV z0 (m : Int) = rsV z0 m from by simp [rpV, hv])
    clear hv
    go_enter Try.func13, Try.ntmps13
    go_wp2_with (go_at_call 29; refine (l15Good_any A0 z0 c0 _ _ hx0 (by omega)).mono ?_; rintro e w1 ⟨rfl, rfl⟩; rw [HV.out])
    have hbA := Below.refl w.heap.size w
    refine (l15Select_any A0 z0 z0.length c0 m _ (by exact (hx0.below hbA).more hbA.size) rfl h64 (by omega) (by omega)).mono ?_
    rintro e w2 ⟨v, rfl, ho, hb2⟩
    obtain ⟨A, c, rfl⟩ := ho.slice
    have HO := Lib.hid ho
    clear ho
    go_wp2_with fail
    exact bodyPost_ret (v := .tuple #[.slice A (rsV z0 m).length c, .bool true]) (by simp [results, Try.results13, go_sem]) rfl ⟨A, c, by rw [HRV.out], by rw [HRV.out]; exact HO.out.base' hbA.size, bthen hbA hb2⟩
set_option maxRecDepth 100000 in
set_option maxHeartbeats 1600000 in
theorem sRunLengths_any (A0 : Option Addr) (z0 : List Int) (c0 : Nat) (y : Int) (w : World) (hx0 : Reads w w.heap.size 1 A0 z0.length (ints z0)) (hl0 : z0.length ≤ 1048576) (hcap : z0.length ≤ c0) :
    Calls Try.prog 7 #[.slice A0 z0.length c0, .int .i64 y] w fun e w' => ∃ A c, e = .returned (.tuple #[.slice A (rlV z0 y).length c, .bool (memOk z0 y)]) ∧
      w'.ownsRow w.heap.size 3 1 (.slice A (rlV z0 y).length c) (rlV z0 y).length (ints (rlV z0 y)) ∧ Below w.heap.size w w' := by
  cases hv : memOk z0 y
  · rw [show rlV z0 y = [] from by simp [rlV, rpV, hv]]
    go_enter Try.func7, Try.ntmps7
    go_wp2_with (go_at_call 29; refine (l15Good_any A0 z0 c0 y _ hx0 (by omega)).mono ?_; rintro e w1 ⟨rfl, rfl⟩; rw [hv])
    exact bodyPost_ret (v := .tuple #[.slice none 0 0, .bool false]) (by simp [results, Try.results7, go_sem]) rfl ⟨none, 0, rfl, World.ownsRow_nil _ _ _ _, (Below.refl _ _)⟩
  · obtain ⟨-, h64, y1, y2⟩ := memOk_iff hv
    have HV := Lib.hid hv
    obtain ⟨m, rfl⟩ : ∃ m : Nat, y = (m : Int) := ⟨y.toNat, by omega⟩
    have HLN := Lib.hid (rp_len z0 (m : Int)).1
    have HRV := Lib.hid (show rpV z0 (m : Int) = rsV z0 m from by simp [rpV, hv])
    clear hv
    obtain ⟨i0, hi, hz0, hz1, hz2⟩ := info_parts (show (Try.prog.info? 3).map (fun i => (i.zero, i.size, i.bytes)) = some (some (.int .i64 0), 1, 8) by kernel_rfl)
    go_enter Try.func7, Try.ntmps7
    go_wp2_with (go_at_call 29; refine (l15Good_any A0 z0 c0 _ _ hx0 (by omega)).mono ?_; rintro e w1 ⟨rfl, rfl⟩; rw [HV.out])
    have hb0 : Below w.heap.size w w := (Below.refl _ _)
    have hbA := alloc_ hb0 (.cells #[] 3)
    have hoA := made_at (w := w) (base := w.heap.size) (g := w.heap.size) (size := 1) (e := 3) hb0.size rfl
    refine (l15Select_any A0 z0 z0.length c0 m _ (by exact (hx0.below hbA).more hbA.size) rfl h64 (by omega) (by omega)).mono ?_
    rintro e w3 ⟨v, rfl, ho, hb3⟩
    rw [← HRV.out] at ho
    clear HRV
    obtain ⟨Ar, cr, rfl⟩ := ho.slice
    have hbs1 := hbA.size
    have hRC := OwnsRC.born (base' := (w.alloc (.cells #[] 3)).heap.size) ho (Nat.le_refl _)
    have hoB := own_below hoA hb3 (Nat.le_refl _)
    have hbB := bthen hbA hb3
    obtain ⟨W3, hW3⟩ : ∃ W3 : World, W3 = w3 := ⟨_, rfl⟩
    have hnew : Hid (∀ g, (Value.slice (some ⟨w.heap.size, 0, none⟩) 0 0).ownBlock = some g → g < (w.alloc (.cells #[] 3)).heap.size ∨ W3.heap.size ≤ g) := Lib.hid (fun g hg => by cases hg; exact .inl (by simp))
    obtain ⟨R, hR⟩ : ∃ R, rpV z0 (m : Int) = R := ⟨_, rfl⟩
    have HRL : Hid (rlV z0 (m : Int) = R.map fun r => (r.length : Int)) := Lib.hid (by rw [rlV, hR])
    rw [hR] at hRC HLN ⊢
    have hR64 : R.length ≤ 64 := HLN.out
    obtain ⟨n, hn⟩ : ∃ n, R.length = n := ⟨_, rfl⟩
    rw [hn] at hRC hR64 ⊢
    have HN := Lib.hid hn
    rw [hW3.symm] at hRC hoB hbB
    obtain ⟨S3, hS3⟩ : ∃ S3, (w.alloc (.cells #[] 3)).heap.size = S3 := ⟨_, rfl⟩
    rw [hS3] at hnew hRC
    clear ho hb3 hoA hbA hn hR hS3
    have HRC := Lib.hid hRC
    have HOB := Lib.hid hoB
    have HBB := Lib.hid hbB
    clear hRC hoB hbB
    subst hW3
    go_wp2_with fail
    go_loopw [6, 8] (fun vo vi wr => ∃ (k : Nat) (Ao : Option Addr) (co : Nat), k ≤ n ∧ vi = .int .i64 (k : Nat) ∧ vo = .slice Ao k co ∧ Hid (wr.ownsRow w.heap.size 3 1 (.slice Ao k co) k (ints ((R.map fun r => (r.length : Int)).take k))) ∧ Hid (∀ g, (Value.slice Ao k co).ownBlock = some g → g < S3 ∨ W3.heap.size ≤ g) ∧ Hid (W3.heap.size ≤ wr.heap.size) ∧ Hid (OwnsRC wr S3 W3.heap.size 22 3 (.slice Ar n cr) R) ∧ Hid (Below w.heap.size w wr)) (fun _ vi _ => n - (intOf vi).toNat)
    case atStart => exact ⟨0, _, _, by omega, rfl, rfl, HOB, hnew, Lib.hid (Nat.le_refl _), HRC, HBB⟩
    case round =>
      clear HOB hnew HRC HBB
      obtain ⟨k, Ao, co, hkn, rfl, rfl, HO, HG, HS, HRC, HB⟩ := hrel
      have hbs := HB.out.size
      by_cases hlt : k < n
      · have kI : (k : Int) < (n : Int) := by omega
        have hkR : k < R.length := by rw [HN.out]; exact hlt
        obtain ⟨ad, Ai, ci, rfl, hc, -⟩ := (ReadsRR.of_rc HRC.out).at_ hkR
        have HT : Hid ((R.map fun r => (r.length : Int)).take (k + 1) = (R.map fun r => (r.length : Int)).take k ++ [(R[k].length : Int)]) := Lib.hid (by rw [List.take_succ_eq_append_getElem (by simpa using hkR)]; simp)
        obtain ⟨x, hx⟩ : ∃ x, R[k].length = x := ⟨_, rfl⟩
        rw [hx] at hc HT
        clear hx hkR
        have ho1 := World.ownsRow.alloc HO.out (.cells #[.int .i64 (x : Nat)] 3)
        have hRC1 := OwnsRC.below HRC.out (alloc_ (Below.refl wr.heap.size wr) (.cells #[.int .i64 (x : Nat)] 3)) (Nat.le_refl _)
        go_wp2_with (at_builtin; go_loud (refine wpList_push' _ rfl _ _ 22 rfl w.heap.size 3 i0 _ 1 8 Try.underlying22 hi hz0 hz1 hz2 rfl (by decide) (.slice Ao k co) _ (ints ((R.map fun r => (r.length : Int)).take k)) rfl ho1 #[.int .i64 (x : Nat)] wr.heap.size rfl (Blk.new _ _ _) rfl (by simp [Value.oneCell']) (by omega) (by unfold maxLen; omega) (Nat.le_trans hbs (by simp)) ?_; intro g5 d5 w5 hown5 hg5 hb5 hat5))
        have HO2 : Hid (w5.ownsRow w.heap.size 3 1 (.slice (some ⟨g5, 0, none⟩) (k + 1) d5) (k + 1) (ints ((R.map fun r => (r.length : Int)).take (k + 1)))) := Lib.hid (by rw [HT.out]; have h9 := hown5; simpa [ints] using h9)
        have hs5 : wr.heap.size ≤ w5.heap.size := Nat.le_trans (by simp) hg5.size
        have HG2 : Hid (∀ g, (Value.slice (some ⟨g5, 0, none⟩) (k + 1) d5).ownBlock = some g → g < S3 ∨ W3.heap.size ≤ g) := Lib.hid (fun g hg => by
          cases hg
          rcases hat5 with h | h
          · exact HG.out _ h
          · exact .inr (Nat.le_trans HS.out (Nat.le_trans (by simp) h)))
        have HS2 : Hid (W3.heap.size ≤ w5.heap.size) := Lib.hid (Nat.le_trans HS.out hs5)
        have HRC2 := Lib.hid (OwnsRC.kept hRC1 hg5 (fun g hg => HG.out g hg))
        have HB2 : Hid (Below w.heap.size w w5) := Lib.hid ((alloc_ HB.out _).trans hb5)
        clear hown5 hg5 hb5 hat5 ho1 hRC1
        go_wp2_with fail
        go_roundw
        case rel => exact ⟨k + 1, _, _, by omega, by go_num, rfl, HO2, HG2, HS2, HRC2, HB2⟩
        case measure => simp [intOf]; omega
      · have kI : ¬ (k : Int) < (n : Int) := by omega
        obtain rfl : n = k := by omega
        have HE : Hid (ints ((R.map fun r => (r.length : Int)).take n) = ints (rlV z0 (m : Int)) ∧ n = (rlV z0 (m : Int)).length) := Lib.hid (by
          rw [HRL.out, List.take_of_length_le (by simp [HN.out])]
          exact ⟨rfl, by simp [HN.out]⟩)
        go_wp2_with fail
        exact bodyPost_ret (v := .tuple #[.slice Ao n co, .bool true]) (by simp [results, Try.results7, go_sem]) rfl ⟨Ao, co, by rw [← HE.out.2], by rw [← HE.out.2, ← HE.out.1]; exact HO.out, HB.out⟩
end Go.Proofs.Ytecbagdljgnloaa
