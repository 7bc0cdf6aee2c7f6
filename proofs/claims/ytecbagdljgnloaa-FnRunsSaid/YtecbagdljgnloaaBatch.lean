/- BatchRuns, and the check of a list and a memory. -/
import Derived.Test.YtecbagdljgnloaaNest
import Derived.Test.YtecbagdljgnloaaSortI
namespace Go.Proofs.Ytecbagdljgnloaa
open Go.RowKit
set_option linter.unusedVariables false
def memOk (zs : List Int) (m : Int) : Bool := vList zs && inB m 1 16
/-- the sorted batches from place k on -/
def btF (zs : List Int) (m : Nat) : Nat → Nat → List (List Int)
  | 0, _ => []
  | f + 1, k => if k < zs.length then srt ((zs.drop k).take m) :: btF zs m f (k + m) else []
theorem btF_step {zs : List Int} {m f k : Nat} (h : k < zs.length) : btF zs m (f + 1) k = srt ((zs.drop k).take m) :: btF zs m f (k + m) := by simp [btF, h]
theorem btF_stop {zs : List Int} {m f k : Nat} (h : ¬ k < zs.length) : btF zs m f k = [] := by cases f <;> simp [btF, h]
theorem btF_len {zs : List Int} {m : Nat} (hm : 0 < m) : ∀ (f k : Nat), (btF zs m f k).length ≤ f ∧ ((btF zs m f k).map List.length).sum ≤ zs.length - k
  | 0, k => by simp [btF]
  | f + 1, k => by
    by_cases h : k < zs.length
    · have ih := btF_len (zs := zs) hm f (k + m)
      rw [btF_step h]
      simp [srt_len]
      omega
    · rw [btF_stop h]; simp
def btV (zs : List Int) (m : Int) : List (List Int) := if memOk zs m then btF zs m.toNat 64 0 else []
theorem bt_len (zs : List Int) (m : Int) : (btV zs m).length ≤ 64 ∧ ((btV zs m).map List.length).sum ≤ 64 := by
  unfold btV
  split
  · rename_i h
    simp [memOk, vList] at h
    have h1 := (inB_iff.1 h.2).1
    have := btF_len (zs := zs) (m := m.toNat) (by omega) 64 0
    omega
  · simp
theorem reads_part {w : World} {B n k m : Nat} {ad : Addr} {zs : List Int} (h : Reads w B 1 (some ad) n (ints zs)) (hn : zs.length = n) (hk : k < n) (hm : m ≤ n - k) : Reads w B 1 (some (ad.add k)) m (ints ((zs.drop k).take m)) := by
  refine ⟨by simp [ints, hn]; omega, fun h0 => ?_⟩
  obtain ⟨ad', e, hb, hc⟩ := h.2 (by omega)
  cases e
  refine ⟨_, rfl, by rw [block_of_add]; exact hb, fun j u hu => ?_⟩
  rw [add_of_add]
  refine hc (k + j) u ?_
  simp only [ints, List.getElem?_map, List.getElem?_take, List.getElem?_drop] at hu ⊢
  split at hu
  · exact hu
  · simp at hu
theorem part_len {zs : List Int} {n k m : Nat} (hn : zs.length = n) (hm : m ≤ n - k) : ((zs.drop k).take m).length = m := by simp [hn]; omega
theorem part_take (zs : List Int) (k m M : Nat) (hM : M = min m (zs.length - k)) : (zs.drop k).take m = (zs.drop k).take M := by
  rcases Nat.lt_or_ge (zs.length - k) m with h | h
  · rw [List.take_of_length_le (by simp; omega), List.take_of_length_le (by simp; omega)]
  · rw [show M = m by omega]
theorem isMemory_any (A : Option Addr) (zs : List Int) (c : Nat) (m : Int) (w : World) (hx : Reads w w.heap.size 1 A zs.length (ints zs)) (hl : zs.length ≤ 1048576) :
    Calls Try.prog 31 #[.slice A zs.length c, .int .i64 m] w fun e w' => e = .returned (.bool (memOk zs m)) ∧ Below w.heap.size w w' := by
  cases hv : vList zs
  · go_enter Try.func31, Try.ntmps31
    go_wp2_with (go_at_call 36; refine (IsValidList_any A zs c _ hx (by omega)).mono ?_; rintro e w1 ⟨rfl, hb1⟩; rw [hv])
    go_ret
    exact ⟨retb (by simp [memOk, hv]), hb1⟩
  · go_enter Try.func31, Try.ntmps31
    go_wp2_with (first
      | (go_at_call 36; refine (IsValidList_any A zs c _ hx (by omega)).mono ?_; rintro e w1 ⟨rfl, hb1⟩; rw [hv])
      | (go_at_call 44; refine (in_any _ _ _ _).mono ?_; rintro e w' ⟨rfl, rfl⟩))
    go_ret
    exact ⟨retb (by simp [memOk, hv]), hb1⟩
theorem l15Good_any (A : Option Addr) (zs : List Int) (c : Nat) (m : Int) (w : World) (hx : Reads w w.heap.size 1 A zs.length (ints zs)) (hl : zs.length ≤ 1048576) :
    Calls Try.prog 29 #[.slice A zs.length c, .int .i64 m] w fun e w' => e = .returned (.bool (memOk zs m)) ∧ w = w' := by
  cases hv : vList zs
  · go_enter Try.func29, Try.ntmps29
    go_wp2_with (go_at_call 42; refine (l2List_any A zs c _ hx (by omega)).mono ?_; rintro e w1 ⟨rfl, rfl⟩; rw [hv])
    go_ret
    exact ⟨retb (by simp [memOk, hv]), rfl⟩
  · go_enter Try.func29, Try.ntmps29
    go_wp2_with (first
      | (go_at_call 42; refine (l2List_any A zs c _ hx (by omega)).mono ?_; rintro e w1 ⟨rfl, rfl⟩; rw [hv])
      | (go_at_call 43; refine (l1In_any _ _ _ _).mono ?_; rintro e w' ⟨rfl, rfl⟩))
    go_ret
    exact ⟨retb (by simp [memOk, hv]), rfl⟩
set_option maxRecDepth 100000 in
set_option maxHeartbeats 3200000 in
theorem BatchRuns_any (A0 : Option Addr) (z0 : List Int) (c0 : Nat) (y : Int) (w : World) (hx0 : Reads w w.heap.size 1 A0 z0.length (ints z0)) (hl0 : z0.length ≤ 1048576) (hcap : z0.length ≤ c0) :
    Calls Try.prog 21 #[.slice A0 z0.length c0, .int .i64 y] w fun e w' => ∃ A c, e = .returned (.tuple #[.slice A (btV z0 y).length c, .bool (memOk z0 y)]) ∧
      OwnsRR w' w.heap.size 22 3 (.slice A (btV z0 y).length c) (btV z0 y) ∧ Below w.heap.size w w' := by
  cases hv : memOk z0 y
  · rw [show btV z0 y = [] from by simp [btV, hv]]
    go_enter Try.func21, Try.ntmps21
    go_wp2_with (go_at_call 31; refine (isMemory_any A0 z0 c0 y _ hx0 (by omega)).mono ?_; rintro e w1 ⟨rfl, hb1⟩; rw [hv])
    exact bodyPost_ret (v := .tuple #[.slice none 0 0, .bool false]) (by simp [results, Try.results21, go_sem]) rfl ⟨none, 0, rfl, ⟨[], World.ownsRow_nil _ _ _ _, Inner.nil⟩, hb1⟩
  · have h64 : z0.length ≤ 64 := by simp [memOk, vList] at hv; exact hv.1.1
    obtain ⟨y1, y2⟩ := inB_iff.1 (show inB y 1 16 = true by simp [memOk] at hv; exact hv.2)
    have HV := Lib.hid hv
    have HBV := Lib.hid (show btV z0 y = btF z0 y.toNat 64 0 from by simp [btV, hv])
    obtain ⟨m, rfl⟩ : ∃ m : Nat, y = (m : Int) := ⟨y.toNat, by omega⟩
    rw [Int.toNat_natCast] at HBV
    obtain ⟨i1, hj, hy0, hy1, hy2⟩ := info_parts (show (Try.prog.info? 22).map (fun i => (i.zero, i.size, i.bytes)) = some (some (.slice none 0 0), 1, 24) by kernel_rfl)
    go_enter Try.func21, Try.ntmps21
    go_wp2_with (go_at_call 31; refine (isMemory_any A0 z0 c0 _ _ hx0 (by omega)).mono ?_; rintro e w1 ⟨rfl, hb1⟩; rw [HV.out])
    clear hv
    have hbA := alloc_ hb1 (.cells #[] 22)
    have hoA := World.ownsRow_made (base := w.heap.size) (size := 1) (e := 22) w1 #[] 0 hb1.size (by simp) (by simp)
    go_loopw [6, 7] (fun o i wr => ∃ (k f : Nat) (acc : List (List Int)) (vals : List Value), k ≤ 80 ∧ i = .int .i64 k ∧ Hid (acc ++ btF z0 m f k = btF z0 m 64 0) ∧ z0.length ≤ k + f ∧ acc.length + f ≤ 64 ∧ wr.ownsRow w.heap.size 22 1 o acc.length vals ∧ Inner wr w.heap.size 3 vals acc ∧ Below w.heap.size w wr) (fun _ i _ => z0.length - (intOf i).toNat)
    case atStart => exact ⟨0, 64, [], [], by omega, rfl, Lib.hid (by simp), by omega, by simp, hoA, Inner.nil, hbA⟩
    case round =>
      clear hoA hbA hb1
      obtain ⟨k, f, acc, vals, hk8, rfl, HA, hkf, haf, hown, hin, hb⟩ := hrel
      obtain ⟨Ao, co, rfl⟩ := own_slice hown
      by_cases hlt : k < z0.length
      · have hxr := (hx0.below hb)
        obtain ⟨ad, rfl, -, hc⟩ := hxr.int hlt
        obtain ⟨f, rfl⟩ : ∃ q, f = q + 1 := ⟨f - 1, by omega⟩
        have hM : (min ((k : Int) + m) (z0.length : Int)).toNat - k = min m (z0.length - k) := by omega
        obtain ⟨M, hMe⟩ : ∃ M, M = min m (z0.length - k) := ⟨_, rfl⟩
        rw [← hMe] at hM
        have hml : M ≤ z0.length - k := by omega
        have HB := Lib.hid (btF_step (m := m) (f := f) hlt)
        rw [part_take z0 k m M hMe] at HB
        have hpl := part_len (zs := z0) (m := M) rfl hml
        have hrd : Reads wr wr.heap.size 1 (some (ad.add k)) ((z0.drop k).take M).length (ints ((z0.drop k).take M)) := by rw [hpl]; exact (reads_part hxr rfl hlt hml).more hb.size
        have hS := sorted_any (some (ad.add k)) ((z0.drop k).take M) (c0 - k) wr hrd (by omega)
        rw [hpl] at hS
        have HS := Lib.hid hS
        have HSL := Lib.hid (srt_len ((z0.drop k).take M))
        have HPL := Lib.hid hpl
        clear hS hrd hMe hpl
        go_wp2_with fail
        clear hM
        refine HS.out.mono ?_
        rintro e w3 ⟨v3, rfl, ho3, hb3⟩
        obtain ⟨A3, c3, rfl⟩ := own_slice ho3
        have hbw := bthen hb hb3
        have hown3 := own_below hown hb3 (Nat.le_refl _)
        have hin3 := hin.below hb3 (Nat.le_refl _)
        have ho3' := own_base (base' := w.heap.size) ho3 hb.size
        have hbA := alloc_ hbw (.cells #[.slice A3 M c3] 22)
        go_wp2_with (at_builtin; go_loud (refine wpList_push _ rfl _ _ 29 rfl w.heap.size 22 i1 _ 1 24 Try.underlying29 hj hy0 hy1 hy2 rfl (by decide) (.slice Ao acc.length co) _ vals rfl hown3 #[.slice A3 M c3] rfl rfl (by simp [Value.oneCell']) (by omega) (by unfold maxLen; omega) hbw.size ?_; intro g1 d1 w4 hown4 hg4 hb4 hat4))
        have hrow : w3.ownsRow w.heap.size 3 1 (.slice A3 M c3) (srt ((z0.drop k).take M)).length (ints (srt ((z0.drop k).take M))) := by rw [HSL.out, HPL.out]; exact ho3'
        have hin4 := hin3.add hown3 (by decide) hrow (hin.fresh fun q hq => (own_lt ho3 q hq).1) hg4
        go_roundw
        case rel => exact ⟨k + m, f, acc ++ [srt ((z0.drop k).take M)], vals ++ [.slice A3 M c3], by omega, by go_num, Lib.hid (by rw [← HA.out, HB.out]; simp), by omega, by simp; omega, by simpa using hown4, hin4, hbw.trans hb4⟩
        case measure => simp [intOf]; omega
      · have hac := HA.out
        rw [btF_stop hlt, List.append_nil, ← HBV.out] at hac
        have HC := Lib.hid hac
        clear hac
        go_wp2_with fail
        exact bodyPost_ret (v := .tuple #[.slice Ao acc.length co, .bool true]) (by simp [results, Try.results21, go_sem]) rfl ⟨Ao, co, by rw [← HC.out], by rw [← HC.out]; exact ⟨vals, hown, hin⟩, hb⟩
end Go.Proofs.Ytecbagdljgnloaa
