/- BenesRoute, both sides. -/
import Derived.Test.YtmeaipickolhfaaRtS
import Derived.Test.YtmeaipickolhfaaBenesA
import Derived.Test.YtmeaipickolhfaaPerm
namespace Go.Proofs.Ytmeaipickolhfaa
open Go.RowKit
set_option linter.unusedVariables false
def rvOk (z : List Int) : Bool := decide (0 < benesV z.length) && permB z
def rvV (z : List Int) : List Bool := if rvOk z then rtF (Nat.log2 z.length - 1) (z.map Int.toNat) else []
theorem nats_toNat {z : List Int} (h : ∀ x ∈ z, 0 ≤ x) : nats (z.map Int.toNat) = ints z := by
  unfold nats
  congr 1
  rw [List.map_map]
  conv => rhs; rw [← List.map_id z]
  exact List.map_congr_left fun x hx => by have := h x hx; show ((x.toNat : Nat) : Int) = x; omega
theorem permN_of {z : List Int} (h : permB z = true) : PermN (z.map Int.toNat) z.length ∧ nats (z.map Int.toNat) = ints z := by
  obtain ⟨h1, h2, h3⟩ := permB_iff h
  refine ⟨⟨by simp, ?_, ?_⟩, nats_toNat fun x hx => (h2 x hx).1⟩
  · rw [List.nodup_iff_pairwise_ne, List.pairwise_map]
    refine List.Pairwise.imp_of_mem (fun ha hb hab e => hab ?_) (List.nodup_iff_pairwise_ne.1 h3)
    have := (h2 _ ha).1
    have := (h2 _ hb).1
    omega
  · intro x hx
    obtain ⟨y, hy, rfl⟩ := List.mem_map.1 hx
    have := h2 y hy
    omega
theorem rv_parts {z : List Int} (h : rvOk z = true) : permB z = true ∧ 0 < benesV z.length ∧ z.length = 2 ^ (Nat.log2 z.length - 1 + 1) ∧ Nat.log2 z.length - 1 ≤ 5 ∧ benesV z.length = (bsz (Nat.log2 z.length - 1) : Nat) ∧ 2 ≤ z.length ∧ z.length ≤ 64 := by
  simp only [rvOk, Bool.and_eq_true, decide_eq_true_eq] at h
  obtain ⟨h2, h1⟩ := h
  have h4 : 2 ≤ z.length ∧ z.length ≤ 64 := by
    by_cases c : (z.length : Int) < 2 ∨ 64 < (z.length : Int)
    · rw [benesV_out _ c] at h2; omega
    · omega
  obtain ⟨p1, p2, p3⟩ := bn_pow ⟨z.length, by omega⟩ h2
  exact ⟨h1, h2, p1, p2, p3, h4.1, h4.2⟩
theorem rv_some {z : List Int} (h : rvOk z = true) : rvV z = rtF (Nat.log2 z.length - 1) (z.map Int.toNat) ∧ (rvV z).length = bsz (Nat.log2 z.length - 1) := by
  have e : rvV z = rtF (Nat.log2 z.length - 1) (z.map Int.toNat) := by rw [rvV, if_pos h]
  obtain ⟨h1, _, h3, _⟩ := rv_parts h
  refine ⟨e, by rw [e, rtF_len _ _ (by rw [← h3]; exact (permN_of h1).1)]⟩
theorem rv_len (z : List Int) : (rvV z).length ≤ 352 := by
  cases h : rvOk z
  · rw [rvV, h]; simp
  · rw [(rv_some h).2]
    obtain ⟨_, _, _, h4, _⟩ := rv_parts h
    exact (bsz_bd ⟨_, by omega⟩).1
set_option maxHeartbeats 1600000 in
theorem BenesRoute_any (A0 : Option Addr) (z0 : List Int) (c0 : Nat) (w : World) (hx0 : Reads w w.heap.size 1 A0 z0.length (ints z0)) (hl0 : z0.length ≤ 1048576) :
    Calls Try.prog 10 #[.slice A0 z0.length c0] w fun e w' => ∃ A c, e = .returned (.tuple #[.slice A (rvV z0).length c, .bool (rvOk z0)]) ∧
      w'.ownsRow w.heap.size 4 1 (.slice A (rvV z0).length c) (rvV z0).length (bools (rvV z0)) ∧ Below w.heap.size w w' := by
  have HB := Lib.hid (BenesSize_any (z0.length : Int) w (by omega) (by omega))
  have HP := Lib.hid (IsValidPermutation_any A0 z0 c0 w hx0 (by omega))
  cases hok : rvOk z0
  case false =>
    rw [show rvV z0 = [] by rw [rvV, hok]; rfl]
    simp only [rvOk] at hok
    cases hp : decide (0 < benesV z0.length)
    case false =>
      rw [hp] at HB
      clear hok hp
      generalize benesV (z0.length : Int) = V at *
      go_enter Try.func10, Try.ntmps10
      go_wp2_with (go_at_call 28; refine HB.out.mono ?_; rintro e w' ⟨rfl, rfl⟩)
      exact bodyPost_ret (v := .tuple #[.slice none 0 0, .bool false]) (by simp [results, Try.results10, go_sem]) rfl ⟨none, 0, rfl, World.ownsRow_nil _ _ _ _, Below.refl _ _⟩
    case true =>
      rw [hp] at HB hok
      have hpb : permB z0 = false := by simpa using hok
      rw [hpb] at HP
      clear hok hp hpb
      generalize benesV (z0.length : Int) = V at *
      go_enter Try.func10, Try.ntmps10
      go_wp2_with (first | (go_at_call 28; refine HB.out.mono ?_; rintro e w' ⟨rfl, rfl⟩) | (go_at_call 34; refine HP.out.mono ?_; rintro e w1 ⟨rfl, hb1⟩))
      exact bodyPost_ret (v := .tuple #[.slice none 0 0, .bool false]) (by simp [results, Try.results10, go_sem]) rfl ⟨none, 0, rfl, World.ownsRow_nil _ _ _ _, hb1⟩
  case true =>
    obtain ⟨h1, h2, h3, h4, h5, h6, h7⟩ := rv_parts hok
    obtain ⟨q1, q2⟩ := rv_some hok
    obtain ⟨n1, n2⟩ := permN_of h1
    obtain ⟨f, hf⟩ : ∃ f, Nat.log2 z0.length - 1 = f := ⟨_, rfl⟩
    rw [hf] at h3 h4 h5 q1 q2
    have hC := fun (w1 : World) (hb : Below w.heap.size w w1) => route_all f h4 A0 (z0.map Int.toNat) c0 w1 (by rw [← h3]; exact n1) (by rw [← h3, n2]; exact (hx0.below hb).more hb.size)
    rw [← h3, ← q1, ← q2] at hC
    have HC := Lib.hid hC
    have e2 : decide (0 < benesV z0.length) = true := by rw [decide_eq_true_eq]; exact h2
    rw [e2] at HB
    rw [h1] at HP
    generalize benesV (z0.length : Int) = V at *
    clear hok h1 h2 h3 h4 h5 q1 q2 n1 n2 hf hC e2
    generalize rvV z0 = zs at *
    go_enter Try.func10, Try.ntmps10
    go_wp2_with (first | (go_at_call 28; refine HB.out.mono ?_; rintro e w' ⟨rfl, rfl⟩) | (go_at_call 34; refine HP.out.mono ?_; rintro e w1 ⟨rfl, hb1⟩))
    refine (HC.out _ hb1).mono ?_
    rintro e w2 ⟨v, rfl, oV, hb2⟩
    obtain ⟨VA, VC, rfl⟩ := own_slice oV
    go_wp2_with fail
    exact bodyPost_ret (v := .tuple #[.slice VA zs.length VC, .bool true]) (by simp [results, Try.results10, go_sem]) rfl ⟨VA, VC, rfl, own_base oV hb1.size, bthen hb1 hb2⟩
set_option maxHeartbeats 1600000 in
theorem sBenesRoute_any (A0 : Option Addr) (z0 : List Int) (c0 : Nat) (w : World) (hx0 : Reads w w.heap.size 1 A0 z0.length (ints z0)) (hl0 : z0.length ≤ 1048576) :
    Calls Try.prog 8 #[.slice A0 z0.length c0] w fun e w' => ∃ A c, e = .returned (.tuple #[.slice A (rvV z0).length c, .bool (rvOk z0)]) ∧
      w'.ownsRow w.heap.size 4 1 (.slice A (rvV z0).length c) (rvV z0).length (bools (rvV z0)) ∧ Below w.heap.size w w' := by
  have HP := Lib.hid (l3Good_any A0 z0 c0 w hx0 (by omega))
  cases hp : permB z0
  case false =>
    have hok : rvOk z0 = false := by rw [rvOk, hp, Bool.and_false]
    rw [show rvV z0 = [] by rw [rvV, hok]; rfl, hok]
    rw [hp] at HP
    clear hp hok
    go_enter Try.func8, Try.ntmps8
    go_wp2_with (go_at_call 31; refine HP.out.mono ?_; rintro e w1 ⟨rfl, hb1⟩)
    exact bodyPost_ret (v := .tuple #[.slice (some ⟨w1.heap.size, 0, none⟩) 0 0, .bool false]) (by simp [results, Try.results8, go_sem]) rfl ⟨_, 0, rfl, made_at hb1.size rfl, alloc_ hb1 _⟩
  case true =>
    rw [hp] at HP
    have hl64 := (permB_iff hp).1
    have HS := Lib.hid (fun w1 => l14Size_any 7 (Nat.le_refl _) (z0.length : Int) w1 (by omega) (by omega) (by omega))
    have HS : Hid (∀ w1, Calls Try.prog 32 #[.int .i64 (z0.length : Int)] w1 fun e w' => e = .returned (.int .i64 (benesV z0.length)) ∧ w1 = w') := HS
    have hbd : 0 ≤ benesV z0.length := (szf_bd 7 _).1
    cases hok : rvOk z0
    case false =>
      rw [show rvV z0 = [] by rw [rvV, hok]; rfl]
      have e0 : benesV z0.length = 0 := by
        simp only [rvOk, hp, Bool.and_true, decide_eq_false_iff_not] at hok
        omega
      rw [e0] at HS
      clear hp hok hl64 hbd e0
      go_enter Try.func8, Try.ntmps8
      go_wp2_with (first | (go_at_call 31; refine HP.out.mono ?_; rintro e w1 ⟨rfl, hb1⟩) | (go_at_call 32; refine (HS.out _).mono ?_; rintro e w' ⟨rfl, rfl⟩))
      exact bodyPost_ret (v := .tuple #[.slice (some ⟨w1.heap.size, 0, none⟩) 0 0, .bool false]) (by simp [results, Try.results8, go_sem]) rfl ⟨_, 0, rfl, made_at hb1.size rfl, alloc_ hb1 _⟩
    case true =>
      obtain ⟨h1, h2, h3, h4, h5, h6, h7⟩ := rv_parts hok
      obtain ⟨q1, q2⟩ := rv_some hok
      obtain ⟨n1, n2⟩ := permN_of h1
      obtain ⟨f, hf⟩ : ∃ f, Nat.log2 z0.length - 1 = f := ⟨_, rfl⟩
      rw [hf] at h3 h4 h5 q1 q2
      have hC := fun (w1 : World) (hb : Below w.heap.size w w1) => sroute_all f h4 A0 (z0.map Int.toNat) c0 w1 (by rw [← h3]; exact n1) (by rw [← h3, n2]; exact (hx0.below hb).more hb.size)
      rw [← h3, ← q1, ← q2] at hC
      have HC := Lib.hid hC
      have e2 : (benesV z0.length == 0) = false := by rw [beq_eq_false_iff_ne]; omega
      generalize benesV (z0.length : Int) = V at *
      clear hok hp hl64 hbd h1 h2 h3 h4 h5 q1 q2 n1 n2 hf hC
      generalize rvV z0 = zs at *
      go_enter Try.func8, Try.ntmps8
      go_wp2_with (first | (go_at_call 31; refine HP.out.mono ?_; rintro e w1 ⟨rfl, hb1⟩) | (go_at_call 32; refine (HS.out _).mono ?_; rintro e w' ⟨rfl, rfl⟩))
      refine (HC.out _ hb1).mono ?_
      rintro e w2 ⟨v, rfl, oV, hb2⟩
      obtain ⟨VA, VC, rfl⟩ := own_slice oV
      go_wp2_with fail
      exact bodyPost_ret (v := .tuple #[.slice VA zs.length VC, .bool true]) (by simp [results, Try.results8, go_sem]) rfl ⟨VA, VC, rfl, own_base oV hb1.size, bthen hb1 hb2⟩
end Go.Proofs.Ytmeaipickolhfaa
