/- MergeOrder: the plain part and the program's side. -/
import Derived.Test.YtphcfjdhichfkaaSortI
import Derived.Test.YtphcfjdhichfkaaSum
import Derived.Test.YtphcfjdhichfkaaOffG
import Derived.Test.YtphcfjdhichfkaaHold
namespace Go.Proofs.Ytphcfjdhichfkaa
open Go.RowKit
set_option linter.unusedVariables false
/-- how many zeros are wanted -/
def need (m k : Nat) : Nat := (m - k % m) % m
theorem need_zero {m k : Nat} (h : k % m = 0) : need m k = 0 := by simp [need, h]
theorem need_step {m k : Nat} (hm : 0 < m) (h : ¬ k % m = 0) : need m k = need m (k + 1) + 1 := by
  have hlt := Nat.mod_lt k hm
  unfold need
  rw [Nat.add_mod k 1 m]
  rcases Nat.lt_or_ge (k % m + 1) m with h1 | h1
  · have hm1 : 1 % m = 1 := Nat.mod_eq_of_lt (by omega)
    rw [hm1, Nat.mod_eq_of_lt h1, Nat.mod_eq_of_lt (by omega : m - k % m < m), Nat.mod_eq_of_lt (by omega : m - (k % m + 1) < m)]
    omega
  · have he : k % m + 1 = m := by omega
    have hm1 : 1 % m = 1 := Nat.mod_eq_of_lt (by omega)
    rw [hm1, he, Nat.mod_self, Nat.sub_zero, Nat.mod_self]
    rw [Nat.mod_eq_of_lt (by omega : m - k % m < m)]
    omega
theorem need_lt {m k : Nat} (hm : 0 < m) : need m k < m := Nat.mod_lt _ hm
theorem mo_div {m n : Nat} (hm : 0 < m) (h : (n - 1) % m = 0) (h1 : 1 < n) : m + 1 ≤ n ∧ (n - (m + 1) + 1 - 1) % m = 0 := by
  have h2 : m ≤ n - 1 := Nat.le_of_dvd (by omega) (Nat.dvd_of_mod_eq_zero h)
  refine ⟨by omega, ?_⟩
  rw [show n - (m + 1) + 1 - 1 = n - 1 - m by omega, ← Nat.mod_eq_sub_mod h2]
  exact h
theorem mo_rem_f {n j m : Nat} (hn : 1 ≤ n) (h : (n + j - 1) % m = 0) : (((n : Int) + j - 1) % (m : Int) != 0) = false := by
  have e : ((n : Int) + j - 1) = ((n + j - 1 : Nat) : Int) := by omega
  rw [e, ← Int.natCast_emod, h]; rfl
theorem mo_rem_t {n j m : Nat} (hn : 1 ≤ n) (h : ¬ (n + j - 1) % m = 0) : (((n : Int) + j - 1) % (m : Int) != 0) = true := by
  have e : ((n : Int) + j - 1) = ((n + j - 1 : Nat) : Int) := by omega
  rw [e, ← Int.natCast_emod]
  have : ((((n + j - 1) % m : Nat) : Int) ≠ 0) := by omega
  simpa using this
/-- the merges, the smallest first -/
def moL (W : Nat) : Nat → List Int → List Int → List Int
  | f + 1, zs, out => if 1 < zs.length then moL W f ((srt zs).drop W ++ [sumW ((srt zs).take W)]) (out ++ [sumW ((srt zs).take W)]) else out
  | 0, _, out => out
theorem mo_step {W f : Nat} {zs out : List Int} (h : 1 < zs.length) : moL W (f + 1) zs out = moL W f ((srt zs).drop W ++ [sumW ((srt zs).take W)]) (out ++ [sumW ((srt zs).take W)]) := by simp [moL, h]
theorem mo_stop {W f : Nat} {zs out : List Int} (h : ¬ 1 < zs.length) : moL W f zs out = out := by cases f <;> simp [moL, h]
theorem mo_srt {W f : Nat} {zs out : List Int} : moL W f (srt zs) out = moL W f zs out := by
  cases f with
  | zero => rfl
  | succ f => simp only [moL, srt_len, srt_idem]
theorem mo_perm {W f : Nat} {zs ys out : List Int} (h : zs.Perm ys) : moL W f zs out = moL W f ys out := by rw [← mo_srt, srt_congr h, mo_srt]
theorem mo_len {W : Nat} : ∀ (f : Nat) (zs out : List Int), (moL W f zs out).length ≤ out.length + f
  | 0, _, out => by simp [moL]
  | f + 1, zs, out => by
    simp only [moL]
    split
    · have := mo_len (W := W) f ((srt zs).drop W ++ [sumW ((srt zs).take W)]) (out ++ [sumW ((srt zs).take W)])
      simp at this; omega
    · omega
def moOk (zs : List Int) (y : Int) : Bool := (decide (zs.length ≤ 40) && zs.all fun x => inB x 1 100000) && inB y 2 16
def moPad (zs : List Int) (m : Nat) : List Int := zs ++ List.replicate (if 2 ≤ zs.length then need m (zs.length - 1) else 0) 0
def moV (zs : List Int) (y : Int) : List Int := if moOk zs y then moL y.toNat 64 (moPad zs (y.toNat - 1)) [] else []
theorem mov_len (zs : List Int) (y : Int) : (moV zs y).length ≤ 64 := by
  unfold moV
  split
  · have := mo_len (W := y.toNat) 64 (moPad zs (y.toNat - 1)) []
    simpa using this
  · simp
theorem reads_take {w : World} {B n k : Nat} {A : Option Addr} {zs : List Int} (h : Reads w B 1 A n (ints zs)) (hk : k ≤ n) : Reads w B 1 A k (ints (zs.take k)) := by
  have hl := h.1
  refine ⟨by simp [ints] at hl ⊢; omega, fun h0 => ?_⟩
  obtain ⟨ad, e, hb, hc⟩ := h.2 (by omega)
  refine ⟨ad, e, hb, fun j u hu => hc j u ?_⟩
  simp only [ints, List.getElem?_map, List.getElem?_take] at hu ⊢
  split at hu
  · exact hu
  · simp at hu
theorem mo1_any (n : Int) (w : World) :
    Calls Try.prog 64 #[.int .i64 n] w fun e w' => e = .returned (.bool (inB n 1 100000)) ∧ w = w' := by
  go_enter Try.func64, Try.ntmps64
  go_wp2_with (go_at_call 40; refine (in_any _ _ _ _).mono ?_; rintro e w' ⟨rfl, rfl⟩)
  go_ret
  exact ⟨rfl, rfl⟩
theorem mo1_pred (x : Int) (w : World) : Pred Try.prog 64 #[] w (.int .i64 x) (inB x 1 100000) :=
  fun w1 _ => (mo1_any x w1).mono fun _ _ ⟨h, h'⟩ => ⟨h, h' ▸ Below.refl _ _⟩
theorem mo1_plain : Plain Try.prog 64 := plain_of Try.func64 (by kernel_rfl) (by kernel_rfl)
set_option maxRecDepth 100000 in
set_option maxHeartbeats 6400000 in
theorem MergeOrder_true (A0 : Option Addr) (z0 : List Int) (c0 m : Nat) (w : World) (hx0 : Reads w w.heap.size 1 A0 z0.length (ints z0)) (h40 : z0.length ≤ 40) (hv : (z0.all fun x => inB x 1 100000) = true) (hm1 : 1 ≤ m) (hm2 : m ≤ 15) :
    Calls Try.prog 31 #[.slice A0 z0.length c0, .int .i64 ((m : Int) + 1)] w fun e w' => ∃ A c, e = .returned (.tuple #[.slice A (moL (m + 1) 64 (moPad z0 m) []).length c, .int .i64 (sumW (moL (m + 1) 64 (moPad z0 m) [])), .bool true]) ∧
      w'.ownsRow w.heap.size 3 1 (.slice A (moL (m + 1) 64 (moPad z0 m) []).length c) (moL (m + 1) 64 (moPad z0 m) []).length (ints (moL (m + 1) 64 (moPad z0 m) [])) ∧ Below w.heap.size w w' := by
  obtain ⟨i0, hi, hz0, hz1, hz2⟩ := info_parts (show (Try.prog.info? 3).map (fun i => (i.zero, i.size, i.bytes)) = some (some (.int .i64 0), 1, 8) by kernel_rfl)
  have h40' : ¬ (z0.length : Int) > 40 := by omega
  have hin : inB ((m : Int) + 1) 2 16 = true := inB_iff.2 ⟨by omega, by omega⟩
  have HV := Lib.hid hv; clear hv
  have HIN := Lib.hid hin; clear hin
  go_enter Try.func31, Try.ntmps31
  go_wp2_with (first
    | (go_at_call 59; refine (allInts_any (fun x => inB x 1 100000) _ _ A0 z0 c0 _ hx0 (by omega) mo1_plain (fun x _ => mo1_pred x _)).mono ?_; rintro e w1 ⟨rfl, hb1⟩; rw [HV.out])
    | (go_at_call 40; refine (in_any _ _ _ _).mono ?_; rintro e w' ⟨rfl, rfl⟩; rw [HIN.out]))
  refine (copyInt_any A0 z0 c0 _ ((hx0.below hb1).more hb1.size) (by omega)).mono ?_
  rintro e w2 ⟨v2, rfl, hown, hb2⟩
  obtain ⟨A2, c2, rfl⟩ := own_slice hown
  have hbw := alloc_ (bthen hb1 hb2) (.cells #[] 3)
  have hB2 := bthen hb1 hb2
  by_cases h2 : 2 ≤ z0.length
  · have h2' : (2 : Int) ≤ z0.length := by omega
    have hne2 : (Value.slice A2 z0.length c2).ownBlock ≠ some w2.heap.size := fun e => by have := (own_lt hown _ e).2; omega
    have hownA := own_base (base' := w.heap.size) (World.ownsRow.alloc hown (.cells #[] 3)) hb1.size
    have hblkA := Blk.new w2 3 #[]
    go_wp2_with fail
    go_loopw [7] (fun v wr => ∃ (j : Nat), Hid (j + need m (z0.length + j - 1) = need m (z0.length - 1)) ∧ Below w.heap.size w wr ∧ wr.ownsRow w.heap.size 3 1 v (z0.length + j) (ints (z0 ++ List.replicate j 0)) ∧
      v.ownBlock ≠ some w2.heap.size ∧ Blk wr w2.heap.size 3 #[]) (fun v _ => (match v with | .slice _ n _ => 64 - n | _ => 0))
    case atStart => exact ⟨0, Lib.hid (by simp), hbw, by simpa using hownA, hne2, hblkA⟩
    case round =>
      clear hownA hblkA hne2 hown hbw
      obtain ⟨j, HJ, hb, hown, hne, hblk⟩ := hrel
      have hj16 : j ≤ 15 := by have := HJ.out; have := need_lt (m := m) (k := z0.length - 1) (by omega); omega
      obtain ⟨A, c, rfl⟩ := own_slice hown
      by_cases hr : (z0.length + j - 1) % m = 0
      · have hrem : (((z0.length : Int) + j - 1) % (m : Int) != 0) = false := mo_rem_f (by omega) hr
        have hj : j = need m (z0.length - 1) := by have := HJ.out; rw [need_zero hr] at this; omega
        have hout : wr.ownsRow w.heap.size 3 1 (.slice (some ⟨w2.heap.size, 0, none⟩) 0 0) 0 (ints []) := ⟨rfl, .inr ⟨w2.heap.size, 0, #[], rfl, hB2.size, hblk, Nat.le_refl _, by simp, rfl, rfl⟩⟩
        have hpl : (moPad z0 m).length = z0.length + j := by simp [moPad, h2, ← hj]
        have hpe : moPad z0 m = z0 ++ List.replicate j 0 := by simp [moPad, h2, ← hj]
        have HMD := Lib.hid (show ((moPad z0 m).length - 1) % m = 0 by rw [hpl]; exact hr)
        have hP55 : (moPad z0 m).length ≤ 55 := by omega
        have hP2 : 2 ≤ (moPad z0 m).length := by omega
        have hrd := Reads.of_own hown
        rw [← hpe, ← hpl] at hrd
        rw [← hpl]
        have HRD := Lib.hid hrd
        clear hrd hpe hj hne hown hblk hr HJ hj16 hpl hrem
        generalize hGP : moPad z0 m = P0 at *
        have HGP := Lib.hid hGP; clear hGP
        have hrem : ((((P0.length : Nat) : Int) - 1) % (m : Int) != 0) = false := by
          have h := mo_rem_f (n := P0.length) (j := 0) (m := m) (by omega) HMD.out
          simpa using h
        go_wp2_with fail
        go_loopw [7, 8] (fun v o wr => ∃ (zs out : List Int) (f c : Nat) (A : Option Addr), v = .slice A zs.length c ∧ zs.length ≤ 55 ∧ zs.length ≤ f ∧ out.length + f ≤ 64 ∧ Hid (moL (m + 1) f zs out = moL (m + 1) 64 P0 []) ∧ Hid ((zs.length - 1) % m = 0) ∧
          Below w.heap.size w wr ∧ Hid (Reads wr wr.heap.size 1 A zs.length (ints zs)) ∧ wr.ownsRow w.heap.size 3 1 o out.length (ints out)) (fun v _ _ => (match v with | .slice _ n _ => n | _ => 0))
        case atStart => exact ⟨P0, [], 64, c, A, rfl, hP55, by omega, by simp, Lib.hid rfl, HMD, hb, HRD, hout⟩
        case round =>
          clear hout HRD HMD hrem hb
          obtain ⟨zs, out, f, c, A, rfl, hz55, hzf, hof, HM, HD, hb, HRD, hown⟩ := hrel
          obtain ⟨Ao, co, rfl⟩ := own_slice hown
          by_cases h1 : 1 < zs.length
          · have h1' : (1 : Int) < (zs.length : Nat) := by omega
            obtain ⟨hW, hD2⟩ := mo_div (by omega) HD.out h1
            have HD2 := Lib.hid hD2; clear hD2
            have HSL := Lib.hid (srt_len zs)
            go_wp2_with fail
            refine (sorted_any A zs c _ HRD.out (by omega)).mono ?_
            rintro e w3 ⟨v3, rfl, hown3, hb3⟩
            obtain ⟨g3, c3, rfl, hg3, hgl3, hnc3, hcm3⟩ := own_some hown3 (by omega)
            have hi1 : (0 : Int) ≤ (m : Int) + 1 := by omega
            have hi2 : ((m : Int) + 1) ≤ (zs.length : Nat) := by omega
            have hi3 : ((m : Int) + 1) ≤ (c3 : Nat) := by omega
            have hl3 : ((srt zs).take (m + 1)).length = m + 1 := by simp [srt_len]; omega
            have hr3 : Reads w3 w3.heap.size 1 (some ⟨g3, 0, none⟩) ((srt zs).take (m + 1)).length (ints ((srt zs).take (m + 1))) := by
              have h := reads_take (k := m + 1) (Reads.of_own hown3) hW
              rwa [hl3]
            have hc := sum_any (some ⟨g3, 0, none⟩) ((srt zs).take (m + 1)) c3 w3 hr3 (by omega)
            rw [hl3] at hc
            have HC := Lib.hid hc
            clear hc hr3 hl3
            go_wp2_with fail
            refine HC.out.mono ?_
            clear HC
            rintro e w4 ⟨rfl, rfl⟩
            have hsz3 := hb3.size
            have hb3' := bthen hb hb3
            have hne3 := own_ne_old hown hown3 (Nat.le_refl _)
            have hownB := own_below hown hb3 (Nat.le_refl _)
            obtain ⟨f, rfl⟩ : ∃ q, f = q + 1 := ⟨f - 1, by omega⟩
            have HM2 := Lib.hid ((mo_step (W := m + 1) (f := f) (out := out) h1).symm.trans HM.out)
            generalize hsz : sumW ((srt zs).take (m + 1)) = sz at *
            go_upto_region 11 with (at_builtin; refine wpList_push _ rfl _ _ 24 rfl w.heap.size 3 i0 _ 1 8 Try.underlying24 hi hz0 hz1 hz2 rfl (by decide) (.slice Ao out.length co) _ _ rfl hownB #[.int .i64 sz] rfl rfl (by simp [Value.oneCell']) (by omega) (by unfold maxLen; omega) hb3'.size ?_; intro g5 d5 w5 hown5 hg5 hb5 hat5)
            have hown35 := hown3.kept hg5 hne3
            have hg35 : g3 ≠ g5 := by
              rcases hat5 with h | h
              · have := (own_lt hown _ h).2; omega
              · omega
            have hbw5 := hb3'.trans hb5
            have hq6 : (w5.alloc (.cells #[.int .i64 sz] 3)).cell? ⟨w5.heap.size, 0, none⟩ = some (.int .i64 sz) := (Blk.new w5 3 #[.int .i64 sz]).cell 0
            have hs5 := hb5.size
            go_wp2_with (at_builtin; go_loud (refine wpList_tail_pushG _ rfl _ _ rfl wr.heap.size g3 (m + 1) zs.length c3 (srt zs) ((srt zs).drop (m + 1)) (World.ownsRow.alloc hown35 _) (by simp; omega) (zs.length - (m + 1)) (by omega) rfl hnc3 rfl _ _ sz rfl hq6 (by omega) ?_; intro A6 c6 w6 r6 hb6 hg6 hl6))
            all_goals (
              have hown56 : w6.ownsRow w.heap.size 3 1 (.slice (some ⟨g5, 0, none⟩) (out.length + 1) d5) (out ++ [sz]).length (ints (out ++ [sz])) := by
                have h0 : w6.ownsRow w.heap.size 3 1 (.slice (some ⟨g5, 0, none⟩) (out.length + 1) d5) (out.length + 1) (ints out ++ [.int .i64 sz]) := own_kept (World.ownsRow.alloc hown5 _) hg6 (by simp [Value.ownBlock]; exact fun e => hg35 e.symm)
                simpa [ints] using h0
              have hol : out.length + 1 = (out ++ [sz]).length := by simp
              have HD3 := Lib.hid (show ((((srt zs).drop (m + 1) ++ [sz]).length) - 1) % m = 0 by rw [hl6]; exact HD2.out)
              have HR6 := Lib.hid r6
              have hbw6 := (alloc_ hbw5 (.cells #[.int .i64 sz] 3)).trans (hb6.mono (hb.size))
              rw [hol] at hown56 ⊢
              rw [← hl6]
              have HL6 := Lib.hid hl6
              clear r6 hl6 hol
              go_wp2_with fail
              go_roundw
              case rel => exact ⟨_, _, f, c6, A6, rfl, by have := HL6.out; have := HSL.out; simp only [List.length_append, List.length_drop, List.length_singleton] at *; omega, by have := HL6.out; have := HSL.out; simp only [List.length_append, List.length_drop, List.length_singleton] at *; omega, by simp; omega, HM2, HD3, hbw6, HR6, hown56⟩
              case measure => have := HL6.out; have := HSL.out; simp; omega)
          · have h1' : ¬ (1 : Int) < (zs.length : Nat) := by omega
            have hs := mo_stop (W := m + 1) (f := f) (out := out) h1
            have HM2 := HM.out
            rw [hs] at HM2
            have HS := Lib.hid HM2
            clear hs HM2
            go_wp2_with (go_at_call 66; refine (sum_any Ao out co _ (Reads.of_own hown) (by omega)).mono ?_; rintro e w9 ⟨rfl, rfl⟩)
            exact bodyPost_ret (v := .tuple #[.slice Ao out.length co, .int .i64 (sumW out), .bool true]) (by simp [results, Try.results31, go_sem]) rfl ⟨Ao, co, by rw [HGP.out, ← HS.out], by rw [HGP.out, ← HS.out]; exact hown, hb⟩
      · have hrem : (((z0.length : Int) + j - 1) % (m : Int) != 0) = true := mo_rem_t (by omega) hr
        have HJ2 := Lib.hid (show (j + 1) + need m (z0.length + (j + 1) - 1) = need m (z0.length - 1) by
          have h1 := HJ.out
          rw [need_step (by omega) hr, show z0.length + j - 1 + 1 = z0.length + (j + 1) - 1 by omega] at h1
          omega)
        clear hr
        go_wp2_with (at_builtin; refine wpList_push _ rfl _ _ 24 rfl w.heap.size 3 i0 _ 1 8 Try.underlying24 hi hz0 hz1 hz2 rfl (by decide) (.slice A (z0.length + j) c) _ _ rfl hown #[.int .i64 0] rfl rfl (by simp [Value.oneCell']) (by omega) (by unfold maxLen; omega) hb.size ?_; intro g1 d1 w3 hown3 hg3 hb3 hat3)
        go_roundw
        case rel =>
          refine ⟨j + 1, HJ2, hb.trans hb3, ?_, ?_, hblk.grown hg3 (fun e => hne e.symm)⟩
          · have e : ints (z0 ++ List.replicate (j + 1) 0) = ints (z0 ++ List.replicate j 0) ++ [.int .i64 0] := by simp [ints, List.replicate_succ']
            rw [e]
            exact hown3
          · intro e
            have hlt := hblk.lt
            rcases hat3 with h | h
            · exact hne (h.trans e)
            · simp [Value.ownBlock] at e; omega
        case measure => simp; omega
  · have h2' : ¬ (2 : Int) ≤ z0.length := by omega
    have h1' : ¬ (1 : Int) < z0.length := by omega
    have hmo : moL (m + 1) 64 (moPad z0 m) [] = [] := mo_stop (by simp [moPad, h2]; omega)
    have hout := World.ownsRow_made (base := w.heap.size) (size := 1) (e := 3) w2 #[] 0 hB2.size (by simp) (by simp)
    have HMO := Lib.hid hmo; clear hmo
    have hc := sum_any (some ⟨w2.heap.size, 0, none⟩) [] 0 (w2.alloc (.cells #[] 3)) (Reads.of_own (by exact hout)) (by simp)
    rw [List.length_nil] at hc
    have HC := Lib.hid hc; clear hc
    go_wp2_with fail
    go_loopw [7, 8] (fun v o wr => v = .slice A2 z0.length c2 ∧ o = .slice (some ⟨w2.heap.size, 0, none⟩) 0 0 ∧ wr = w2.alloc (.cells #[] 3)) (fun _ _ _ => 0)
    case atStart => exact ⟨rfl, rfl, rfl⟩
    case round =>
      obtain ⟨rfl, rfl, rfl⟩ := hrel
      go_wp2_with fail
      refine HC.out.mono ?_
      rintro e w9 ⟨rfl, rfl⟩
      go_wp2_with fail
      exact bodyPost_ret (v := .tuple #[.slice (some ⟨w2.heap.size, 0, none⟩) 0 0, .int .i64 (sumW []), .bool true]) (by simp [results, Try.results31, go_sem]) rfl ⟨some ⟨w2.heap.size, 0, none⟩, 0, by rw [HMO.out]; rfl, by rw [HMO.out]; exact hout, hbw⟩
set_option maxHeartbeats 1600000 in
theorem MergeOrder_any (A0 : Option Addr) (z0 : List Int) (c0 : Nat) (y : Int) (w : World) (hx0 : Reads w w.heap.size 1 A0 z0.length (ints z0)) (hl0 : z0.length ≤ 1048576) :
    Calls Try.prog 31 #[.slice A0 z0.length c0, .int .i64 y] w fun e w' => ∃ A c, e = .returned (.tuple #[.slice A (moV z0 y).length c, .int .i64 (sumW (moV z0 y)), .bool (moOk z0 y)]) ∧
      w'.ownsRow w.heap.size 3 1 (.slice A (moV z0 y).length c) (moV z0 y).length (ints (moV z0 y)) ∧ Below w.heap.size w w' := by
  by_cases h40 : z0.length ≤ 40
  · have h40' : ¬ (z0.length : Int) > 40 := by omega
    cases hv : z0.all fun x => inB x 1 100000
    · have hok : moOk z0 y = false := by simp [moOk, hv]
      rw [show moV z0 y = [] from by simp [moV, hok], hok]
      go_enter Try.func31, Try.ntmps31
      go_wp2_with (go_at_call 59; refine (allInts_any (fun x => inB x 1 100000) _ _ A0 z0 c0 _ hx0 (by omega) mo1_plain (fun x _ => mo1_pred x _)).mono ?_; rintro e w1 ⟨rfl, hb1⟩; rw [hv])
      exact bodyPost_ret (v := .tuple #[.slice none 0 0, .int .i64 0, .bool false]) (by simp [results, Try.results31, go_sem]) rfl ⟨none, 0, rfl, World.ownsRow_nil _ _ _ _, hb1⟩
    · cases hy : inB y 2 16
      · have hok : moOk z0 y = false := by simp [moOk, hy]
        rw [show moV z0 y = [] from by simp [moV, hok], hok]
        go_enter Try.func31, Try.ntmps31
        go_wp2_with (first
          | (go_at_call 59; refine (allInts_any (fun x => inB x 1 100000) _ _ A0 z0 c0 _ hx0 (by omega) mo1_plain (fun x _ => mo1_pred x _)).mono ?_; rintro e w1 ⟨rfl, hb1⟩; rw [hv])
          | (go_at_call 40; refine (in_any _ _ _ _).mono ?_; rintro e w' ⟨rfl, rfl⟩; rw [hy]))
        exact bodyPost_ret (v := .tuple #[.slice none 0 0, .int .i64 0, .bool false]) (by simp [results, Try.results31, go_sem]) rfl ⟨none, 0, rfl, World.ownsRow_nil _ _ _ _, hb1⟩
      · have hok : moOk z0 y = true := by simp only [moOk, hv, hy]; simp [h40]
        obtain ⟨y1, y2⟩ := inB_iff.1 hy
        obtain ⟨m, rfl⟩ : ∃ m : Nat, y = (m : Int) + 1 := ⟨(y - 1).toNat, by omega⟩
        have e1 : ((m : Int) + 1).toNat = m + 1 := by omega
        rw [show moV z0 ((m : Int) + 1) = moL (m + 1) 64 (moPad z0 m) [] from by simp [moV, hok, e1], hok]
        exact MergeOrder_true A0 z0 c0 m w hx0 h40 hv (by omega) (by omega)
  · have h40' : (z0.length : Int) > 40 := by omega
    have hok : moOk z0 y = false := by simp [moOk, h40]
    rw [show moV z0 y = [] from by simp [moV, hok], hok]
    go_enter Try.func31, Try.ntmps31
    go_wp2_with fail
    exact bodyPost_ret (v := .tuple #[.slice none 0 0, .int .i64 0, .bool false]) (by simp [results, Try.results31, go_sem]) rfl ⟨none, 0, rfl, World.ownsRow_nil _ _ _ _, Below.refl _ _⟩
end Go.Proofs.Ytphcfjdhichfkaa
