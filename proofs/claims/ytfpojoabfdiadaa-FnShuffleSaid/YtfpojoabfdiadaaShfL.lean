/- The walk of the law on shuffling. -/
import Derived.Test.YtfpojoabfdiadaaShfI
import Derived.Test.YtfpojoabfdiadaaPerm
import Derived.Test.YtfpojoabfdiadaaVL
namespace Go.Proofs.Ytfpojoabfdiadaa
open Go.RowKit
set_option linter.unusedVariables false
theorem idx_list {n : Nat} (h : n ≤ 64) : vList (idxL n) = true := by
  rw [vList_short (by simpa using h), List.all_eq_true]
  intro x hx
  simp only [idxL, List.mem_map, List.mem_range] at hx
  obtain ⟨i, hi, rfl⟩ := hx
  exact inB_iff.2 ⟨by omega, by omega⟩
theorem sh_perm (z : List Int) (s : Int) : (shL z s).Perm z := by
  obtain ⟨h1, h2, h3, h4⟩ := SI_facts z s z.length (Nat.le_refl _)
  have h5 := h4.map Prod.snd
  rw [List.map_snd_zip (by omega), List.map_snd_zip (by simp)] at h5
  rw [List.take_of_length_le (Nat.le_refl _)] at h5
  exact h5
theorem shI_facts {n : Nat} (s : Int) : (shL (idxL n) s).Perm (idxL n) ∧ Srt (kf (kL s n)) (shL (idxL n) s) 0 n := by
  refine ⟨sh_perm _ _, ?_⟩
  obtain ⟨h1, h2, h3, h4⟩ := SI_facts (idxL n) s (idxL n).length (Nat.le_refl _)
  rw [List.take_of_length_le (Nat.le_refl _), idxL_len] at h4
  rw [idxL_len] at h1 h2 h3
  have hkey : ∀ i (hi : i < n), kf (kL s n) (gt (shL (idxL n) s) i) = gt (SI (idxL n) s n).1 i := by
    intro i hi
    unfold shL
    rw [idxL_len]
    have hm : (((SI (idxL n) s n).1)[i]'(by omega), ((SI (idxL n) s n).2)[i]'(by omega)) ∈ (kL s n).zip (idxL n) := h4.mem_iff.1 (by
      rw [List.mem_iff_getElem]
      exact ⟨i, by simp; omega, by simp⟩)
    rw [pairs_eq (by simp)] at hm
    simp only [List.mem_map] at hm
    obtain ⟨d, hdm, hd⟩ := hm
    have e1 : kf (kL s n) d = (SI (idxL n) s n).1[i]'(by omega) := congrArg Prod.fst hd
    have e2 : gI (idxL n) d = (SI (idxL n) s n).2[i]'(by omega) := congrArg Prod.snd hd
    have e3 : gt (SI (idxL n) s n).2 i = (SI (idxL n) s n).2[i]'(by omega) := by unfold gt; rw [List.getElem?_eq_getElem (by omega)]; rfl
    have e4 : gt (SI (idxL n) s n).1 i = (SI (idxL n) s n).1[i]'(by omega) := by unfold gt; rw [List.getElem?_eq_getElem (by omega)]; rfl
    rw [e3, e4, ← e1, ← e2]
    unfold gI kf
    obtain ⟨j, hj, rfl⟩ : ∃ j : Nat, j < n ∧ (j : Int) = d := by
      have := hdm
      simp only [idxL, List.mem_map, List.mem_range] at this
      exact this
    simp [idxL, hj]
  intro i j _ hij hj
  rw [hkey i (by omega), hkey j hj]
  have e3 : gt (SI (idxL n) s n).1 i = (SI (idxL n) s n).1[i]'(by omega) := by unfold gt; rw [List.getElem?_eq_getElem (by omega)]; rfl
  have e4 : gt (SI (idxL n) s n).1 j = (SI (idxL n) s n).1[j]'(by omega) := by unfold gt; rw [List.getElem?_eq_getElem (by omega)]; rfl
  rw [e3, e4]
  by_cases hh : i = j
  · subst hh; exact Int.le_refl _
  · exact List.pairwise_iff_getElem.1 h3 i j (by omega) (by omega) (by omega)
theorem ApplyPermS_any (A : Option Addr) (p : List Int) (c : Nat) (B : Option Addr) (zs : List Int) (d n : Nat) (w : World) (hp : p.Perm (idxL n)) (hn : n ≤ 64) (hv : vList zs = true) (hz : zs.length = n) (hx : Reads w w.heap.size 1 A n (ints p)) (hy : Reads w w.heap.size 1 B n (ints zs)) :
    Calls Try.prog 15 #[.slice A n c, .slice B n d] w fun e w' => ∃ D e', e = .returned (.tuple #[.slice D n e', .bool true]) ∧ w'.ownsRow w.heap.size 3 1 (.slice D n e') n (ints (p.map (gI zs))) ∧ Below w.heap.size w w' := by
  obtain ⟨q1, q2⟩ := permB_perm hp hn
  have q3 : ∀ x ∈ p, 0 ≤ x ∧ x < (n : Int) := by
    have := (permB_iff q1).2.1
    rw [q2] at this
    exact this
  have h1 := IsValidPermutation_any A p c w (by rw [q2]; exact hx) (by omega)
  rw [q2, q1] at h1
  have H1 := Lib.hid h1
  have H2 := Lib.hid (fun w1 (hb : Below w.heap.size w w1) => IsValidList_any B zs d w1 (by rw [hz]; exact (hy.below hb).more hb.size) (by omega))
  rw [hz, hv] at H2
  have H3 := Lib.hid (fun w1 (hb : Below w.heap.size w w1) => applyS_any A p c B zs d n w1 q2 hz q3 (by omega) ((hx.below hb).more hb.size) ((hy.below hb).more hb.size))
  have x1 : ∀ x : Int, (x != x) = false := by simp
  clear h1 q1 q2 q3 hp hv hz hx hy
  go_enter Try.func15, Try.ntmps15
  go_wp2_with (go_at_call 31; refine H1.out.mono ?_; rintro e w1 ⟨rfl, b1⟩)
  refine (H2.out w1 b1).mono ?_
  rintro e w2 ⟨rfl, b2⟩
  have B2 := bthen b1 b2
  go_wp2_with fail
  refine (H3.out w2 B2).mono ?_
  rintro e w3 ⟨D, e', rfl, oD, b3⟩
  go_wp2_with fail
  exact bodyPost_ret (v := .tuple #[.slice D n e', .bool true]) (by simp [results, Try.results15, go_sem]) rfl ⟨D, e', rfl, own_base oD B2.size, bthen B2 b3⟩
theorem vIntsS_t (A B : Option Addr) (xs ys : List Int) (n c d : Nat) (w : World) (he : xs = ys) (hn : xs.length = n) (hn2 : n ≤ 1048576) (hx : Reads w w.heap.size 1 A n (ints xs)) (hy : Reads w w.heap.size 1 B n (ints ys)) :
    Calls Try.prog 16 #[.slice A n c, .slice B n d] w fun e w' => e = .returned (.bool true) ∧ ∃ n, w' = w.drewN n := by
  subst he
  subst hn
  refine (vInts_any A B xs xs c d w hx hy (by omega) (by omega)).mono ?_
  rintro e w' ⟨rfl, h⟩
  exact ⟨by simp, h⟩
theorem ObliviousShuffle_n (A : Option Addr) (z : List Int) (n c : Nat) (s : Int) (w : World) (hz : z.length = n) (hv : vList z = true) (hs : inB s 0 2147483647 = true) (hx : Reads w w.heap.size 1 A n (ints z)) (hn : n ≤ 64) :
    Calls Try.prog 8 #[.slice A n c, .int .i64 s] w fun e w' => ∃ A c, e = .returned (.tuple #[.slice A n c, .bool true]) ∧ w'.ownsRow w.heap.size 3 1 (.slice A n c) n (ints (shL z s)) ∧ Below w.heap.size w w' := by
  subst hz
  have ho : shOk z s = true := by simp [shOk, hv, hs]
  have hV : shV z s = shL z s := by simp [shV, ho]
  refine (ObliviousShuffle_any A z c s w hx (by omega)).mono ?_
  rintro e w' ⟨A', c', rfl, h1, h2⟩
  rw [ho]
  rw [hV, shL_len] at h1 ⊢
  exact ⟨A', c', rfl, h1, h2⟩
set_option maxRecDepth 100000 in
set_option maxHeartbeats 3200000 in
theorem FnShuffle_any (A : Option Addr) (bs : List Nat) (c : Nat) (w : World) (hr : Reads w w.heap.size 1 A bs.length (byts bs)) (hm : bs.length ≤ maxLen) (hbb : ∀ b ∈ bs, b ≤ 255) :
    Calls Try.prog 4 #[.slice A bs.length c] w fun e w' => e = .returned (.bool true) ∧ Below w.heap.size w w' := by
  have HVB := Lib.hid (fun w => vBig_any A bs.length c w hm)
  by_cases hbig : 65536 < bs.length
  case pos =>
    have HB := Lib.hid (show decide (65536 < bs.length) = true by simpa using hbig)
    clear hbig
    go_enter Try.func4, Try.ntmps4
    go_wp2_with (go_at_call 12; refine (HVB.out _).mono ?_; rintro e w' ⟨rfl, rfl⟩; rw [HB.out])
    go_ret
    exact ⟨rfl, Below.refl _ _⟩
  have hsm : bs.length ≤ 65536 := by omega
  have HB := Lib.hid (show decide (65536 < bs.length) = false by simpa using hbig)
  clear hbig
  have HD := Lib.hid (vList_any A bs c w hr hbb hsm)
  have HAT := Lib.hid (fun w' (h : Below w.heap.size w w') i (hi : i ≤ 1000) => vAt_any A bs c i w' ((hr.below h).more h.size) hbb hsm (by omega))
  have hl1 := atV_lt hbb 1
  have hl2 := atV_lt hbb 2
  clear hr hbb hsm
  obtain ⟨i0, hi, hz0, hz1, hz2⟩ := info_parts (show (Try.prog.info? 3).map (fun i => (i.zero, i.size, i.bytes)) = some (some (.int .i64 0), 1, 8) by kernel_rfl)
  go_enter Try.func4, Try.ntmps4
  go_wp2_with (go_at_call 12; refine (HVB.out _).mono ?_; rintro e w' ⟨rfl, rfl⟩; rw [HB.out])
  refine HD.out.mono ?_
  rintro e w1 ⟨v, zs, rfl, hO, hv, hb1⟩
  have h64 : zs.length ≤ 64 := by simp [vList] at hv; exact hv.1
  obtain ⟨AV, CV, rfl⟩ := own_slice hO
  have HV := Lib.hid hv; clear hv
  obtain ⟨n, hn⟩ : ∃ n, zs.length = n := ⟨_, rfl⟩
  rw [hn] at hO h64 ⊢
  have HN := Lib.hid hn
  clear hn
  have HA1 := Lib.hid (HAT.out w1 hb1 1 (by omega))
  have HA2 := Lib.hid (HAT.out w1 hb1 2 (by omega))
  obtain ⟨x, hx⟩ : ∃ x, atV bs 1 = x := ⟨_, rfl⟩
  obtain ⟨y, hy⟩ : ∃ y, atV bs 2 = y := ⟨_, rfl⟩
  rw [hx] at HA1 hl1
  rw [hy] at HA2 hl2
  obtain ⟨s, hs⟩ : ∃ s : Int, s = 256 * (x : Int) + (y : Int) := ⟨_, rfl⟩
  have es : 256 * (x : Int) + (y : Int) = s := hs.symm
  have w1' : IntKind.i64.wrap (256 * (x : Int)) = 256 * (x : Int) := IntWalk.i64_in _ ⟨by omega, by omega⟩
  have w2' : IntKind.i64.wrap s = s := IntWalk.i64_in _ ⟨by omega, by omega⟩
  have HSB : Hid (inB s 0 2147483647 = true) := Lib.hid (inB_iff.2 ⟨by omega, by omega⟩)
  clear hs hx hy
  go_wp2_with fail
  refine HA1.out.mono ?_
  rintro e w' ⟨rfl, rfl⟩
  go_wp2_with fail
  refine HA2.out.mono ?_
  rintro e w' ⟨rfl, rfl⟩
  go_upto_region 5 with fail
  clear es w1' w2' hl1 hl2 HA1 HA2
  have HS1 := Lib.hid (ObliviousShuffle_n AV zs n CV s _ HN.out HV.out HSB.out (Reads.of_own hO) h64)
  go_wp2_with fail
  refine HS1.out.mono ?_
  rintro e w2 ⟨AS, CS, rfl, oS, hb2⟩
  have HO2 := Lib.hid (own_below hO hb2 (Nat.le_refl _))
  have HB2 := Lib.hid (hb1.trans (hb2.mono hb1.size))
  have HS2 := Lib.hid oS
  have HA3 : Hid ((w2.alloc (.cells #[] 3)).ownsRow w2.heap.size 3 1 (.slice (some ⟨w2.heap.size, 0, none⟩) 0 0) 0 (ints (idxL 0))) := Lib.hid (made_at (Nat.le_refl _) rfl)
  have HB3 := Lib.hid (alloc_ (Below.refl w2.heap.size w2) (.cells #[] 3))
  clear hO hb1 hb2 oS HS1
  go_wp2_with fail
  go_loopw [7, 8] (fun va vi wr => ∃ (k : Nat) (Aa : Option Addr) (ca : Nat), k ≤ n ∧ vi = .int .i64 (k : Nat) ∧ va = .slice Aa k ca ∧ Hid (wr.ownsRow w2.heap.size 3 1 (.slice Aa k ca) k (ints (idxL k))) ∧ Hid (Below w2.heap.size w2 wr)) (fun _ vi _ => n - (intOf vi).toNat)
  case atStart => exact ⟨0, _, _, by omega, rfl, rfl, HA3, HB3⟩
  case round =>
    clear HA3 HB3
    obtain ⟨k, Aa, ca, hk, rfl, rfl, HOA, HBW⟩ := hrel
    by_cases hlt : k < n
    · have kI : (k : Int) < (n : Int) := by omega
      have ho1 := World.ownsRow.alloc HOA.out (.cells #[.int .i64 (k : Nat)] 3)
      have hbs := HBW.out.size
      go_wp2_with (at_builtin; go_loud (refine wpList_push' _ rfl _ _ 22 rfl w2.heap.size 3 i0 _ 1 8 Try.underlying22 hi hz0 hz1 hz2 rfl (by decide) (.slice Aa k ca) _ (ints (idxL k)) rfl ho1 #[.int .i64 (k : Nat)] wr.heap.size rfl (Blk.new _ _ _) rfl (by simp [Value.oneCell']) (by omega) (by unfold maxLen; omega) (Nat.le_trans hbs (by simp)) ?_; intro g5 d5 w5 hown5 hg5 hb5 hat5))
      have HO5 : Hid (w5.ownsRow w2.heap.size 3 1 (.slice (some ⟨g5, 0, none⟩) (k + 1) d5) (k + 1) (ints (idxL (k + 1)))) := Lib.hid (by rw [idxL_succ]; have h9 := hown5; simpa [ints] using h9)
      have HB5 := Lib.hid ((alloc_ HBW.out (.cells #[.int .i64 (k : Nat)] 3)).trans hb5)
      clear hown5 hg5 hb5 hat5 ho1
      go_wp2_with fail
      go_roundw
      case rel => exact ⟨k + 1, _, _, by omega, by go_num, rfl, HO5, HB5⟩
      case measure => simp [intOf]; omega
    · have kI : ¬ (k : Int) < (n : Int) := by omega
      obtain rfl : n = k := by omega
      have HOR := Lib.hid (own_below HO2.out HBW.out (Nat.le_refl _))
      have HSR := Lib.hid (own_below HS2.out HBW.out (Nat.le_refl _))
      have HBR := Lib.hid (HB2.out.trans (HBW.out.mono HB2.out.size))
      have HS3 := Lib.hid (ObliviousShuffle_n Aa (idxL n) n ca s wr (by simp) (idx_list h64) HSB.out (Reads.of_own HOA.out) h64)
      obtain ⟨f1, f2⟩ := shI_facts (n := n) s
      have F1 := Lib.hid f1
      have HMV : Hid ((shL (idxL n) s).map (gI zs) = shL zs s) := Lib.hid (sh_of h64 f1 f2 HN.out)
      clear f1 f2
      go_wp2_with fail
      refine HS3.out.mono ?_
      rintro e w3 ⟨AQ, CQ, rfl, oQ, hb3⟩
      have HO3 := Lib.hid (own_below HOR.out hb3 (Nat.le_refl _))
      have HSR3 := Lib.hid (own_below HSR.out hb3 (Nat.le_refl _))
      have HBR3 := Lib.hid (HBR.out.trans (hb3.mono HBR.out.size))
      have HAP := Lib.hid (ApplyPermS_any AQ (shL (idxL n) s) CQ AV zs CV n w3 F1.out h64 HV.out HN.out (Reads.of_own oQ) (Reads.of_own HO3.out))
      clear oQ hb3
      go_wp2_with fail
      refine HAP.out.mono ?_
      rintro e w4 ⟨AM, CM, rfl, oM, hb4⟩
      rw [HMV.out] at oM
      have HO4 := Lib.hid (own_below HO3.out hb4 (Nat.le_refl _))
      have HSR4 := Lib.hid (own_below HSR3.out hb4 (Nat.le_refl _))
      have HBR4 := Lib.hid (HBR3.out.trans (hb4.mono HBR3.out.size))
      have HM4 := Lib.hid oM
      have HL := Lib.hid (show (shL zs s).length = n from by rw [shL_len, HN.out])
      have HVO1 : Hid (Calls Try.prog 17 #[.slice AS n CS] w4 fun e w' => ∃ v, e = .returned v ∧ w'.ownsRow w4.heap.size 3 1 v n (ints (srt (shL zs s))) ∧ Below w4.heap.size w4 w') := Lib.hid (by
        have h9 := vOrdered_any AS (shL zs s) CS w4 (by rw [HL.out]; exact Reads.of_own HSR4.out) (by rw [HL.out]; omega)
        rw [HL.out] at h9
        exact h9)
      clear oM hb4 HO3 HSR3 HBR3 HOR HSR HBR HS3 HAP
      go_wp2_with fail
      refine HVO1.out.mono ?_
      rintro e w5 ⟨v5, rfl, o5, hb5⟩
      obtain ⟨A5, C5, rfl⟩ := own_slice o5
      have HO5 := Lib.hid (own_below HO4.out hb5 (Nat.le_refl _))
      have HSR5 := Lib.hid (own_below HSR4.out hb5 (Nat.le_refl _))
      have HM5 := Lib.hid (own_below HM4.out hb5 (Nat.le_refl _))
      have HBR5 := Lib.hid (HBR4.out.trans (hb5.mono HBR4.out.size))
      have H5 := Lib.hid o5
      have HVO2 : Hid (Calls Try.prog 17 #[.slice AV n CV] w5 fun e w' => ∃ v, e = .returned v ∧ w'.ownsRow w5.heap.size 3 1 v n (ints (srt zs)) ∧ Below w5.heap.size w5 w') := Lib.hid (by
        have h9 := vOrdered_any AV zs CV w5 (by rw [HN.out]; exact Reads.of_own HO5.out) (by rw [HN.out]; omega)
        rw [HN.out] at h9
        exact h9)
      clear o5 hb5 HO4 HSR4 HM4 HBR4 HVO1
      go_wp2_with fail
      refine HVO2.out.mono ?_
      rintro e w6 ⟨v6, rfl, o6, hb6⟩
      obtain ⟨A6, C6, rfl⟩ := own_slice o6
      have H56 := Lib.hid (own_below H5.out hb6 (Nat.le_refl _))
      have HSR6 := Lib.hid (own_below HSR5.out hb6 (Nat.le_refl _))
      have HM6 := Lib.hid (own_below HM5.out hb6 (Nat.le_refl _))
      have HBR6 := Lib.hid (HBR5.out.trans (hb6.mono HBR5.out.size))
      have HVI := Lib.hid (vIntsS_t A5 A6 (srt (shL zs s)) (srt zs) n C5 C6 w6 (srt_congr (sh_perm zs s)) (by rw [srt_len, HL.out]) (by omega) (Reads.of_own H56.out) (Reads.of_own o6))
      clear o6 hb6 HO5 HSR5 HM5 HBR5 HVO2
      go_wp2_with fail
      refine HVI.out.mono ?_
      rintro e w7 ⟨rfl, n7, rfl⟩
      have HM7 : Hid ((w6.drewN n7).ownsRow w3.heap.size 3 1 (.slice AM n CM) n (ints (shL zs s))) := Lib.hid HM6.out
      have HSR7 : Hid ((w6.drewN n7).ownsRow w1.heap.size 3 1 (.slice AS n CS) n (ints (shL zs s))) := Lib.hid HSR6.out
      have HBR7 := Lib.hid (below_drewN HBR6.out n7)
      generalize w6.drewN n7 = w7 at *
      have HVJ := Lib.hid (vIntsS_t AM AS (shL zs s) (shL zs s) n CM CS w7 rfl HL.out (by omega) (Reads.of_own HM7.out) (Reads.of_own HSR7.out))
      clear HM6 HSR6 HBR6 HVI H56 H5
      go_wp2_with fail
      refine HVJ.out.mono ?_
      rintro e w8 ⟨rfl, n8, rfl⟩
      have HBR8 := Lib.hid (below_drewN HBR7.out n8)
      generalize w7.drewN n8 = w8 at *
      go_wp2_with fail
      go_ret
      exact ⟨rfl, HBR8.out⟩
end Go.Proofs.Ytfpojoabfdiadaa
