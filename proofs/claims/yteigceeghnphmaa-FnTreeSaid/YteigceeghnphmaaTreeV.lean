/- IsValidTree, the program's side. -/
import Derived.Test.YteigceeghnphmaaTreeSz
import Derived.Test.YteigceeghnphmaaTreeB
namespace Go.Proofs.Yteigceeghnphmaa
open Go.RowKit
set_option linter.unusedVariables false
/-- one leaf is valid -/
def nodeOk (x : Int) (d : Bool) : Bool := keyB x && !(d && x != 0)
def itOk (ks : List Int) (ds : List Bool) (ls : List Int) (W : Int) : Bool :=
  (((inB ks.length 1 16 && decide (ds.length = ks.length)) && decide (ls.length = ks.length)) && ((List.range ks.length).all fun i => nodeOk (ks[i]?.getD 0) (ds[i]?.getD false))) &&
    (decide (loserI ks ds = ls) && decide (((winnerV ks ds : Nat) : Int) = W))
theorem range_all_succ {p : Nat → Bool} {k : Nat} (h : (List.range k).all p = true) (hp : p k = true) : (List.range (k + 1)).all p = true := by
  rw [List.range_succ, List.all_append, h]; simp [hp]
theorem range_all_hit {p : Nat → Bool} {k n : Nat} (hk : k < n) (hp : p k = false) : (List.range n).all p = false := by
  rw [List.all_eq_false]; exact ⟨k, List.mem_range.2 hk, by simp [hp]⟩
set_option maxRecDepth 100000 in
set_option maxHeartbeats 3200000 in
theorem IsValidTree_any (AK : Option Addr) (ks : List Int) (cK : Nat) (AD : Option Addr) (ds : List Bool) (cD : Nat) (AL : Option Addr) (ls : List Int) (cL : Nat) (W : Int) (w : World)
    (hx : ReadsT w w.heap.size AK ks.length AD ds.length AL ls.length ks ds ls) (hl : ks.length + ds.length + ls.length ≤ 1048576) :
    Calls Try.prog 47 #[.agg #[.slice AK ks.length cK, .slice AD ds.length cD, .slice AL ls.length cL, .int .i64 W]] w fun e w' => e = .returned (.bool (itOk ks ds ls W)) ∧ Below w.heap.size w w' := by
  have hbA := alloc_ (Below.refl w.heap.size w) (.cells #[.slice AK ks.length cK, .slice AD ds.length cD, .slice AL ls.length cL, .int .i64 W] 57)
  have hblkA := Blk.new w 57 #[.slice AK ks.length cK, .slice AD ds.length cD, .slice AL ls.length cL, .int .i64 W]
  have HXA := Lib.hid ((hx.below hbA).more hbA.size)
  clear hx
  cases hin : inB (ks.length : Int) 1 16
  · have HO := Lib.hid (show itOk ks ds ls W = false by simp [itOk, hin])
    go_enter Try.func47, Try.ntmps47
    go_wp2_with (go_at_call 60; refine (in_any _ _ _ _).mono ?_; rintro e w' ⟨rfl, rfl⟩; rw [hin])
    go_ret
    exact ⟨retb HO.out.symm, hbA⟩
  have HIN := Lib.hid hin
  have hin2 := inB_iff.1 hin
  clear hin
  by_cases hd : ds.length = ks.length
  case neg =>
    have HO := Lib.hid (show itOk ks ds ls W = false by simp [itOk, hd])
    have e1 : (((ds.length : Nat) : Int) != ((ks.length : Nat) : Int)) = true := by rw [bne_iff_ne]; omega
    go_enter Try.func47, Try.ntmps47
    go_wp2_with (go_at_call 60; refine (in_any _ _ _ _).mono ?_; rintro e w' ⟨rfl, rfl⟩; rw [HIN.out])
    go_ret
    exact ⟨retb HO.out.symm, hbA⟩
  by_cases hll : ls.length = ks.length
  case neg =>
    have HO := Lib.hid (show itOk ks ds ls W = false by simp [itOk, hll])
    have e1 : (((ds.length : Nat) : Int) != ((ks.length : Nat) : Int)) = false := by rw [bne_eq_false_iff_eq]; omega
    have e2 : (((ls.length : Nat) : Int) != ((ks.length : Nat) : Int)) = true := by rw [bne_iff_ne]; omega
    clear hd
    go_enter Try.func47, Try.ntmps47
    go_wp2_with (go_at_call 60; refine (in_any _ _ _ _).mono ?_; rintro e w' ⟨rfl, rfl⟩; rw [HIN.out])
    go_ret
    exact ⟨retb HO.out.symm, hbA⟩
  have HOK := Lib.hid (show itOk ks ds ls W = (((List.range ks.length).all fun i => nodeOk (ks[i]?.getD 0) (ds[i]?.getD false)) && (decide (loserI ks ds = ls) && decide (((winnerV ks ds : Nat) : Int) = W))) by
    simp [itOk, hd, hll, HIN.out])
  have HX := HXA.out
  rw [hd, hll] at HX
  have HD := Lib.hid hd
  have HLL := Lib.hid hll
  obtain ⟨k, hk⟩ : ∃ k, ks.length = k := ⟨_, rfl⟩
  rw [hd, hll, hk] at hblkA
  rw [hd, hll, hk] at hbA
  rw [hk] at HX
  rw [hd, hll, hk]
  rw [hd, hll, hk] at hl
  rw [hk] at hin2 HOK HD HLL
  have HK := Lib.hid hk
  have hINk : Hid (inB (k : Int) 1 16 = true) := Lib.hid (by rw [← hk]; exact HIN.out)
  clear HXA HIN hd hll hk
  generalize hwA : w.alloc (.cells #[.slice AK k cK, .slice AD k cD, .slice AL k cL, .int .i64 W] 57) = wA at *
  have hkd : ds.length = k := HD.out
  have hkl : ls.length = k := HLL.out
  have hkk : ks.length = k := HK.out
  have hrK : Reads wA wA.heap.size 1 AK ks.length (ints ks) := by rw [hkk]; exact HX.1
  have hrD : Reads wA wA.heap.size 1 AD ds.length (bools ds) := by rw [hkd]; exact HX.2.1
  have HRK := Lib.hid hrK; have HRD := Lib.hid hrD; have HRL := Lib.hid HX.2.2
  clear hkd hkl hkk hrK hrD HX
  obtain ⟨p0, p1, p2, p3⟩ := hblkA.four
  have hlt0 := hblkA.lt
  have e1 : ((k : Int) != (k : Int)) = false := by simp
  go_enter Try.func47, Try.ntmps47
  go_wp2_with (go_at_call 60; refine (in_any _ _ _ _).mono ?_; rintro e w' ⟨rfl, rfl⟩; rw [hINk.out])
  go_loop [30] (fun i => ∃ q : Nat, q ≤ k ∧ i = .int .i64 q ∧ Hid (((List.range q).all fun i => nodeOk (ks[i]?.getD 0) (ds[i]?.getD false)) = true)) (fun i => k - (intOf i).toNat)
  case atStart => exact ⟨0, by omega, rfl, Lib.hid (by simp)⟩
  case round =>
    obtain ⟨q, hq, rfl, HA⟩ := hrel
    by_cases hlt : q < k
    · obtain ⟨ad, rfl, -, hc⟩ := HRK.out.int (k := q) (by have := HK.out; omega)
      obtain ⟨bd, rfl, -, hc'⟩ := HRD.out.tv (k := q) (by have := HD.out; omega)
      have HN : Hid (nodeOk (ks[q]?.getD 0) (ds[q]?.getD false) = nodeOk (ks[q]'(by have := HK.out; omega)) (ds[q]'(by have := HD.out; omega))) := Lib.hid (by
        rw [List.getElem?_eq_getElem (by have := HK.out; omega), List.getElem?_eq_getElem (by have := HD.out; omega)]; rfl)
      have HS := fun h => Lib.hid (range_all_succ (p := fun i => nodeOk (ks[i]?.getD 0) (ds[i]?.getD false)) HA.out h)
      have HH := fun h => Lib.hid (range_all_hit (p := fun i => nodeOk (ks[i]?.getD 0) (ds[i]?.getD false)) hlt h)
      generalize ks[q]'(by have := HK.out; omega) = x at *
      generalize ds[q]'(by have := HD.out; omega) = d at *
      have qI : (q : Int) < k := by omega
      cases hv : keyB x
      · have HF := HH (by rw [HN.out]; simp [nodeOk, hv])
        have HO := Lib.hid (show itOk ks ds ls W = false by rw [HOK.out, HF.out]; rfl)
        clear HS HH
        go_wp2_with (go_at_call 90; refine (isKey_any _ _).mono ?_; rintro e w' ⟨rfl, rfl⟩; rw [show inB x (-100000) 100000 = false from hv])
        go_ret
        exact ⟨retb HO.out.symm, hbA⟩
      · cases d
        · have HT := HS (by rw [HN.out]; simp [nodeOk, hv])
          clear HS HH
          go_wp2_with (go_at_call 90; refine (isKey_any _ _).mono ?_; rintro e w' ⟨rfl, rfl⟩; rw [show inB x (-100000) 100000 = true from hv])
          go_round
          case rel => exact ⟨q + 1, by omega, by go_num, HT⟩
          case measure => simp [intOf]; omega
        · by_cases hz : x = 0
          · subst hz
            have HT := HS (by rw [HN.out]; rfl)
            have ez : ((0 : Int) != 0) = false := by simp
            have hv0 : inB 0 (-100000) 100000 = true := by decide
            clear HS HH
            go_wp2_with (go_at_call 90; refine (isKey_any _ _).mono ?_; rintro e w' ⟨rfl, rfl⟩; rw [hv0])
            go_round
            case rel => exact ⟨q + 1, by omega, by go_num, HT⟩
            case measure => simp [intOf]; omega
          · have HF := HH (by rw [HN.out]; simp [nodeOk, hv, hz])
            have ez : (x != 0) = true := by simp [hz]
            have HO := Lib.hid (show itOk ks ds ls W = false by rw [HOK.out, HF.out]; rfl)
            clear HS HH
            go_wp2_with (go_at_call 90; refine (isKey_any _ _).mono ?_; rintro e w' ⟨rfl, rfl⟩; rw [show inB x (-100000) 100000 = true from hv])
            go_ret
            exact ⟨retb HO.out.symm, hbA⟩
    · have hqe : q = k := by omega
      have hall := HA.out
      rw [hqe] at hall
      have HO := Lib.hid (show itOk ks ds ls W = (decide (loserI ks ds = ls) && decide (((winnerV ks ds : Nat) : Int) = W)) by rw [HOK.out, hall, Bool.true_and])
      clear hall hqe
      have qI : ¬ (q : Int) < k := by omega
      have hT := Lib.hid (treeOf_any AK ks cK AD ds cD k wA HK.out HD.out HRK.out HRD.out (by omega) (by omega))
      go_wp2_with fail
      refine hT.out.mono ?_
      clear hT
      rintro e w3 ⟨BK, dK, BD, dD, gL, rfl, hown, hb3⟩
      have hblk3 := hblkA.below_ hb3
      obtain ⟨p0, p1, p2, p3⟩ := (hblk3.alloc (.cells #[.slice BK k dK, .slice BD k dD, .slice (some ⟨gL, 0, none⟩) k k, .int .i64 (winnerV ks ds : Nat)] 57)).four
      have hlt3 := (hblk3.alloc (.cells #[.slice BK k dK, .slice BD k dD, .slice (some ⟨gL, 0, none⟩) k k, .int .i64 (winnerV ks ds : Nat)] 57)).lt
      have hb4 := alloc_ hb3 (.cells #[.slice BK k dK, .slice BD k dD, .slice (some ⟨gL, 0, none⟩) k k, .int .i64 (winnerV ks ds : Nat)] 57)
      have hL3 := World.ownsRow.alloc hown.2.2.1 (.cells #[.slice BK k dK, .slice BD k dD, .slice (some ⟨gL, 0, none⟩) k k, .int .i64 (winnerV ks ds : Nat)] 57)
      have hE := sEqual_any (some ⟨gL, 0, none⟩) AL (loserI ks ds) ls k cL _ (by rw [loserI_len, HK.out]; exact Reads.of_own hL3) (by rw [HLL.out]; exact (HRL.out.below hb4).more hb4.size) (by rw [loserI_len, HK.out]; omega) (by rw [HLL.out]; omega)
      rw [loserI_len, HK.out, HLL.out] at hE
      have HE := Lib.hid hE; clear hE
      have HBK := Lib.hid (Blk.new w3 57 #[.slice BK k dK, .slice BD k dD, .slice (some ⟨gL, 0, none⟩) k k, .int .i64 (winnerV ks ds : Nat)])
      have HB3 := Lib.hid (hblk3.alloc (.cells #[.slice BK k dK, .slice BD k dD, .slice (some ⟨gL, 0, none⟩) k k, .int .i64 (winnerV ks ds : Nat)] 57))
      have hbf := bthen hbA hb4
      cases h1 : decide (loserI ks ds = ls)
      · rw [h1] at HE
        have HO2 := Lib.hid (show itOk ks ds ls W = false by rw [HO.out, h1]; rfl)
        clear h1
        go_wp2_with fail
        refine HE.out.mono ?_
        rintro e w5 ⟨rfl, hd5⟩
        go_wp2_with fail
        go_ret
        exact ⟨retb HO2.out.symm, bthen hbf (below_of_drewN hd5)⟩
      · rw [h1] at HE
        have HO2 := Lib.hid (show itOk ks ds ls W = decide (((winnerV ks ds : Nat) : Int) = W) by rw [HO.out, h1, Bool.true_and])
        clear h1
        go_wp2_with fail
        refine HE.out.mono ?_
        rintro e w5 ⟨rfl, hd5⟩
        have b5 := below_of_drewN hd5
        obtain ⟨r0, r1, r2, r3⟩ := (HBK.out.below_ b5).four
        obtain ⟨s0, s1, s2, s3⟩ := (HB3.out.below_ b5).four
        by_cases hW : ((winnerV ks ds : Nat) : Int) = W
        · have eW : (((winnerV ks ds : Nat) : Int) == W) = true := by simpa using hW
          have HO3 := Lib.hid (show itOk ks ds ls W = true by rw [HO2.out]; simpa using hW)
          clear hW
          go_wp2_with fail
          go_ret
          exact ⟨retb HO3.out.symm, bthen hbf b5⟩
        · have eW : (((winnerV ks ds : Nat) : Int) == W) = false := by simpa using hW
          have HO3 := Lib.hid (show itOk ks ds ls W = false by rw [HO2.out]; simpa using hW)
          clear hW
          go_wp2_with fail
          go_ret
          exact ⟨retb HO3.out.symm, bthen hbf b5⟩
end Go.Proofs.Yteigceeghnphmaa
