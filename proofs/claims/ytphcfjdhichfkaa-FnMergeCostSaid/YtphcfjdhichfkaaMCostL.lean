/- The walk of the law on the optimal merge cost. -/
import Derived.Test.YtphcfjdhichfkaaHuffO
import Derived.Test.YtphcfjdhichfkaaOptS
import Derived.Test.YtphcfjdhichfkaaDrawO
import Derived.Test.YtphcfjdhichfkaaLayers
namespace Go.Proofs.Ytphcfjdhichfkaa
open Go.RowKit
set_option linter.unusedVariables false
theorem rev_snoc {zs : List Int} {k : Nat} (h : k < zs.length) : (zs.take (k + 1)).reverse = [zs[k]] ++ (zs.take k).reverse := by
  rw [List.take_succ_eq_append_getElem h, List.reverse_append]; rfl
theorem preS_step {zs : List Int} {k : Nat} (h : 0 < k) : preS zs 2 (k + 1 - 1) = preS zs 2 (k - 1) + (zs.take (k + 1)).sum := by
  have := preS_snoc zs (k - 1) 2
  rw [show k - 1 + 1 = k by omega, show 2 + (k - 1) = k + 1 by omega] at this
  rw [show k + 1 - 1 = k by omega]; exact this
theorem sum_step {zs : List Int} {k : Nat} (h : k < zs.length) : (zs.take (k + 1)).sum = (zs.take k).sum + zs[k] := by rw [List.take_succ_eq_append_getElem h, List.sum_append]; simp
set_option maxRecDepth 100000 in
set_option maxHeartbeats 6400000 in
theorem FnMergeCost_any (A : Option Addr) (bs : List Nat) (c : Nat) (w : World) (hr : Reads w w.heap.size 1 A bs.length (byts bs)) (hm : bs.length ≤ maxLen) (hbb : ∀ b ∈ bs, b ≤ 255) :
    Calls Try.prog 7 #[.slice A bs.length c] w fun e w' => e = .returned (.bool true) ∧ Below w.heap.size w w' := by
  have HVB := Lib.hid (fun w => vBig_any A bs.length c w hm)
  by_cases hbig : 65536 < bs.length
  case pos =>
    have HB := Lib.hid (show decide (65536 < bs.length) = true by simpa using hbig)
    clear hbig
    go_enter Try.func7, Try.ntmps7
    go_wp2_with (go_at_call 9; refine (HVB.out _).mono ?_; rintro e w' ⟨rfl, rfl⟩; rw [HB.out])
    go_ret
    exact ⟨rfl, Below.refl _ _⟩
  have hsm : bs.length ≤ 65536 := by omega
  have HB := Lib.hid (show decide (65536 < bs.length) = false by simpa using hbig)
  clear hbig
  obtain ⟨i0, hi, hz0, hz1, hz2⟩ := info_parts (show (Try.prog.info? 3).map (fun i => (i.zero, i.size, i.bytes)) = some (some (.int .i64 0), 1, 8) by kernel_rfl)
  have HD := Lib.hid (DrawOptimalMergeCost_any A bs c w hr hbb hsm)
  clear hr hbb hsm
  have x1 : ∀ x : Int, (x != x) = false := by simp
  have x2 : ∀ x : Bool, (x != x) = false := by simp
  have x3 : ∀ x : Int, (x == x) = true := by simp
  go_enter Try.func7, Try.ntmps7
  go_wp2_with (go_at_call 9; refine (HVB.out _).mono ?_; rintro e w' ⟨rfl, rfl⟩; rw [HB.out])
  refine HD.out.mono ?_
  rintro e w1 ⟨v, zs, rfl, hO, h66, hb1⟩
  obtain ⟨AV, CV, rfl⟩ := own_slice hO
  go_wp2_with fail
  refine (OptimalMergeCost_any AV zs CV _ (Reads.of_own hO) (by omega)).mono ?_
  rintro e w2 ⟨rfl, hb2⟩
  have hO2 := own_below hO hb2 (Nat.le_refl _)
  have hB2 := hb1.trans (hb2.mono hb1.size)
  go_wp2_with fail
  refine (sOptimalMergeCost_any AV zs CV _ (Reads.of_own hO2) (by omega)).mono ?_
  rintro e w3 ⟨rfl, hb3⟩
  have hO3 := own_below hO2 hb3 (Nat.le_refl _)
  have hB3 := hB2.trans (hb3.mono hB2.size)
  clear hO hO2 hb1 hb2 hb3 hB2
  cases hok : omOk zs
  case false =>
    have hV : omV zs = 0 := by simp [omV, hok]
    rw [hV]
    clear hok hV
    go_wp2_with fail
    go_ret
    exact ⟨rfl, hB3⟩
  case true =>
    obtain ⟨hn, hs0, hs1, hv1, hv2⟩ := om_facts hok
    have HP := Lib.hid (om_perm (List.reverse_perm zs))
    have HOK := Lib.hid hok
    have hl64 : zs.length ≤ 64 := by simp [omOk] at hok; exact hok.1
    have HN := Lib.hid hn
    have hm64 := mulM (n := zs.length) (k := 64) (M := zs.sum) hl64 hs0
    have HV1 := Lib.hid hv1
    have HV2 := Lib.hid hv2
    clear hok hn hv1 hv2
    obtain ⟨V, hV⟩ : ∃ V, omV zs = V := ⟨_, rfl⟩
    have HVV := Lib.hid hV
    rw [hV]
    clear hV
    have hob := made_at (w := w3) (base := w.heap.size) (g := w3.heap.size) (size := 1) (e := 3) hB3.size rfl
    have hOa := hO3.alloc (.cells #[] 3)
    have hBa := alloc_ hB3 (.cells #[] 3)
    go_wp2_with fail
    go_loopw [8, 9, 10, 11] (fun v vs vt vi wr => ∃ (k : Nat) (s t : Int) (B : Option Addr) (b : Nat) (ys : List Int), k ≤ zs.length ∧ vi = .int .i64 (k : Nat) ∧ vs = .int .i64 s ∧ vt = .int .i64 t ∧ v = .slice B ys.length b ∧ ys.length = k ∧ Hid (ys = (zs.take k).reverse) ∧ Hid (s = (zs.take k).sum) ∧ Hid (t = preS zs 2 (k - 1)) ∧
      wr.ownsRow w.heap.size 3 1 (.slice AV zs.length CV) zs.length (ints zs) ∧ wr.ownsRow w.heap.size 3 1 (.slice B ys.length b) ys.length (ints ys) ∧ Below w.heap.size w wr) (fun _ _ _ vi _ => zs.length - (intOf vi).toNat)
    case atStart => exact ⟨0, 0, 0, _, 0, [], by omega, rfl, rfl, rfl, rfl, rfl, Lib.hid rfl, Lib.hid rfl, Lib.hid rfl, hOa, hob, hBa⟩
    case round =>
      clear hOa hob hBa hO3 hB3
      obtain ⟨k, s, t, B, b, ys, hk, rfl, rfl, rfl, rfl, hyl, HY, HS, HT, oL, oB, hb⟩ := hrel
      have hs2 := take_le HN.out k
      have hs3 := take_nonneg HN.out k
      rw [← HS.out] at hs2 hs3
      have ht2 := preS_le HN.out (k - 1) 2
      have ht3 := preS_nonneg (take_nonneg HN.out) (k - 1) 2
      have ht4 := mulM (n := k - 1) (k := 64) (M := zs.sum) (by omega) hs0
      rw [← HT.out] at ht2 ht3
      have hyl64 : ys.length ≤ k := by omega
      have HYL := Lib.hid hyl
      clear hyl
      by_cases hlt : k < zs.length
      · obtain ⟨gL, cL, eL, -, hgL, -⟩ := own_some oL (by omega)
        cases eL
        have c0 := oL.cellAt k (by omega)
        rw [ints_get hlt] at c0
        have hR := HN.out zs[k] (List.getElem_mem hlt)
        have HRV := Lib.hid (rev_snoc hlt)
        have hst := sum_step hlt
        have hs4 := take_le HN.out (k + 1)
        have hkI : (k : Int) < zs.length := by omega
        have ofl := own_full (base := w.heap.size) (e := 3) (size := 1) wr #[.int .i64 zs[k]] 1 hb.size (by decide) rfl
        have oLa := oL.alloc (.cells #[.int .i64 zs[k]] 3)
        have oBa := oB.alloc (.cells #[.int .i64 zs[k]] 3)
        have hBa := alloc_ hb (.cells #[.int .i64 zs[k]] 3)
        have HST := Lib.hid hst
        obtain ⟨x, hx⟩ : ∃ x, zs[k] = x := ⟨_, rfl⟩
        rw [hx] at c0 hR ofl oLa oBa hBa hst
        have HX := Lib.hid hx
        rw [← HS.out] at hst
        have HPS := Lib.hid (fun h => preS_step (zs := zs) (k := k) h)
        clear hx
        have hbsz := hb.size
        go_upto_region 16 with (at_builtin; go_loud (refine wpList_append_any _ rfl _ _ 24 rfl w.heap.size 3 i0 _ 1 8 Try.underlying24 hi hz0 hz1 hz2 rfl (by decide) (.slice (some ⟨wr.heap.size, 0, none⟩) 1 1) _ _ rfl ofl (wr.alloc (.cells #[.int .i64 x] 3)).heap.size B ys.length b (ints ys) rfl (Reads.of_own oBa) (ints_one _) (by unfold maxLen; omega) (by omega) (by rw [World.size_alloc]; omega) ?_; intro v9 w9 o9 g9 a9))
        rw [show 1 + ys.length = (x :: ys).length by simp; omega, show (#[Value.int .i64 x] : Array Value).toList ++ ints ys = ints (x :: ys) by simp [ints]] at o9
        obtain ⟨B9, b9, rfl⟩ := own_slice o9
        have oL9 := oLa.kept g9 (.inr (by simp only [Value.ownBlock]; intro e; have := Option.some.inj e; omega))
        have hB9 := hBa.grown g9 hBa.size (fun q hq => by simp only [Value.ownBlock] at hq; cases hq; exact hb.size)
        have HYS : Hid (x :: ys = (zs.take (k + 1)).reverse) := Lib.hid (by rw [HRV.out, HX.out, HY.out]; rfl)
        have HYL9 : Hid ((x :: ys).length = k + 1) := Lib.hid (by simp [HYL.out])
        have c9 := oL9.cellAt k (by omega)
        rw [ints_get hlt, HX.out] at c9
        have HS9 : Hid (s + x = (zs.take (k + 1)).sum) := Lib.hid hst.symm
        have hst2 : s + x ≤ 64000 := by omega
        have hst3 : 0 ≤ s + x := by omega
        clear oLa oBa hBa ofl g9 a9 oL oB hb c0 hst hs4
        by_cases hk0 : 0 < k
        · have k1 : (k : Int) > 0 := by omega
          have k2 : (0 : Int) < (k : Int) := by omega
          have HT9 : Hid (t + (s + x) = preS zs 2 (k + 1 - 1)) := Lib.hid (by rw [HPS.out hk0, HT.out, HS9.out])
          go_wp2_with fail
          go_roundw
          case rel => exact ⟨k + 1, s + x, t + (s + x), B9, b9, x :: ys, by omega, by go_num, rfl, rfl, rfl, HYL9.out, HYS, HS9, HT9, oL9, o9, hB9⟩
          case measure => simp [intOf]; omega
        · obtain rfl : k = 0 := by omega
          have k1 : ¬ (0 : Int) > 0 := by omega
          have HT9 : Hid (t = preS zs 2 (0 + 1 - 1)) := HT
          go_wp2_with fail
          go_roundw
          case rel => exact ⟨1, s + x, t, B9, b9, x :: ys, by omega, by go_num, rfl, rfl, rfl, HYL9.out, HYS, HS9, HT9, oL9, o9, hB9⟩
          case measure => simp [intOf]; omega
      · obtain rfl : k = zs.length := by omega
        have hkI : ¬ (zs.length : Int) < zs.length := by omega
        have hys : ys = zs.reverse := by rw [HY.out, List.take_of_length_le (Nat.le_refl _)]
        have hs : s = zs.sum := by rw [HS.out, List.take_of_length_le (Nat.le_refl _)]
        have hVt : V ≤ t := by rw [HT.out, ← HVV.out]; exact HV1.out
        have hVs : 2 ≤ zs.length → s ≤ V := by intro h; rw [hs, ← HVV.out]; exact HV2.out h
        have HO : Hid (omOk ys = true ∧ omV ys = V) := Lib.hid (by rw [hys]; exact ⟨HP.out.1.trans HOK.out, HP.out.2.trans HVV.out⟩)
        have hVt2 : V ≤ t ↔ True := by simp [hVt]
        clear hys hs ht2 ht3 ht4 hs2 hs3 hm64 hs0 hs1
        go_wp2_with fail
        refine (OptimalMergeCost_any B ys b _ (Reads.of_own oB) (by omega)).mono ?_
        rintro e w5 ⟨rfl, hb5⟩
        rw [HO.out.1, HO.out.2]
        have hB5 := hb.trans (hb5.mono hb.size)
        by_cases h2 : zs.length < 2
        · have h2I : (zs.length : Int) < 2 := by omega
          go_wp2_with fail
          go_ret
          exact ⟨rfl, hB5⟩
        · have h2I : ¬ (zs.length : Int) < 2 := by omega
          have h3 := hVs (by omega)
          have h4 : V ≥ s := h3
          go_wp2_with fail
          go_ret
          exact ⟨rfl, hB5⟩
end Go.Proofs.Ytphcfjdhichfkaa
