/- ObliviousShuffle: the reference's side. -/
import Derived.Test.YtfpojoabfdiadaaShfI
import Derived.Test.YtfpojoabfdiadaaInv
namespace Go.Proofs.Ytfpojoabfdiadaa
open Go.RowKit
set_option linter.unusedVariables false
theorem ints_one_ (zs : List Int) : ∀ u ∈ ints zs, u.oneCell' = true := by
  intro u hu
  obtain ⟨x, -, rfl⟩ := List.mem_map.1 hu
  rfl
theorem reads_offS {w : World} {base g N c k : Nat} {zs : List Int} (h : w.ownsRow base 3 1 (.slice (some ⟨g, 0, none⟩) N c) N (ints zs)) (hk : k ≤ N) :
    Reads w w.heap.size 1 (some ⟨g, k, none⟩) (N - k) (ints (zs.drop k)) := by
  have hzl : zs.length = N := by have := h.1; simpa [ints] using this
  refine ⟨by simp [ints, hzl], fun _ => ⟨⟨g, k, none⟩, rfl, (own_lt h g rfl).2, fun i u hu => ?_⟩⟩
  have hi : k + i < N := by
    have := (List.getElem?_eq_some_iff.1 hu).1
    simp [ints] at this; omega
  rw [Addr.add_lit, h.cellAt (k + i) (by omega)]
  simp [ints] at hu ⊢
  exact hu
theorem reads_noneS {w : World} {base g N c : Nat} {zs : List Int} (h : w.ownsRow base 3 1 (.slice (some ⟨g, 0, none⟩) N c) N (ints zs)) (o : Nat) :
    Reads w w.heap.size 1 (some ⟨g, o, none⟩) (N - N) (ints (zs.drop N)) := by
  have hzl : zs.length = N := by have := h.1; simpa [ints] using this
  refine ⟨by simp [ints, hzl], fun h0 => ?_⟩
  omega
def ShKF (wq : World) (gR cR m k : Nat) (p : List Int) (x : Int) (L : Nat → Bool) (wr : World) (v0 v1 v2 v3 v4 v5 v6 v7 v8 v9 v10 v11 v12 : Value) : Prop :=
  (Below wq.heap.size wq wr) ∧
  (L 3 = true → L 1 = true ∧ L 2 = true) ∧
  (L 4 = true → L 0 = true ∧ L 3 = true) ∧
  (L 6 = true → L 5 = true) ∧
  (L 7 = true → L 4 = true ∧ L 6 = true) ∧
  (L 10 = true → L 8 = true ∧ L 9 = true) ∧
  (L 11 = true → L 7 = true ∧ L 10 = true) ∧
  (L 12 = true → L 11 = true) ∧
  (L 0 = true → L 4 = false → ∃ g, v0 = .slice (some ⟨g, 0, none⟩) 0 0 ∧ wr.ownsRow wq.heap.size 3 1 v0 0 []) ∧
  (L 1 = true → v1 = .slice (some ⟨gR, 0, none⟩) m cR) ∧
  (L 2 = true → v2 = .int .i64 (k : Nat)) ∧
  (L 3 = true → v3 = .slice (some ⟨gR, 0, none⟩) k cR) ∧
  (L 4 = true → L 7 = false → wr.ownsRow wq.heap.size 3 1 v4 k (ints (p.take k))) ∧
  (L 5 = true → v5 = .int .i64 x) ∧
  (L 6 = true → L 7 = false → ∃ g, v6 = .slice (some ⟨g, 0, none⟩) 1 1 ∧ Blk wr g 3 #[.int .i64 x] ∧ (L 0 = true → L 4 = false → v0.ownBlock ≠ some g) ∧ (L 4 = true → v4.ownBlock ≠ some g)) ∧
  (L 7 = true → L 11 = false → wr.ownsRow wq.heap.size 3 1 v7 (k + 1) (ints (p.take k ++ [x]))) ∧
  (L 8 = true → v8 = .slice (some ⟨gR, 0, none⟩) m cR) ∧
  (L 9 = true → v9 = .int .i64 (k : Nat)) ∧
  (L 10 = true → ∃ o : Nat, v10 = .slice (some ⟨gR, o, none⟩) (m - k) (cR - k) ∧ (o = k ∨ k = m)) ∧
  (L 11 = true → wr.ownsRow wq.heap.size 3 1 v11 (m + 1) (ints (insA p k x))) ∧
  (L 12 = true → v12 = v11) ∧
  (L 12 = false → v12 = .slice (some ⟨gR, 0, none⟩) m cR)
def ShOF (wq : World) (gR cR m k n c0 : Nat) (ad : Addr) (p : List Int) (x : Int) (L : Nat → Bool) (wr : World) (v0 v1 v2 v3 v4 v5 v6 v7 v8 v9 v10 v11 v12 v13 v14 v15 : Value) : Prop :=
  (Below wq.heap.size wq wr) ∧
  (L 3 = true → L 1 = true ∧ L 2 = true) ∧
  (L 4 = true → L 0 = true ∧ L 3 = true) ∧
  (L 7 = true → L 5 = true ∧ L 6 = true) ∧
  (L 8 = true → L 7 = true) ∧
  (L 9 = true → L 8 = true) ∧
  (L 10 = true → L 4 = true ∧ L 9 = true) ∧
  (L 13 = true → L 11 = true ∧ L 12 = true) ∧
  (L 14 = true → L 10 = true ∧ L 13 = true) ∧
  (L 15 = true → L 14 = true) ∧
  (L 0 = true → L 4 = false → ∃ g, v0 = .slice (some ⟨g, 0, none⟩) 0 0 ∧ wr.ownsRow wq.heap.size 3 1 v0 0 []) ∧
  (L 1 = true → v1 = .slice (some ⟨gR, 0, none⟩) m cR) ∧
  (L 2 = true → v2 = .int .i64 (k : Nat)) ∧
  (L 3 = true → v3 = .slice (some ⟨gR, 0, none⟩) k cR) ∧
  (L 4 = true → L 10 = false → wr.ownsRow wq.heap.size 3 1 v4 k (ints (p.take k))) ∧
  (L 5 = true → v5 = .slice (some ad) n c0) ∧
  (L 6 = true → v6 = .int .i64 (m : Nat)) ∧
  (L 7 = true → v7 = .pointer (some (ad.add m))) ∧
  (L 8 = true → v8 = .int .i64 x) ∧
  (L 9 = true → L 10 = false → ∃ g, v9 = .slice (some ⟨g, 0, none⟩) 1 1 ∧ Blk wr g 3 #[.int .i64 x] ∧ (L 0 = true → L 4 = false → v0.ownBlock ≠ some g) ∧ (L 4 = true → v4.ownBlock ≠ some g)) ∧
  (L 10 = true → L 14 = false → wr.ownsRow wq.heap.size 3 1 v10 (k + 1) (ints (p.take k ++ [x]))) ∧
  (L 11 = true → v11 = .slice (some ⟨gR, 0, none⟩) m cR) ∧
  (L 12 = true → v12 = .int .i64 (k : Nat)) ∧
  (L 13 = true → ∃ o : Nat, v13 = .slice (some ⟨gR, o, none⟩) (m - k) (cR - k) ∧ (o = k ∨ k = m)) ∧
  (L 14 = true → wr.ownsRow wq.heap.size 3 1 v14 (m + 1) (ints (insA p k x))) ∧
  (L 15 = true → v15 = v14) ∧
  (L 15 = false → v15 = .slice (some ⟨gR, 0, none⟩) m cR)
set_option maxRecDepth 100000 in
set_option maxHeartbeats 6400000 in
theorem sObliviousShuffle_any (A0 : Option Addr) (z0 : List Int) (c0 : Nat) (s : Int) (w : World) (hx0 : Reads w w.heap.size 1 A0 z0.length (ints z0)) (hl0 : z0.length ≤ 1048576) :
    Calls Try.prog 6 #[.slice A0 z0.length c0, .int .i64 s] w fun e w' => ∃ A c, e = .returned (.tuple #[.slice A (shV z0 s).length c, .bool (shOk z0 s)]) ∧
      w'.ownsRow w.heap.size 3 1 (.slice A (shV z0 s).length c) (shV z0 s).length (ints (shV z0 s)) ∧ Below w.heap.size w w' := by
  have hb0 := alloc_ (Below.refl w.heap.size w) (.cells #[] 3)
  have ho0 := made_at (w := w) (base := w.heap.size) (g := w.heap.size) (size := 1) (e := 3) (Nat.le_refl _) rfl
  have HXA := Lib.hid (hx0.below hb0)
  cases hv : vList z0
  · have ho : shOk z0 s = false := by simp [shOk, hv]
    rw [show shV z0 s = [] from by simp [shV, ho], ho]
    go_enter Try.func6, Try.ntmps6
    go_wp2_with (go_at_call 21; refine (l2List_any A0 z0 c0 _ (HXA.out.more hb0.size) (by omega)).mono ?_; rintro e w1 ⟨rfl, rfl⟩; rw [hv])
    exact bodyPost_ret (v := .tuple #[.slice (some ⟨w.heap.size, 0, none⟩) 0 0, .bool false]) (by simp [results, Try.results6, go_sem]) rfl ⟨some ⟨w.heap.size, 0, none⟩, 0, rfl, ho0, hb0⟩
  cases hs : inB s 0 2147483647
  · have ho : shOk z0 s = false := by simp [shOk, hs]
    rw [show shV z0 s = [] from by simp [shV, ho], ho]
    have HSB := Lib.hid hs
    clear hs
    go_enter Try.func6, Try.ntmps6
    go_wp2_with (first
      | (go_at_call 21; refine (l2List_any A0 z0 c0 _ (HXA.out.more hb0.size) (by omega)).mono ?_; rintro e w1 ⟨rfl, rfl⟩; rw [hv])
      | (go_at_call 22; refine (l1In_any _ _ _ _).mono ?_; rintro e w' ⟨rfl, rfl⟩; rw [HSB.out]))
    exact bodyPost_ret (v := .tuple #[.slice (some ⟨w.heap.size, 0, none⟩) 0 0, .bool false]) (by simp [results, Try.results6, go_sem]) rfl ⟨some ⟨w.heap.size, 0, none⟩, 0, rfl, ho0, hb0⟩
  have ho : shOk z0 s = true := by simp [shOk, hv, hs]
  have HSV : Hid (shV z0 s = shL z0 s) := Lib.hid (by simp [shV, ho])
  have HOK := Lib.hid ho
  have h64 : z0.length ≤ 64 := by simp [vList] at hv; exact hv.1
  have hsb := inB_iff.1 hs
  have HSR := Lib.hid (fun i => itL_bd (s := s) (by omega) i)
  have HSB := Lib.hid hs
  have HX := Lib.hid hx0
  have HSI := Lib.hid (SI_facts z0 s)
  obtain ⟨n, hn⟩ : ∃ n, z0.length = n := ⟨_, rfl⟩
  have HN := Lib.hid hn
  have HIV : Hid (Calls Try.prog 21 #[.slice A0 n c0] (w.alloc (.cells #[] 3)) fun e w' => e = .returned (.bool true) ∧ w.alloc (.cells #[] 3) = w') := Lib.hid (by
    have := l2List_any A0 z0 c0 _ (HXA.out.more hb0.size) (by omega)
    rw [hv, hn] at this
    exact this)
  rw [hn] at h64 HX ⊢
  have HO0 := Lib.hid ho0
  have HB0 := Lib.hid hb0
  clear hv hs ho hx0 hl0 hn ho0 hb0 HXA
  obtain ⟨i0, hi, hz0, hz1, hz2⟩ := info_parts (show (Try.prog.info? 3).map (fun i => (i.zero, i.size, i.bytes)) = some (some (.int .i64 0), 1, 8) by kernel_rfl)
  have hi' := Lib.hid (And.intro hi (And.intro hz0 (And.intro hz1 hz2)))
  go_enter Try.func6, Try.ntmps6
  go_wp2_with (first
    | (go_at_call 21; refine HIV.out.mono ?_; rintro e w1 ⟨rfl, rfl⟩)
    | (go_at_call 22; refine (l1In_any _ _ _ _).mono ?_; rintro e w' ⟨rfl, rfl⟩; rw [HSB.out]))
  have HO1 : Hid (((w.alloc (.cells #[] 3)).alloc (.cells #[] 3)).ownsRow w.heap.size 3 1 (.slice (some ⟨w.heap.size, 0, none⟩) 0 0) 0 (ints [])) := Lib.hid (World.ownsRow.alloc HO0.out _)
  have HK1 : Hid (((w.alloc (.cells #[] 3)).alloc (.cells #[] 3)).ownsRow w.heap.size 3 1 (.slice (some ⟨w.heap.size + 1, 0, none⟩) 0 0) 0 (ints [])) := Lib.hid (made_at (by simp) (by simp))
  have HB1 := Lib.hid (alloc_ HB0.out (.cells #[] 3))
  go_loopw [6, 7, 8, 9] (fun vo vk vx vi wr => ∃ (i gO cO gK cK : Nat) (x : Int), i ≤ n ∧ vo = .slice (some ⟨gO, 0, none⟩) i cO ∧ vk = .slice (some ⟨gK, 0, none⟩) i cK ∧ vx = .int .i64 x ∧ (0 ≤ x ∧ x < 2147483648) ∧ Hid (x = itL i s) ∧ vi = .int .i64 (i : Nat) ∧ Hid (wr.ownsRow w.heap.size 3 1 (.slice (some ⟨gO, 0, none⟩) i cO) i (ints (SI z0 s i).2)) ∧ Hid (wr.ownsRow w.heap.size 3 1 (.slice (some ⟨gK, 0, none⟩) i cK) i (ints (SI z0 s i).1)) ∧ Hid (Below w.heap.size w wr)) (fun _ _ _ vi _ => n - (intOf vi).toNat)
  case atStart => exact ⟨0, _, _, _, _, s, by omega, rfl, rfl, rfl, by omega, Lib.hid rfl, rfl, HO1, HK1, HB1⟩
  case round =>
    clear HO1 HK1 HB1 HO0 HB0
    obtain ⟨i, gO, cO, gK, cK, x0, hin, rfl, rfl, rfl, hx, HXE, rfl, HO, HK, HB⟩ := hrel
    by_cases hlt : i < n
    · have iI : (i : Int) < (n : Int) := by omega
      obtain ⟨y, hy⟩ : ∃ y, y = 1103515245 * x0 + 12345 := ⟨_, rfl⟩
      obtain ⟨r1, r2⟩ := lcg_rem hx hy
      obtain ⟨x, hx'⟩ : ∃ x, lcg x0 = x := ⟨_, rfl⟩
      rw [hx'] at r1 r2
      have HX2 : Hid (x = itL (i + 1) s) := Lib.hid (by rw [← hx', HXE.out]; rfl)
      have hxb : 0 ≤ x ∧ x < 2147483648 := by rw [HX2.out]; exact HSR.out (i + 1)
      have ey : 1103515245 * x0 + 12345 = y := hy.symm
      have wx1 : IntKind.i64.wrap (1103515245 * x0) = 1103515245 * x0 := IntWalk.i64_in _ ⟨by omega, by omega⟩
      have wx2 : IntKind.i64.wrap y = y := IntWalk.i64_in _ ⟨by omega, by omega⟩
      clear hx' hy
      go_upto_region 10 with fail
      clear ey wx1 wx2 r1 r2
      obtain ⟨ks, hks⟩ : ∃ ks, (SI z0 s i).1 = ks := ⟨_, rfl⟩
      obtain ⟨os, hos⟩ : ∃ os, (SI z0 s i).2 = os := ⟨_, rfl⟩
      have HSI1 : Hid (ks.length = i) := Lib.hid (by rw [← hks]; exact (HSI.out i (by rw [HN.out]; omega)).1)
      have HSN : Hid (SI z0 s (i + 1) = (insA ks (atR ks x i) x, insA os (atR ks x i) (gt z0 i))) := Lib.hid (by
        have h1 : SI z0 s (i + 1) = (insA (SI z0 s i).1 (atR (SI z0 s i).1 (itL (i + 1) s) (SI z0 s i).1.length) (itL (i + 1) s), insA (SI z0 s i).2 (atR (SI z0 s i).1 (itL (i + 1) s) (SI z0 s i).1.length) (gt z0 i)) := rfl
        rw [h1, hks, hos, HSI1.out, ← HX2.out])
      rw [hks] at HK
      rw [hos] at HO
      clear hks hos
      go_wp2_with fail
      go_loopw [10] (fun vk wr2 => ∃ k : Nat, k ≤ i ∧ vk = .int .i64 (k : Nat) ∧ Hid (atR ks x i = atR ks x k) ∧ wr = wr2) (fun vk _ => (intOf vk).toNat)
      case atStart => exact ⟨i, Nat.le_refl _, rfl, Lib.hid rfl, rfl⟩
      case round =>
        obtain ⟨k, hki, rfl, HAT, rfl⟩ := hrel
        have hgo : (∃ q, k = q + 1 ∧ x < gt ks q) ∨ (k = 0 ∨ ∃ q, k = q + 1 ∧ ¬ x < gt ks q) := by
          rcases k with _ | q
          · exact .inr (.inl rfl)
          · by_cases h : x < gt ks q
            · exact .inl ⟨q, rfl, h⟩
            · exact .inr (.inr ⟨q, rfl, h⟩)
        have hcell : ∀ q, q < i → wr.cell? ⟨gK, q, none⟩ = some (.int .i64 (gt ks q)) := fun q hq => by
          rw [HK.out.cellAt q (by omega)]
          have hqk : q < ks.length := by rw [HSI1.out]; exact hq
          simp [ints, gt, hqk]
        have HCL := Lib.hid hcell
        clear hcell
        rcases hgo with ⟨q, rfl, hq⟩ | hst
        · have c1 := HCL.out q (by omega)
          have hAT2 : Hid (atR ks x i = atR ks x q) := Lib.hid (by rw [HAT.out, atR, if_pos hq])
          generalize gt ks q = y at *
          have ecast : ((q + 1 : Nat) : Int) = (q : Int) + 1 := by omega
          rw [ecast]
          have e0 : (0 : Int) < (q : Int) + 1 := by omega
          have e0' : (q : Int) + 1 > 0 := by omega
          have ew : IntKind.i64.wrap (q : Int) = (q : Int) := IntWalk.i64_in _ ⟨by omega, by omega⟩
          have qI : (q : Int) < (i : Int) := by omega
          have hgt : y > x := hq
          clear ecast
          go_wp2_with fail
          go_roundw
          case rel => exact ⟨q, by omega, by go_num, hAT2, by first | rfl | trivial⟩
          case measure => (simp [intOf] <;> omega)
        · have HATK : Hid (atR ks x i = k) := Lib.hid (by
            rw [HAT.out]
            rcases hst with rfl | ⟨q, rfl, hq⟩
            · rfl
            · rw [atR, if_neg hq])
          rw [HATK.out] at HSN
          have hkn : k ≤ n := by omega
          have kI : (k : Int) ≤ (i : Int) := by omega
          have hzi : i < z0.length := by rw [HN.out]; exact hlt
          obtain ⟨ad, u0, hA0, -, hu0, -⟩ := (HX.out.below HB.out).at_ hlt
          subst hA0
          clear hu0
          have hcapK := own_cap2 HK.out
          have hcapO := own_cap2 HO.out
          have HKK := HK.out
          have HBE := Lib.hid (bdrew HB.out)
          have hmx := hcapK.2
          unfold maxLen at hmx
          have oR' : wr.drew.ownsRow w.heap.size 3 1 (.slice (some ⟨gK, 0, none⟩) i cK) i (ints ks) := HK.out
          have oO' : wr.drew.ownsRow w.heap.size 3 1 (.slice (some ⟨gO, 0, none⟩) i cO) i (ints os) := HO.out
          have HSZ : Hid (w.heap.size ≤ wr.drew.heap.size) := Lib.hid HB.out.size
          rcases hst with hk0 | ⟨q, hkq, hq⟩
          · have kz : ¬ (k : Int) > 0 := by omega
            have kz2 : ¬ (0 : Int) < (k : Int) := by omega
            clear hk0
            go_upto_region 13 with fail
            clear kz kz2
            obtain ⟨gR, hh⟩ : ∃ g, g = gK := ⟨_, rfl⟩
            subst hh
            obtain ⟨cR, hh⟩ : ∃ g, g = cK := ⟨_, rfl⟩
            subst hh
            obtain ⟨m, hh⟩ : ∃ g, g = i := ⟨_, rfl⟩
            subst hh
            obtain ⟨p, hh⟩ : ∃ g, g = ks := ⟨_, rfl⟩
            subst hh
            obtain ⟨wq, hwq⟩ : ∃ wq, wr.drew = wq := ⟨_, rfl⟩
            rw [hwq] at HBE oR' oO' HSZ
            have oR := oR'
            have hkm : k ≤ m := hki
            have hcap : m ≤ cR := hcapK.1
            have hkc : k ≤ cR := by omega
            have hkcI : (k : Int) ≤ (cR : Int) := by omega
            have hkc2 : ¬ cR < k := by omega
            have h0k : (0 : Int) ≤ (k : Int) := by omega
            refine wp_region_inv' (fun a0 L a wr => St a0 a [48, 49, 50, 51, 52, 53, 54, 55, 56, 57, 58, 59, 7] ∧ 75 < a.tmps.size ∧ a.eval (.tmp 10) = .int .i64 (k : Nat) ∧ a.eval (.tmp 8) = .int .i64 x ∧ ShKF wq gR cR m k p x L wr (a.eval (.tmp 48)) (a.eval (.tmp 49)) (a.eval (.tmp 50)) (a.eval (.tmp 51)) (a.eval (.tmp 52)) (a.eval (.tmp 53)) (a.eval (.tmp 54)) (a.eval (.tmp 55)) (a.eval (.tmp 56)) (a.eval (.tmp 57)) (a.eval (.tmp 58)) (a.eval (.tmp 59)) (a.eval (.tmp 7))) (by kernel_rfl) (by kernel_rfl) ?start ?steps ?ends
            case start =>
              subst hwq
              refine ⟨St.refl _ _, Nat.le_of_ble_eq_true rfl, rfl, rfl, Below.refl _ _, ?_, ?_, ?_, ?_, ?_, ?_, ?_, ?_, ?_, ?_, ?_, ?_, ?_, ?_, ?_, ?_, ?_, ?_, ?_, ?_, ?_⟩
              all_goals (intro e; first | (cases e; done) | rfl | assumption)
            case ends =>
              rintro L a wr ⟨hst, hsz, q10, q8, b, h3, h4, h6, h7, h10, h11, h12, f0, f1, f2, f3, f4, f5, f6, f7, f8, f9, f10, f11, f12, frw⟩ hall
              have o9 := f11 (hall 11 (by decide))
              have e4 := f12 (hall 12 (by decide))
              obtain ⟨g9, c9, e9, -, -, -, -⟩ := own_some o9 (by omega)
              rw [e9] at o9 e4
              clear e9
              have heq := hst.eq
              simp only [List.foldl_cons, List.foldl_nil] at heq
              rw [e4] at heq
              clear hst hall hsz q10 q8 h3 h4 h6 h7 h10 h11 h12 f0 f1 f2 f3 f4 f5 f6 f7 f8 f9 f10 f11 f12 frw
              generalize a.eval (.tmp 48) = u48 at *
              generalize a.eval (.tmp 49) = u49 at *
              generalize a.eval (.tmp 50) = u50 at *
              generalize a.eval (.tmp 51) = u51 at *
              generalize a.eval (.tmp 52) = u52 at *
              generalize a.eval (.tmp 53) = u53 at *
              generalize a.eval (.tmp 54) = u54 at *
              generalize a.eval (.tmp 55) = u55 at *
              generalize a.eval (.tmp 56) = u56 at *
              generalize a.eval (.tmp 57) = u57 at *
              generalize a.eval (.tmp 58) = u58 at *
              generalize a.eval (.tmp 59) = u59 at *
              simp only [Act.put, List.setIfInBounds_toArray, List.set_cons_zero, List.set_cons_succ] at heq
              subst heq
              have HB13 := Lib.hid (HBE.out.trans (b.mono HSZ.out))
              have HK13 := Lib.hid (own_base o9 HSZ.out)
              have HO13 := Lib.hid (own_below oO' b (Nat.le_refl _))
              clear o9 b oR' oO' oR hcap hkc hkcI hkc2 hcapK HKK HK HO HB HBE HSZ HCL
              obtain ⟨gN, hh⟩ : ∃ g, g = g9 := ⟨_, rfl⟩
              subst hh
              obtain ⟨cN, hh⟩ : ∃ g, g = c9 := ⟨_, rfl⟩
              subst hh
              go_upto_region 14 with fail
              clear hmx
              have hmx := hcapO.2
              unfold maxLen at hmx
              obtain ⟨gR, hh⟩ : ∃ g, g = gO := ⟨_, rfl⟩
              subst hh
              obtain ⟨cR, hh⟩ : ∃ g, g = cO := ⟨_, rfl⟩
              subst hh
              have HBE := Lib.hid (bdrew HB13.out)
              have oR' : wr.drew.ownsRow w.heap.size 3 1 (.slice (some ⟨gR, 0, none⟩) m cR) m (ints os) := HO13.out
              have oK' : wr.drew.ownsRow w.heap.size 3 1 (.slice (some ⟨gN, 0, none⟩) (m + 1) cN) (m + 1) (ints (insA p k x)) := HK13.out
              have HSZ : Hid (w.heap.size ≤ wr.drew.heap.size) := Lib.hid HB13.out.size
              have hcq0 : wr.drew.cell? (ad.add m) = some (.int .i64 (gt z0 m)) := by
                obtain ⟨ad', u, e', -, hu, hc2⟩ := (HX.out.below HB13.out).at_ hlt
                cases e'
                rw [ints_get hzi] at hu
                cases hu
                have : gt z0 m = z0[m] := by unfold gt; rw [List.getElem?_eq_getElem hzi]; rfl
                rw [this]
                exact hc2
              have hadl0 : (ad.add m).block < wr.drew.heap.size := by
                obtain ⟨ad', u, e', hb', -, -⟩ := HX.out.at_ hlt
                cases e'
                rw [block_of_add]
                have := HB13.out.size
                have h9 : wr.drew.heap.size = wr.heap.size := rfl
                omega
              obtain ⟨xk, hh⟩ : ∃ v, v = x := ⟨_, rfl⟩
              subst hh
              obtain ⟨pk, hh⟩ : ∃ v, v = p := ⟨_, rfl⟩
              subst hh
              obtain ⟨p, hh⟩ : ∃ v, v = os := ⟨_, rfl⟩
              subst hh
              obtain ⟨x, hgx⟩ : ∃ v, gt z0 m = v := ⟨_, rfl⟩
              rw [hgx] at hcq0 HSN
              clear hgx
              obtain ⟨wq, hwq⟩ : ∃ wq, wr.drew = wq := ⟨_, rfl⟩
              rw [hwq] at HBE oR' oK' HSZ hcq0 hadl0
              have oR := oR'
              have hcq := hcq0
              have hadl := hadl0
              have hcap : m ≤ cR := hcapO.1
              have hkc : k ≤ cR := by omega
              have hkcI : (k : Int) ≤ (cR : Int) := by omega
              have hkc2 : ¬ cR < k := by omega
              refine wp_region_inv' (fun a0 L a wr => St a0 a [60, 61, 62, 63, 64, 65, 66, 67, 68, 69, 70, 71, 72, 73, 74, 6] ∧ 75 < a.tmps.size ∧ a.eval (.tmp 0) = .slice (some ad) n c0 ∧ a.eval (.tmp 9) = .int .i64 (m : Nat) ∧ a.eval (.tmp 10) = .int .i64 (k : Nat) ∧ ShOF wq gR cR m k n c0 ad p x L wr (a.eval (.tmp 60)) (a.eval (.tmp 61)) (a.eval (.tmp 62)) (a.eval (.tmp 63)) (a.eval (.tmp 64)) (a.eval (.tmp 65)) (a.eval (.tmp 66)) (a.eval (.tmp 67)) (a.eval (.tmp 68)) (a.eval (.tmp 69)) (a.eval (.tmp 70)) (a.eval (.tmp 71)) (a.eval (.tmp 72)) (a.eval (.tmp 73)) (a.eval (.tmp 74)) (a.eval (.tmp 6))) (by kernel_rfl) (by kernel_rfl) ?start2 ?steps2 ?ends2
              case start2 =>
                subst hwq
                refine ⟨St.refl _ _, Nat.le_of_ble_eq_true rfl, rfl, rfl, rfl, Below.refl _ _, ?_, ?_, ?_, ?_, ?_, ?_, ?_, ?_, ?_, ?_, ?_, ?_, ?_, ?_, ?_, ?_, ?_, ?_, ?_, ?_, ?_, ?_, ?_, ?_, ?_, ?_⟩
                all_goals (intro e; first | (cases e; done) | rfl | assumption)
              case ends2 =>
                rintro L a wr ⟨hst, hsz, q0, q9, q10, b, h3, h4, h7, h8, h9, h10, h13, h14, h15, f0, f1, f2, f3, f4, f5, f6, f7, f8, f9, f10, f11, f12, f13, f14, f15, frw⟩ hall
                have o9 := f14 (hall 14 (by decide))
                have e4 := f15 (hall 15 (by decide))
                obtain ⟨g9, c9, e9, -, -, -, -⟩ := own_some o9 (by omega)
                rw [e9] at o9 e4
                clear e9
                have heq := hst.eq
                simp only [List.foldl_cons, List.foldl_nil] at heq
                rw [e4] at heq
                clear hst hall hsz q0 q9 q10 h3 h4 h7 h8 h9 h10 h13 h14 h15 f0 f1 f2 f3 f4 f5 f6 f7 f8 f9 f10 f11 f12 f13 f14 f15 frw
                generalize a.eval (.tmp 60) = u60 at *
                generalize a.eval (.tmp 61) = u61 at *
                generalize a.eval (.tmp 62) = u62 at *
                generalize a.eval (.tmp 63) = u63 at *
                generalize a.eval (.tmp 64) = u64 at *
                generalize a.eval (.tmp 65) = u65 at *
                generalize a.eval (.tmp 66) = u66 at *
                generalize a.eval (.tmp 67) = u67 at *
                generalize a.eval (.tmp 68) = u68 at *
                generalize a.eval (.tmp 69) = u69 at *
                generalize a.eval (.tmp 70) = u70 at *
                generalize a.eval (.tmp 71) = u71 at *
                generalize a.eval (.tmp 72) = u72 at *
                generalize a.eval (.tmp 73) = u73 at *
                generalize a.eval (.tmp 74) = u74 at *
                simp only [Act.put, List.setIfInBounds_toArray, List.set_cons_zero, List.set_cons_succ] at heq
                subst heq
                have HB14 := Lib.hid (HBE.out.trans (b.mono HSZ.out))
                have HO14 : Hid (wr.ownsRow w.heap.size 3 1 (.slice (some ⟨g9, 0, none⟩) (m + 1) c9) (m + 1) (ints (SI z0 s (m + 1)).2)) := Lib.hid (by rw [HSN.out]; exact own_base o9 HSZ.out)
                have HK14 : Hid (wr.ownsRow w.heap.size 3 1 (.slice (some ⟨gN, 0, none⟩) (m + 1) cN) (m + 1) (ints (SI z0 s (m + 1)).1)) := Lib.hid (by rw [HSN.out]; exact own_below oK' b (Nat.le_refl _))
                clear o9 b oK' oR oR' hcq hadl hcq0 hadl0 hcap hkc hkcI hkc2
                go_wp2_with fail
                go_roundw
                case rel => exact ⟨m + 1, _, _, _, _, xk, by omega, rfl, rfl, rfl, hxb, HX2, by go_num, HO14, HK14, HB14⟩
                case measure => (simp [intOf] <;> omega)
              case steps2 =>
                refine ⟨?t0, ?t1, ?t2, ?t3, ?t4, ?t5, ?t6, ?t7, ?t8, ?t9, ?t10, ?t11, ?t12, ?t13, ?t14, ?t15, trivial⟩
                case t0 =>
                  rintro L a wr ⟨hst, hsz, q0, q9, q10, hF⟩ hL hdp K hK
                  have ev := fun (d t : Nat) (v : Value) (hd : d < 76) => eval_put a d t v (by omega)
                  obtain ⟨b, h3, h4, h7, h8, h9, h10, h13, h14, h15, f0, f1, f2, f3, f4, f5, f6, f7, f8, f9, f10, f11, f12, f13, f14, f15, frw⟩ := hF
                  refine step_value (v := .slice (some ⟨wr.heap.size, 0, none⟩) 0 0) (w' := wr.alloc (.cells #[] 3)) rfl (by go_simp) ?_
                  refine hK _ _ ⟨hst.put 60 _ (by decide), by simpa [Act.put] using hsz, (ev 60 0 _ (by decide)).trans q0, (ev 60 9 _ (by decide)).trans q9, (ev 60 10 _ (by decide)).trans q10, ?_⟩
                  simp only [ev 60 _ _ (by decide)]
                  exact ⟨alloc_ b _, h3, fun e => absurd ((h4 e).1.symm.trans hL) (by decide), h7, h8, h9, h10, h13, h14, h15, fun _ _ => ⟨_, rfl, made_at b.size rfl⟩, f1, f2, f3, fun e => absurd ((h4 e).1.symm.trans hL) (by decide), f5, f6, f7, f8, fun e e2 => (f9 e e2).imp fun g h => ⟨h.1, h.2.1.alloc _, fun _ _ e3 => by have h8 := h.2.1.lt; have h9 : wr.heap.size = g := Option.some.inj e3; omega, h.2.2.2⟩, fun e => absurd ((h4 (h10 e).1).1.symm.trans hL) (by decide), f11, f12, f13, fun e => absurd ((h4 (h10 (h14 e).1).1).1.symm.trans hL) (by decide), f15, frw⟩
                case t1 =>
                  rintro L a wr ⟨hst, hsz, q0, q9, q10, hF⟩ hL hdp K hK
                  have ev := fun (d t : Nat) (v : Value) (hd : d < 76) => eval_put a d t v (by omega)
                  obtain ⟨b, h3, h4, h7, h8, h9, h10, h13, h14, h15, f0, f1, f2, f3, f4, f5, f6, f7, f8, f9, f10, f11, f12, f13, f14, f15, frw⟩ := hF
                  have n15 : L 15 = false := by
                    cases h : L 15
                    · rfl
                    · exact absurd (((h3 (h4 (h10 (h14 (h15 h)).1).1).2).1).symm.trans hL) (by decide)
                  have t6 := frw n15
                  rw [eval_tmp, Array.getD_eq_getD_getElem?] at t6
                  refine step_value (v := .slice (some ⟨gR, 0, none⟩) m cR) (w' := wr) rfl (by go_simp) ?_
                  refine hK _ _ ⟨hst.put 61 _ (by decide), by simpa [Act.put] using hsz, (ev 61 0 _ (by decide)).trans q0, (ev 61 9 _ (by decide)).trans q9, (ev 61 10 _ (by decide)).trans q10, ?_⟩
                  simp only [ev 61 _ _ (by decide)]
                  exact ⟨b, fun e => absurd ((h3 e).1.symm.trans hL) (by decide), h4, h7, h8, h9, h10, h13, h14, h15, f0, fun _ => rfl, f2, f3, f4, f5, f6, f7, f8, f9, f10, f11, f12, f13, f14, f15, frw⟩
                case t2 =>
                  rintro L a wr ⟨hst, hsz, q0, q9, q10, hF⟩ hL hdp K hK
                  have ev := fun (d t : Nat) (v : Value) (hd : d < 76) => eval_put a d t v (by omega)
                  obtain ⟨b, h3, h4, h7, h8, h9, h10, h13, h14, h15, f0, f1, f2, f3, f4, f5, f6, f7, f8, f9, f10, f11, f12, f13, f14, f15, frw⟩ := hF
                  have t10 := q10
                  rw [eval_tmp, Array.getD_eq_getD_getElem?] at t10
                  refine step_value (v := .int .i64 (k : Nat)) (w' := wr) rfl (by go_simp) ?_
                  refine hK _ _ ⟨hst.put 62 _ (by decide), by simpa [Act.put] using hsz, (ev 62 0 _ (by decide)).trans q0, (ev 62 9 _ (by decide)).trans q9, (ev 62 10 _ (by decide)).trans q10, ?_⟩
                  simp only [ev 62 _ _ (by decide)]
                  exact ⟨b, fun e => absurd ((h3 e).2.symm.trans hL) (by decide), h4, h7, h8, h9, h10, h13, h14, h15, f0, f1, fun _ => rfl, f3, f4, f5, f6, f7, f8, f9, f10, f11, f12, f13, f14, f15, frw⟩
                case t3 =>
                  rintro L a wr ⟨hst, hsz, q0, q9, q10, hF⟩ hL hdp K hK
                  have ev := fun (d t : Nat) (v : Value) (hd : d < 76) => eval_put a d t v (by omega)
                  have d1 : L 1 = true := hdp ⟨1, .data⟩ (by simp) rfl
                  have d2 : L 2 = true := hdp ⟨2, .data⟩ (by simp) rfl
                  obtain ⟨b, h3, h4, h7, h8, h9, h10, h13, h14, h15, f0, f1, f2, f3, f4, f5, f6, f7, f8, f9, f10, f11, f12, f13, f14, f15, frw⟩ := hF
                  have t61 := f1 d1
                  have t62 := f2 d2
                  rw [eval_tmp, Array.getD_eq_getD_getElem?] at t61 t62
                  refine step_value (v := .slice (some ⟨gR, 0, none⟩) k cR) (w' := wr) rfl (by go_simp) ?_
                  refine hK _ _ ⟨hst.put 63 _ (by decide), by simpa [Act.put] using hsz, (ev 63 0 _ (by decide)).trans q0, (ev 63 9 _ (by decide)).trans q9, (ev 63 10 _ (by decide)).trans q10, ?_⟩
                  simp only [ev 63 _ _ (by decide)]
                  exact ⟨b, fun _ => ⟨d1, d2⟩, fun e => absurd ((h4 e).2.symm.trans hL) (by decide), h7, h8, h9, h10, h13, h14, h15, f0, f1, f2, fun _ => rfl, f4, f5, f6, f7, f8, f9, f10, f11, f12, f13, f14, f15, frw⟩
                case t4 =>
                  rintro L a wr ⟨hst, hsz, q0, q9, q10, hF⟩ hL hdp K hK
                  have ev := fun (d t : Nat) (v : Value) (hd : d < 76) => eval_put a d t v (by omega)
                  have d0 : L 0 = true := hdp ⟨0, .data⟩ (by simp) rfl
                  have d3 : L 3 = true := hdp ⟨3, .data⟩ (by simp) rfl
                  obtain ⟨b, h3, h4, h7, h8, h9, h10, h13, h14, h15, f0, f1, f2, f3, f4, f5, f6, f7, f8, f9, f10, f11, f12, f13, f14, f15, frw⟩ := hF
                  have t63 := f3 d3
                  obtain ⟨g0, e0, ho⟩ := f0 d0 hL
                  refine step_append_any wr rfl (.tmp 60) (.tmp 63) 22 rfl wq.heap.size 3 i0 _ 1 8 Try.underlying22 hi'.out.1 hi'.out.2.1 hi'.out.2.2.1 hi'.out.2.2.2 rfl (by decide) (a.eval (.tmp 60)) 0 [] rfl ho wr.heap.size (some ⟨gR, 0, none⟩) k cR (ints (p.take k)) (f3 d3) (by rw [show ints (p.take k) = (ints p).take k by simp [ints, List.map_take]]; exact Reads.pre (Reads.of_own (own_below oR b (Nat.le_refl _))) hkm) (ints_one_ _) (by unfold maxLen; omega) (by omega) b.size ?_
                  intro v4 w4 o4 gr4 at4
                  rw [Nat.zero_add, List.nil_append] at o4
                  refine hK _ _ ⟨hst.put 64 _ (by decide), by simpa [Act.put] using hsz, (ev 64 0 _ (by decide)).trans q0, (ev 64 9 _ (by decide)).trans q9, (ev 64 10 _ (by decide)).trans q10, ?_⟩
                  simp only [ev 64 _ _ (by decide)]
                  exact ⟨b.grown gr4 b.size (fun q hq => (own_lt ho q hq).1), h3, fun _ => ⟨d0, d3⟩, h7, h8, h9, fun e => absurd ((h10 e).1.symm.trans hL) (by decide), h13, h14, h15, fun _ e => absurd ((upd_self L 4).symm.trans e) (by decide), f1, f2, f3, fun _ _ => o4, f5, f6, f7, f8, fun e e2 => (f9 e e2).imp fun g h => ⟨h.1, h.2.1.grown gr4 (fun e3 => h.2.2.1 d0 hL e3.symm), (fun _ e3 => absurd ((upd_self L 4).symm.trans e3) (by decide)), fun _ e3 => by
                      rcases at4 with e4 | e4
                      · exact h.2.2.1 d0 hL (e4.symm.trans e3)
                      · have h8 := h.2.1.lt; have h9 : wr.heap.size = g := Option.some.inj (e4.symm.trans e3); omega⟩, fun e => absurd ((h10 e).1.symm.trans hL) (by decide), f11, f12, f13, fun e => absurd ((h10 (h14 e).1).1.symm.trans hL) (by decide), f15, frw⟩
                case t5 =>
                  rintro L a wr ⟨hst, hsz, q0, q9, q10, hF⟩ hL hdp K hK
                  have ev := fun (d t : Nat) (v : Value) (hd : d < 76) => eval_put a d t v (by omega)
                  obtain ⟨b, h3, h4, h7, h8, h9, h10, h13, h14, h15, f0, f1, f2, f3, f4, f5, f6, f7, f8, f9, f10, f11, f12, f13, f14, f15, frw⟩ := hF
                  have t0 := q0
                  rw [eval_tmp, Array.getD_eq_getD_getElem?] at t0
                  refine step_value (v := .slice (some ad) n c0) (w' := wr) rfl (by go_simp) ?_
                  refine hK _ _ ⟨hst.put 65 _ (by decide), by simpa [Act.put] using hsz, (ev 65 0 _ (by decide)).trans q0, (ev 65 9 _ (by decide)).trans q9, (ev 65 10 _ (by decide)).trans q10, ?_⟩
                  simp only [ev 65 _ _ (by decide)]
                  exact ⟨b, h3, h4, fun e => absurd ((h7 e).1.symm.trans hL) (by decide), h8, h9, h10, h13, h14, h15, f0, f1, f2, f3, f4, fun _ => rfl, f6, f7, f8, f9, f10, f11, f12, f13, f14, f15, frw⟩
                case t6 =>
                  rintro L a wr ⟨hst, hsz, q0, q9, q10, hF⟩ hL hdp K hK
                  have ev := fun (d t : Nat) (v : Value) (hd : d < 76) => eval_put a d t v (by omega)
                  obtain ⟨b, h3, h4, h7, h8, h9, h10, h13, h14, h15, f0, f1, f2, f3, f4, f5, f6, f7, f8, f9, f10, f11, f12, f13, f14, f15, frw⟩ := hF
                  have t9 := q9
                  rw [eval_tmp, Array.getD_eq_getD_getElem?] at t9
                  refine step_value (v := .int .i64 (m : Nat)) (w' := wr) rfl (by go_simp) ?_
                  refine hK _ _ ⟨hst.put 66 _ (by decide), by simpa [Act.put] using hsz, (ev 66 0 _ (by decide)).trans q0, (ev 66 9 _ (by decide)).trans q9, (ev 66 10 _ (by decide)).trans q10, ?_⟩
                  simp only [ev 66 _ _ (by decide)]
                  exact ⟨b, h3, h4, fun e => absurd ((h7 e).2.symm.trans hL) (by decide), h8, h9, h10, h13, h14, h15, f0, f1, f2, f3, f4, f5, fun _ => rfl, f7, f8, f9, f10, f11, f12, f13, f14, f15, frw⟩
                case t7 =>
                  rintro L a wr ⟨hst, hsz, q0, q9, q10, hF⟩ hL hdp K hK
                  have ev := fun (d t : Nat) (v : Value) (hd : d < 76) => eval_put a d t v (by omega)
                  have d5 : L 5 = true := hdp ⟨5, .data⟩ (by simp) rfl
                  have d6 : L 6 = true := hdp ⟨6, .data⟩ (by simp) rfl
                  obtain ⟨b, h3, h4, h7, h8, h9, h10, h13, h14, h15, f0, f1, f2, f3, f4, f5, f6, f7, f8, f9, f10, f11, f12, f13, f14, f15, frw⟩ := hF
                  have t65 := f5 d5
                  have t66 := f6 d6
                  rw [eval_tmp, Array.getD_eq_getD_getElem?] at t65 t66
                  refine step_value (v := .pointer (some (ad.add m))) (w' := wr) rfl (by go_simp) ?_
                  refine hK _ _ ⟨hst.put 67 _ (by decide), by simpa [Act.put] using hsz, (ev 67 0 _ (by decide)).trans q0, (ev 67 9 _ (by decide)).trans q9, (ev 67 10 _ (by decide)).trans q10, ?_⟩
                  simp only [ev 67 _ _ (by decide)]
                  exact ⟨b, h3, h4, fun _ => ⟨d5, d6⟩, fun e => absurd ((h8 e).symm.trans hL) (by decide), h9, h10, h13, h14, h15, f0, f1, f2, f3, f4, f5, f6, fun _ => rfl, f8, f9, f10, f11, f12, f13, f14, f15, frw⟩
                case t8 =>
                  rintro L a wr ⟨hst, hsz, q0, q9, q10, hF⟩ hL hdp K hK
                  have ev := fun (d t : Nat) (v : Value) (hd : d < 76) => eval_put a d t v (by omega)
                  have d7 : L 7 = true := hdp ⟨7, .data⟩ (by simp) rfl
                  obtain ⟨b, h3, h4, h7, h8, h9, h10, h13, h14, h15, f0, f1, f2, f3, f4, f5, f6, f7, f8, f9, f10, f11, f12, f13, f14, f15, frw⟩ := hF
                  have t67 := f7 d7
                  rw [eval_tmp, Array.getD_eq_getD_getElem?] at t67
                  have hcl := (b.cell hadl).trans hcq
                  refine step_value (v := .int .i64 x) (w' := wr) rfl (by go_simp) ?_
                  refine hK _ _ ⟨hst.put 68 _ (by decide), by simpa [Act.put] using hsz, (ev 68 0 _ (by decide)).trans q0, (ev 68 9 _ (by decide)).trans q9, (ev 68 10 _ (by decide)).trans q10, ?_⟩
                  simp only [ev 68 _ _ (by decide)]
                  exact ⟨b, h3, h4, h7, fun _ => d7, fun e => absurd ((h9 e).symm.trans hL) (by decide), h10, h13, h14, h15, f0, f1, f2, f3, f4, f5, f6, f7, fun _ => rfl, f9, f10, f11, f12, f13, f14, f15, frw⟩
                case t9 =>
                  rintro L a wr ⟨hst, hsz, q0, q9, q10, hF⟩ hL hdp K hK
                  have ev := fun (d t : Nat) (v : Value) (hd : d < 76) => eval_put a d t v (by omega)
                  have d8 : L 8 = true := hdp ⟨8, .data⟩ (by simp) rfl
                  obtain ⟨b, h3, h4, h7, h8, h9, h10, h13, h14, h15, f0, f1, f2, f3, f4, f5, f6, f7, f8, f9, f10, f11, f12, f13, f14, f15, frw⟩ := hF
                  have n10 : L 10 = false := by
                    cases h : L 10
                    · rfl
                    · exact absurd (((h10 h).2).symm.trans hL) (by decide)
                  have t68 := f8 d8
                  rw [eval_tmp, Array.getD_eq_getD_getElem?] at t68
                  refine step_value (v := .slice (some ⟨wr.heap.size, 0, none⟩) 1 1) (w' := wr.alloc (.cells #[.int .i64 x] 3)) rfl (by go_simp) ?_
                  refine hK _ _ ⟨hst.put 69 _ (by decide), by simpa [Act.put] using hsz, (ev 69 0 _ (by decide)).trans q0, (ev 69 9 _ (by decide)).trans q9, (ev 69 10 _ (by decide)).trans q10, ?_⟩
                  simp only [ev 69 _ _ (by decide)]
                  exact ⟨alloc_ b _, h3, h4, h7, h8, fun _ => d8, fun e => absurd ((h10 e).2.symm.trans hL) (by decide), h13, h14, h15, fun e e2 => (f0 e e2).imp fun g h => ⟨h.1, h.2.alloc _⟩, f1, f2, f3, fun e e2 => (f4 e e2).alloc _, f5, f6, f7, f8, fun _ _ => ⟨wr.heap.size, rfl, Blk.new _ _ _, (fun e e2 e3 => by
                      obtain ⟨g, h1, h2⟩ := f0 e e2
                      have := (own_lt h2 _ e3).2; omega), fun e e3 => by have := (own_lt (f4 e n10) _ e3).2; omega⟩, fun e => absurd ((h10 e).2.symm.trans hL) (by decide), f11, f12, f13, fun e => absurd ((h10 (h14 e).1).2.symm.trans hL) (by decide), f15, frw⟩
                case t10 =>
                  rintro L a wr ⟨hst, hsz, q0, q9, q10, hF⟩ hL hdp K hK
                  have ev := fun (d t : Nat) (v : Value) (hd : d < 76) => eval_put a d t v (by omega)
                  have d4 : L 4 = true := hdp ⟨4, .data⟩ (by simp) rfl
                  have d9 : L 9 = true := hdp ⟨9, .data⟩ (by simp) rfl
                  obtain ⟨b, h3, h4, h7, h8, h9, h10, h13, h14, h15, f0, f1, f2, f3, f4, f5, f6, f7, f8, f9, f10, f11, f12, f13, f14, f15, frw⟩ := hF
                  obtain ⟨g6, e6, hk6, -, hne⟩ := f9 d9 hL
                  have ho := f4 d4 hL
                  refine step_push wr rfl (.tmp 64) (.tmp 69) 22 rfl wq.heap.size 3 i0 _ 1 8 Try.underlying22 hi'.out.1 hi'.out.2.1 hi'.out.2.2.1 hi'.out.2.2.2 rfl (by decide) (a.eval (.tmp 64)) k _ rfl ho #[.int .i64 x] g6 e6 hk6 rfl (by simp [Value.oneCell']) (by omega) (by unfold maxLen; omega) b.size ?_
                  intro g8 d8 w8 o8 gr8 bl8 at8
                  rw [show ints (p.take k) ++ (#[Value.int .i64 x] : Array Value).toList = ints (p.take k ++ [x]) by simp [ints]] at o8
                  refine hK _ _ ⟨hst.put 70 _ (by decide), by simpa [Act.put] using hsz, (ev 70 0 _ (by decide)).trans q0, (ev 70 9 _ (by decide)).trans q9, (ev 70 10 _ (by decide)).trans q10, ?_⟩
                  simp only [ev 70 _ _ (by decide)]
                  exact ⟨b.grown gr8 b.size (fun q hq => (own_lt ho q hq).1), h3, h4, h7, h8, h9, fun _ => ⟨d4, d9⟩, h13, fun e => absurd ((h14 e).1.symm.trans hL) (by decide), h15, fun e e2 => absurd (d4.symm.trans e2) (by decide), f1, f2, f3, fun _ e => absurd ((upd_self L 10).symm.trans e) (by decide), f5, f6, f7, f8, fun _ e => absurd ((upd_self L 10).symm.trans e) (by decide), fun _ _ => o8, f11, f12, f13, fun e => absurd ((h14 e).1.symm.trans hL) (by decide), f15, frw⟩
                case t11 =>
                  rintro L a wr ⟨hst, hsz, q0, q9, q10, hF⟩ hL hdp K hK
                  have ev := fun (d t : Nat) (v : Value) (hd : d < 76) => eval_put a d t v (by omega)
                  obtain ⟨b, h3, h4, h7, h8, h9, h10, h13, h14, h15, f0, f1, f2, f3, f4, f5, f6, f7, f8, f9, f10, f11, f12, f13, f14, f15, frw⟩ := hF
                  have n15 : L 15 = false := by
                    cases h : L 15
                    · rfl
                    · exact absurd (((h13 (h14 (h15 h)).2).1).symm.trans hL) (by decide)
                  have t6 := frw n15
                  rw [eval_tmp, Array.getD_eq_getD_getElem?] at t6
                  refine step_value (v := .slice (some ⟨gR, 0, none⟩) m cR) (w' := wr) rfl (by go_simp) ?_
                  refine hK _ _ ⟨hst.put 71 _ (by decide), by simpa [Act.put] using hsz, (ev 71 0 _ (by decide)).trans q0, (ev 71 9 _ (by decide)).trans q9, (ev 71 10 _ (by decide)).trans q10, ?_⟩
                  simp only [ev 71 _ _ (by decide)]
                  exact ⟨b, h3, h4, h7, h8, h9, h10, fun e => absurd ((h13 e).1.symm.trans hL) (by decide), h14, h15, f0, f1, f2, f3, f4, f5, f6, f7, f8, f9, f10, fun _ => rfl, f12, f13, f14, f15, frw⟩
                case t12 =>
                  rintro L a wr ⟨hst, hsz, q0, q9, q10, hF⟩ hL hdp K hK
                  have ev := fun (d t : Nat) (v : Value) (hd : d < 76) => eval_put a d t v (by omega)
                  obtain ⟨b, h3, h4, h7, h8, h9, h10, h13, h14, h15, f0, f1, f2, f3, f4, f5, f6, f7, f8, f9, f10, f11, f12, f13, f14, f15, frw⟩ := hF
                  have t10 := q10
                  rw [eval_tmp, Array.getD_eq_getD_getElem?] at t10
                  refine step_value (v := .int .i64 (k : Nat)) (w' := wr) rfl (by go_simp) ?_
                  refine hK _ _ ⟨hst.put 72 _ (by decide), by simpa [Act.put] using hsz, (ev 72 0 _ (by decide)).trans q0, (ev 72 9 _ (by decide)).trans q9, (ev 72 10 _ (by decide)).trans q10, ?_⟩
                  simp only [ev 72 _ _ (by decide)]
                  exact ⟨b, h3, h4, h7, h8, h9, h10, fun e => absurd ((h13 e).2.symm.trans hL) (by decide), h14, h15, f0, f1, f2, f3, f4, f5, f6, f7, f8, f9, f10, f11, fun _ => rfl, f13, f14, f15, frw⟩
                case t13 =>
                  rintro L a wr ⟨hst, hsz, q0, q9, q10, hF⟩ hL hdp K hK
                  have ev := fun (d t : Nat) (v : Value) (hd : d < 76) => eval_put a d t v (by omega)
                  have d11 : L 11 = true := hdp ⟨11, .data⟩ (by simp) rfl
                  have d12 : L 12 = true := hdp ⟨12, .data⟩ (by simp) rfl
                  obtain ⟨b, h3, h4, h7, h8, h9, h10, h13, h14, h15, f0, f1, f2, f3, f4, f5, f6, f7, f8, f9, f10, f11, f12, f13, f14, f15, frw⟩ := hF
                  have t71 := f11 d11
                  have t72 := f12 d12
                  rw [eval_tmp, Array.getD_eq_getD_getElem?] at t71 t72
                  by_cases hck : cR = k
                  · refine step_value (v := .slice (some ⟨gR, 0, none⟩) (m - k) (cR - k)) (w' := wr) rfl (by go_simp) ?_
                    refine hK _ _ ⟨hst.put 73 _ (by decide), by simpa [Act.put] using hsz, (ev 73 0 _ (by decide)).trans q0, (ev 73 9 _ (by decide)).trans q9, (ev 73 10 _ (by decide)).trans q10, ?_⟩
                    simp only [ev 73 _ _ (by decide)]
                    exact ⟨b, h3, h4, h7, h8, h9, h10, fun _ => ⟨d11, d12⟩, fun e => absurd ((h14 e).2.symm.trans hL) (by decide), h15, f0, f1, f2, f3, f4, f5, f6, f7, f8, f9, f10, f11, f12, fun _ => ⟨0, rfl, .inr (by omega)⟩, f14, f15, frw⟩
                  · refine step_value (v := .slice (some ⟨gR, k, none⟩) (m - k) (cR - k)) (w' := wr) rfl (by go_simp) ?_
                    refine hK _ _ ⟨hst.put 73 _ (by decide), by simpa [Act.put] using hsz, (ev 73 0 _ (by decide)).trans q0, (ev 73 9 _ (by decide)).trans q9, (ev 73 10 _ (by decide)).trans q10, ?_⟩
                    simp only [ev 73 _ _ (by decide)]
                    exact ⟨b, h3, h4, h7, h8, h9, h10, fun _ => ⟨d11, d12⟩, fun e => absurd ((h14 e).2.symm.trans hL) (by decide), h15, f0, f1, f2, f3, f4, f5, f6, f7, f8, f9, f10, f11, f12, fun _ => ⟨k, rfl, .inl rfl⟩, f14, f15, frw⟩
                case t14 =>
                  rintro L a wr ⟨hst, hsz, q0, q9, q10, hF⟩ hL hdp K hK
                  have ev := fun (d t : Nat) (v : Value) (hd : d < 76) => eval_put a d t v (by omega)
                  have d10 : L 10 = true := hdp ⟨10, .data⟩ (by simp) rfl
                  have d13 : L 13 = true := hdp ⟨13, .data⟩ (by simp) rfl
                  obtain ⟨b, h3, h4, h7, h8, h9, h10, h13, h14, h15, f0, f1, f2, f3, f4, f5, f6, f7, f8, f9, f10, f11, f12, f13, f14, f15, frw⟩ := hF
                  have ho := f10 d10 hL
                  obtain ⟨o, eT, ho2⟩ := f13 d13
                  refine step_append_any wr rfl (.tmp 70) (.tmp 73) 22 rfl wq.heap.size 3 i0 _ 1 8 Try.underlying22 hi'.out.1 hi'.out.2.1 hi'.out.2.2.1 hi'.out.2.2.2 rfl (by decide) (a.eval (.tmp 70)) (k + 1) _ rfl ho wr.heap.size (some ⟨gR, o, none⟩) (m - k) (cR - k) (ints (p.drop k)) eT (by
                    rcases ho2 with rfl | h3
                    · exact reads_offS (own_below oR b (Nat.le_refl _)) hkm
                    · rw [h3]; exact reads_noneS (own_below oR b (Nat.le_refl _)) o) (ints_one_ _) (by unfold maxLen; omega) (by omega) b.size ?_
                  intro v9 w9 o9 gr9 at9
                  rw [show k + 1 + (m - k) = m + 1 by omega, show ints (p.take k ++ [x]) ++ ints (p.drop k) = ints (insA p k x) by simp [ints, insA]] at o9
                  refine hK _ _ ⟨hst.put 74 _ (by decide), by simpa [Act.put] using hsz, (ev 74 0 _ (by decide)).trans q0, (ev 74 9 _ (by decide)).trans q9, (ev 74 10 _ (by decide)).trans q10, ?_⟩
                  simp only [ev 74 _ _ (by decide)]
                  exact ⟨b.grown gr9 b.size (fun q hq => (own_lt ho q hq).1), h3, h4, h7, h8, h9, h10, h13, fun _ => ⟨d10, d13⟩, fun e => absurd ((h15 e).symm.trans hL) (by decide), fun e e2 => absurd ((h10 d10).1.symm.trans e2) (by decide), f1, f2, f3, fun e e2 => absurd (d10.symm.trans e2) (by decide), f5, f6, f7, f8, fun e e2 => absurd (d10.symm.trans e2) (by decide), fun _ e => absurd ((upd_self L 14).symm.trans e) (by decide), f11, f12, f13, fun _ => o9, fun e => absurd ((h15 e).symm.trans hL) (by decide), frw⟩
                case t15 =>
                  rintro L a wr ⟨hst, hsz, q0, q9, q10, hF⟩ hL hdp K hK
                  have ev := fun (d t : Nat) (v : Value) (hd : d < 76) => eval_put a d t v (by omega)
                  have d14 : L 14 = true := hdp ⟨14, .data⟩ (by simp) rfl
                  obtain ⟨b, h3, h4, h7, h8, h9, h10, h13, h14, h15, f0, f1, f2, f3, f4, f5, f6, f7, f8, f9, f10, f11, f12, f13, f14, f15, frw⟩ := hF
                  refine step_value (v := a.eval (.tmp 74)) (w' := wr) rfl (by go_simp) ?_
                  refine hK _ _ ⟨hst.put 6 _ (by decide), by simpa [Act.put] using hsz, (ev 6 0 _ (by decide)).trans q0, (ev 6 9 _ (by decide)).trans q9, (ev 6 10 _ (by decide)).trans q10, ?_⟩
                  simp only [ev 6 _ _ (by decide)]
                  exact ⟨b, h3, h4, h7, h8, h9, h10, h13, h14, fun _ => d14, f0, f1, f2, f3, f4, f5, f6, f7, f8, f9, f10, f11, f12, f13, f14, fun _ => rfl, fun e => absurd ((upd_self L 15).symm.trans e) (by decide)⟩
            case steps =>
              refine ⟨?s0, ?s1, ?s2, ?s3, ?s4, ?s5, ?s6, ?s7, ?s8, ?s9, ?s10, ?s11, ?s12, trivial⟩
              case s0 =>
                rintro L a wr ⟨hst, hsz, q10, q8, hF⟩ hL hdp K hK
                have ev := fun (d t : Nat) (v : Value) (hd : d < 76) => eval_put a d t v (by omega)
                obtain ⟨b, h3, h4, h6, h7, h10, h11, h12, f0, f1, f2, f3, f4, f5, f6, f7, f8, f9, f10, f11, f12, frw⟩ := hF
                refine step_value (v := .slice (some ⟨wr.heap.size, 0, none⟩) 0 0) (w' := wr.alloc (.cells #[] 3)) rfl (by go_simp) ?_
                refine hK _ _ ⟨hst.put 48 _ (by decide), by simpa [Act.put] using hsz, (ev 48 10 _ (by decide)).trans q10, (ev 48 8 _ (by decide)).trans q8, ?_⟩
                simp only [ev 48 _ _ (by decide)]
                exact ⟨alloc_ b _, h3, fun e => absurd ((h4 e).1.symm.trans hL) (by decide), h6, h7, h10, h11, h12, fun _ _ => ⟨_, rfl, made_at b.size rfl⟩, f1, f2, f3, fun e => absurd ((h4 e).1.symm.trans hL) (by decide), f5, fun e e2 => (f6 e e2).imp fun g h => ⟨h.1, h.2.1.alloc _, fun _ _ e3 => by have h8 := h.2.1.lt; have h9 : wr.heap.size = g := Option.some.inj e3; omega, h.2.2.2⟩, fun e => absurd ((h4 (h7 e).1).1.symm.trans hL) (by decide), f8, f9, f10, fun e => absurd ((h4 (h7 (h11 e).1).1).1.symm.trans hL) (by decide), f12, frw⟩
              case s1 =>
                rintro L a wr ⟨hst, hsz, q10, q8, hF⟩ hL hdp K hK
                have ev := fun (d t : Nat) (v : Value) (hd : d < 76) => eval_put a d t v (by omega)
                obtain ⟨b, h3, h4, h6, h7, h10, h11, h12, f0, f1, f2, f3, f4, f5, f6, f7, f8, f9, f10, f11, f12, frw⟩ := hF
                have n12 : L 12 = false := by
                  cases h : L 12
                  · rfl
                  · exact absurd (((h3 (h4 (h7 (h11 (h12 h)).1).1).2).1).symm.trans hL) (by decide)
                have t7 := frw n12
                rw [eval_tmp, Array.getD_eq_getD_getElem?] at t7
                refine step_value (v := .slice (some ⟨gR, 0, none⟩) m cR) (w' := wr) rfl (by go_simp) ?_
                refine hK _ _ ⟨hst.put 49 _ (by decide), by simpa [Act.put] using hsz, (ev 49 10 _ (by decide)).trans q10, (ev 49 8 _ (by decide)).trans q8, ?_⟩
                simp only [ev 49 _ _ (by decide)]
                exact ⟨b, fun e => absurd ((h3 e).1.symm.trans hL) (by decide), h4, h6, h7, h10, h11, h12, f0, fun _ => rfl, f2, f3, f4, f5, f6, f7, f8, f9, f10, f11, f12, frw⟩
              case s2 =>
                rintro L a wr ⟨hst, hsz, q10, q8, hF⟩ hL hdp K hK
                have ev := fun (d t : Nat) (v : Value) (hd : d < 76) => eval_put a d t v (by omega)
                obtain ⟨b, h3, h4, h6, h7, h10, h11, h12, f0, f1, f2, f3, f4, f5, f6, f7, f8, f9, f10, f11, f12, frw⟩ := hF
                have t10 := q10
                rw [eval_tmp, Array.getD_eq_getD_getElem?] at t10
                refine step_value (v := .int .i64 (k : Nat)) (w' := wr) rfl (by go_simp) ?_
                refine hK _ _ ⟨hst.put 50 _ (by decide), by simpa [Act.put] using hsz, (ev 50 10 _ (by decide)).trans q10, (ev 50 8 _ (by decide)).trans q8, ?_⟩
                simp only [ev 50 _ _ (by decide)]
                exact ⟨b, fun e => absurd ((h3 e).2.symm.trans hL) (by decide), h4, h6, h7, h10, h11, h12, f0, f1, fun _ => rfl, f3, f4, f5, f6, f7, f8, f9, f10, f11, f12, frw⟩
              case s3 =>
                rintro L a wr ⟨hst, hsz, q10, q8, hF⟩ hL hdp K hK
                have ev := fun (d t : Nat) (v : Value) (hd : d < 76) => eval_put a d t v (by omega)
                have d1 : L 1 = true := hdp ⟨1, .data⟩ (by simp) rfl
                have d2 : L 2 = true := hdp ⟨2, .data⟩ (by simp) rfl
                obtain ⟨b, h3, h4, h6, h7, h10, h11, h12, f0, f1, f2, f3, f4, f5, f6, f7, f8, f9, f10, f11, f12, frw⟩ := hF
                have t49 := f1 d1
                have t50 := f2 d2
                rw [eval_tmp, Array.getD_eq_getD_getElem?] at t49 t50
                refine step_value (v := .slice (some ⟨gR, 0, none⟩) k cR) (w' := wr) rfl (by go_simp) ?_
                refine hK _ _ ⟨hst.put 51 _ (by decide), by simpa [Act.put] using hsz, (ev 51 10 _ (by decide)).trans q10, (ev 51 8 _ (by decide)).trans q8, ?_⟩
                simp only [ev 51 _ _ (by decide)]
                exact ⟨b, fun _ => ⟨d1, d2⟩, fun e => absurd ((h4 e).2.symm.trans hL) (by decide), h6, h7, h10, h11, h12, f0, f1, f2, fun _ => rfl, f4, f5, f6, f7, f8, f9, f10, f11, f12, frw⟩
              case s4 =>
                rintro L a wr ⟨hst, hsz, q10, q8, hF⟩ hL hdp K hK
                have ev := fun (d t : Nat) (v : Value) (hd : d < 76) => eval_put a d t v (by omega)
                have d0 : L 0 = true := hdp ⟨0, .data⟩ (by simp) rfl
                have d3 : L 3 = true := hdp ⟨3, .data⟩ (by simp) rfl
                obtain ⟨b, h3, h4, h6, h7, h10, h11, h12, f0, f1, f2, f3, f4, f5, f6, f7, f8, f9, f10, f11, f12, frw⟩ := hF
                have t51 := f3 d3
                obtain ⟨g0, e0, ho⟩ := f0 d0 hL
                refine step_append_any wr rfl (.tmp 48) (.tmp 51) 22 rfl wq.heap.size 3 i0 _ 1 8 Try.underlying22 hi'.out.1 hi'.out.2.1 hi'.out.2.2.1 hi'.out.2.2.2 rfl (by decide) (a.eval (.tmp 48)) 0 [] rfl ho wr.heap.size (some ⟨gR, 0, none⟩) k cR (ints (p.take k)) (f3 d3) (by rw [show ints (p.take k) = (ints p).take k by simp [ints, List.map_take]]; exact Reads.pre (Reads.of_own (own_below oR b (Nat.le_refl _))) hkm) (ints_one_ _) (by unfold maxLen; omega) (by omega) b.size ?_
                intro v4 w4 o4 gr4 at4
                rw [Nat.zero_add, List.nil_append] at o4
                refine hK _ _ ⟨hst.put 52 _ (by decide), by simpa [Act.put] using hsz, (ev 52 10 _ (by decide)).trans q10, (ev 52 8 _ (by decide)).trans q8, ?_⟩
                simp only [ev 52 _ _ (by decide)]
                exact ⟨b.grown gr4 b.size (fun q hq => (own_lt ho q hq).1), h3, fun _ => ⟨d0, d3⟩, h6, fun e => absurd ((h7 e).1.symm.trans hL) (by decide), h10, h11, h12, fun _ e => absurd ((upd_self L 4).symm.trans e) (by decide), f1, f2, f3, fun _ _ => o4, f5, fun e e2 => (f6 e e2).imp fun g h => ⟨h.1, h.2.1.grown gr4 (fun e3 => h.2.2.1 d0 hL e3.symm), (fun _ e3 => absurd ((upd_self L 4).symm.trans e3) (by decide)), fun _ e3 => by
                    rcases at4 with e4 | e4
                    · exact h.2.2.1 d0 hL (e4.symm.trans e3)
                    · have h8 := h.2.1.lt; have h9 : wr.heap.size = g := Option.some.inj (e4.symm.trans e3); omega⟩, fun e => absurd ((h7 e).1.symm.trans hL) (by decide), f8, f9, f10, fun e => absurd ((h7 (h11 e).1).1.symm.trans hL) (by decide), f12, frw⟩
              case s5 =>
                rintro L a wr ⟨hst, hsz, q10, q8, hF⟩ hL hdp K hK
                have ev := fun (d t : Nat) (v : Value) (hd : d < 76) => eval_put a d t v (by omega)
                obtain ⟨b, h3, h4, h6, h7, h10, h11, h12, f0, f1, f2, f3, f4, f5, f6, f7, f8, f9, f10, f11, f12, frw⟩ := hF
                have t8 := q8
                rw [eval_tmp, Array.getD_eq_getD_getElem?] at t8
                refine step_value (v := .int .i64 x) (w' := wr) rfl (by go_simp) ?_
                refine hK _ _ ⟨hst.put 53 _ (by decide), by simpa [Act.put] using hsz, (ev 53 10 _ (by decide)).trans q10, (ev 53 8 _ (by decide)).trans q8, ?_⟩
                simp only [ev 53 _ _ (by decide)]
                exact ⟨b, h3, h4, fun e => absurd ((h6 e).symm.trans hL) (by decide), h7, h10, h11, h12, f0, f1, f2, f3, f4, fun _ => rfl, f6, f7, f8, f9, f10, f11, f12, frw⟩
              case s6 =>
                rintro L a wr ⟨hst, hsz, q10, q8, hF⟩ hL hdp K hK
                have ev := fun (d t : Nat) (v : Value) (hd : d < 76) => eval_put a d t v (by omega)
                have d5 : L 5 = true := hdp ⟨5, .data⟩ (by simp) rfl
                obtain ⟨b, h3, h4, h6, h7, h10, h11, h12, f0, f1, f2, f3, f4, f5, f6, f7, f8, f9, f10, f11, f12, frw⟩ := hF
                have n7 : L 7 = false := by
                  cases h : L 7
                  · rfl
                  · exact absurd (((h7 h).2).symm.trans hL) (by decide)
                have t53 := f5 d5
                rw [eval_tmp, Array.getD_eq_getD_getElem?] at t53
                refine step_value (v := .slice (some ⟨wr.heap.size, 0, none⟩) 1 1) (w' := wr.alloc (.cells #[.int .i64 x] 3)) rfl (by go_simp) ?_
                refine hK _ _ ⟨hst.put 54 _ (by decide), by simpa [Act.put] using hsz, (ev 54 10 _ (by decide)).trans q10, (ev 54 8 _ (by decide)).trans q8, ?_⟩
                simp only [ev 54 _ _ (by decide)]
                exact ⟨alloc_ b _, h3, h4, fun _ => d5, fun e => absurd ((h7 e).2.symm.trans hL) (by decide), h10, h11, h12, fun e e2 => (f0 e e2).imp fun g h => ⟨h.1, h.2.alloc _⟩, f1, f2, f3, fun e e2 => (f4 e e2).alloc _, f5, fun _ _ => ⟨wr.heap.size, rfl, Blk.new _ _ _, (fun e e2 e3 => by
                    obtain ⟨g, h1, h2⟩ := f0 e e2
                    have := (own_lt h2 _ e3).2; omega), fun e e3 => by have := (own_lt (f4 e n7) _ e3).2; omega⟩, fun e => absurd ((h7 e).2.symm.trans hL) (by decide), f8, f9, f10, fun e => absurd ((h7 (h11 e).1).2.symm.trans hL) (by decide), f12, frw⟩
              case s7 =>
                rintro L a wr ⟨hst, hsz, q10, q8, hF⟩ hL hdp K hK
                have ev := fun (d t : Nat) (v : Value) (hd : d < 76) => eval_put a d t v (by omega)
                have d4 : L 4 = true := hdp ⟨4, .data⟩ (by simp) rfl
                have d6 : L 6 = true := hdp ⟨6, .data⟩ (by simp) rfl
                obtain ⟨b, h3, h4, h6, h7, h10, h11, h12, f0, f1, f2, f3, f4, f5, f6, f7, f8, f9, f10, f11, f12, frw⟩ := hF
                obtain ⟨g6, e6, hk6, -, hne⟩ := f6 d6 hL
                have ho := f4 d4 hL
                refine step_push wr rfl (.tmp 52) (.tmp 54) 22 rfl wq.heap.size 3 i0 _ 1 8 Try.underlying22 hi'.out.1 hi'.out.2.1 hi'.out.2.2.1 hi'.out.2.2.2 rfl (by decide) (a.eval (.tmp 52)) k _ rfl ho #[.int .i64 x] g6 e6 hk6 rfl (by simp [Value.oneCell']) (by omega) (by unfold maxLen; omega) b.size ?_
                intro g8 d8 w8 o8 gr8 bl8 at8
                rw [show ints (p.take k) ++ (#[Value.int .i64 x] : Array Value).toList = ints (p.take k ++ [x]) by simp [ints]] at o8
                refine hK _ _ ⟨hst.put 55 _ (by decide), by simpa [Act.put] using hsz, (ev 55 10 _ (by decide)).trans q10, (ev 55 8 _ (by decide)).trans q8, ?_⟩
                simp only [ev 55 _ _ (by decide)]
                exact ⟨b.grown gr8 b.size (fun q hq => (own_lt ho q hq).1), h3, h4, h6, fun _ => ⟨d4, d6⟩, h10, fun e => absurd ((h11 e).1.symm.trans hL) (by decide), h12, fun e e2 => absurd (d4.symm.trans e2) (by decide), f1, f2, f3, fun _ e => absurd ((upd_self L 7).symm.trans e) (by decide), f5, fun _ e => absurd ((upd_self L 7).symm.trans e) (by decide), fun _ _ => o8, f8, f9, f10, fun e => absurd ((h11 e).1.symm.trans hL) (by decide), f12, frw⟩
              case s8 =>
                rintro L a wr ⟨hst, hsz, q10, q8, hF⟩ hL hdp K hK
                have ev := fun (d t : Nat) (v : Value) (hd : d < 76) => eval_put a d t v (by omega)
                obtain ⟨b, h3, h4, h6, h7, h10, h11, h12, f0, f1, f2, f3, f4, f5, f6, f7, f8, f9, f10, f11, f12, frw⟩ := hF
                have n12 : L 12 = false := by
                  cases h : L 12
                  · rfl
                  · exact absurd (((h10 (h11 (h12 h)).2).1).symm.trans hL) (by decide)
                have t7 := frw n12
                rw [eval_tmp, Array.getD_eq_getD_getElem?] at t7
                refine step_value (v := .slice (some ⟨gR, 0, none⟩) m cR) (w' := wr) rfl (by go_simp) ?_
                refine hK _ _ ⟨hst.put 56 _ (by decide), by simpa [Act.put] using hsz, (ev 56 10 _ (by decide)).trans q10, (ev 56 8 _ (by decide)).trans q8, ?_⟩
                simp only [ev 56 _ _ (by decide)]
                exact ⟨b, h3, h4, h6, h7, fun e => absurd ((h10 e).1.symm.trans hL) (by decide), h11, h12, f0, f1, f2, f3, f4, f5, f6, f7, fun _ => rfl, f9, f10, f11, f12, frw⟩
              case s9 =>
                rintro L a wr ⟨hst, hsz, q10, q8, hF⟩ hL hdp K hK
                have ev := fun (d t : Nat) (v : Value) (hd : d < 76) => eval_put a d t v (by omega)
                obtain ⟨b, h3, h4, h6, h7, h10, h11, h12, f0, f1, f2, f3, f4, f5, f6, f7, f8, f9, f10, f11, f12, frw⟩ := hF
                have t10 := q10
                rw [eval_tmp, Array.getD_eq_getD_getElem?] at t10
                refine step_value (v := .int .i64 (k : Nat)) (w' := wr) rfl (by go_simp) ?_
                refine hK _ _ ⟨hst.put 57 _ (by decide), by simpa [Act.put] using hsz, (ev 57 10 _ (by decide)).trans q10, (ev 57 8 _ (by decide)).trans q8, ?_⟩
                simp only [ev 57 _ _ (by decide)]
                exact ⟨b, h3, h4, h6, h7, fun e => absurd ((h10 e).2.symm.trans hL) (by decide), h11, h12, f0, f1, f2, f3, f4, f5, f6, f7, f8, fun _ => rfl, f10, f11, f12, frw⟩
              case s10 =>
                rintro L a wr ⟨hst, hsz, q10, q8, hF⟩ hL hdp K hK
                have ev := fun (d t : Nat) (v : Value) (hd : d < 76) => eval_put a d t v (by omega)
                have d8 : L 8 = true := hdp ⟨8, .data⟩ (by simp) rfl
                have d9 : L 9 = true := hdp ⟨9, .data⟩ (by simp) rfl
                obtain ⟨b, h3, h4, h6, h7, h10, h11, h12, f0, f1, f2, f3, f4, f5, f6, f7, f8, f9, f10, f11, f12, frw⟩ := hF
                have t56 := f8 d8
                have t57 := f9 d9
                rw [eval_tmp, Array.getD_eq_getD_getElem?] at t56 t57
                by_cases hck : cR = k
                · refine step_value (v := .slice (some ⟨gR, 0, none⟩) (m - k) (cR - k)) (w' := wr) rfl (by go_simp) ?_
                  refine hK _ _ ⟨hst.put 58 _ (by decide), by simpa [Act.put] using hsz, (ev 58 10 _ (by decide)).trans q10, (ev 58 8 _ (by decide)).trans q8, ?_⟩
                  simp only [ev 58 _ _ (by decide)]
                  exact ⟨b, h3, h4, h6, h7, fun _ => ⟨d8, d9⟩, fun e => absurd ((h11 e).2.symm.trans hL) (by decide), h12, f0, f1, f2, f3, f4, f5, f6, f7, f8, f9, fun _ => ⟨0, rfl, .inr (by omega)⟩, f11, f12, frw⟩
                · refine step_value (v := .slice (some ⟨gR, k, none⟩) (m - k) (cR - k)) (w' := wr) rfl (by go_simp) ?_
                  refine hK _ _ ⟨hst.put 58 _ (by decide), by simpa [Act.put] using hsz, (ev 58 10 _ (by decide)).trans q10, (ev 58 8 _ (by decide)).trans q8, ?_⟩
                  simp only [ev 58 _ _ (by decide)]
                  exact ⟨b, h3, h4, h6, h7, fun _ => ⟨d8, d9⟩, fun e => absurd ((h11 e).2.symm.trans hL) (by decide), h12, f0, f1, f2, f3, f4, f5, f6, f7, f8, f9, fun _ => ⟨k, rfl, .inl rfl⟩, f11, f12, frw⟩
              case s11 =>
                rintro L a wr ⟨hst, hsz, q10, q8, hF⟩ hL hdp K hK
                have ev := fun (d t : Nat) (v : Value) (hd : d < 76) => eval_put a d t v (by omega)
                have d7 : L 7 = true := hdp ⟨7, .data⟩ (by simp) rfl
                have d10 : L 10 = true := hdp ⟨10, .data⟩ (by simp) rfl
                obtain ⟨b, h3, h4, h6, h7, h10, h11, h12, f0, f1, f2, f3, f4, f5, f6, f7, f8, f9, f10, f11, f12, frw⟩ := hF
                have ho := f7 d7 hL
                obtain ⟨o, eT, ho2⟩ := f10 d10
                refine step_append_any wr rfl (.tmp 55) (.tmp 58) 22 rfl wq.heap.size 3 i0 _ 1 8 Try.underlying22 hi'.out.1 hi'.out.2.1 hi'.out.2.2.1 hi'.out.2.2.2 rfl (by decide) (a.eval (.tmp 55)) (k + 1) _ rfl ho wr.heap.size (some ⟨gR, o, none⟩) (m - k) (cR - k) (ints (p.drop k)) eT (by
                  rcases ho2 with rfl | h3
                  · exact reads_offS (own_below oR b (Nat.le_refl _)) hkm
                  · rw [h3]; exact reads_noneS (own_below oR b (Nat.le_refl _)) o) (ints_one_ _) (by unfold maxLen; omega) (by omega) b.size ?_
                intro v9 w9 o9 gr9 at9
                rw [show k + 1 + (m - k) = m + 1 by omega, show ints (p.take k ++ [x]) ++ ints (p.drop k) = ints (insA p k x) by simp [ints, insA]] at o9
                refine hK _ _ ⟨hst.put 59 _ (by decide), by simpa [Act.put] using hsz, (ev 59 10 _ (by decide)).trans q10, (ev 59 8 _ (by decide)).trans q8, ?_⟩
                simp only [ev 59 _ _ (by decide)]
                exact ⟨b.grown gr9 b.size (fun q hq => (own_lt ho q hq).1), h3, h4, h6, h7, h10, fun _ => ⟨d7, d10⟩, fun e => absurd ((h12 e).symm.trans hL) (by decide), fun e e2 => absurd ((h7 d7).1.symm.trans e2) (by decide), f1, f2, f3, fun e e2 => absurd (d7.symm.trans e2) (by decide), f5, fun e e2 => absurd (d7.symm.trans e2) (by decide), fun _ e => absurd ((upd_self L 11).symm.trans e) (by decide), f8, f9, f10, fun _ => o9, fun e => absurd ((h12 e).symm.trans hL) (by decide), frw⟩
              case s12 =>
                rintro L a wr ⟨hst, hsz, q10, q8, hF⟩ hL hdp K hK
                have ev := fun (d t : Nat) (v : Value) (hd : d < 76) => eval_put a d t v (by omega)
                have d11 : L 11 = true := hdp ⟨11, .data⟩ (by simp) rfl
                obtain ⟨b, h3, h4, h6, h7, h10, h11, h12, f0, f1, f2, f3, f4, f5, f6, f7, f8, f9, f10, f11, f12, frw⟩ := hF
                refine step_value (v := a.eval (.tmp 59)) (w' := wr) rfl (by go_simp) ?_
                refine hK _ _ ⟨hst.put 7 _ (by decide), by simpa [Act.put] using hsz, (ev 7 10 _ (by decide)).trans q10, (ev 7 8 _ (by decide)).trans q8, ?_⟩
                simp only [ev 7 _ _ (by decide)]
                exact ⟨b, h3, h4, h6, h7, h10, h11, fun _ => d11, f0, f1, f2, f3, f4, f5, f6, f7, f8, f9, f10, f11, fun _ => rfl, fun e => absurd ((upd_self L 12).symm.trans e) (by decide)⟩
          · have c1 := HCL.out q (by omega)
            generalize gt ks q = y at *
            have ecast : (k : Int) - 1 = (q : Int) := by omega
            have e0 : (0 : Int) < (k : Int) := by omega
            have e0' : (k : Int) > 0 := by omega
            have ew : IntKind.i64.wrap (q : Int) = (q : Int) := IntWalk.i64_in _ ⟨by omega, by omega⟩
            have qI : (q : Int) < (i : Int) := by omega
            have hgt : ¬ y > x := hq
            go_upto_region 13 with fail
            clear c1 ecast e0 e0' ew qI hgt hq hkq
            obtain ⟨gR, hh⟩ : ∃ g, g = gK := ⟨_, rfl⟩
            subst hh
            obtain ⟨cR, hh⟩ : ∃ g, g = cK := ⟨_, rfl⟩
            subst hh
            obtain ⟨m, hh⟩ : ∃ g, g = i := ⟨_, rfl⟩
            subst hh
            obtain ⟨p, hh⟩ : ∃ g, g = ks := ⟨_, rfl⟩
            subst hh
            obtain ⟨wq, hwq⟩ : ∃ wq, wr.drew = wq := ⟨_, rfl⟩
            rw [hwq] at HBE oR' oO' HSZ
            have oR := oR'
            have hkm : k ≤ m := hki
            have hcap : m ≤ cR := hcapK.1
            have hkc : k ≤ cR := by omega
            have hkcI : (k : Int) ≤ (cR : Int) := by omega
            have hkc2 : ¬ cR < k := by omega
            have h0k : (0 : Int) ≤ (k : Int) := by omega
            refine wp_region_inv' (fun a0 L a wr => St a0 a [48, 49, 50, 51, 52, 53, 54, 55, 56, 57, 58, 59, 7] ∧ 75 < a.tmps.size ∧ a.eval (.tmp 10) = .int .i64 (k : Nat) ∧ a.eval (.tmp 8) = .int .i64 x ∧ ShKF wq gR cR m k p x L wr (a.eval (.tmp 48)) (a.eval (.tmp 49)) (a.eval (.tmp 50)) (a.eval (.tmp 51)) (a.eval (.tmp 52)) (a.eval (.tmp 53)) (a.eval (.tmp 54)) (a.eval (.tmp 55)) (a.eval (.tmp 56)) (a.eval (.tmp 57)) (a.eval (.tmp 58)) (a.eval (.tmp 59)) (a.eval (.tmp 7))) (by kernel_rfl) (by kernel_rfl) ?start ?steps ?ends
            case start =>
              subst hwq
              refine ⟨St.refl _ _, Nat.le_of_ble_eq_true rfl, rfl, rfl, Below.refl _ _, ?_, ?_, ?_, ?_, ?_, ?_, ?_, ?_, ?_, ?_, ?_, ?_, ?_, ?_, ?_, ?_, ?_, ?_, ?_, ?_, ?_⟩
              all_goals (intro e; first | (cases e; done) | rfl | assumption)
            case ends =>
              rintro L a wr ⟨hst, hsz, q10, q8, b, h3, h4, h6, h7, h10, h11, h12, f0, f1, f2, f3, f4, f5, f6, f7, f8, f9, f10, f11, f12, frw⟩ hall
              have o9 := f11 (hall 11 (by decide))
              have e4 := f12 (hall 12 (by decide))
              obtain ⟨g9, c9, e9, -, -, -, -⟩ := own_some o9 (by omega)
              rw [e9] at o9 e4
              clear e9
              have heq := hst.eq
              simp only [List.foldl_cons, List.foldl_nil] at heq
              rw [e4] at heq
              clear hst hall hsz q10 q8 h3 h4 h6 h7 h10 h11 h12 f0 f1 f2 f3 f4 f5 f6 f7 f8 f9 f10 f11 f12 frw
              generalize a.eval (.tmp 48) = u48 at *
              generalize a.eval (.tmp 49) = u49 at *
              generalize a.eval (.tmp 50) = u50 at *
              generalize a.eval (.tmp 51) = u51 at *
              generalize a.eval (.tmp 52) = u52 at *
              generalize a.eval (.tmp 53) = u53 at *
              generalize a.eval (.tmp 54) = u54 at *
              generalize a.eval (.tmp 55) = u55 at *
              generalize a.eval (.tmp 56) = u56 at *
              generalize a.eval (.tmp 57) = u57 at *
              generalize a.eval (.tmp 58) = u58 at *
              generalize a.eval (.tmp 59) = u59 at *
              simp only [Act.put, List.setIfInBounds_toArray, List.set_cons_zero, List.set_cons_succ] at heq
              subst heq
              have HB13 := Lib.hid (HBE.out.trans (b.mono HSZ.out))
              have HK13 := Lib.hid (own_base o9 HSZ.out)
              have HO13 := Lib.hid (own_below oO' b (Nat.le_refl _))
              clear o9 b oR' oO' oR hcap hkc hkcI hkc2 hcapK HKK HK HO HB HBE HSZ HCL
              obtain ⟨gN, hh⟩ : ∃ g, g = g9 := ⟨_, rfl⟩
              subst hh
              obtain ⟨cN, hh⟩ : ∃ g, g = c9 := ⟨_, rfl⟩
              subst hh
              go_upto_region 14 with fail
              clear hmx
              have hmx := hcapO.2
              unfold maxLen at hmx
              obtain ⟨gR, hh⟩ : ∃ g, g = gO := ⟨_, rfl⟩
              subst hh
              obtain ⟨cR, hh⟩ : ∃ g, g = cO := ⟨_, rfl⟩
              subst hh
              have HBE := Lib.hid (bdrew HB13.out)
              have oR' : wr.drew.ownsRow w.heap.size 3 1 (.slice (some ⟨gR, 0, none⟩) m cR) m (ints os) := HO13.out
              have oK' : wr.drew.ownsRow w.heap.size 3 1 (.slice (some ⟨gN, 0, none⟩) (m + 1) cN) (m + 1) (ints (insA p k x)) := HK13.out
              have HSZ : Hid (w.heap.size ≤ wr.drew.heap.size) := Lib.hid HB13.out.size
              have hcq0 : wr.drew.cell? (ad.add m) = some (.int .i64 (gt z0 m)) := by
                obtain ⟨ad', u, e', -, hu, hc2⟩ := (HX.out.below HB13.out).at_ hlt
                cases e'
                rw [ints_get hzi] at hu
                cases hu
                have : gt z0 m = z0[m] := by unfold gt; rw [List.getElem?_eq_getElem hzi]; rfl
                rw [this]
                exact hc2
              have hadl0 : (ad.add m).block < wr.drew.heap.size := by
                obtain ⟨ad', u, e', hb', -, -⟩ := HX.out.at_ hlt
                cases e'
                rw [block_of_add]
                have := HB13.out.size
                have h9 : wr.drew.heap.size = wr.heap.size := rfl
                omega
              obtain ⟨xk, hh⟩ : ∃ v, v = x := ⟨_, rfl⟩
              subst hh
              obtain ⟨pk, hh⟩ : ∃ v, v = p := ⟨_, rfl⟩
              subst hh
              obtain ⟨p, hh⟩ : ∃ v, v = os := ⟨_, rfl⟩
              subst hh
              obtain ⟨x, hgx⟩ : ∃ v, gt z0 m = v := ⟨_, rfl⟩
              rw [hgx] at hcq0 HSN
              clear hgx
              obtain ⟨wq, hwq⟩ : ∃ wq, wr.drew = wq := ⟨_, rfl⟩
              rw [hwq] at HBE oR' oK' HSZ hcq0 hadl0
              have oR := oR'
              have hcq := hcq0
              have hadl := hadl0
              have hcap : m ≤ cR := hcapO.1
              have hkc : k ≤ cR := by omega
              have hkcI : (k : Int) ≤ (cR : Int) := by omega
              have hkc2 : ¬ cR < k := by omega
              refine wp_region_inv' (fun a0 L a wr => St a0 a [60, 61, 62, 63, 64, 65, 66, 67, 68, 69, 70, 71, 72, 73, 74, 6] ∧ 75 < a.tmps.size ∧ a.eval (.tmp 0) = .slice (some ad) n c0 ∧ a.eval (.tmp 9) = .int .i64 (m : Nat) ∧ a.eval (.tmp 10) = .int .i64 (k : Nat) ∧ ShOF wq gR cR m k n c0 ad p x L wr (a.eval (.tmp 60)) (a.eval (.tmp 61)) (a.eval (.tmp 62)) (a.eval (.tmp 63)) (a.eval (.tmp 64)) (a.eval (.tmp 65)) (a.eval (.tmp 66)) (a.eval (.tmp 67)) (a.eval (.tmp 68)) (a.eval (.tmp 69)) (a.eval (.tmp 70)) (a.eval (.tmp 71)) (a.eval (.tmp 72)) (a.eval (.tmp 73)) (a.eval (.tmp 74)) (a.eval (.tmp 6))) (by kernel_rfl) (by kernel_rfl) ?start2 ?steps2 ?ends2
              case start2 =>
                subst hwq
                refine ⟨St.refl _ _, Nat.le_of_ble_eq_true rfl, rfl, rfl, rfl, Below.refl _ _, ?_, ?_, ?_, ?_, ?_, ?_, ?_, ?_, ?_, ?_, ?_, ?_, ?_, ?_, ?_, ?_, ?_, ?_, ?_, ?_, ?_, ?_, ?_, ?_, ?_, ?_⟩
                all_goals (intro e; first | (cases e; done) | rfl | assumption)
              case ends2 =>
                rintro L a wr ⟨hst, hsz, q0, q9, q10, b, h3, h4, h7, h8, h9, h10, h13, h14, h15, f0, f1, f2, f3, f4, f5, f6, f7, f8, f9, f10, f11, f12, f13, f14, f15, frw⟩ hall
                have o9 := f14 (hall 14 (by decide))
                have e4 := f15 (hall 15 (by decide))
                obtain ⟨g9, c9, e9, -, -, -, -⟩ := own_some o9 (by omega)
                rw [e9] at o9 e4
                clear e9
                have heq := hst.eq
                simp only [List.foldl_cons, List.foldl_nil] at heq
                rw [e4] at heq
                clear hst hall hsz q0 q9 q10 h3 h4 h7 h8 h9 h10 h13 h14 h15 f0 f1 f2 f3 f4 f5 f6 f7 f8 f9 f10 f11 f12 f13 f14 f15 frw
                generalize a.eval (.tmp 60) = u60 at *
                generalize a.eval (.tmp 61) = u61 at *
                generalize a.eval (.tmp 62) = u62 at *
                generalize a.eval (.tmp 63) = u63 at *
                generalize a.eval (.tmp 64) = u64 at *
                generalize a.eval (.tmp 65) = u65 at *
                generalize a.eval (.tmp 66) = u66 at *
                generalize a.eval (.tmp 67) = u67 at *
                generalize a.eval (.tmp 68) = u68 at *
                generalize a.eval (.tmp 69) = u69 at *
                generalize a.eval (.tmp 70) = u70 at *
                generalize a.eval (.tmp 71) = u71 at *
                generalize a.eval (.tmp 72) = u72 at *
                generalize a.eval (.tmp 73) = u73 at *
                generalize a.eval (.tmp 74) = u74 at *
                simp only [Act.put, List.setIfInBounds_toArray, List.set_cons_zero, List.set_cons_succ] at heq
                subst heq
                have HB14 := Lib.hid (HBE.out.trans (b.mono HSZ.out))
                have HO14 : Hid (wr.ownsRow w.heap.size 3 1 (.slice (some ⟨g9, 0, none⟩) (m + 1) c9) (m + 1) (ints (SI z0 s (m + 1)).2)) := Lib.hid (by rw [HSN.out]; exact own_base o9 HSZ.out)
                have HK14 : Hid (wr.ownsRow w.heap.size 3 1 (.slice (some ⟨gN, 0, none⟩) (m + 1) cN) (m + 1) (ints (SI z0 s (m + 1)).1)) := Lib.hid (by rw [HSN.out]; exact own_below oK' b (Nat.le_refl _))
                clear o9 b oK' oR oR' hcq hadl hcq0 hadl0 hcap hkc hkcI hkc2
                go_wp2_with fail
                go_roundw
                case rel => exact ⟨m + 1, _, _, _, _, xk, by omega, rfl, rfl, rfl, hxb, HX2, by go_num, HO14, HK14, HB14⟩
                case measure => (simp [intOf] <;> omega)
              case steps2 =>
                refine ⟨?t0, ?t1, ?t2, ?t3, ?t4, ?t5, ?t6, ?t7, ?t8, ?t9, ?t10, ?t11, ?t12, ?t13, ?t14, ?t15, trivial⟩
                case t0 =>
                  rintro L a wr ⟨hst, hsz, q0, q9, q10, hF⟩ hL hdp K hK
                  have ev := fun (d t : Nat) (v : Value) (hd : d < 76) => eval_put a d t v (by omega)
                  obtain ⟨b, h3, h4, h7, h8, h9, h10, h13, h14, h15, f0, f1, f2, f3, f4, f5, f6, f7, f8, f9, f10, f11, f12, f13, f14, f15, frw⟩ := hF
                  refine step_value (v := .slice (some ⟨wr.heap.size, 0, none⟩) 0 0) (w' := wr.alloc (.cells #[] 3)) rfl (by go_simp) ?_
                  refine hK _ _ ⟨hst.put 60 _ (by decide), by simpa [Act.put] using hsz, (ev 60 0 _ (by decide)).trans q0, (ev 60 9 _ (by decide)).trans q9, (ev 60 10 _ (by decide)).trans q10, ?_⟩
                  simp only [ev 60 _ _ (by decide)]
                  exact ⟨alloc_ b _, h3, fun e => absurd ((h4 e).1.symm.trans hL) (by decide), h7, h8, h9, h10, h13, h14, h15, fun _ _ => ⟨_, rfl, made_at b.size rfl⟩, f1, f2, f3, fun e => absurd ((h4 e).1.symm.trans hL) (by decide), f5, f6, f7, f8, fun e e2 => (f9 e e2).imp fun g h => ⟨h.1, h.2.1.alloc _, fun _ _ e3 => by have h8 := h.2.1.lt; have h9 : wr.heap.size = g := Option.some.inj e3; omega, h.2.2.2⟩, fun e => absurd ((h4 (h10 e).1).1.symm.trans hL) (by decide), f11, f12, f13, fun e => absurd ((h4 (h10 (h14 e).1).1).1.symm.trans hL) (by decide), f15, frw⟩
                case t1 =>
                  rintro L a wr ⟨hst, hsz, q0, q9, q10, hF⟩ hL hdp K hK
                  have ev := fun (d t : Nat) (v : Value) (hd : d < 76) => eval_put a d t v (by omega)
                  obtain ⟨b, h3, h4, h7, h8, h9, h10, h13, h14, h15, f0, f1, f2, f3, f4, f5, f6, f7, f8, f9, f10, f11, f12, f13, f14, f15, frw⟩ := hF
                  have n15 : L 15 = false := by
                    cases h : L 15
                    · rfl
                    · exact absurd (((h3 (h4 (h10 (h14 (h15 h)).1).1).2).1).symm.trans hL) (by decide)
                  have t6 := frw n15
                  rw [eval_tmp, Array.getD_eq_getD_getElem?] at t6
                  refine step_value (v := .slice (some ⟨gR, 0, none⟩) m cR) (w' := wr) rfl (by go_simp) ?_
                  refine hK _ _ ⟨hst.put 61 _ (by decide), by simpa [Act.put] using hsz, (ev 61 0 _ (by decide)).trans q0, (ev 61 9 _ (by decide)).trans q9, (ev 61 10 _ (by decide)).trans q10, ?_⟩
                  simp only [ev 61 _ _ (by decide)]
                  exact ⟨b, fun e => absurd ((h3 e).1.symm.trans hL) (by decide), h4, h7, h8, h9, h10, h13, h14, h15, f0, fun _ => rfl, f2, f3, f4, f5, f6, f7, f8, f9, f10, f11, f12, f13, f14, f15, frw⟩
                case t2 =>
                  rintro L a wr ⟨hst, hsz, q0, q9, q10, hF⟩ hL hdp K hK
                  have ev := fun (d t : Nat) (v : Value) (hd : d < 76) => eval_put a d t v (by omega)
                  obtain ⟨b, h3, h4, h7, h8, h9, h10, h13, h14, h15, f0, f1, f2, f3, f4, f5, f6, f7, f8, f9, f10, f11, f12, f13, f14, f15, frw⟩ := hF
                  have t10 := q10
                  rw [eval_tmp, Array.getD_eq_getD_getElem?] at t10
                  refine step_value (v := .int .i64 (k : Nat)) (w' := wr) rfl (by go_simp) ?_
                  refine hK _ _ ⟨hst.put 62 _ (by decide), by simpa [Act.put] using hsz, (ev 62 0 _ (by decide)).trans q0, (ev 62 9 _ (by decide)).trans q9, (ev 62 10 _ (by decide)).trans q10, ?_⟩
                  simp only [ev 62 _ _ (by decide)]
                  exact ⟨b, fun e => absurd ((h3 e).2.symm.trans hL) (by decide), h4, h7, h8, h9, h10, h13, h14, h15, f0, f1, fun _ => rfl, f3, f4, f5, f6, f7, f8, f9, f10, f11, f12, f13, f14, f15, frw⟩
                case t3 =>
                  rintro L a wr ⟨hst, hsz, q0, q9, q10, hF⟩ hL hdp K hK
                  have ev := fun (d t : Nat) (v : Value) (hd : d < 76) => eval_put a d t v (by omega)
                  have d1 : L 1 = true := hdp ⟨1, .data⟩ (by simp) rfl
                  have d2 : L 2 = true := hdp ⟨2, .data⟩ (by simp) rfl
                  obtain ⟨b, h3, h4, h7, h8, h9, h10, h13, h14, h15, f0, f1, f2, f3, f4, f5, f6, f7, f8, f9, f10, f11, f12, f13, f14, f15, frw⟩ := hF
                  have t61 := f1 d1
                  have t62 := f2 d2
                  rw [eval_tmp, Array.getD_eq_getD_getElem?] at t61 t62
                  refine step_value (v := .slice (some ⟨gR, 0, none⟩) k cR) (w' := wr) rfl (by go_simp) ?_
                  refine hK _ _ ⟨hst.put 63 _ (by decide), by simpa [Act.put] using hsz, (ev 63 0 _ (by decide)).trans q0, (ev 63 9 _ (by decide)).trans q9, (ev 63 10 _ (by decide)).trans q10, ?_⟩
                  simp only [ev 63 _ _ (by decide)]
                  exact ⟨b, fun _ => ⟨d1, d2⟩, fun e => absurd ((h4 e).2.symm.trans hL) (by decide), h7, h8, h9, h10, h13, h14, h15, f0, f1, f2, fun _ => rfl, f4, f5, f6, f7, f8, f9, f10, f11, f12, f13, f14, f15, frw⟩
                case t4 =>
                  rintro L a wr ⟨hst, hsz, q0, q9, q10, hF⟩ hL hdp K hK
                  have ev := fun (d t : Nat) (v : Value) (hd : d < 76) => eval_put a d t v (by omega)
                  have d0 : L 0 = true := hdp ⟨0, .data⟩ (by simp) rfl
                  have d3 : L 3 = true := hdp ⟨3, .data⟩ (by simp) rfl
                  obtain ⟨b, h3, h4, h7, h8, h9, h10, h13, h14, h15, f0, f1, f2, f3, f4, f5, f6, f7, f8, f9, f10, f11, f12, f13, f14, f15, frw⟩ := hF
                  have t63 := f3 d3
                  obtain ⟨g0, e0, ho⟩ := f0 d0 hL
                  refine step_append_any wr rfl (.tmp 60) (.tmp 63) 22 rfl wq.heap.size 3 i0 _ 1 8 Try.underlying22 hi'.out.1 hi'.out.2.1 hi'.out.2.2.1 hi'.out.2.2.2 rfl (by decide) (a.eval (.tmp 60)) 0 [] rfl ho wr.heap.size (some ⟨gR, 0, none⟩) k cR (ints (p.take k)) (f3 d3) (by rw [show ints (p.take k) = (ints p).take k by simp [ints, List.map_take]]; exact Reads.pre (Reads.of_own (own_below oR b (Nat.le_refl _))) hkm) (ints_one_ _) (by unfold maxLen; omega) (by omega) b.size ?_
                  intro v4 w4 o4 gr4 at4
                  rw [Nat.zero_add, List.nil_append] at o4
                  refine hK _ _ ⟨hst.put 64 _ (by decide), by simpa [Act.put] using hsz, (ev 64 0 _ (by decide)).trans q0, (ev 64 9 _ (by decide)).trans q9, (ev 64 10 _ (by decide)).trans q10, ?_⟩
                  simp only [ev 64 _ _ (by decide)]
                  exact ⟨b.grown gr4 b.size (fun q hq => (own_lt ho q hq).1), h3, fun _ => ⟨d0, d3⟩, h7, h8, h9, fun e => absurd ((h10 e).1.symm.trans hL) (by decide), h13, h14, h15, fun _ e => absurd ((upd_self L 4).symm.trans e) (by decide), f1, f2, f3, fun _ _ => o4, f5, f6, f7, f8, fun e e2 => (f9 e e2).imp fun g h => ⟨h.1, h.2.1.grown gr4 (fun e3 => h.2.2.1 d0 hL e3.symm), (fun _ e3 => absurd ((upd_self L 4).symm.trans e3) (by decide)), fun _ e3 => by
                      rcases at4 with e4 | e4
                      · exact h.2.2.1 d0 hL (e4.symm.trans e3)
                      · have h8 := h.2.1.lt; have h9 : wr.heap.size = g := Option.some.inj (e4.symm.trans e3); omega⟩, fun e => absurd ((h10 e).1.symm.trans hL) (by decide), f11, f12, f13, fun e => absurd ((h10 (h14 e).1).1.symm.trans hL) (by decide), f15, frw⟩
                case t5 =>
                  rintro L a wr ⟨hst, hsz, q0, q9, q10, hF⟩ hL hdp K hK
                  have ev := fun (d t : Nat) (v : Value) (hd : d < 76) => eval_put a d t v (by omega)
                  obtain ⟨b, h3, h4, h7, h8, h9, h10, h13, h14, h15, f0, f1, f2, f3, f4, f5, f6, f7, f8, f9, f10, f11, f12, f13, f14, f15, frw⟩ := hF
                  have t0 := q0
                  rw [eval_tmp, Array.getD_eq_getD_getElem?] at t0
                  refine step_value (v := .slice (some ad) n c0) (w' := wr) rfl (by go_simp) ?_
                  refine hK _ _ ⟨hst.put 65 _ (by decide), by simpa [Act.put] using hsz, (ev 65 0 _ (by decide)).trans q0, (ev 65 9 _ (by decide)).trans q9, (ev 65 10 _ (by decide)).trans q10, ?_⟩
                  simp only [ev 65 _ _ (by decide)]
                  exact ⟨b, h3, h4, fun e => absurd ((h7 e).1.symm.trans hL) (by decide), h8, h9, h10, h13, h14, h15, f0, f1, f2, f3, f4, fun _ => rfl, f6, f7, f8, f9, f10, f11, f12, f13, f14, f15, frw⟩
                case t6 =>
                  rintro L a wr ⟨hst, hsz, q0, q9, q10, hF⟩ hL hdp K hK
                  have ev := fun (d t : Nat) (v : Value) (hd : d < 76) => eval_put a d t v (by omega)
                  obtain ⟨b, h3, h4, h7, h8, h9, h10, h13, h14, h15, f0, f1, f2, f3, f4, f5, f6, f7, f8, f9, f10, f11, f12, f13, f14, f15, frw⟩ := hF
                  have t9 := q9
                  rw [eval_tmp, Array.getD_eq_getD_getElem?] at t9
                  refine step_value (v := .int .i64 (m : Nat)) (w' := wr) rfl (by go_simp) ?_
                  refine hK _ _ ⟨hst.put 66 _ (by decide), by simpa [Act.put] using hsz, (ev 66 0 _ (by decide)).trans q0, (ev 66 9 _ (by decide)).trans q9, (ev 66 10 _ (by decide)).trans q10, ?_⟩
                  simp only [ev 66 _ _ (by decide)]
                  exact ⟨b, h3, h4, fun e => absurd ((h7 e).2.symm.trans hL) (by decide), h8, h9, h10, h13, h14, h15, f0, f1, f2, f3, f4, f5, fun _ => rfl, f7, f8, f9, f10, f11, f12, f13, f14, f15, frw⟩
                case t7 =>
                  rintro L a wr ⟨hst, hsz, q0, q9, q10, hF⟩ hL hdp K hK
                  have ev := fun (d t : Nat) (v : Value) (hd : d < 76) => eval_put a d t v (by omega)
                  have d5 : L 5 = true := hdp ⟨5, .data⟩ (by simp) rfl
                  have d6 : L 6 = true := hdp ⟨6, .data⟩ (by simp) rfl
                  obtain ⟨b, h3, h4, h7, h8, h9, h10, h13, h14, h15, f0, f1, f2, f3, f4, f5, f6, f7, f8, f9, f10, f11, f12, f13, f14, f15, frw⟩ := hF
                  have t65 := f5 d5
                  have t66 := f6 d6
                  rw [eval_tmp, Array.getD_eq_getD_getElem?] at t65 t66
                  refine step_value (v := .pointer (some (ad.add m))) (w' := wr) rfl (by go_simp) ?_
                  refine hK _ _ ⟨hst.put 67 _ (by decide), by simpa [Act.put] using hsz, (ev 67 0 _ (by decide)).trans q0, (ev 67 9 _ (by decide)).trans q9, (ev 67 10 _ (by decide)).trans q10, ?_⟩
                  simp only [ev 67 _ _ (by decide)]
                  exact ⟨b, h3, h4, fun _ => ⟨d5, d6⟩, fun e => absurd ((h8 e).symm.trans hL) (by decide), h9, h10, h13, h14, h15, f0, f1, f2, f3, f4, f5, f6, fun _ => rfl, f8, f9, f10, f11, f12, f13, f14, f15, frw⟩
                case t8 =>
                  rintro L a wr ⟨hst, hsz, q0, q9, q10, hF⟩ hL hdp K hK
                  have ev := fun (d t : Nat) (v : Value) (hd : d < 76) => eval_put a d t v (by omega)
                  have d7 : L 7 = true := hdp ⟨7, .data⟩ (by simp) rfl
                  obtain ⟨b, h3, h4, h7, h8, h9, h10, h13, h14, h15, f0, f1, f2, f3, f4, f5, f6, f7, f8, f9, f10, f11, f12, f13, f14, f15, frw⟩ := hF
                  have t67 := f7 d7
                  rw [eval_tmp, Array.getD_eq_getD_getElem?] at t67
                  have hcl := (b.cell hadl).trans hcq
                  refine step_value (v := .int .i64 x) (w' := wr) rfl (by go_simp) ?_
                  refine hK _ _ ⟨hst.put 68 _ (by decide), by simpa [Act.put] using hsz, (ev 68 0 _ (by decide)).trans q0, (ev 68 9 _ (by decide)).trans q9, (ev 68 10 _ (by decide)).trans q10, ?_⟩
                  simp only [ev 68 _ _ (by decide)]
                  exact ⟨b, h3, h4, h7, fun _ => d7, fun e => absurd ((h9 e).symm.trans hL) (by decide), h10, h13, h14, h15, f0, f1, f2, f3, f4, f5, f6, f7, fun _ => rfl, f9, f10, f11, f12, f13, f14, f15, frw⟩
                case t9 =>
                  rintro L a wr ⟨hst, hsz, q0, q9, q10, hF⟩ hL hdp K hK
                  have ev := fun (d t : Nat) (v : Value) (hd : d < 76) => eval_put a d t v (by omega)
                  have d8 : L 8 = true := hdp ⟨8, .data⟩ (by simp) rfl
                  obtain ⟨b, h3, h4, h7, h8, h9, h10, h13, h14, h15, f0, f1, f2, f3, f4, f5, f6, f7, f8, f9, f10, f11, f12, f13, f14, f15, frw⟩ := hF
                  have n10 : L 10 = false := by
                    cases h : L 10
                    · rfl
                    · exact absurd (((h10 h).2).symm.trans hL) (by decide)
                  have t68 := f8 d8
                  rw [eval_tmp, Array.getD_eq_getD_getElem?] at t68
                  refine step_value (v := .slice (some ⟨wr.heap.size, 0, none⟩) 1 1) (w' := wr.alloc (.cells #[.int .i64 x] 3)) rfl (by go_simp) ?_
                  refine hK _ _ ⟨hst.put 69 _ (by decide), by simpa [Act.put] using hsz, (ev 69 0 _ (by decide)).trans q0, (ev 69 9 _ (by decide)).trans q9, (ev 69 10 _ (by decide)).trans q10, ?_⟩
                  simp only [ev 69 _ _ (by decide)]
                  exact ⟨alloc_ b _, h3, h4, h7, h8, fun _ => d8, fun e => absurd ((h10 e).2.symm.trans hL) (by decide), h13, h14, h15, fun e e2 => (f0 e e2).imp fun g h => ⟨h.1, h.2.alloc _⟩, f1, f2, f3, fun e e2 => (f4 e e2).alloc _, f5, f6, f7, f8, fun _ _ => ⟨wr.heap.size, rfl, Blk.new _ _ _, (fun e e2 e3 => by
                      obtain ⟨g, h1, h2⟩ := f0 e e2
                      have := (own_lt h2 _ e3).2; omega), fun e e3 => by have := (own_lt (f4 e n10) _ e3).2; omega⟩, fun e => absurd ((h10 e).2.symm.trans hL) (by decide), f11, f12, f13, fun e => absurd ((h10 (h14 e).1).2.symm.trans hL) (by decide), f15, frw⟩
                case t10 =>
                  rintro L a wr ⟨hst, hsz, q0, q9, q10, hF⟩ hL hdp K hK
                  have ev := fun (d t : Nat) (v : Value) (hd : d < 76) => eval_put a d t v (by omega)
                  have d4 : L 4 = true := hdp ⟨4, .data⟩ (by simp) rfl
                  have d9 : L 9 = true := hdp ⟨9, .data⟩ (by simp) rfl
                  obtain ⟨b, h3, h4, h7, h8, h9, h10, h13, h14, h15, f0, f1, f2, f3, f4, f5, f6, f7, f8, f9, f10, f11, f12, f13, f14, f15, frw⟩ := hF
                  obtain ⟨g6, e6, hk6, -, hne⟩ := f9 d9 hL
                  have ho := f4 d4 hL
                  refine step_push wr rfl (.tmp 64) (.tmp 69) 22 rfl wq.heap.size 3 i0 _ 1 8 Try.underlying22 hi'.out.1 hi'.out.2.1 hi'.out.2.2.1 hi'.out.2.2.2 rfl (by decide) (a.eval (.tmp 64)) k _ rfl ho #[.int .i64 x] g6 e6 hk6 rfl (by simp [Value.oneCell']) (by omega) (by unfold maxLen; omega) b.size ?_
                  intro g8 d8 w8 o8 gr8 bl8 at8
                  rw [show ints (p.take k) ++ (#[Value.int .i64 x] : Array Value).toList = ints (p.take k ++ [x]) by simp [ints]] at o8
                  refine hK _ _ ⟨hst.put 70 _ (by decide), by simpa [Act.put] using hsz, (ev 70 0 _ (by decide)).trans q0, (ev 70 9 _ (by decide)).trans q9, (ev 70 10 _ (by decide)).trans q10, ?_⟩
                  simp only [ev 70 _ _ (by decide)]
                  exact ⟨b.grown gr8 b.size (fun q hq => (own_lt ho q hq).1), h3, h4, h7, h8, h9, fun _ => ⟨d4, d9⟩, h13, fun e => absurd ((h14 e).1.symm.trans hL) (by decide), h15, fun e e2 => absurd (d4.symm.trans e2) (by decide), f1, f2, f3, fun _ e => absurd ((upd_self L 10).symm.trans e) (by decide), f5, f6, f7, f8, fun _ e => absurd ((upd_self L 10).symm.trans e) (by decide), fun _ _ => o8, f11, f12, f13, fun e => absurd ((h14 e).1.symm.trans hL) (by decide), f15, frw⟩
                case t11 =>
                  rintro L a wr ⟨hst, hsz, q0, q9, q10, hF⟩ hL hdp K hK
                  have ev := fun (d t : Nat) (v : Value) (hd : d < 76) => eval_put a d t v (by omega)
                  obtain ⟨b, h3, h4, h7, h8, h9, h10, h13, h14, h15, f0, f1, f2, f3, f4, f5, f6, f7, f8, f9, f10, f11, f12, f13, f14, f15, frw⟩ := hF
                  have n15 : L 15 = false := by
                    cases h : L 15
                    · rfl
                    · exact absurd (((h13 (h14 (h15 h)).2).1).symm.trans hL) (by decide)
                  have t6 := frw n15
                  rw [eval_tmp, Array.getD_eq_getD_getElem?] at t6
                  refine step_value (v := .slice (some ⟨gR, 0, none⟩) m cR) (w' := wr) rfl (by go_simp) ?_
                  refine hK _ _ ⟨hst.put 71 _ (by decide), by simpa [Act.put] using hsz, (ev 71 0 _ (by decide)).trans q0, (ev 71 9 _ (by decide)).trans q9, (ev 71 10 _ (by decide)).trans q10, ?_⟩
                  simp only [ev 71 _ _ (by decide)]
                  exact ⟨b, h3, h4, h7, h8, h9, h10, fun e => absurd ((h13 e).1.symm.trans hL) (by decide), h14, h15, f0, f1, f2, f3, f4, f5, f6, f7, f8, f9, f10, fun _ => rfl, f12, f13, f14, f15, frw⟩
                case t12 =>
                  rintro L a wr ⟨hst, hsz, q0, q9, q10, hF⟩ hL hdp K hK
                  have ev := fun (d t : Nat) (v : Value) (hd : d < 76) => eval_put a d t v (by omega)
                  obtain ⟨b, h3, h4, h7, h8, h9, h10, h13, h14, h15, f0, f1, f2, f3, f4, f5, f6, f7, f8, f9, f10, f11, f12, f13, f14, f15, frw⟩ := hF
                  have t10 := q10
                  rw [eval_tmp, Array.getD_eq_getD_getElem?] at t10
                  refine step_value (v := .int .i64 (k : Nat)) (w' := wr) rfl (by go_simp) ?_
                  refine hK _ _ ⟨hst.put 72 _ (by decide), by simpa [Act.put] using hsz, (ev 72 0 _ (by decide)).trans q0, (ev 72 9 _ (by decide)).trans q9, (ev 72 10 _ (by decide)).trans q10, ?_⟩
                  simp only [ev 72 _ _ (by decide)]
                  exact ⟨b, h3, h4, h7, h8, h9, h10, fun e => absurd ((h13 e).2.symm.trans hL) (by decide), h14, h15, f0, f1, f2, f3, f4, f5, f6, f7, f8, f9, f10, f11, fun _ => rfl, f13, f14, f15, frw⟩
                case t13 =>
                  rintro L a wr ⟨hst, hsz, q0, q9, q10, hF⟩ hL hdp K hK
                  have ev := fun (d t : Nat) (v : Value) (hd : d < 76) => eval_put a d t v (by omega)
                  have d11 : L 11 = true := hdp ⟨11, .data⟩ (by simp) rfl
                  have d12 : L 12 = true := hdp ⟨12, .data⟩ (by simp) rfl
                  obtain ⟨b, h3, h4, h7, h8, h9, h10, h13, h14, h15, f0, f1, f2, f3, f4, f5, f6, f7, f8, f9, f10, f11, f12, f13, f14, f15, frw⟩ := hF
                  have t71 := f11 d11
                  have t72 := f12 d12
                  rw [eval_tmp, Array.getD_eq_getD_getElem?] at t71 t72
                  by_cases hck : cR = k
                  · refine step_value (v := .slice (some ⟨gR, 0, none⟩) (m - k) (cR - k)) (w' := wr) rfl (by go_simp) ?_
                    refine hK _ _ ⟨hst.put 73 _ (by decide), by simpa [Act.put] using hsz, (ev 73 0 _ (by decide)).trans q0, (ev 73 9 _ (by decide)).trans q9, (ev 73 10 _ (by decide)).trans q10, ?_⟩
                    simp only [ev 73 _ _ (by decide)]
                    exact ⟨b, h3, h4, h7, h8, h9, h10, fun _ => ⟨d11, d12⟩, fun e => absurd ((h14 e).2.symm.trans hL) (by decide), h15, f0, f1, f2, f3, f4, f5, f6, f7, f8, f9, f10, f11, f12, fun _ => ⟨0, rfl, .inr (by omega)⟩, f14, f15, frw⟩
                  · refine step_value (v := .slice (some ⟨gR, k, none⟩) (m - k) (cR - k)) (w' := wr) rfl (by go_simp) ?_
                    refine hK _ _ ⟨hst.put 73 _ (by decide), by simpa [Act.put] using hsz, (ev 73 0 _ (by decide)).trans q0, (ev 73 9 _ (by decide)).trans q9, (ev 73 10 _ (by decide)).trans q10, ?_⟩
                    simp only [ev 73 _ _ (by decide)]
                    exact ⟨b, h3, h4, h7, h8, h9, h10, fun _ => ⟨d11, d12⟩, fun e => absurd ((h14 e).2.symm.trans hL) (by decide), h15, f0, f1, f2, f3, f4, f5, f6, f7, f8, f9, f10, f11, f12, fun _ => ⟨k, rfl, .inl rfl⟩, f14, f15, frw⟩
                case t14 =>
                  rintro L a wr ⟨hst, hsz, q0, q9, q10, hF⟩ hL hdp K hK
                  have ev := fun (d t : Nat) (v : Value) (hd : d < 76) => eval_put a d t v (by omega)
                  have d10 : L 10 = true := hdp ⟨10, .data⟩ (by simp) rfl
                  have d13 : L 13 = true := hdp ⟨13, .data⟩ (by simp) rfl
                  obtain ⟨b, h3, h4, h7, h8, h9, h10, h13, h14, h15, f0, f1, f2, f3, f4, f5, f6, f7, f8, f9, f10, f11, f12, f13, f14, f15, frw⟩ := hF
                  have ho := f10 d10 hL
                  obtain ⟨o, eT, ho2⟩ := f13 d13
                  refine step_append_any wr rfl (.tmp 70) (.tmp 73) 22 rfl wq.heap.size 3 i0 _ 1 8 Try.underlying22 hi'.out.1 hi'.out.2.1 hi'.out.2.2.1 hi'.out.2.2.2 rfl (by decide) (a.eval (.tmp 70)) (k + 1) _ rfl ho wr.heap.size (some ⟨gR, o, none⟩) (m - k) (cR - k) (ints (p.drop k)) eT (by
                    rcases ho2 with rfl | h3
                    · exact reads_offS (own_below oR b (Nat.le_refl _)) hkm
                    · rw [h3]; exact reads_noneS (own_below oR b (Nat.le_refl _)) o) (ints_one_ _) (by unfold maxLen; omega) (by omega) b.size ?_
                  intro v9 w9 o9 gr9 at9
                  rw [show k + 1 + (m - k) = m + 1 by omega, show ints (p.take k ++ [x]) ++ ints (p.drop k) = ints (insA p k x) by simp [ints, insA]] at o9
                  refine hK _ _ ⟨hst.put 74 _ (by decide), by simpa [Act.put] using hsz, (ev 74 0 _ (by decide)).trans q0, (ev 74 9 _ (by decide)).trans q9, (ev 74 10 _ (by decide)).trans q10, ?_⟩
                  simp only [ev 74 _ _ (by decide)]
                  exact ⟨b.grown gr9 b.size (fun q hq => (own_lt ho q hq).1), h3, h4, h7, h8, h9, h10, h13, fun _ => ⟨d10, d13⟩, fun e => absurd ((h15 e).symm.trans hL) (by decide), fun e e2 => absurd ((h10 d10).1.symm.trans e2) (by decide), f1, f2, f3, fun e e2 => absurd (d10.symm.trans e2) (by decide), f5, f6, f7, f8, fun e e2 => absurd (d10.symm.trans e2) (by decide), fun _ e => absurd ((upd_self L 14).symm.trans e) (by decide), f11, f12, f13, fun _ => o9, fun e => absurd ((h15 e).symm.trans hL) (by decide), frw⟩
                case t15 =>
                  rintro L a wr ⟨hst, hsz, q0, q9, q10, hF⟩ hL hdp K hK
                  have ev := fun (d t : Nat) (v : Value) (hd : d < 76) => eval_put a d t v (by omega)
                  have d14 : L 14 = true := hdp ⟨14, .data⟩ (by simp) rfl
                  obtain ⟨b, h3, h4, h7, h8, h9, h10, h13, h14, h15, f0, f1, f2, f3, f4, f5, f6, f7, f8, f9, f10, f11, f12, f13, f14, f15, frw⟩ := hF
                  refine step_value (v := a.eval (.tmp 74)) (w' := wr) rfl (by go_simp) ?_
                  refine hK _ _ ⟨hst.put 6 _ (by decide), by simpa [Act.put] using hsz, (ev 6 0 _ (by decide)).trans q0, (ev 6 9 _ (by decide)).trans q9, (ev 6 10 _ (by decide)).trans q10, ?_⟩
                  simp only [ev 6 _ _ (by decide)]
                  exact ⟨b, h3, h4, h7, h8, h9, h10, h13, h14, fun _ => d14, f0, f1, f2, f3, f4, f5, f6, f7, f8, f9, f10, f11, f12, f13, f14, fun _ => rfl, fun e => absurd ((upd_self L 15).symm.trans e) (by decide)⟩
            case steps =>
              refine ⟨?s0, ?s1, ?s2, ?s3, ?s4, ?s5, ?s6, ?s7, ?s8, ?s9, ?s10, ?s11, ?s12, trivial⟩
              case s0 =>
                rintro L a wr ⟨hst, hsz, q10, q8, hF⟩ hL hdp K hK
                have ev := fun (d t : Nat) (v : Value) (hd : d < 76) => eval_put a d t v (by omega)
                obtain ⟨b, h3, h4, h6, h7, h10, h11, h12, f0, f1, f2, f3, f4, f5, f6, f7, f8, f9, f10, f11, f12, frw⟩ := hF
                refine step_value (v := .slice (some ⟨wr.heap.size, 0, none⟩) 0 0) (w' := wr.alloc (.cells #[] 3)) rfl (by go_simp) ?_
                refine hK _ _ ⟨hst.put 48 _ (by decide), by simpa [Act.put] using hsz, (ev 48 10 _ (by decide)).trans q10, (ev 48 8 _ (by decide)).trans q8, ?_⟩
                simp only [ev 48 _ _ (by decide)]
                exact ⟨alloc_ b _, h3, fun e => absurd ((h4 e).1.symm.trans hL) (by decide), h6, h7, h10, h11, h12, fun _ _ => ⟨_, rfl, made_at b.size rfl⟩, f1, f2, f3, fun e => absurd ((h4 e).1.symm.trans hL) (by decide), f5, fun e e2 => (f6 e e2).imp fun g h => ⟨h.1, h.2.1.alloc _, fun _ _ e3 => by have h8 := h.2.1.lt; have h9 : wr.heap.size = g := Option.some.inj e3; omega, h.2.2.2⟩, fun e => absurd ((h4 (h7 e).1).1.symm.trans hL) (by decide), f8, f9, f10, fun e => absurd ((h4 (h7 (h11 e).1).1).1.symm.trans hL) (by decide), f12, frw⟩
              case s1 =>
                rintro L a wr ⟨hst, hsz, q10, q8, hF⟩ hL hdp K hK
                have ev := fun (d t : Nat) (v : Value) (hd : d < 76) => eval_put a d t v (by omega)
                obtain ⟨b, h3, h4, h6, h7, h10, h11, h12, f0, f1, f2, f3, f4, f5, f6, f7, f8, f9, f10, f11, f12, frw⟩ := hF
                have n12 : L 12 = false := by
                  cases h : L 12
                  · rfl
                  · exact absurd (((h3 (h4 (h7 (h11 (h12 h)).1).1).2).1).symm.trans hL) (by decide)
                have t7 := frw n12
                rw [eval_tmp, Array.getD_eq_getD_getElem?] at t7
                refine step_value (v := .slice (some ⟨gR, 0, none⟩) m cR) (w' := wr) rfl (by go_simp) ?_
                refine hK _ _ ⟨hst.put 49 _ (by decide), by simpa [Act.put] using hsz, (ev 49 10 _ (by decide)).trans q10, (ev 49 8 _ (by decide)).trans q8, ?_⟩
                simp only [ev 49 _ _ (by decide)]
                exact ⟨b, fun e => absurd ((h3 e).1.symm.trans hL) (by decide), h4, h6, h7, h10, h11, h12, f0, fun _ => rfl, f2, f3, f4, f5, f6, f7, f8, f9, f10, f11, f12, frw⟩
              case s2 =>
                rintro L a wr ⟨hst, hsz, q10, q8, hF⟩ hL hdp K hK
                have ev := fun (d t : Nat) (v : Value) (hd : d < 76) => eval_put a d t v (by omega)
                obtain ⟨b, h3, h4, h6, h7, h10, h11, h12, f0, f1, f2, f3, f4, f5, f6, f7, f8, f9, f10, f11, f12, frw⟩ := hF
                have t10 := q10
                rw [eval_tmp, Array.getD_eq_getD_getElem?] at t10
                refine step_value (v := .int .i64 (k : Nat)) (w' := wr) rfl (by go_simp) ?_
                refine hK _ _ ⟨hst.put 50 _ (by decide), by simpa [Act.put] using hsz, (ev 50 10 _ (by decide)).trans q10, (ev 50 8 _ (by decide)).trans q8, ?_⟩
                simp only [ev 50 _ _ (by decide)]
                exact ⟨b, fun e => absurd ((h3 e).2.symm.trans hL) (by decide), h4, h6, h7, h10, h11, h12, f0, f1, fun _ => rfl, f3, f4, f5, f6, f7, f8, f9, f10, f11, f12, frw⟩
              case s3 =>
                rintro L a wr ⟨hst, hsz, q10, q8, hF⟩ hL hdp K hK
                have ev := fun (d t : Nat) (v : Value) (hd : d < 76) => eval_put a d t v (by omega)
                have d1 : L 1 = true := hdp ⟨1, .data⟩ (by simp) rfl
                have d2 : L 2 = true := hdp ⟨2, .data⟩ (by simp) rfl
                obtain ⟨b, h3, h4, h6, h7, h10, h11, h12, f0, f1, f2, f3, f4, f5, f6, f7, f8, f9, f10, f11, f12, frw⟩ := hF
                have t49 := f1 d1
                have t50 := f2 d2
                rw [eval_tmp, Array.getD_eq_getD_getElem?] at t49 t50
                refine step_value (v := .slice (some ⟨gR, 0, none⟩) k cR) (w' := wr) rfl (by go_simp) ?_
                refine hK _ _ ⟨hst.put 51 _ (by decide), by simpa [Act.put] using hsz, (ev 51 10 _ (by decide)).trans q10, (ev 51 8 _ (by decide)).trans q8, ?_⟩
                simp only [ev 51 _ _ (by decide)]
                exact ⟨b, fun _ => ⟨d1, d2⟩, fun e => absurd ((h4 e).2.symm.trans hL) (by decide), h6, h7, h10, h11, h12, f0, f1, f2, fun _ => rfl, f4, f5, f6, f7, f8, f9, f10, f11, f12, frw⟩
              case s4 =>
                rintro L a wr ⟨hst, hsz, q10, q8, hF⟩ hL hdp K hK
                have ev := fun (d t : Nat) (v : Value) (hd : d < 76) => eval_put a d t v (by omega)
                have d0 : L 0 = true := hdp ⟨0, .data⟩ (by simp) rfl
                have d3 : L 3 = true := hdp ⟨3, .data⟩ (by simp) rfl
                obtain ⟨b, h3, h4, h6, h7, h10, h11, h12, f0, f1, f2, f3, f4, f5, f6, f7, f8, f9, f10, f11, f12, frw⟩ := hF
                have t51 := f3 d3
                obtain ⟨g0, e0, ho⟩ := f0 d0 hL
                refine step_append_any wr rfl (.tmp 48) (.tmp 51) 22 rfl wq.heap.size 3 i0 _ 1 8 Try.underlying22 hi'.out.1 hi'.out.2.1 hi'.out.2.2.1 hi'.out.2.2.2 rfl (by decide) (a.eval (.tmp 48)) 0 [] rfl ho wr.heap.size (some ⟨gR, 0, none⟩) k cR (ints (p.take k)) (f3 d3) (by rw [show ints (p.take k) = (ints p).take k by simp [ints, List.map_take]]; exact Reads.pre (Reads.of_own (own_below oR b (Nat.le_refl _))) hkm) (ints_one_ _) (by unfold maxLen; omega) (by omega) b.size ?_
                intro v4 w4 o4 gr4 at4
                rw [Nat.zero_add, List.nil_append] at o4
                refine hK _ _ ⟨hst.put 52 _ (by decide), by simpa [Act.put] using hsz, (ev 52 10 _ (by decide)).trans q10, (ev 52 8 _ (by decide)).trans q8, ?_⟩
                simp only [ev 52 _ _ (by decide)]
                exact ⟨b.grown gr4 b.size (fun q hq => (own_lt ho q hq).1), h3, fun _ => ⟨d0, d3⟩, h6, fun e => absurd ((h7 e).1.symm.trans hL) (by decide), h10, h11, h12, fun _ e => absurd ((upd_self L 4).symm.trans e) (by decide), f1, f2, f3, fun _ _ => o4, f5, fun e e2 => (f6 e e2).imp fun g h => ⟨h.1, h.2.1.grown gr4 (fun e3 => h.2.2.1 d0 hL e3.symm), (fun _ e3 => absurd ((upd_self L 4).symm.trans e3) (by decide)), fun _ e3 => by
                    rcases at4 with e4 | e4
                    · exact h.2.2.1 d0 hL (e4.symm.trans e3)
                    · have h8 := h.2.1.lt; have h9 : wr.heap.size = g := Option.some.inj (e4.symm.trans e3); omega⟩, fun e => absurd ((h7 e).1.symm.trans hL) (by decide), f8, f9, f10, fun e => absurd ((h7 (h11 e).1).1.symm.trans hL) (by decide), f12, frw⟩
              case s5 =>
                rintro L a wr ⟨hst, hsz, q10, q8, hF⟩ hL hdp K hK
                have ev := fun (d t : Nat) (v : Value) (hd : d < 76) => eval_put a d t v (by omega)
                obtain ⟨b, h3, h4, h6, h7, h10, h11, h12, f0, f1, f2, f3, f4, f5, f6, f7, f8, f9, f10, f11, f12, frw⟩ := hF
                have t8 := q8
                rw [eval_tmp, Array.getD_eq_getD_getElem?] at t8
                refine step_value (v := .int .i64 x) (w' := wr) rfl (by go_simp) ?_
                refine hK _ _ ⟨hst.put 53 _ (by decide), by simpa [Act.put] using hsz, (ev 53 10 _ (by decide)).trans q10, (ev 53 8 _ (by decide)).trans q8, ?_⟩
                simp only [ev 53 _ _ (by decide)]
                exact ⟨b, h3, h4, fun e => absurd ((h6 e).symm.trans hL) (by decide), h7, h10, h11, h12, f0, f1, f2, f3, f4, fun _ => rfl, f6, f7, f8, f9, f10, f11, f12, frw⟩
              case s6 =>
                rintro L a wr ⟨hst, hsz, q10, q8, hF⟩ hL hdp K hK
                have ev := fun (d t : Nat) (v : Value) (hd : d < 76) => eval_put a d t v (by omega)
                have d5 : L 5 = true := hdp ⟨5, .data⟩ (by simp) rfl
                obtain ⟨b, h3, h4, h6, h7, h10, h11, h12, f0, f1, f2, f3, f4, f5, f6, f7, f8, f9, f10, f11, f12, frw⟩ := hF
                have n7 : L 7 = false := by
                  cases h : L 7
                  · rfl
                  · exact absurd (((h7 h).2).symm.trans hL) (by decide)
                have t53 := f5 d5
                rw [eval_tmp, Array.getD_eq_getD_getElem?] at t53
                refine step_value (v := .slice (some ⟨wr.heap.size, 0, none⟩) 1 1) (w' := wr.alloc (.cells #[.int .i64 x] 3)) rfl (by go_simp) ?_
                refine hK _ _ ⟨hst.put 54 _ (by decide), by simpa [Act.put] using hsz, (ev 54 10 _ (by decide)).trans q10, (ev 54 8 _ (by decide)).trans q8, ?_⟩
                simp only [ev 54 _ _ (by decide)]
                exact ⟨alloc_ b _, h3, h4, fun _ => d5, fun e => absurd ((h7 e).2.symm.trans hL) (by decide), h10, h11, h12, fun e e2 => (f0 e e2).imp fun g h => ⟨h.1, h.2.alloc _⟩, f1, f2, f3, fun e e2 => (f4 e e2).alloc _, f5, fun _ _ => ⟨wr.heap.size, rfl, Blk.new _ _ _, (fun e e2 e3 => by
                    obtain ⟨g, h1, h2⟩ := f0 e e2
                    have := (own_lt h2 _ e3).2; omega), fun e e3 => by have := (own_lt (f4 e n7) _ e3).2; omega⟩, fun e => absurd ((h7 e).2.symm.trans hL) (by decide), f8, f9, f10, fun e => absurd ((h7 (h11 e).1).2.symm.trans hL) (by decide), f12, frw⟩
              case s7 =>
                rintro L a wr ⟨hst, hsz, q10, q8, hF⟩ hL hdp K hK
                have ev := fun (d t : Nat) (v : Value) (hd : d < 76) => eval_put a d t v (by omega)
                have d4 : L 4 = true := hdp ⟨4, .data⟩ (by simp) rfl
                have d6 : L 6 = true := hdp ⟨6, .data⟩ (by simp) rfl
                obtain ⟨b, h3, h4, h6, h7, h10, h11, h12, f0, f1, f2, f3, f4, f5, f6, f7, f8, f9, f10, f11, f12, frw⟩ := hF
                obtain ⟨g6, e6, hk6, -, hne⟩ := f6 d6 hL
                have ho := f4 d4 hL
                refine step_push wr rfl (.tmp 52) (.tmp 54) 22 rfl wq.heap.size 3 i0 _ 1 8 Try.underlying22 hi'.out.1 hi'.out.2.1 hi'.out.2.2.1 hi'.out.2.2.2 rfl (by decide) (a.eval (.tmp 52)) k _ rfl ho #[.int .i64 x] g6 e6 hk6 rfl (by simp [Value.oneCell']) (by omega) (by unfold maxLen; omega) b.size ?_
                intro g8 d8 w8 o8 gr8 bl8 at8
                rw [show ints (p.take k) ++ (#[Value.int .i64 x] : Array Value).toList = ints (p.take k ++ [x]) by simp [ints]] at o8
                refine hK _ _ ⟨hst.put 55 _ (by decide), by simpa [Act.put] using hsz, (ev 55 10 _ (by decide)).trans q10, (ev 55 8 _ (by decide)).trans q8, ?_⟩
                simp only [ev 55 _ _ (by decide)]
                exact ⟨b.grown gr8 b.size (fun q hq => (own_lt ho q hq).1), h3, h4, h6, fun _ => ⟨d4, d6⟩, h10, fun e => absurd ((h11 e).1.symm.trans hL) (by decide), h12, fun e e2 => absurd (d4.symm.trans e2) (by decide), f1, f2, f3, fun _ e => absurd ((upd_self L 7).symm.trans e) (by decide), f5, fun _ e => absurd ((upd_self L 7).symm.trans e) (by decide), fun _ _ => o8, f8, f9, f10, fun e => absurd ((h11 e).1.symm.trans hL) (by decide), f12, frw⟩
              case s8 =>
                rintro L a wr ⟨hst, hsz, q10, q8, hF⟩ hL hdp K hK
                have ev := fun (d t : Nat) (v : Value) (hd : d < 76) => eval_put a d t v (by omega)
                obtain ⟨b, h3, h4, h6, h7, h10, h11, h12, f0, f1, f2, f3, f4, f5, f6, f7, f8, f9, f10, f11, f12, frw⟩ := hF
                have n12 : L 12 = false := by
                  cases h : L 12
                  · rfl
                  · exact absurd (((h10 (h11 (h12 h)).2).1).symm.trans hL) (by decide)
                have t7 := frw n12
                rw [eval_tmp, Array.getD_eq_getD_getElem?] at t7
                refine step_value (v := .slice (some ⟨gR, 0, none⟩) m cR) (w' := wr) rfl (by go_simp) ?_
                refine hK _ _ ⟨hst.put 56 _ (by decide), by simpa [Act.put] using hsz, (ev 56 10 _ (by decide)).trans q10, (ev 56 8 _ (by decide)).trans q8, ?_⟩
                simp only [ev 56 _ _ (by decide)]
                exact ⟨b, h3, h4, h6, h7, fun e => absurd ((h10 e).1.symm.trans hL) (by decide), h11, h12, f0, f1, f2, f3, f4, f5, f6, f7, fun _ => rfl, f9, f10, f11, f12, frw⟩
              case s9 =>
                rintro L a wr ⟨hst, hsz, q10, q8, hF⟩ hL hdp K hK
                have ev := fun (d t : Nat) (v : Value) (hd : d < 76) => eval_put a d t v (by omega)
                obtain ⟨b, h3, h4, h6, h7, h10, h11, h12, f0, f1, f2, f3, f4, f5, f6, f7, f8, f9, f10, f11, f12, frw⟩ := hF
                have t10 := q10
                rw [eval_tmp, Array.getD_eq_getD_getElem?] at t10
                refine step_value (v := .int .i64 (k : Nat)) (w' := wr) rfl (by go_simp) ?_
                refine hK _ _ ⟨hst.put 57 _ (by decide), by simpa [Act.put] using hsz, (ev 57 10 _ (by decide)).trans q10, (ev 57 8 _ (by decide)).trans q8, ?_⟩
                simp only [ev 57 _ _ (by decide)]
                exact ⟨b, h3, h4, h6, h7, fun e => absurd ((h10 e).2.symm.trans hL) (by decide), h11, h12, f0, f1, f2, f3, f4, f5, f6, f7, f8, fun _ => rfl, f10, f11, f12, frw⟩
              case s10 =>
                rintro L a wr ⟨hst, hsz, q10, q8, hF⟩ hL hdp K hK
                have ev := fun (d t : Nat) (v : Value) (hd : d < 76) => eval_put a d t v (by omega)
                have d8 : L 8 = true := hdp ⟨8, .data⟩ (by simp) rfl
                have d9 : L 9 = true := hdp ⟨9, .data⟩ (by simp) rfl
                obtain ⟨b, h3, h4, h6, h7, h10, h11, h12, f0, f1, f2, f3, f4, f5, f6, f7, f8, f9, f10, f11, f12, frw⟩ := hF
                have t56 := f8 d8
                have t57 := f9 d9
                rw [eval_tmp, Array.getD_eq_getD_getElem?] at t56 t57
                by_cases hck : cR = k
                · refine step_value (v := .slice (some ⟨gR, 0, none⟩) (m - k) (cR - k)) (w' := wr) rfl (by go_simp) ?_
                  refine hK _ _ ⟨hst.put 58 _ (by decide), by simpa [Act.put] using hsz, (ev 58 10 _ (by decide)).trans q10, (ev 58 8 _ (by decide)).trans q8, ?_⟩
                  simp only [ev 58 _ _ (by decide)]
                  exact ⟨b, h3, h4, h6, h7, fun _ => ⟨d8, d9⟩, fun e => absurd ((h11 e).2.symm.trans hL) (by decide), h12, f0, f1, f2, f3, f4, f5, f6, f7, f8, f9, fun _ => ⟨0, rfl, .inr (by omega)⟩, f11, f12, frw⟩
                · refine step_value (v := .slice (some ⟨gR, k, none⟩) (m - k) (cR - k)) (w' := wr) rfl (by go_simp) ?_
                  refine hK _ _ ⟨hst.put 58 _ (by decide), by simpa [Act.put] using hsz, (ev 58 10 _ (by decide)).trans q10, (ev 58 8 _ (by decide)).trans q8, ?_⟩
                  simp only [ev 58 _ _ (by decide)]
                  exact ⟨b, h3, h4, h6, h7, fun _ => ⟨d8, d9⟩, fun e => absurd ((h11 e).2.symm.trans hL) (by decide), h12, f0, f1, f2, f3, f4, f5, f6, f7, f8, f9, fun _ => ⟨k, rfl, .inl rfl⟩, f11, f12, frw⟩
              case s11 =>
                rintro L a wr ⟨hst, hsz, q10, q8, hF⟩ hL hdp K hK
                have ev := fun (d t : Nat) (v : Value) (hd : d < 76) => eval_put a d t v (by omega)
                have d7 : L 7 = true := hdp ⟨7, .data⟩ (by simp) rfl
                have d10 : L 10 = true := hdp ⟨10, .data⟩ (by simp) rfl
                obtain ⟨b, h3, h4, h6, h7, h10, h11, h12, f0, f1, f2, f3, f4, f5, f6, f7, f8, f9, f10, f11, f12, frw⟩ := hF
                have ho := f7 d7 hL
                obtain ⟨o, eT, ho2⟩ := f10 d10
                refine step_append_any wr rfl (.tmp 55) (.tmp 58) 22 rfl wq.heap.size 3 i0 _ 1 8 Try.underlying22 hi'.out.1 hi'.out.2.1 hi'.out.2.2.1 hi'.out.2.2.2 rfl (by decide) (a.eval (.tmp 55)) (k + 1) _ rfl ho wr.heap.size (some ⟨gR, o, none⟩) (m - k) (cR - k) (ints (p.drop k)) eT (by
                  rcases ho2 with rfl | h3
                  · exact reads_offS (own_below oR b (Nat.le_refl _)) hkm
                  · rw [h3]; exact reads_noneS (own_below oR b (Nat.le_refl _)) o) (ints_one_ _) (by unfold maxLen; omega) (by omega) b.size ?_
                intro v9 w9 o9 gr9 at9
                rw [show k + 1 + (m - k) = m + 1 by omega, show ints (p.take k ++ [x]) ++ ints (p.drop k) = ints (insA p k x) by simp [ints, insA]] at o9
                refine hK _ _ ⟨hst.put 59 _ (by decide), by simpa [Act.put] using hsz, (ev 59 10 _ (by decide)).trans q10, (ev 59 8 _ (by decide)).trans q8, ?_⟩
                simp only [ev 59 _ _ (by decide)]
                exact ⟨b.grown gr9 b.size (fun q hq => (own_lt ho q hq).1), h3, h4, h6, h7, h10, fun _ => ⟨d7, d10⟩, fun e => absurd ((h12 e).symm.trans hL) (by decide), fun e e2 => absurd ((h7 d7).1.symm.trans e2) (by decide), f1, f2, f3, fun e e2 => absurd (d7.symm.trans e2) (by decide), f5, fun e e2 => absurd (d7.symm.trans e2) (by decide), fun _ e => absurd ((upd_self L 11).symm.trans e) (by decide), f8, f9, f10, fun _ => o9, fun e => absurd ((h12 e).symm.trans hL) (by decide), frw⟩
              case s12 =>
                rintro L a wr ⟨hst, hsz, q10, q8, hF⟩ hL hdp K hK
                have ev := fun (d t : Nat) (v : Value) (hd : d < 76) => eval_put a d t v (by omega)
                have d11 : L 11 = true := hdp ⟨11, .data⟩ (by simp) rfl
                obtain ⟨b, h3, h4, h6, h7, h10, h11, h12, f0, f1, f2, f3, f4, f5, f6, f7, f8, f9, f10, f11, f12, frw⟩ := hF
                refine step_value (v := a.eval (.tmp 59)) (w' := wr) rfl (by go_simp) ?_
                refine hK _ _ ⟨hst.put 7 _ (by decide), by simpa [Act.put] using hsz, (ev 7 10 _ (by decide)).trans q10, (ev 7 8 _ (by decide)).trans q8, ?_⟩
                simp only [ev 7 _ _ (by decide)]
                exact ⟨b, h3, h4, h6, h7, h10, h11, fun _ => d11, f0, f1, f2, f3, f4, f5, f6, f7, f8, f9, f10, f11, fun _ => rfl, fun e => absurd ((upd_self L 12).symm.trans e) (by decide)⟩
    · have iI : ¬ (i : Int) < (n : Int) := by omega
      obtain rfl : i = n := by omega
      have HE : Hid ((SI z0 s i).2 = shL z0 s) := Lib.hid (by unfold shL; rw [HN.out])
      have HLN : Hid ((shV z0 s).length = i) := Lib.hid (by rw [HSV.out, shL_len, HN.out])
      go_wp2_with fail
      exact bodyPost_ret (v := .tuple #[.slice (some ⟨gO, 0, none⟩) i cO, .bool true]) (by simp [results, Try.results6, go_sem]) rfl ⟨_, cO, by rw [HLN.out, HOK.out], by rw [HLN.out, HSV.out, ← HE.out]; exact HO.out, HB.out⟩
end Go.Proofs.Ytfpojoabfdiadaa
