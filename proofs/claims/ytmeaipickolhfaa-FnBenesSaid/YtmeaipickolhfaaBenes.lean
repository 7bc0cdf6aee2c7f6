/- The Benes network, both sides. -/
import Derived.Test.YtmeaipickolhfaaCore
import Derived.Test.YtmeaipickolhfaaBenM
import Derived.Test.YtmeaipickolhfaaInts
import Derived.Test.YtmeaipickolhfaaPush
import Derived.Test.YtmeaipickolhfaaHold
import Derived.Test.YtmeaipickolhfaaTreeOf
import Derived.Test.YtmeaipickolhfaaTreeS
import Derived.IntWalk
import Derived.Deep.RegionHeld3
import Derived.Deep.QuietTactic
import Derived.BigQuiet
namespace Go.Proofs.Ytmeaipickolhfaa
open Go.RowKit
set_option linter.unusedVariables false
theorem bsz_szf : ∀ f : Fin 6, szf 7 ((2 ^ (f.val + 1) : Nat) : Int) = (bsz f.val : Nat) := by decide +kernel
theorem bsz_bd : ∀ f : Fin 6, bsz f.val ≤ 352 ∧ 2 ^ f.val ≤ 32 := by decide
theorem Reads.midi {w : World} {B n k m : Nat} {ad : Addr} {xs : List Value} (h : Reads w B 1 (some ad) n xs) (hkm : k + m ≤ n) : Reads w B 1 (some (ad.add k)) m ((xs.drop k).take m) := by
  have hl := h.1
  refine ⟨by simp; omega, fun hn => ?_⟩
  obtain ⟨ad', e, hb, hc⟩ := h.2 (by omega)
  cases e
  refine ⟨_, rfl, by rw [block_of_add]; exact hb, fun j u hu => ?_⟩
  rw [add_of_add]
  refine hc _ u ?_
  rw [List.getElem?_take] at hu
  split at hu
  · rwa [List.getElem?_drop] at hu
  · cases hu
theorem reads_two {w : World} {g : Nat} {e : TypeId} {a b : Value} (h : Blk w g e #[a, b]) : Reads w (g + 1) 1 (some ⟨g, 0, none⟩) 2 [a, b] := by
  refine ⟨rfl, fun _ => ⟨_, rfl, by simp, fun j u hu => ?_⟩⟩
  have hadd : (⟨g, 0, none⟩ : Addr).add j = ⟨g, j, none⟩ := by unfold Addr.add; split <;> simp_all
  rw [hadd, h.cell]
  simpa using hu
theorem c_drew {w : World} {a : Addr} {x : Option Value} (h : w.cell? a = x) : w.drew.cell? a = x := h
theorem c_alloc {w : World} {a : Addr} {v : Value} (h : w.cell? a = some v) (o : Obj) : (w.alloc o).cell? a = some v := by
  rw [World.cell?_alloc_lt w o a (World.block_lt_of_cell? w _ h)]; exact h
theorem bn_succ (a : Addr) (k : Nat) : a.add (k + 1) = ⟨a.block, a.off + (k + 1), none⟩ := rfl
theorem bools_mid (s : List Bool) (k m : Nat) : ((bools s).drop k).take m = bools ((s.drop k).take m) := by simp [bools, List.map_drop, List.map_take]
set_option maxRecDepth 100000 in
set_option maxHeartbeats 3200000 in
theorem benes_any_zero (A : Option Addr) (l : List Int) (c : Nat) (A' : Option Addr) (s : List Bool) (c' : Nat) (w : World) (hl : l.length = 2) (hs : s.length = 1) (hx : Reads w w.heap.size 1 A 2 (ints l)) (hy : Reads w w.heap.size 1 A' 1 (bools s)) :
    Calls Try.prog 50 #[.slice A 2 c, .slice A' 1 c'] w fun e w' => ∃ v, e = .returned v ∧ w'.ownsRow w.heap.size 3 1 v 2 (ints (benF 0 l s)) ∧ Below w.heap.size w w' := by
  have hI : (0 : Int) < 1 := by omega
  obtain ⟨bd, rfl, -, c0⟩ := Reads.tv (k := 0) (by rw [hs]; exact hy) (by rw [hs]; decide)
  obtain ⟨ad, rfl, -, a0⟩ := Reads.int (k := 0) (by rw [hl]; exact hx) (by rw [hl]; decide)
  obtain ⟨ad2, hE, -, a1⟩ := Reads.int (k := 1) (by rw [hl]; exact hx) (by rw [hl]; decide)
  cases hE
  have HB := Lib.hid (show benF 0 l s = if s[0]'(by rw [hs]; decide) then [l[1]'(by rw [hl]; decide), l[0]'(by rw [hl]; decide)] else l by
    unfold benF
    rw [List.getElem?_eq_getElem (by rw [hs]; decide), List.getElem?_eq_getElem (by rw [hl]; decide), List.getElem?_eq_getElem (by rw [hl]; decide)]
    rfl)
  have HL := Lib.hid hl
  have hx1 : Reads w w.heap.size 1 (some ad) l.length (ints l) := by rw [hl]; exact hx
  have HX1 := Lib.hid hx1
  clear hx1
  generalize l[1]'(by rw [hl]; decide) = y at *
  generalize l[0]'(by rw [hl]; decide) = x at *
  generalize s[0]'(by rw [hs]; decide) = b at *
  have addz : ∀ a : Addr, a.add 0 = a := fun a => by simp [Addr.add]
  rw [addz] at c0 a0
  clear addz
  have a1 : w.cell? ⟨ad.block, ad.off + 1, none⟩ = some (.int .i64 y) := a1
  clear hx hy hl hs
  cases b
  case true =>
    go_enter Try.func50, Try.ntmps50
    go_upto_region 4 with fail
    go_region_held3 (fun w' => w'.cell? ad = some (.int .i64 x) ∧ w'.cell? ⟨ad.block, ad.off + 1, none⟩ = some (.int .i64 y)) (go_keep) (fail)
    go_wp2_with fail
    go_ret
    have ho := own_full (base := w.heap.size) (e := 3) (size := 1) w #[.int .i64 y, .int .i64 x] 2 (Nat.le_refl _) (by decide) rfl
    refine ⟨_, rfl, ?_, by go_grown⟩
    rw [HB.out]
    exact ho
  case false =>
    have hc := Lib.hid (copyI_any (some ad) l 2 c w HL.out HX1.out (by omega))
    go_enter Try.func50, Try.ntmps50
    go_wp2_with fail
    refine hc.out.mono ?_
    rintro e w1 ⟨v, rfl, ho, hb⟩
    go_wp2_with fail
    go_ret
    refine ⟨_, rfl, ?_, hb⟩
    rw [HB.out]
    exact ho
set_option maxRecDepth 100000 in
set_option maxHeartbeats 3200000 in
theorem benes_any_succ (f h z : Nat) (A : Option Addr) (l : List Int) (c : Nat) (A' : Option Addr) (s : List Bool) (c' : Nat) (w : World) (h1 : 2 ≤ h) (h2 : h ≤ 32) (z1 : 1 ≤ z) (z2 : z ≤ 352) (hl : l.length = 2 * h) (hs : s.length = 2 * h + 2 * z) (hc' : 2 * h + 2 * z ≤ c')
    (hx : Reads w w.heap.size 1 A (2 * h) (ints l)) (hy : Reads w w.heap.size 1 A' (2 * h + 2 * z) (bools s)) (HSZ : Hid (szf 7 (h : Int) = (z : Nat)))
    (HM : Hid (benF (f + 1) l s = outL (benF f (upL l s h) ((s.drop h).take z)) (benF f (loL l s h) ((s.drop (h + z)).take z)) (s.drop (h + 2 * z)) h)) (HBL : Hid (∀ l s, l.length = h → (benF f l s).length = h))
    (IH : Hid (∀ (A : Option Addr) (l : List Int) (c : Nat) (A' : Option Addr) (s : List Bool) (c' : Nat) (w : World), l.length = h → s.length = z → z ≤ c' → Reads w w.heap.size 1 A h (ints l) → Reads w w.heap.size 1 A' z (bools s) →
      Calls Try.prog 50 #[.slice A h c, .slice A' z c'] w fun e w' => ∃ v, e = .returned v ∧ w'.ownsRow w.heap.size 3 1 v h (ints (benF f l s)) ∧ Below w.heap.size w w')) :
    Calls Try.prog 50 #[.slice A (2 * h) c, .slice A' (2 * h + 2 * z) c'] w fun e w' => ∃ v, e = .returned v ∧ w'.ownsRow w.heap.size 3 1 v (2 * h) (ints (benF (f + 1) l s)) ∧ Below w.heap.size w w' := by
  have HX := Lib.hid hx; have HY := Lib.hid hy; have HLL := Lib.hid hl; have HSS := Lib.hid hs
  obtain ⟨i0, hi, hz0, hz1, hz2⟩ := info_parts (show (Try.prog.info? 3).map (fun i => (i.zero, i.size, i.bytes)) = some (some (.int .i64 0), 1, 8) by kernel_rfl)
  obtain ⟨bd, rfl, -, -⟩ := Reads.tv (k := 0) (by rw [hs]; exact hy) (by rw [hs]; omega)
  obtain ⟨ad, rfl, -, -⟩ := Reads.int (k := 0) (by rw [hl]; exact hx) (by rw [hl]; omega)
  have hn2 : ((2 : Int) * (h : Int) == 2) = false := by rw [beq_eq_false_iff_ne]; omega
  clear hx hy hl hs
  have hB0 := alloc_ (alloc_ (Below.refl w.heap.size w) (.cells #[] 3)) (.cells #[] 3)
  have h70 := World.ownsRow.alloc (made_at (w := w) (base := w.heap.size) (g := w.heap.size) (size := 1) (e := 3) (Nat.le_refl _) rfl) (.cells #[] 3)
  have h80 := made_at (w := w.alloc (.cells #[] 3)) (base := w.heap.size) (g := w.heap.size + 1) (size := 1) (e := 3) (by simp) (by simp)
  go_enter Try.func50, Try.ntmps50
  go_wp2_with fail
  go_loopw [7, 8, 38] (fun v7 v8 vi wr => ∃ k g7 c7 g8 c8 : Nat, k ≤ h ∧ v7 = .slice (some ⟨g7, 0, none⟩) k c7 ∧ v8 = .slice (some ⟨g8, 0, none⟩) k c8 ∧ vi = .int .i64 (k : Nat) ∧ g7 ≠ g8 ∧
      wr.ownsRow w.heap.size 3 1 (.slice (some ⟨g7, 0, none⟩) k c7) k (ints (upL l s k)) ∧ wr.ownsRow w.heap.size 3 1 (.slice (some ⟨g8, 0, none⟩) k c8) k (ints (loL l s k)) ∧ Below w.heap.size w wr) (fun _ _ vi _ => h - (intOf vi).toNat)
  case atStart => exact ⟨0, _, 0, _, 0, by omega, rfl, rfl, rfl, by omega, h70, h80, hB0⟩
  case round =>
    obtain ⟨k, g7, c7, g8, c8, hk, rfl, rfl, rfl, h78, o7, o8, hb⟩ := hrel
    clear h70 h80 hB0
    by_cases hkh : k < h
    · obtain ⟨ad2, hE, -, a0⟩ := Reads.int (k := 2 * k) (by rw [HLL.out]; exact HX.out.below hb) (by rw [HLL.out]; omega)
      cases hE
      obtain ⟨ad2, hE, -, a1⟩ := Reads.int (k := 2 * k + 1) (by rw [HLL.out]; exact HX.out.below hb) (by rw [HLL.out]; omega)
      cases hE
      obtain ⟨bd2, hE, -, b0⟩ := Reads.tv (k := k) (by rw [HSS.out]; exact HY.out.below hb) (by rw [HSS.out]; omega)
      cases hE
      have HUP := Lib.hid (show upL l s (k + 1) = upL l s k ++ [if s[k]'(by rw [HSS.out]; omega) then l[2 * k + 1]'(by rw [HLL.out]; omega) else l[2 * k]'(by rw [HLL.out]; omega)] by
        rw [upL_succ, List.getElem?_eq_getElem (by rw [HSS.out]; omega), List.getElem?_eq_getElem (by rw [HLL.out]; omega), List.getElem?_eq_getElem (by rw [HLL.out]; omega)]; rfl)
      have HLO := Lib.hid (show loL l s (k + 1) = loL l s k ++ [if s[k]'(by rw [HSS.out]; omega) then l[2 * k]'(by rw [HLL.out]; omega) else l[2 * k + 1]'(by rw [HLL.out]; omega)] by
        rw [loL_succ, List.getElem?_eq_getElem (by rw [HSS.out]; omega), List.getElem?_eq_getElem (by rw [HLL.out]; omega), List.getElem?_eq_getElem (by rw [HLL.out]; omega)]; rfl)
      rw [bn_succ] at a1
      generalize l[2 * k]'(by rw [HLL.out]; omega) = x at *
      generalize l[2 * k + 1]'(by rw [HLL.out]; omega) = y at *
      generalize s[k]'(by rw [HSS.out]; omega) = b at *
      have ew1 : IntKind.i64.wrap (2 * (k : Int)) = 2 * (k : Int) := IntWalk.i64_in _ (by omega)
      have ew2 : IntKind.i64.wrap (2 * (k : Int) + 1) = 2 * (k : Int) + 1 := IntWalk.i64_in _ (by omega)
      have i1 : (0 : Int) ≤ 2 * (k : Int) := by omega
      have i2 : 2 * (k : Int) < 2 * (h : Int) := by omega
      have i3 : (2 * (k : Int)).toNat = 2 * k := by omega
      have i4 : (0 : Int) ≤ 2 * (k : Int) + 1 := by omega
      have i5 : 2 * (k : Int) + 1 < 2 * (h : Int) := by omega
      have i6 : (2 * (k : Int) + 1).toNat = 2 * k + 1 := by omega
      have i7 : (k : Int) < h := by omega
      have i8 : (k : Int) < 2 * (h : Int) + 2 * (z : Int) := by omega
      cases b
      case true =>
        go_wp2_with fail
        go_quiet (fail)
        have b0' : (wr.drewN nq).cell? (bd.add k) = some (.bool true) := b0
        have o7' : (wr.drewN nq).ownsRow w.heap.size 3 1 (.slice (some ⟨g7, 0, none⟩) k c7) k (ints (upL l s k)) := o7
        have o8' : (wr.drewN nq).ownsRow w.heap.size 3 1 (.slice (some ⟨g8, 0, none⟩) k c8) k (ints (loL l s k)) := o8
        have hb' : Below w.heap.size w (wr.drewN nq) := below_drewN hb _
        have a0' : (wr.drewN nq).cell? (ad.add (2 * k)) = some (.int .i64 x) := a0
        generalize wr.drewN nq = w5 at *
        clear o7 o8 hb a0 a1 b0
        have s8 := own_lt o8' g8 rfl
        go_upto_region 13 with fail
        go_wp2_with (first
          | (at_builtin; refine wpList_push' _ rfl (.tmp 58) (.tmp 60) 22 rfl w.heap.size 3 i0 _ 1 8 Try.underlying22 hi hz0 hz1 hz2 rfl (by decide) (.slice (some ⟨g7, 0, none⟩) k c7) k _ rfl (World.ownsRow.alloc o7' _) #[.int .i64 y] w5.heap.size rfl (Blk.new _ _ _) rfl (by simp [Value.oneCell']) (by omega) (by unfold maxLen; omega) (by rw [World.size_alloc]; have := hb'.size; omega) ?_; intro q7 d7 w6 p7 gr7 bl7 at7; have p8 := World.ownsRow.kept (World.ownsRow.alloc o8' (.cells #[.int .i64 y] 3)) gr7 (.inr (by intro e; exact h78 (Option.some.inj e).symm)); have hb6 := (alloc_ hb' (.cells #[.int .i64 y] 3)).trans bl7; have n78 : q7 ≠ g8 := (by rcases at7 with e | e; exact (fun e2 => h78 ((Option.some.inj e).trans e2)); (rw [World.size_alloc] at e; omega)); have s7 := own_lt p7 q7 rfl)
          | (at_builtin; refine wpList_push' _ rfl (.tmp 62) (.tmp 64) 22 rfl w.heap.size 3 i0 _ 1 8 Try.underlying22 hi hz0 hz1 hz2 rfl (by decide) (.slice (some ⟨g8, 0, none⟩) k c8) k _ rfl (World.ownsRow.alloc p8 _) #[.int .i64 x] w6.heap.size rfl (Blk.new _ _ _) rfl (by simp [Value.oneCell']) (by omega) (by unfold maxLen; omega) (by rw [World.size_alloc]; have := hb6.size; omega) ?_; intro q8 d8 w7 r8 gr8 bl8 at8))
        have r7 := World.ownsRow.kept (World.ownsRow.alloc p7 (.cells #[.int .i64 x] 3)) gr8 (.inr (by intro e; exact n78 (Option.some.inj e)))
        have hb7 := (alloc_ hb6 (.cells #[.int .i64 x] 3)).trans bl8
        have m78 : q7 ≠ q8 := by
          rcases at8 with e | e
          · exact fun e2 => n78 (e2.trans (Option.some.inj e).symm)
          · rw [World.size_alloc] at e; omega
        have R7 := Lib.hid (show w7.ownsRow w.heap.size 3 1 (.slice (some ⟨q7, 0, none⟩) (k + 1) d7) (k + 1) (ints (upL l s (k + 1))) by rw [HUP.out]; simpa [ints] using r7)
        have R8 := Lib.hid (show w7.ownsRow w.heap.size 3 1 (.slice (some ⟨q8, 0, none⟩) (k + 1) d8) (k + 1) (ints (loL l s (k + 1))) by rw [HLO.out]; simpa [ints] using r8)
        clear r7 r8 p7 p8 gr7 gr8 at7 at8
        go_roundw
        case rel => exact ⟨k + 1, q7, d7, q8, d8, by omega, rfl, rfl, by go_num, m78, R7.out, R8.out, hb7⟩
        case measure => simp [intOf]; omega
      case false =>
        go_wp2_with fail
        go_quiet (fail)
        have b0' : (wr.drewN nq).cell? (bd.add k) = some (.bool false) := b0
        have o7' : (wr.drewN nq).ownsRow w.heap.size 3 1 (.slice (some ⟨g7, 0, none⟩) k c7) k (ints (upL l s k)) := o7
        have o8' : (wr.drewN nq).ownsRow w.heap.size 3 1 (.slice (some ⟨g8, 0, none⟩) k c8) k (ints (loL l s k)) := o8
        have hb' : Below w.heap.size w (wr.drewN nq) := below_drewN hb _
        have a0' : (wr.drewN nq).cell? (ad.add (2 * k)) = some (.int .i64 x) := a0
        generalize wr.drewN nq = w5 at *
        clear o7 o8 hb a0 a1 b0
        have s8 := own_lt o8' g8 rfl
        go_upto_region 13 with fail
        go_wp2_with (first
          | (at_builtin; refine wpList_push' _ rfl (.tmp 58) (.tmp 60) 22 rfl w.heap.size 3 i0 _ 1 8 Try.underlying22 hi hz0 hz1 hz2 rfl (by decide) (.slice (some ⟨g7, 0, none⟩) k c7) k _ rfl (World.ownsRow.alloc o7' _) #[.int .i64 x] w5.heap.size rfl (Blk.new _ _ _) rfl (by simp [Value.oneCell']) (by omega) (by unfold maxLen; omega) (by rw [World.size_alloc]; have := hb'.size; omega) ?_; intro q7 d7 w6 p7 gr7 bl7 at7; have p8 := World.ownsRow.kept (World.ownsRow.alloc o8' (.cells #[.int .i64 x] 3)) gr7 (.inr (by intro e; exact h78 (Option.some.inj e).symm)); have hb6 := (alloc_ hb' (.cells #[.int .i64 x] 3)).trans bl7; have n78 : q7 ≠ g8 := (by rcases at7 with e | e; exact (fun e2 => h78 ((Option.some.inj e).trans e2)); (rw [World.size_alloc] at e; omega)); have s7 := own_lt p7 q7 rfl)
          | (at_builtin; refine wpList_push' _ rfl (.tmp 62) (.tmp 64) 22 rfl w.heap.size 3 i0 _ 1 8 Try.underlying22 hi hz0 hz1 hz2 rfl (by decide) (.slice (some ⟨g8, 0, none⟩) k c8) k _ rfl (World.ownsRow.alloc p8 _) #[.int .i64 y] w6.heap.size rfl (Blk.new _ _ _) rfl (by simp [Value.oneCell']) (by omega) (by unfold maxLen; omega) (by rw [World.size_alloc]; have := hb6.size; omega) ?_; intro q8 d8 w7 r8 gr8 bl8 at8))
        have r7 := World.ownsRow.kept (World.ownsRow.alloc p7 (.cells #[.int .i64 y] 3)) gr8 (.inr (by intro e; exact n78 (Option.some.inj e)))
        have hb7 := (alloc_ hb6 (.cells #[.int .i64 y] 3)).trans bl8
        have m78 : q7 ≠ q8 := by
          rcases at8 with e | e
          · exact fun e2 => n78 (e2.trans (Option.some.inj e).symm)
          · rw [World.size_alloc] at e; omega
        have R7 := Lib.hid (show w7.ownsRow w.heap.size 3 1 (.slice (some ⟨q7, 0, none⟩) (k + 1) d7) (k + 1) (ints (upL l s (k + 1))) by rw [HUP.out]; simpa [ints] using r7)
        have R8 := Lib.hid (show w7.ownsRow w.heap.size 3 1 (.slice (some ⟨q8, 0, none⟩) (k + 1) d8) (k + 1) (ints (loL l s (k + 1))) by rw [HLO.out]; simpa [ints] using r8)
        clear r7 r8 p7 p8 gr7 gr8 at7 at8
        go_roundw
        case rel => exact ⟨k + 1, q7, d7, q8, d8, by omega, rfl, rfl, by go_num, m78, R7.out, R8.out, hb7⟩
        case measure => simp [intOf]; omega
    · obtain rfl : k = h := by omega
      have HC := Lib.hid hc'
      have e1 : ¬ c' = k := by omega
      have e2 : ¬ c' = k + z := by omega
      clear e1 e2
      have HS1 : Hid (((s.drop k).take z).length = z) := Lib.hid (by simp [HSS.out]; omega)
      have HS2 : Hid (((s.drop (k + z)).take z).length = z) := Lib.hid (by simp [HSS.out]; omega)
      have HR := Lib.hid (fun (w1 : World) (hb : Below w.heap.size w w1) => (HY.out.below hb).more hb.size)
      go_wp2_with (go_at_call 49; refine (benesSize_any 7 (by omega) (k : Int) _ (by rw [HSZ.out]; omega)).mono ?_; rintro e w' ⟨rfl, rfl⟩; rw [HSZ.out])
      refine (IH.out _ (upL l s k) c7 _ ((s.drop k).take z) (c' - k) wr (upL_len _ _ _) HS1.out (by omega) (Reads.of_own o7) (by rw [← bools_mid]; exact (HR.out wr hb).midi (by omega))).mono ?_
      rintro e w1 ⟨U, rfl, oU, hb1⟩
      obtain ⟨gU, cU, rfl, gU1, gU2, -⟩ := own_some oU (by omega)
      have hB1 := bthen hb hb1
      have o81 := own_below o8 hb1 (Nat.le_refl _)
      go_wp2_with fail
      rw [show k + 2 * z - (k + z) = z by omega]
      refine (IH.out _ (loL l s k) c8 _ ((s.drop (k + z)).take z) (c' - (k + z)) w1 (loL_len _ _ _) HS2.out (by omega) (Reads.of_own o81) (by rw [← bools_mid]; exact (HR.out w1 hB1).midi (by omega))).mono ?_
      rintro e w3 ⟨V, rfl, oV, hb2⟩
      obtain ⟨gV, cV, rfl, gV1, gV2, -⟩ := own_some oV (by omega)
      have hB3 := bthen hB1 hb2
      have oU3 := own_below oU hb2 (Nat.le_refl _)
      have HUL := Lib.hid (HBL.out _ ((s.drop k).take z) (upL_len l s k))
      have HVL := Lib.hid (HBL.out _ ((s.drop (k + z)).take z) (loL_len l s k))
      have HTL : Hid ((s.drop (k + 2 * z)).length = k) := Lib.hid (by simp [HSS.out]; omega)
      have hT3 : Reads w3 w3.heap.size 1 (some (bd.add (k + 2 * z))) k (bools (s.drop (k + 2 * z))) := by
        have := (HR.out w3 hB3).midi (k := k + 2 * z) (m := k) (by omega)
        rwa [bools_mid, List.take_of_length_le (by rw [HTL.out]; omega)] at this
      have HT3 := Lib.hid hT3; clear hT3
      obtain ⟨UU, hUU⟩ : ∃ x, benF f (upL l s k) ((s.drop k).take z) = x := ⟨_, rfl⟩
      obtain ⟨VV, hVV⟩ : ∃ x, benF f (loL l s k) ((s.drop (k + z)).take z) = x := ⟨_, rfl⟩
      obtain ⟨TT, hTT⟩ : ∃ x, s.drop (k + 2 * z) = x := ⟨_, rfl⟩
      rw [hUU] at oU3 HUL HM
      rw [hVV] at oV HVL HM
      rw [hTT] at HTL HT3 HM
      clear hUU hVV hTT oU o81 o8 o7 hb hb1 hb2 hB1 HS1 HS2
      have e4 : (((2 * k + 2 * z - (k + 2 * z) : Nat)) : Int) = k := by omega
      have e5 : 2 * k + 2 * z - (k + 2 * z) = k := by omega
      have E4 := Lib.hid e4; have E5 := Lib.hid e5; clear e4 e5
      have hOut0 := made_at (w := w3) (base := w3.heap.size) (g := w3.heap.size) (size := 1) (e := 3) (Nat.le_refl _) rfl
      have hBO := alloc_ (Below.refl w3.heap.size w3) (.cells #[] 3)
      have HCE := Lib.hid (fun j (hj : j < k) => Reads.tv (k := j) (by rw [HTL.out]; exact HT3.out) (by rw [HTL.out]; exact hj))
      go_wp2_with fail
      rw [E5.out]
      go_loopw [13, 96] (fun v vi wr => ∃ j gO cO : Nat, j ≤ k ∧ v = .slice (some ⟨gO, 0, none⟩) (2 * j) cO ∧ vi = .int .i64 (j : Nat) ∧ wr.ownsRow w3.heap.size 3 1 (.slice (some ⟨gO, 0, none⟩) (2 * j) cO) (2 * j) (ints (outL UU VV TT j)) ∧ Below w3.heap.size w3 wr) (fun _ vi _ => k - (intOf vi).toNat)
      case atStart => exact ⟨0, _, 0, by omega, rfl, rfl, hOut0, hBO⟩
      case round =>
        obtain ⟨j, gO, cO, hj, rfl, rfl, oO, hbo⟩ := hrel
        clear hOut0 hBO
        by_cases hjk : j < k
        · obtain ⟨bd2, hE, hblt, b0⟩ := Reads.tv (k := j) (by rw [HTL.out]; exact HT3.out.below hbo) (by rw [HTL.out]; omega)
          cases hE
          have HOU := Lib.hid (show outL UU VV TT (j + 1) = outL UU VV TT j ++ (if TT[j]'(by rw [HTL.out]; omega) then [VV[j]'(by rw [HVL.out]; omega), UU[j]'(by rw [HUL.out]; omega)] else [UU[j]'(by rw [HUL.out]; omega), VV[j]'(by rw [HVL.out]; omega)]) by
            rw [outL_succ, outP, List.getElem?_eq_getElem (by rw [HTL.out]; omega), List.getElem?_eq_getElem (by rw [HVL.out]; omega), List.getElem?_eq_getElem (by rw [HUL.out]; omega)]; rfl)
          have cU0 := (own_below oU3 hbo (Nat.le_refl _)).cellAt j (by omega)
          have cV0 := (own_below oV hbo (Nat.le_refl _)).cellAt j (by omega)
          rw [ints_get (by rw [HUL.out]; omega)] at cU0
          rw [ints_get (by rw [HVL.out]; omega)] at cV0
          generalize TT[j]'(by rw [HTL.out]; omega) = b at *
          generalize UU[j]'(by rw [HUL.out]; omega) = u at *
          generalize VV[j]'(by rw [HVL.out]; omega) = v at *
          have j1 : (j : Int) < k := by omega
          have j2 : (j : Int) ≤ k := by omega
          clear hblt
          have gUlt := (own_below oU3 hbo (Nat.le_refl _)).lt gU rfl
          have gVlt := (own_below oV hbo (Nat.le_refl _)).lt gV rfl
          have hl3 := (oO.lt gO rfl).1
          have hUO : gU ≠ gO := by have := (oU3.lt gU rfl).2; omega
          have hVO : gV ≠ gO := by have := (oV.lt gV rfl).2; omega
          have nU : some (⟨gU, j, none⟩ : Addr).block ≠ (Value.slice (some ⟨gO, 0, none⟩) (2 * j) cO).ownBlock := fun e => hUO (Option.some.inj e)
          have nV : some (⟨gV, j, none⟩ : Addr).block ≠ (Value.slice (some ⟨gO, 0, none⟩) (2 * j) cO).ownBlock := fun e => hVO (Option.some.inj e)
          have gr5 : True := trivial
          cases b
          case true =>
            go_upto_region 23 with fail
            go_region_held3 (fun w' => w'.cell? ⟨gU, j, none⟩ = some (.int .i64 u) ∧ w'.cell? ⟨gV, j, none⟩ = some (.int .i64 v)) (refine ⟨?_, ?_⟩ <;> (repeat' (first | with_reducible exact cU0 | with_reducible exact cV0 | with_reducible refine c_drew ?_ | with_reducible refine c_alloc ?_ _ | with_reducible refine World.grownBy.cell gr5 ?_ (by first | exact nU | exact nV)))) ((refine step_append_any _ (by rfl) (.tmp 102) (.tmp 111) 22 (by rfl) w3.heap.size 3 i0 _ 1 8 Try.underlying22 hi hz0 hz1 hz2 (by rfl) (by decide) (.slice (some ⟨gO, 0, none⟩) (2 * j) cO) (2 * j) (ints (outL UU VV TT j)) (by rfl) (by repeat' (first | with_reducible exact oO | with_reducible refine own_drew_ ?_ | with_reducible refine World.ownsRow.alloc ?_ _)) (wr.heap.size + 1) (some ⟨wr.heap.size, 0, none⟩) 2 2 [.int .i64 v, .int .i64 u] (by rfl) (by exact reads_two (Blk.new _ _ _)) (by simp [Value.oneCell']) (by unfold maxLen; omega) (by omega) (by have := hbo.size; simp; omega) ?_; intro v5 w5 o5 gr5 at5))
            obtain ⟨g5, c5, rfl, -, -, -⟩ := own_some o5 (by omega)
            have hb5 : Below w3.heap.size w3 w5 := (alloc_ (bdrew hbo) _).trans (below_of_grown gr5 (by have := hbo.size; simp; omega) (by intro q hq; have h9 : gO = q := Option.some.inj hq; omega))
            have O5 := Lib.hid (show w5.ownsRow w3.heap.size 3 1 (.slice (some ⟨g5, 0, none⟩) (2 * (j + 1)) c5) (2 * (j + 1)) (ints (outL UU VV TT (j + 1))) by rw [HOU.out]; simpa [ints, Nat.mul_add] using o5)
            clear o5 gr5 at5 oO cU0 cV0 b0
            go_wp2_with fail
            go_roundw
            case rel => exact ⟨j + 1, g5, c5, by omega, by rw [show 2 * (j + 1) = 2 * j + 2 by omega], by go_num, O5.out, hb5⟩
            case measure => simp [intOf]; omega
          case false =>
            go_upto_region 24 with fail
            go_region_held3 (fun w' => w'.cell? ⟨gU, j, none⟩ = some (.int .i64 u) ∧ w'.cell? ⟨gV, j, none⟩ = some (.int .i64 v)) (refine ⟨?_, ?_⟩ <;> (repeat' (first | with_reducible exact cU0 | with_reducible exact cV0 | with_reducible refine c_drew ?_ | with_reducible refine c_alloc ?_ _ | with_reducible refine World.grownBy.cell gr5 ?_ (by first | exact nU | exact nV)))) ((refine step_append_any _ (by rfl) (.tmp 113) (.tmp 122) 22 (by rfl) w3.heap.size 3 i0 _ 1 8 Try.underlying22 hi hz0 hz1 hz2 (by rfl) (by decide) (.slice (some ⟨gO, 0, none⟩) (2 * j) cO) (2 * j) (ints (outL UU VV TT j)) (by rfl) (by repeat' (first | with_reducible exact oO | with_reducible refine own_drew_ ?_ | with_reducible refine World.ownsRow.alloc ?_ _)) (wr.heap.size + 1) (some ⟨wr.heap.size, 0, none⟩) 2 2 [.int .i64 u, .int .i64 v] (by rfl) (by exact reads_two (Blk.new _ _ _)) (by simp [Value.oneCell']) (by unfold maxLen; omega) (by omega) (by have := hbo.size; simp; omega) ?_; intro v5 w5 o5 gr5 at5))
            obtain ⟨g5, c5, rfl, -, -, -⟩ := own_some o5 (by omega)
            have hb5 : Below w3.heap.size w3 w5 := (alloc_ (bdrew hbo) _).trans (below_of_grown gr5 (by have := hbo.size; simp; omega) (by intro q hq; have h9 : gO = q := Option.some.inj hq; omega))
            have O5 := Lib.hid (show w5.ownsRow w3.heap.size 3 1 (.slice (some ⟨g5, 0, none⟩) (2 * (j + 1)) c5) (2 * (j + 1)) (ints (outL UU VV TT (j + 1))) by rw [HOU.out]; simpa [ints, Nat.mul_add] using o5)
            clear o5 gr5 at5 oO cU0 cV0 b0
            go_wp2_with fail
            go_roundw
            case rel => exact ⟨j + 1, g5, c5, by omega, by rw [show 2 * (j + 1) = 2 * j + 2 by omega], by go_num, O5.out, hb5⟩
            case measure => simp [intOf]; omega
        · obtain rfl : j = k := by omega
          have j1 : ¬ (j : Int) < j := by omega
          go_wp2_with fail
          go_ret
          exact ⟨_, rfl, by rw [HM.out]; exact own_base oO hB3.size, bthen hB3 hbo⟩
end Go.Proofs.Ytmeaipickolhfaa
