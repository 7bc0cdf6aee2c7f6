/- Merging of neighbours in place, one of them of one element. -/
import Derived.Test.YtfpojoabfdiadaaStbI
namespace Go.Proofs.Ytfpojoabfdiadaa
open Go.RowKit
set_option linter.unusedVariables false
set_option maxRecDepth 100000 in
set_option maxHeartbeats 1600000 in
theorem sym1_any {base g n c gk gK ck : Nat} {K D : List Int} {w : World} (h : SS base 3 g n c gk gK ck K w D) (a m b : Nat) (ham : m = a + 1) (hmb : m < b) (hb : b ≤ n) (hs : Srt (kf K) D m b) :
    Calls Try.prog 45 #[.slice (some ⟨g, 0, none⟩) n c, .int .i64 (a : Nat), .int .i64 (m : Nat), .int .i64 (b : Nat), .func (.func 26) #[] #[.pointer (some ⟨gk, 0, none⟩)]] w fun e w' =>
      e = .returned (.tuple #[]) ∧ w.grownBy w' (some g) ∧ ∃ C, SS base 3 g n c gk gK ck K w' C ∧ Seg D C a b ∧ Srt (kf K) C a b := by
  have H := Lib.hid h
  have hn := h.n64
  have HS := Lib.hid hs
  have HM := Lib.hid ham
  have e1 : (m : Int) - (a : Int) = 1 := by omega
  have hma : 1 ≤ m := by omega
  have ham2 : a < m := by omega
  clear h hs ham
  go_enter Try.func45, Try.ntmps45
  go_wp2_with fail
  clear e1
  go_loopw [10, 11] (fun vi vj wr => ∃ i j : Nat, m ≤ i ∧ i ≤ j ∧ j ≤ b ∧ vi = .int .i64 (i : Nat) ∧ vj = .int .i64 (j : Nat) ∧ Hid (SS base 3 g n c gk gK ck K wr D) ∧ Hid (w.grownBy wr (some g)) ∧ Hid (m < i → kf K (gt D (i - 1)) < kf K (gt D a)) ∧ Hid (j < b → ¬ kf K (gt D j) < kf K (gt D a))) (fun vi vj _ => (intOf vj).toNat - (intOf vi).toNat)
  case atStart => exact ⟨m, b, by omega, by omega, by omega, rfl, rfl, H, Lib.hid (World.grownBy.refl _ _), Lib.hid (fun h => by omega), Lib.hid (fun h => by omega)⟩
  case round =>
    clear H
    obtain ⟨i, j, hmi, hij, hjb, rfl, rfl, H, HG, HL, HR⟩ := hrel
    by_cases hlt : i < j
    · have iI : (i : Int) < (j : Int) := by omega
      obtain ⟨h, hh⟩ : ∃ h, h = (i + j) / 2 := ⟨_, rfl⟩
      have eh : ((i : Int) + (j : Int)) / 2 = (h : Int) := by omega
      have h1 : i ≤ h := by omega
      have h2 : h < j := by omega
      have hI : (h : Int) < (n : Int) := by omega
      have aI : (a : Int) < (n : Int) := by omega
      obtain ⟨c1, -, -⟩ := H.out.at_ (p := h) (by omega)
      obtain ⟨c2, -, -⟩ := H.out.at_ (p := a) (by omega)
      have HC := Lib.hid (fun k => clo_any (H.out.drewN k) (p := h) (q := a) (by omega) (by omega))
      obtain ⟨cz, hcz⟩ : ∃ cz, cmpV (kf K (gt D h)) (kf K (gt D a)) = cz := ⟨_, rfl⟩
      rw [hcz] at HC
      clear hh
      by_cases hkk : kf K (gt D h) < kf K (gt D a)
      · have hcn : cz < 0 := by rw [← hcz]; exact cmpV_lt hkk
        have HL2 : Hid (m < h + 1 → kf K (gt D (h + 1 - 1)) < kf K (gt D a)) := Lib.hid (fun _ => by rw [Nat.add_sub_cancel]; exact hkk)
        clear hcz hkk
        go_upto_region 5 with fail
        go_quiet ((go_at_call 26; exact Calls.quiet_of (HC.out _)))
        go_wp2_with fail
        go_roundw
        case rel => exact ⟨h + 1, j, by omega, by omega, hjb, by go_num, rfl, Lib.hid (H.out.drewN _), Lib.hid (near_drewN_ HG.out _), HL2, HR⟩
        case measure => (simp [intOf] <;> omega)
      · have hcn : ¬ cz < 0 := by rw [← hcz]; exact cmpV_ge hkk
        have HR2 : Hid (h < b → ¬ kf K (gt D h) < kf K (gt D a)) := Lib.hid (fun _ => hkk)
        clear hcz hkk
        go_upto_region 5 with fail
        go_quiet ((go_at_call 26; exact Calls.quiet_of (HC.out _)))
        go_wp2_with fail
        go_roundw
        case rel => exact ⟨i, h, hmi, h1, by omega, rfl, rfl, Lib.hid (H.out.drewN _), Lib.hid (near_drewN_ HG.out _), HL, HR2⟩
        case measure => (simp [intOf] <;> omega)
    · have iI : ¬ (i : Int) < (j : Int) := by omega
      obtain rfl : i = j := by omega
      obtain ⟨u, hu⟩ : ∃ u, u = i - 1 := ⟨_, rfl⟩
      have eu : (i : Int) - 1 = (u : Int) := by omega
      have wu : IntKind.i64.wrap (u : Int) = (u : Int) := IntWalk.i64_in _ ⟨by omega, by omega⟩
      have hau : a ≤ u := by omega
      have hub : u < b := by omega
      have HU := Lib.hid hu
      clear hu
      go_wp2_with fail
      go_loopw [13] (fun vk wr => ∃ (k : Nat) (C : List Int), a ≤ k ∧ k ≤ u ∧ vk = .int .i64 (k : Nat) ∧ Hid (SS base 3 g n c gk gK ck K wr C) ∧ Hid (Up D C a k) ∧ Hid (w.grownBy wr (some g))) (fun vk _ => u - (intOf vk).toNat)
      case atStart => exact ⟨a, D, by omega, hau, rfl, H, Lib.hid (Up.zero _ _), HG⟩
      case round =>
        obtain ⟨k, C, hak, hku, rfl, HC, HUP, HGC⟩ := hrel
        by_cases hlt2 : k < u
        · have kI : (k : Int) < (u : Int) := by omega
          obtain ⟨p, hp⟩ : ∃ p, p = k + 1 := ⟨_, rfl⟩
          have ep : (k : Int) + 1 = (p : Int) := by omega
          have wp : IntKind.i64.wrap (p : Int) = (p : Int) := IntWalk.i64_in _ ⟨by omega, by omega⟩
          have hpn : p < n := by omega
          have hkn : k < n := by omega
          have pI : (p : Int) < (n : Int) := by omega
          have knI : (k : Int) < (n : Int) := by omega
          obtain ⟨c1, f1, -⟩ := HC.out.at_ hkn
          obtain ⟨c2, f2, -⟩ := HC.out.at_ hpn
          obtain ⟨s1, s2, g1, g2⟩ := HC.out.drew.swap hkn hpn (by omega)
          have HUN := HUP.out.step hak (by rw [← HUP.out.perm.length_eq, HC.out.dl]; omega)
          rw [← hp] at HUN
          have HUN := Lib.hid HUN
          have S1 := Lib.hid s1
          have S2 := Lib.hid s2
          have G1 := Lib.hid (HGC.out.trans (drew_near g1))
          have G2 := Lib.hid (HGC.out.trans (drew_near g2))
          have hpu : p ≤ u := by omega
          have hap : a ≤ p := by omega
          have hkp : k < p := by omega
          clear s1 s2 g1 g2 hp
          go_upto_region 11 with fail
          go_region_law (fail)
          all_goals
            go_wp2_with fail
            go_roundw
            case rel => first
              | exact ⟨p, _, hap, hpu, rfl, S1, HUN, G1⟩
              | exact ⟨p, _, hap, hpu, rfl, S2, HUN, G2⟩
            case measure => (simp [intOf] <;> omega)
        · have kI : ¬ (k : Int) < (u : Int) := by omega
          obtain rfl : k = u := by omega
          have HF := Lib.hid (Up.done (f := kf K) (i := i) (b := b) (by rw [← HU.out]; exact HUP.out) ⟨by have := HM.out; omega, hjb⟩ (by rw [← HM.out]; exact HS.out) (fun h => by have := HL.out (by have := HM.out; omega); omega) (fun h => by have := HR.out h; omega))
          go_wp2_with fail
          exact bodyPost_ret (results_none rfl _ _ _) rfl ⟨rfl, HGC.out, C, HC.out, HF.out.1, HF.out.2⟩
set_option maxRecDepth 100000 in
set_option maxHeartbeats 1600000 in
theorem sym2_any {base g n c gk gK ck : Nat} {K D : List Int} {w : World} (h : SS base 3 g n c gk gK ck K w D) (a m b : Nat) (ham : a + 1 < m) (hmb : b = m + 1) (hb : b ≤ n) (hs : Srt (kf K) D a m) :
    Calls Try.prog 45 #[.slice (some ⟨g, 0, none⟩) n c, .int .i64 (a : Nat), .int .i64 (m : Nat), .int .i64 (b : Nat), .func (.func 26) #[] #[.pointer (some ⟨gk, 0, none⟩)]] w fun e w' =>
      e = .returned (.tuple #[]) ∧ w.grownBy w' (some g) ∧ ∃ C, SS base 3 g n c gk gK ck K w' C ∧ Seg D C a b ∧ Srt (kf K) C a b := by
  have H := Lib.hid h
  have hn := h.n64
  have HS := Lib.hid hs
  have HM := Lib.hid hmb
  obtain ⟨x, hx⟩ : ∃ x, x = m - a := ⟨_, rfl⟩
  have ex : (m : Int) - (a : Int) = (x : Int) := by omega
  have wx : IntKind.i64.wrap (x : Int) = (x : Int) := IntWalk.i64_in _ ⟨by omega, by omega⟩
  have hx1 : ((x : Int) == 1) = false := by rw [beq_eq_false_iff_ne]; omega
  have e1 : (b : Int) - (m : Int) = 1 := by omega
  have hmn : m < n := by omega
  clear h hs hmb hx
  go_enter Try.func45, Try.ntmps45
  go_wp2_with fail
  clear e1 ex wx hx1
  go_loopw [14, 15] (fun vi vj wr => ∃ i j : Nat, a ≤ i ∧ i ≤ j ∧ j ≤ m ∧ vi = .int .i64 (i : Nat) ∧ vj = .int .i64 (j : Nat) ∧ Hid (SS base 3 g n c gk gK ck K wr D) ∧ Hid (w.grownBy wr (some g)) ∧ Hid (a < i → ¬ kf K (gt D m) < kf K (gt D (i - 1))) ∧ Hid (j < m → kf K (gt D m) < kf K (gt D j))) (fun vi vj _ => (intOf vj).toNat - (intOf vi).toNat)
  case atStart => exact ⟨a, m, by omega, by omega, by omega, rfl, rfl, H, Lib.hid (World.grownBy.refl _ _), Lib.hid (fun h => by omega), Lib.hid (fun h => by omega)⟩
  case round =>
    clear H
    obtain ⟨i, j, hmi, hij, hjb, rfl, rfl, H, HG, HL, HR⟩ := hrel
    by_cases hlt : i < j
    · have iI : (i : Int) < (j : Int) := by omega
      obtain ⟨h, hh⟩ : ∃ h, h = (i + j) / 2 := ⟨_, rfl⟩
      have eh : ((i : Int) + (j : Int)) / 2 = (h : Int) := by omega
      have h1 : i ≤ h := by omega
      have h2 : h < j := by omega
      have hI : (h : Int) < (n : Int) := by omega
      have aI : (m : Int) < (n : Int) := by omega
      obtain ⟨c1, -, -⟩ := H.out.at_ (p := h) (by omega)
      obtain ⟨c2, -, -⟩ := H.out.at_ (p := m) (by omega)
      have HC := Lib.hid (fun k => clo_any (H.out.drewN k) (p := m) (q := h) (by omega) (by omega))
      obtain ⟨cz, hcz⟩ : ∃ cz, cmpV (kf K (gt D m)) (kf K (gt D h)) = cz := ⟨_, rfl⟩
      rw [hcz] at HC
      clear hh
      by_cases hkk : kf K (gt D m) < kf K (gt D h)
      · have hcn : cz < 0 := by rw [← hcz]; exact cmpV_lt hkk
        have HR2 : Hid (h < m → kf K (gt D m) < kf K (gt D h)) := Lib.hid (fun _ => hkk)
        clear hcz hkk
        go_upto_region 17 with fail
        go_quiet ((go_at_call 26; exact Calls.quiet_of (HC.out _)))
        go_wp2_with fail
        go_roundw
        case rel => exact ⟨i, h, hmi, h1, by omega, rfl, rfl, Lib.hid (H.out.drewN _), Lib.hid (near_drewN_ HG.out _), HL, HR2⟩
        case measure => (simp [intOf] <;> omega)
      · have hcn : ¬ cz < 0 := by rw [← hcz]; exact cmpV_ge hkk
        have HL2 : Hid (a < h + 1 → ¬ kf K (gt D m) < kf K (gt D (h + 1 - 1))) := Lib.hid (fun _ => by rw [Nat.add_sub_cancel]; exact hkk)
        clear hcz hkk
        go_upto_region 17 with fail
        go_quiet ((go_at_call 26; exact Calls.quiet_of (HC.out _)))
        go_wp2_with fail
        go_roundw
        case rel => exact ⟨h + 1, j, by omega, by omega, hjb, by go_num, rfl, Lib.hid (H.out.drewN _), Lib.hid (near_drewN_ HG.out _), HL2, HR⟩
        case measure => (simp [intOf] <;> omega)
    · have iI : ¬ (i : Int) < (j : Int) := by omega
      obtain rfl : i = j := by omega
      go_wp2_with fail
      go_loopw [17] (fun vk wr => ∃ (k : Nat) (C : List Int), i ≤ k ∧ k ≤ m ∧ vk = .int .i64 (k : Nat) ∧ Hid (SS base 3 g n c gk gK ck K wr C) ∧ Hid (Dn D C m k) ∧ Hid (w.grownBy wr (some g))) (fun vk _ => (intOf vk).toNat)
      case atStart => exact ⟨m, D, hjb, by omega, rfl, H, Lib.hid (Dn.zero _ _), HG⟩
      case round =>
        obtain ⟨k, C, hak, hku, rfl, HC, HUP, HGC⟩ := hrel
        by_cases hlt2 : i < k
        · have kI : (k : Int) > (i : Int) := by omega
          have kI2 : (i : Int) < (k : Int) := by omega
          obtain ⟨p, hp⟩ : ∃ p, p = k - 1 := ⟨_, rfl⟩
          have ep : (k : Int) - 1 = (p : Int) := by omega
          have wp : IntKind.i64.wrap (p : Int) = (p : Int) := IntWalk.i64_in _ ⟨by omega, by omega⟩
          have hpn : p < n := by omega
          have hkn : k < n := by omega
          have pI : (p : Int) < (n : Int) := by omega
          have knI : (k : Int) < (n : Int) := by omega
          obtain ⟨c1, f1, -⟩ := HC.out.at_ hkn
          obtain ⟨c2, f2, -⟩ := HC.out.at_ hpn
          obtain ⟨s1, s2, g1, g2⟩ := HC.out.drew.swap hkn hpn (by omega)
          have HUN := HUP.out.step (by omega) hku (by rw [← HUP.out.perm.length_eq, HC.out.dl]; omega)
          rw [← hp] at HUN
          have HUN := Lib.hid HUN
          have S1 := Lib.hid s1
          have S2 := Lib.hid s2
          have G1 := Lib.hid (HGC.out.trans (drew_near g1))
          have G2 := Lib.hid (HGC.out.trans (drew_near g2))
          have hpu : p ≤ m := by omega
          have hap : i ≤ p := by omega
          have hkp : p < k := by omega
          clear s1 s2 g1 g2 hp
          go_upto_region 23 with fail
          go_region_law (fail)
          all_goals
            go_wp2_with fail
            go_roundw
            case rel => first
              | exact ⟨p, _, hap, hpu, rfl, S1, HUN, G1⟩
              | exact ⟨p, _, hap, hpu, rfl, S2, HUN, G2⟩
            case measure => (simp [intOf] <;> omega)
        · have kI : ¬ (k : Int) > (i : Int) := by omega
          have kI2 : ¬ (i : Int) < (k : Int) := by omega
          obtain rfl : k = i := by omega
          have HF := Lib.hid (Dn.done (f := kf K) (i := k) (m := m) HUP.out ⟨hmi, hjb⟩ HS.out (fun h => by have := HL.out h; omega) (fun h => by have := HR.out h; omega))
          rw [← HM.out] at HF
          go_wp2_with fail
          exact bodyPost_ret (results_none rfl _ _ _) rfl ⟨rfl, HGC.out, C, HC.out, HF.out.1, HF.out.2⟩
end Go.Proofs.Ytfpojoabfdiadaa
