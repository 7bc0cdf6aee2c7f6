/- Merging of neighbours in place, one of them of one record (printed by gen_sr.py). -/
import Derived.Test.YtifjihpnhmemgaaSrW
namespace Go.Proofs.Ytifjihpnhmemgaa
open Go.RowKit
set_option linter.unusedVariables false
set_option maxRecDepth 100000 in
set_option maxHeartbeats 1600000 in
theorem sym1_any {base g n c : Nat} {Q : Rcs} {D : List Int} {w : World} (h : SR base 47 g n c Q w D) (a m b : Nat) (ham : m = a + 1) (hmb : m < b) (hb : b ≤ n) (hs : Srt (fr Q) D m b) (hcx : Cx D a m b) :
    Calls Try.prog 60 #[.slice (some ⟨g, 0, none⟩) n c, .int .i64 (a : Nat), .int .i64 (m : Nat), .int .i64 (b : Nat), .func (.func 45) #[] #[]] w fun e w' =>
      e = .returned (.tuple #[]) ∧ w.grownBy w' (some g) ∧ ∃ C, SR base 47 g n c Q w' C ∧ Seg D C a b ∧ Srt (fr Q) C a b := by
  have H := Lib.hid h
  have hn := h.n64
  have HS := Lib.hid hs
  have HX := Lib.hid hcx
  have HM := Lib.hid ham
  have e1 : (m : Int) - (a : Int) = 1 := by omega
  have hma : 1 ≤ m := by omega
  have ham2 : a < m := by omega
  clear h hs hcx ham
  go_enter Try.func60, Try.ntmps60
  go_wp2_with fail
  clear e1
  go_loopw [10, 11] (fun vi vj wr => ∃ i j : Nat, m ≤ i ∧ i ≤ j ∧ j ≤ b ∧ vi = .int .i64 (i : Nat) ∧ vj = .int .i64 (j : Nat) ∧ Hid (SR base 47 g n c Q wr D) ∧ Hid (w.grownBy wr (some g)) ∧ Hid (m < i → fr Q (gt D (i - 1)) < fr Q (gt D a)) ∧ Hid (j < b → ¬ fr Q (gt D j) < fr Q (gt D a))) (fun vi vj _ => (intOf vj).toNat - (intOf vi).toNat)
  case atStart => exact ⟨m, b, by omega, by omega, by omega, rfl, rfl, H, Lib.hid (World.grownBy.refl _ _), Lib.hid (fun h => by omega), Lib.hid (fun h => by omega)⟩
  case round =>
    clear H
    obtain ⟨i, j, hmi, hij, hjb, rfl, rfl, H, HG, HL, HR⟩ := hrel
    by_cases hlt : i < j
    · have iI : (i : Int) < (j : Int) := by omega
      obtain ⟨h, hh⟩ : ∃ h, h = (i + j) / 2 := ⟨_, rfl⟩
      have eh : ((i : Int) + (j : Int)) / 2 = (h : Int) := by omega
      have h1 : i ≤ h := by omega
      have h2 : h < j := by omega
      have hI : (h : Int) < (n : Int) := by omega
      have aI : (a : Int) < (n : Int) := by omega
      obtain ⟨c1, c1p, -, -⟩ := H.out.at_ (p := h) (by omega)
      obtain ⟨c2, c2p, -, -⟩ := H.out.at_ (p := a) (by omega)
      have hgl := (own_lt H.out.o g rfl).2
      have hcmp := H.out.less (p := h) (q := a) (by omega) (by omega) (HX.out a h (Nat.le_refl _) (by omega) (by omega) (by omega))
      generalize (rgI Q (gt D h)).1 = x1 at *
      generalize (rgI Q (gt D h)).2 = x2 at *
      generalize (rgI Q (gt D a)).1 = y1 at *
      generalize (rgI Q (gt D a)).2 = y2 at *
      clear hh
      by_cases hkk : fr Q (gt D h) < fr Q (gt D a)
      · have hcn : cmpR x1 y1 < 0 := hcmp.2 hkk
        have HL2 : Hid (m < h + 1 → fr Q (gt D (h + 1 - 1)) < fr Q (gt D a)) := Lib.hid (fun _ => by rw [Nat.add_sub_cancel]; exact hkk)
        clear hcmp hkk
        go_upto_region 5 with fail
        go_region_held3 (fun w' => w'.cell? ⟨g, h * 2, none⟩ = some (.int .i64 x1) ∧ w'.cell? ⟨g, h * 2 + 1, none⟩ = some (.int .i64 x2) ∧ w'.cell? ⟨g, a * 2, none⟩ = some (.int .i64 y1) ∧ w'.cell? ⟨g, a * 2 + 1, none⟩ = some (.int .i64 y2)) (first | go_keep | (go_split_ands; refine ⟨?_, ?_, ?_, ?_⟩ <;> (rw [Below.cell hb9 (by simp; omega)]; assumption))) (first | (go_at_call 45; refine (compareKeys_any x1 x2 y1 y2 _).mono ?_; rintro e w1 ⟨rfl, hb9⟩))
        have hcn4 : decide (cmpR x1 y1 < 0) = true := decide_eq_true (by omega)
        try rw [hcn4]
        clear hcn4
        go_wp2_with fail
        go_roundw
        case rel => exact ⟨h + 1, j, by omega, by omega, hjb, by go_num, rfl, Lib.hid (H.out.cmp hb9), Lib.hid (near_cmp HG.out hb9), Lib.hid (fun h9 => by have h8 := HL2.out h9; omega), Lib.hid (fun h9 => by have h8 := HR.out h9; omega)⟩
        case measure => (simp [intOf] <;> omega)
      · have hcn : ¬ cmpR x1 y1 < 0 := fun h9 => hkk (hcmp.1 h9)
        have HR2 : Hid (h < b → ¬ fr Q (gt D h) < fr Q (gt D a)) := Lib.hid (fun _ => hkk)
        clear hcmp hkk
        go_upto_region 5 with fail
        go_region_held3 (fun w' => w'.cell? ⟨g, h * 2, none⟩ = some (.int .i64 x1) ∧ w'.cell? ⟨g, h * 2 + 1, none⟩ = some (.int .i64 x2) ∧ w'.cell? ⟨g, a * 2, none⟩ = some (.int .i64 y1) ∧ w'.cell? ⟨g, a * 2 + 1, none⟩ = some (.int .i64 y2)) (first | go_keep | (go_split_ands; refine ⟨?_, ?_, ?_, ?_⟩ <;> (rw [Below.cell hb9 (by simp; omega)]; assumption))) (first | (go_at_call 45; refine (compareKeys_any x1 x2 y1 y2 _).mono ?_; rintro e w1 ⟨rfl, hb9⟩))
        have hcn4 : decide (cmpR x1 y1 < 0) = false := decide_eq_false (by omega)
        try rw [hcn4]
        clear hcn4
        go_wp2_with fail
        go_roundw
        case rel => exact ⟨i, h, hmi, h1, by omega, rfl, rfl, Lib.hid (H.out.cmp hb9), Lib.hid (near_cmp HG.out hb9), Lib.hid (fun h9 => by have h8 := HL.out h9; omega), Lib.hid (fun h9 => by have h8 := HR2.out h9; omega)⟩
        case measure => (simp [intOf] <;> omega)
    · have iI : ¬ (i : Int) < (j : Int) := by omega
      obtain rfl : i = j := by omega
      obtain ⟨u, hu⟩ : ∃ u, u = i - 1 := ⟨_, rfl⟩
      have eu : (i : Int) - 1 = (u : Int) := by omega
      have wu : IntKind.i64.wrap (u : Int) = (u : Int) := IntWalk.i64_in _ ⟨by omega, by omega⟩
      have hau : a ≤ u := by omega
      have hub : u < b := by omega
      have HU := Lib.hid hu
      clear hu
      go_wp2_with fail
      go_loopw [13] (fun vk wr => ∃ (k : Nat) (C : List Int), a ≤ k ∧ k ≤ u ∧ vk = .int .i64 (k : Nat) ∧ Hid (SR base 47 g n c Q wr C) ∧ Hid (Up D C a k) ∧ Hid (w.grownBy wr (some g))) (fun vk _ => u - (intOf vk).toNat)
      case atStart => exact ⟨a, D, by omega, hau, rfl, H, Lib.hid (Up.zero _ _), HG⟩
      case round =>
        obtain ⟨k, C, hak, hku, rfl, HC, HUP, HGC⟩ := hrel
        by_cases hlt2 : k < u
        · have kI : (k : Int) < (u : Int) := by omega
          obtain ⟨p, hp⟩ : ∃ p, p = k + 1 := ⟨_, rfl⟩
          have ep : (k : Int) + 1 = (p : Int) := by omega
          have wp : IntKind.i64.wrap (p : Int) = (p : Int) := IntWalk.i64_in _ ⟨by omega, by omega⟩
          have hpn : p < n := by omega
          have hkn : k < n := by omega
          have pI : (p : Int) < (n : Int) := by omega
          have knI : (k : Int) < (n : Int) := by omega
          obtain ⟨c1, c1p, f1, f1p⟩ := HC.out.at_ hkn
          obtain ⟨c2, c2p, f2, f2p⟩ := HC.out.at_ hpn
          obtain ⟨s1, s2, g1, g2⟩ := HC.out.drew.swap hkn hpn (by omega)
          have HUN := HUP.out.step hak (by rw [← HUP.out.perm.length_eq, HC.out.dl]; omega)
          rw [← hp] at HUN
          have HUN := Lib.hid HUN
          have S1 := Lib.hid s1
          have S2 := Lib.hid s2
          have G1 := Lib.hid (HGC.out.trans (drew_near g1))
          have G2 := Lib.hid (HGC.out.trans (drew_near g2))
          have hpu : p ≤ u := by omega
          have hap : a ≤ p := by omega
          have hkp : k < p := by omega
          clear s1 s2 g1 g2 hp
          go_upto_region 11 with fail
          go_region_law (fail)
          all_goals
            go_wp2_with fail
            go_roundw
            case rel => first
              | exact ⟨p, _, hap, hpu, rfl, S1, HUN, G1⟩
              | exact ⟨p, _, hap, hpu, rfl, S2, HUN, G2⟩
            case measure => (simp [intOf] <;> omega)
        · have kI : ¬ (k : Int) < (u : Int) := by omega
          obtain rfl : k = u := by omega
          have HF := Lib.hid (Up.done (f := fr Q) (i := i) (b := b) (by rw [← HU.out]; exact HUP.out) ⟨by have := HM.out; omega, hjb⟩ (by rw [← HM.out]; exact HS.out) (fun h => by have := HL.out (by have := HM.out; omega); omega) (fun h => by have := HR.out h; omega))
          go_wp2_with fail
          exact bodyPost_ret (results_none rfl _ _ _) rfl ⟨rfl, HGC.out, C, HC.out, HF.out.1, HF.out.2⟩
set_option maxRecDepth 100000 in
set_option maxHeartbeats 1600000 in
theorem sym2_any {base g n c : Nat} {Q : Rcs} {D : List Int} {w : World} (h : SR base 47 g n c Q w D) (a m b : Nat) (ham : a + 1 < m) (hmb : b = m + 1) (hb : b ≤ n) (hs : Srt (fr Q) D a m) (hcx : Cx D a m b) :
    Calls Try.prog 60 #[.slice (some ⟨g, 0, none⟩) n c, .int .i64 (a : Nat), .int .i64 (m : Nat), .int .i64 (b : Nat), .func (.func 45) #[] #[]] w fun e w' =>
      e = .returned (.tuple #[]) ∧ w.grownBy w' (some g) ∧ ∃ C, SR base 47 g n c Q w' C ∧ Seg D C a b ∧ Srt (fr Q) C a b := by
  have H := Lib.hid h
  have hn := h.n64
  have HS := Lib.hid hs
  have HX := Lib.hid hcx
  have HM := Lib.hid hmb
  obtain ⟨x, hx⟩ : ∃ x, x = m - a := ⟨_, rfl⟩
  have ex : (m : Int) - (a : Int) = (x : Int) := by omega
  have wx : IntKind.i64.wrap (x : Int) = (x : Int) := IntWalk.i64_in _ ⟨by omega, by omega⟩
  have hx1 : ((x : Int) == 1) = false := by rw [beq_eq_false_iff_ne]; omega
  have e1 : (b : Int) - (m : Int) = 1 := by omega
  have hmn : m < n := by omega
  clear h hs hcx hmb hx
  go_enter Try.func60, Try.ntmps60
  go_wp2_with fail
  clear e1 ex wx hx1
  go_loopw [14, 15] (fun vi vj wr => ∃ i j : Nat, a ≤ i ∧ i ≤ j ∧ j ≤ m ∧ vi = .int .i64 (i : Nat) ∧ vj = .int .i64 (j : Nat) ∧ Hid (SR base 47 g n c Q wr D) ∧ Hid (w.grownBy wr (some g)) ∧ Hid (a < i → ¬ fr Q (gt D m) < fr Q (gt D (i - 1))) ∧ Hid (j < m → fr Q (gt D m) < fr Q (gt D j))) (fun vi vj _ => (intOf vj).toNat - (intOf vi).toNat)
  case atStart => exact ⟨a, m, by omega, by omega, by omega, rfl, rfl, H, Lib.hid (World.grownBy.refl _ _), Lib.hid (fun h => by omega), Lib.hid (fun h => by omega)⟩
  case round =>
    clear H
    obtain ⟨i, j, hmi, hij, hjb, rfl, rfl, H, HG, HL, HR⟩ := hrel
    by_cases hlt : i < j
    · have iI : (i : Int) < (j : Int) := by omega
      obtain ⟨h, hh⟩ : ∃ h, h = (i + j) / 2 := ⟨_, rfl⟩
      have eh : ((i : Int) + (j : Int)) / 2 = (h : Int) := by omega
      have h1 : i ≤ h := by omega
      have h2 : h < j := by omega
      have hI : (h : Int) < (n : Int) := by omega
      have aI : (m : Int) < (n : Int) := by omega
      obtain ⟨c1, c1p, -, -⟩ := H.out.at_ (p := h) (by omega)
      obtain ⟨c2, c2p, -, -⟩ := H.out.at_ (p := m) (by omega)
      have hgl := (own_lt H.out.o g rfl).2
      have hcmp := H.out.less (p := m) (q := h) (by omega) (by omega) (HX.out h m (by omega) (by omega) (Nat.le_refl _) (by have := HM.out; omega))
      generalize (rgI Q (gt D m)).1 = x1 at *
      generalize (rgI Q (gt D m)).2 = x2 at *
      generalize (rgI Q (gt D h)).1 = y1 at *
      generalize (rgI Q (gt D h)).2 = y2 at *
      clear hh
      by_cases hkk : fr Q (gt D m) < fr Q (gt D h)
      · have hcn : cmpR x1 y1 < 0 := hcmp.2 hkk
        have HR2 : Hid (h < m → fr Q (gt D m) < fr Q (gt D h)) := Lib.hid (fun _ => hkk)
        clear hcmp hkk
        go_upto_region 17 with fail
        go_region_held3 (fun w' => w'.cell? ⟨g, m * 2, none⟩ = some (.int .i64 x1) ∧ w'.cell? ⟨g, m * 2 + 1, none⟩ = some (.int .i64 x2) ∧ w'.cell? ⟨g, h * 2, none⟩ = some (.int .i64 y1) ∧ w'.cell? ⟨g, h * 2 + 1, none⟩ = some (.int .i64 y2)) (first | go_keep | (go_split_ands; refine ⟨?_, ?_, ?_, ?_⟩ <;> (rw [Below.cell hb9 (by simp; omega)]; assumption))) (first | (go_at_call 45; refine (compareKeys_any x1 x2 y1 y2 _).mono ?_; rintro e w1 ⟨rfl, hb9⟩))
        have hcn4 : decide (cmpR x1 y1 < 0) = true := decide_eq_true (by omega)
        try rw [hcn4]
        clear hcn4
        go_wp2_with fail
        go_roundw
        case rel => exact ⟨i, h, hmi, h1, by omega, rfl, rfl, Lib.hid (H.out.cmp hb9), Lib.hid (near_cmp HG.out hb9), Lib.hid (fun h9 => by have h8 := HL.out h9; omega), Lib.hid (fun h9 => by have h8 := HR2.out h9; omega)⟩
        case measure => (simp [intOf] <;> omega)
      · have hcn : ¬ cmpR x1 y1 < 0 := fun h9 => hkk (hcmp.1 h9)
        have HL2 : Hid (a < h + 1 → ¬ fr Q (gt D m) < fr Q (gt D (h + 1 - 1))) := Lib.hid (fun _ => by rw [Nat.add_sub_cancel]; exact hkk)
        clear hcmp hkk
        go_upto_region 17 with fail
        go_region_held3 (fun w' => w'.cell? ⟨g, m * 2, none⟩ = some (.int .i64 x1) ∧ w'.cell? ⟨g, m * 2 + 1, none⟩ = some (.int .i64 x2) ∧ w'.cell? ⟨g, h * 2, none⟩ = some (.int .i64 y1) ∧ w'.cell? ⟨g, h * 2 + 1, none⟩ = some (.int .i64 y2)) (first | go_keep | (go_split_ands; refine ⟨?_, ?_, ?_, ?_⟩ <;> (rw [Below.cell hb9 (by simp; omega)]; assumption))) (first | (go_at_call 45; refine (compareKeys_any x1 x2 y1 y2 _).mono ?_; rintro e w1 ⟨rfl, hb9⟩))
        have hcn4 : decide (cmpR x1 y1 < 0) = false := decide_eq_false (by omega)
        try rw [hcn4]
        clear hcn4
        go_wp2_with fail
        go_roundw
        case rel => exact ⟨h + 1, j, by omega, by omega, hjb, by go_num, rfl, Lib.hid (H.out.cmp hb9), Lib.hid (near_cmp HG.out hb9), Lib.hid (fun h9 => by have h8 := HL2.out h9; omega), Lib.hid (fun h9 => by have h8 := HR.out h9; omega)⟩
        case measure => (simp [intOf] <;> omega)
    · have iI : ¬ (i : Int) < (j : Int) := by omega
      obtain rfl : i = j := by omega
      go_wp2_with fail
      go_loopw [17] (fun vk wr => ∃ (k : Nat) (C : List Int), i ≤ k ∧ k ≤ m ∧ vk = .int .i64 (k : Nat) ∧ Hid (SR base 47 g n c Q wr C) ∧ Hid (Dn D C m k) ∧ Hid (w.grownBy wr (some g))) (fun vk _ => (intOf vk).toNat)
      case atStart => exact ⟨m, D, hjb, by omega, rfl, H, Lib.hid (Dn.zero _ _), HG⟩
      case round =>
        obtain ⟨k, C, hak, hku, rfl, HC, HUP, HGC⟩ := hrel
        by_cases hlt2 : i < k
        · have kI : (k : Int) > (i : Int) := by omega
          have kI2 : (i : Int) < (k : Int) := by omega
          obtain ⟨p, hp⟩ : ∃ p, p = k - 1 := ⟨_, rfl⟩
          have ep : (k : Int) - 1 = (p : Int) := by omega
          have wp : IntKind.i64.wrap (p : Int) = (p : Int) := IntWalk.i64_in _ ⟨by omega, by omega⟩
          have hpn : p < n := by omega
          have hkn : k < n := by omega
          have pI : (p : Int) < (n : Int) := by omega
          have knI : (k : Int) < (n : Int) := by omega
          obtain ⟨c1, c1p, f1, f1p⟩ := HC.out.at_ hkn
          obtain ⟨c2, c2p, f2, f2p⟩ := HC.out.at_ hpn
          obtain ⟨s1, s2, g1, g2⟩ := HC.out.drew.swap hkn hpn (by omega)
          have HUN := HUP.out.step (by omega) hku (by rw [← HUP.out.perm.length_eq, HC.out.dl]; omega)
          rw [← hp] at HUN
          have HUN := Lib.hid HUN
          have S1 := Lib.hid s1
          have S2 := Lib.hid s2
          have G1 := Lib.hid (HGC.out.trans (drew_near g1))
          have G2 := Lib.hid (HGC.out.trans (drew_near g2))
          have hpu : p ≤ m := by omega
          have hap : i ≤ p := by omega
          have hkp : p < k := by omega
          clear s1 s2 g1 g2 hp
          go_upto_region 23 with fail
          go_region_law (fail)
          all_goals
            go_wp2_with fail
            go_roundw
            case rel => first
              | exact ⟨p, _, hap, hpu, rfl, S1, HUN, G1⟩
              | exact ⟨p, _, hap, hpu, rfl, S2, HUN, G2⟩
            case measure => (simp [intOf] <;> omega)
        · have kI : ¬ (k : Int) > (i : Int) := by omega
          have kI2 : ¬ (i : Int) < (k : Int) := by omega
          obtain rfl : k = i := by omega
          have HF := Lib.hid (Dn.done (f := fr Q) (i := k) (m := m) HUP.out ⟨hmi, hjb⟩ HS.out (fun h => by have := HL.out h; omega) (fun h => by have := HR.out h; omega))
          rw [← HM.out] at HF
          go_wp2_with fail
          exact bodyPost_ret (results_none rfl _ _ _) rfl ⟨rfl, HGC.out, C, HC.out, HF.out.1, HF.out.2⟩
end Go.Proofs.Ytifjihpnhmemgaa
