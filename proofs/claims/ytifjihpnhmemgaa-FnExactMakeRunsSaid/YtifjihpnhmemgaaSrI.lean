/- Insertion sort of a stretch of records. -/
import Derived.Test.YtifjihpnhmemgaaSrW
namespace Go.Proofs.Ytifjihpnhmemgaa
open Go.RowKit
set_option linter.unusedVariables false
set_option maxRecDepth 100000 in
set_option maxHeartbeats 1600000 in
theorem ins_any {base g n c : Nat} {Q : Rcs} {D : List Int} {w : World} (h : SR base 47 g n c Q w D) (a b : Nat) (hb : b ≤ n) (han : a ≤ n) (hid_ : ∀ p, a ≤ p → p < b → gt D p = (p : Int)) :
    Calls Try.prog 59 #[.slice (some ⟨g, 0, none⟩) n c, .int .i64 (a : Nat), .int .i64 (b : Nat), .func (.func 45) #[] #[]] w fun e w' =>
      e = .returned (.tuple #[]) ∧ w.grownBy w' (some g) ∧ ∃ C, SR base 47 g n c Q w' C ∧ Seg D C a b ∧ Srt (fr Q) C a b := by
  have H := Lib.hid h
  have hn := h.n64
  obtain ⟨i1, hi1⟩ : ∃ i1, i1 = a + 1 := ⟨_, rfl⟩
  have HX0 := Lib.hid (InX.start hid_ hi1)
  clear h hid_
  have e1 : (a : Int) + 1 = (i1 : Int) := by omega
  have w1 : IntKind.i64.wrap (i1 : Int) = (i1 : Int) := IntWalk.i64_in _ ⟨by omega, by omega⟩
  have hai : a < i1 := by omega
  have HS0 : Hid (Srt (fr Q) D a i1) := Lib.hid (Srt.one (by omega))
  have hib : i1 ≤ b ∨ i1 = a + 1 := .inr hi1
  clear hi1
  go_enter Try.func59, Try.ntmps59
  go_wp2_with fail
  clear e1 w1
  go_loopw [8] (fun vi wr => ∃ (i : Nat) (C : List Int), a < i ∧ (i ≤ b ∨ i = a + 1) ∧ vi = .int .i64 (i : Nat) ∧ Hid (SR base 47 g n c Q wr C) ∧ Hid (Seg D C a b) ∧ Hid (Srt (fr Q) C a i) ∧ Hid (InX C a i b) ∧ Hid (w.grownBy wr (some g))) (fun vi _ => n + 1 - (intOf vi).toNat)
  case atStart => exact ⟨i1, D, hai, hib, rfl, H, Lib.hid (Seg.refl _ _ _), HS0, HX0, Lib.hid (World.grownBy.refl _ _)⟩
  case round =>
    clear H HS0 HX0 hai hib
    obtain ⟨i, C, hai, hib, rfl, HS, HSG, HSR, HX, HG⟩ := hrel
    by_cases hlt : i < b
    · have iI : (i : Int) < (b : Int) := by omega
      have HIN : Hid (InsF (fr Q) C a (i + 1) i) := Lib.hid (InsF.start HSR.out)
      have HX1 := Lib.hid (HX.out.next hlt).1
      have HM1 := Lib.hid (HX.out.next hlt).2
      go_wp2_with fail
      go_loopw [9] (fun vj wr => ∃ (j : Nat) (E : List Int), a ≤ j ∧ j ≤ i ∧ vj = .int .i64 (j : Nat) ∧ Hid (SR base 47 g n c Q wr E) ∧ Hid (Seg D E a b) ∧ Hid (InsF (fr Q) E a (i + 1) j) ∧ Hid (InX E a (i + 1) b) ∧ Hid (∀ p, a ≤ p → p < j → gt E p < gt E j) ∧ Hid (w.grownBy wr (some g))) (fun vj _ => (intOf vj).toNat)
      case atStart => exact ⟨i, C, by omega, by omega, rfl, HS, HSG, HIN, HX1, HM1, HG⟩
      case round =>
        clear HS HSG HSR HG HIN HX HX1 HM1
        obtain ⟨j, E, haj, hji, rfl, HS, HSG, HIN, HX, HMV, HG⟩ := hrel
        by_cases hja : a < j
        · obtain ⟨q, hq⟩ : ∃ q, j = q + 1 := ⟨j - 1, by omega⟩
          obtain ⟨c1, c1p, f1, f1p⟩ := HS.out.at_ (p := j) (by omega)
          obtain ⟨c0, c0p, f0, f0p⟩ := HS.out.at_ (p := q) (by omega)
          have HLT := Lib.hid (InsF.step HIN.out hja (by omega) (by rw [HS.out.dl]; omega))
          have HGE := Lib.hid (fun h => InsF.stop HIN.out (.inr ⟨hja, h⟩))
          have HSW := Lib.hid (swp_seg (D := E) (i := j) (j := q) (a := a) (b := b) (by rw [HS.out.dl]; omega) (by omega) (by omega))
          have hjq : j - 1 = q := by omega
          rw [hjq] at HLT HGE
          have HXS : Hid (InX (swp E j q) a (i + 1) b) := Lib.hid (by rw [hq]; exact InX.swap HX.out (by omega) (by omega) (by omega) (by rw [HS.out.dl]; omega))
          have HMS : Hid (∀ p, a ≤ p → p < q → gt (swp E j q) p < gt (swp E j q) q) := Lib.hid (by
            have h9 := HMV.out
            rw [hq] at h9 ⊢
            exact mov_swap (i := i) h9 (by omega) (by rw [HS.out.dl]; omega))
          have ejq : (j : Int) - 1 = (q : Int) := by omega
          have ew : IntKind.i64.wrap (q : Int) = q := IntWalk.i64_in _ ⟨by omega, by omega⟩
          have i2 : (j : Int) < (n : Int) := by omega
          have i1' : (q : Int) < (n : Int) := by omega
          have ja2 : (j : Int) > (a : Int) := by omega
          have hqa : a ≤ q := by omega
          have hqi : q ≤ i := by omega
          have hqj : q < j := by omega
          have hgl := (own_lt HS.out.o g rfl).2
          have hcmp := HS.out.less (p := j) (q := q) (by omega) (by omega) (HMV.out q (by omega) (by omega))
          clear hq hjq
          generalize hx1 : (rgI Q (gt E j)).1 = x1 at *
          generalize hx2 : (rgI Q (gt E j)).2 = x2 at *
          generalize hy1 : (rgI Q (gt E q)).1 = y1 at *
          generalize hy2 : (rgI Q (gt E q)).2 = y2 at *
          have HE1 := Lib.hid hx1
          have HE2 := Lib.hid hx2
          have HE3 := Lib.hid hy1
          have HE4 := Lib.hid hy2
          clear hx1 hx2 hy1 hy2
          by_cases hkk : fr Q (gt E j) < fr Q (gt E q)
          · have hcn : cmpR x1 y1 < 0 := hcmp.2 hkk
            have HLT2 := Lib.hid (HLT.out hkk)
            clear hcmp hkk HGE HLT
            go_upto_region 4 with fail
            go_region_held3 (fun w' => w'.cell? ⟨g, j * 2, none⟩ = some (.int .i64 x1) ∧ w'.cell? ⟨g, j * 2 + 1, none⟩ = some (.int .i64 x2) ∧ w'.cell? ⟨g, q * 2, none⟩ = some (.int .i64 y1) ∧ w'.cell? ⟨g, q * 2 + 1, none⟩ = some (.int .i64 y2)) (first | go_keep | (go_split_ands; refine ⟨?_, ?_, ?_, ?_⟩ <;> (rw [Below.cell hb9 (by simp; omega)]; assumption))) (first | (go_at_call 45; refine (compareKeys_any x1 x2 y1 y2 _).mono ?_; rintro e w1 ⟨rfl, hb9⟩))
            have HSq := Lib.hid (HS.out.cmp hb9)
            have HGq := Lib.hid (near_cmp HG.out hb9)
            clear c1 c0 f1 f0 c1p c0p f1p f0p HS HG hb9 hgl
            obtain ⟨c1, c1p, f1, f1p⟩ := HSq.out.at_ (p := j) (by omega)
            obtain ⟨c0, c0p, f0, f0p⟩ := HSq.out.at_ (p := q) (by omega)
            obtain ⟨s1, s2, g1, g2⟩ := HSq.out.drew.swap (p := j) (q := q) (by omega) (by omega) (by omega)
            rw [HE1.out, HE2.out, HE3.out, HE4.out] at s1 s2 g1 g2
            rw [HE1.out] at c1
            rw [HE2.out] at c1p
            rw [HE3.out] at c0
            rw [HE4.out] at c0p
            have S1 := Lib.hid s1
            have S2 := Lib.hid s2
            have G1 := Lib.hid (HGq.out.trans (drew_near g1))
            have G2 := Lib.hid (HGq.out.trans (drew_near g2))
            have HSE := Lib.hid (HSG.out.trans HSW.out)
            clear s1 s2 g1 g2 HSW HSG
            go_upto_region 6 with fail
            go_region_law (fail)
            all_goals
              go_wp2_with fail
              go_roundw
              case rel => first
                | exact ⟨q, _, hqa, hqi, by go_num, S1, HSE, HLT2, HXS, HMS, G1⟩
                | exact ⟨q, _, hqa, hqi, by go_num, S2, HSE, HLT2, HXS, HMS, G2⟩
              case measure => (simp [intOf] <;> omega)
          · have hcn : ¬ cmpR x1 y1 < 0 := fun h9 => hkk (hcmp.1 h9)
            have HGE2 := Lib.hid (HGE.out (by omega))
            clear hcmp hkk HGE HLT
            go_upto_region 4 with fail
            go_region_held3 (fun w' => w'.cell? ⟨g, j * 2, none⟩ = some (.int .i64 x1) ∧ w'.cell? ⟨g, j * 2 + 1, none⟩ = some (.int .i64 x2) ∧ w'.cell? ⟨g, q * 2, none⟩ = some (.int .i64 y1) ∧ w'.cell? ⟨g, q * 2 + 1, none⟩ = some (.int .i64 y2)) (first | go_keep | (go_split_ands; refine ⟨?_, ?_, ?_, ?_⟩ <;> (rw [Below.cell hb9 (by simp; omega)]; assumption))) (first | (go_at_call 45; refine (compareKeys_any x1 x2 y1 y2 _).mono ?_; rintro e w1 ⟨rfl, hb9⟩))
            go_wp2_with fail
            go_roundw
            case rel => exact ⟨i + 1, E, by omega, by omega, by go_num, Lib.hid (HS.out.cmp hb9), HSG, HGE2, HX, Lib.hid (near_cmp HG.out hb9)⟩
            case measure => simp [intOf]; omega
        · obtain rfl : j = a := by omega
          have ja2 : ¬ (j : Int) > (j : Int) := by omega
          have HGE2 := Lib.hid (InsF.stop HIN.out (.inl rfl))
          go_upto_region 4 with fail
          go_quiet (fail)
          go_wp2_with fail
          go_roundw
          case rel => exact ⟨i + 1, E, by omega, by omega, by go_num, Lib.hid (HS.out.drewN _), HSG, HGE2, HX, Lib.hid (near_drewN_ HG.out _)⟩
          case measure => simp [intOf]; omega
    · have iI : ¬ (i : Int) < (b : Int) := by omega
      have HR : Hid (Srt (fr Q) C a b) := Lib.hid (HSR.out.sub (Nat.le_refl _) (by omega))
      go_wp2_with fail
      exact bodyPost_end (results_none rfl _ _ _) rfl ⟨rfl, HG.out, C, HS.out, HSG.out, HR.out⟩
end Go.Proofs.Ytifjihpnhmemgaa
