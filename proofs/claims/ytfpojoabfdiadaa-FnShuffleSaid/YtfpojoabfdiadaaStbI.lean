/- Insertion sort of a stretch, by the closure. -/
import Derived.Test.YtfpojoabfdiadaaStbW
namespace Go.Proofs.Ytfpojoabfdiadaa
open Go.RowKit
set_option linter.unusedVariables false
set_option maxRecDepth 100000 in
set_option maxHeartbeats 1600000 in
theorem ins_any {base g n c gk gK ck : Nat} {K D : List Int} {w : World} (h : SS base 3 g n c gk gK ck K w D) (a b : Nat) (hb : b ≤ n) (han : a ≤ n) :
    Calls Try.prog 44 #[.slice (some ⟨g, 0, none⟩) n c, .int .i64 (a : Nat), .int .i64 (b : Nat), .func (.func 26) #[] #[.pointer (some ⟨gk, 0, none⟩)]] w fun e w' =>
      e = .returned (.tuple #[]) ∧ w.grownBy w' (some g) ∧ ∃ C, SS base 3 g n c gk gK ck K w' C ∧ Seg D C a b ∧ Srt (kf K) C a b := by
  have H := Lib.hid h
  have hn := h.n64
  clear h
  obtain ⟨i1, hi1⟩ : ∃ i1, i1 = a + 1 := ⟨_, rfl⟩
  have e1 : (a : Int) + 1 = (i1 : Int) := by omega
  have w1 : IntKind.i64.wrap (i1 : Int) = (i1 : Int) := IntWalk.i64_in _ ⟨by omega, by omega⟩
  have hai : a < i1 := by omega
  have HS0 : Hid (Srt (kf K) D a i1) := Lib.hid (Srt.one (by omega))
  have hib : i1 ≤ b ∨ i1 = a + 1 := .inr hi1
  clear hi1
  go_enter Try.func44, Try.ntmps44
  go_wp2_with fail
  clear e1 w1
  go_loopw [8] (fun vi wr => ∃ (i : Nat) (C : List Int), a < i ∧ (i ≤ b ∨ i = a + 1) ∧ vi = .int .i64 (i : Nat) ∧ Hid (SS base 3 g n c gk gK ck K wr C) ∧ Hid (Seg D C a b) ∧ Hid (Srt (kf K) C a i) ∧ Hid (w.grownBy wr (some g))) (fun vi _ => n + 1 - (intOf vi).toNat)
  case atStart => exact ⟨i1, D, hai, hib, rfl, H, Lib.hid (Seg.refl _ _ _), HS0, Lib.hid (World.grownBy.refl _ _)⟩
  case round =>
    clear H HS0 hai hib
    obtain ⟨i, C, hai, hib, rfl, HS, HSG, HSR, HG⟩ := hrel
    by_cases hlt : i < b
    · have iI : (i : Int) < (b : Int) := by omega
      have HIN : Hid (InsF (kf K) C a (i + 1) i) := Lib.hid (InsF.start HSR.out)
      go_wp2_with fail
      go_loopw [9] (fun vj wr => ∃ (j : Nat) (E : List Int), a ≤ j ∧ j ≤ i ∧ vj = .int .i64 (j : Nat) ∧ Hid (SS base 3 g n c gk gK ck K wr E) ∧ Hid (Seg D E a b) ∧ Hid (InsF (kf K) E a (i + 1) j) ∧ Hid (w.grownBy wr (some g))) (fun vj _ => (intOf vj).toNat)
      case atStart => exact ⟨i, C, by omega, by omega, rfl, HS, HSG, HIN, HG⟩
      case round =>
        clear HS HSG HSR HG HIN
        obtain ⟨j, E, haj, hji, rfl, HS, HSG, HIN, HG⟩ := hrel
        by_cases hja : a < j
        · obtain ⟨q, rfl⟩ : ∃ q, j = q + 1 := ⟨j - 1, by omega⟩
          obtain ⟨c1, f1, -⟩ := HS.out.at_ (p := q + 1) (by omega)
          obtain ⟨c0, f0, -⟩ := HS.out.at_ (p := q) (by omega)
          have HC := Lib.hid (fun k => clo_any (HS.out.drewN k) (p := q + 1) (q := q) (by omega) (by omega))
          have HLT := Lib.hid (InsF.step HIN.out hja (by omega) (by rw [HS.out.dl]; omega))
          have HGE := Lib.hid (fun h => InsF.stop HIN.out (.inr ⟨hja, h⟩))
          have HSW := Lib.hid (swp_seg (D := E) (i := q + 1) (j := q) (a := a) (b := b) (by rw [HS.out.dl]; omega) (by omega) (by omega))
          rw [Nat.add_sub_cancel] at HLT HGE
          have ecast : ((q + 1 : Nat) : Int) = (q : Int) + 1 := by omega
          rw [ecast]
          have ew : IntKind.i64.wrap (q : Int) = q := IntWalk.i64_in _ ⟨by omega, by omega⟩
          have e0 : (0 : Int) ≤ (q : Int) + 1 := by omega
          have e1' : ((q : Int) + 1).toNat = q + 1 := by omega
          have i2 : (q : Int) + 1 < (n : Int) := by omega
          have i1' : (q : Int) < (n : Int) := by omega
          have ja : (a : Int) < (q : Int) + 1 := by omega
          have ja2 : (q : Int) + 1 > (a : Int) := by omega
          clear ecast
          obtain ⟨cz, hcz⟩ : ∃ cz, cmpV (kf K (gt E (q + 1))) (kf K (gt E q)) = cz := ⟨_, rfl⟩
          rw [hcz] at HC
          by_cases hkk : kf K (gt E (q + 1)) < kf K (gt E q)
          · have hcn : cz < 0 := by rw [← hcz]; exact cmpV_lt hkk
            have HLT2 := Lib.hid (HLT.out hkk)
            clear hcz hkk HGE HLT
            go_upto_region 4 with fail
            go_quiet ((go_at_call 26; exact Calls.quiet_of (HC.out _)))
            have HSq := Lib.hid (HS.out.drewN nq)
            have HGq := Lib.hid (near_drewN_ HG.out nq)
            clear c1 c0 f1 f0 HS HG HC
            generalize wr.drewN nq = wq at *
            obtain ⟨c1, f1, -⟩ := HSq.out.at_ (p := q + 1) (by omega)
            obtain ⟨c0, f0, -⟩ := HSq.out.at_ (p := q) (by omega)
            obtain ⟨s1, s2, g1, g2⟩ := HSq.out.drew.swap (p := q + 1) (q := q) (by omega) (by omega) (by omega)
            have S1 := Lib.hid s1
            have S2 := Lib.hid s2
            have G1 := Lib.hid (HGq.out.trans (drew_near g1))
            have G2 := Lib.hid (HGq.out.trans (drew_near g2))
            have HSE := Lib.hid (HSG.out.trans HSW.out)
            clear s1 s2 g1 g2 HSW HSG
            go_upto_region 6 with fail
            go_region_law (fail)
            all_goals
              go_wp2_with fail
              go_roundw
              case rel => first
                | exact ⟨q, _, by omega, by omega, by go_num, S1, HSE, HLT2, G1⟩
                | exact ⟨q, _, by omega, by omega, by go_num, S2, HSE, HLT2, G2⟩
              case measure => (simp [intOf] <;> omega)
          · have hcn : ¬ cz < 0 := by rw [← hcz]; exact cmpV_ge hkk
            have HGE2 := Lib.hid (HGE.out (by omega))
            clear hcz hkk HGE HLT
            go_upto_region 4 with fail
            go_quiet ((go_at_call 26; exact Calls.quiet_of (HC.out _)))
            go_wp2_with fail
            go_roundw
            case rel => exact ⟨i + 1, E, by omega, by omega, by go_num, Lib.hid (HS.out.drewN _), HSG, HGE2, Lib.hid (near_drewN_ HG.out _)⟩
            case measure => simp [intOf]; omega
        · obtain rfl : j = a := by omega
          have ja2 : ¬ (j : Int) > (j : Int) := by omega
          have HGE2 := Lib.hid (InsF.stop HIN.out (.inl rfl))
          go_upto_region 4 with fail
          go_quiet (fail)
          go_wp2_with fail
          go_roundw
          case rel => exact ⟨i + 1, E, by omega, by omega, by go_num, Lib.hid (HS.out.drewN _), HSG, HGE2, Lib.hid (near_drewN_ HG.out _)⟩
          case measure => simp [intOf]; omega
    · have iI : ¬ (i : Int) < (b : Int) := by omega
      have HR : Hid (Srt (kf K) C a b) := Lib.hid (HSR.out.sub (Nat.le_refl _) (by omega))
      go_wp2_with fail
      exact bodyPost_end (results_none rfl _ _ _) rfl ⟨rfl, HG.out, C, HS.out, HSG.out, HR.out⟩
end Go.Proofs.Ytfpojoabfdiadaa
