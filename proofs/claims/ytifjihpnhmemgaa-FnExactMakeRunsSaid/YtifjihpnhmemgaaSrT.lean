/- Merging of neighbours in place by halves (printed by gen_sr.py). -/
import Derived.Test.YtifjihpnhmemgaaSrS
import Derived.Deep.CutRange
namespace Go.Proofs.Ytifjihpnhmemgaa
open Go.RowKit
set_option linter.unusedVariables false
def SymC (base g n c : Nat) (Q : Rcs) (N : Nat) : Prop := ∀ (a m b : Nat) (D : List Int) (w : World), b - a < N → a < m → m < b → b ≤ n → SR base 47 g n c Q w D → Srt (fr Q) D a m → Srt (fr Q) D m b → Cx D a m b →
    Calls Try.prog 60 #[.slice (some ⟨g, 0, none⟩) n c, .int .i64 (a : Nat), .int .i64 (m : Nat), .int .i64 (b : Nat), .func (.func 45) #[] #[]] w fun e w' =>
      e = .returned (.tuple #[]) ∧ w.grownBy w' (some g) ∧ ∃ C, SR base 47 g n c Q w' C ∧ Seg D C a b ∧ Srt (fr Q) C a b
set_option maxRecDepth 100000 in
set_option maxHeartbeats 3200000 in
theorem sym3_any {base g n c : Nat} {Q : Rcs} {D : List Int} {w : World} (h : SR base 47 g n c Q w D) (a m b : Nat) (ham : a + 1 < m) (hmb : m + 1 < b) (hb : b ≤ n) (hs1 : Srt (fr Q) D a m) (hs2 : Srt (fr Q) D m b) (hcx : Cx D a m b)
    (IH : Hid (SymC base g n c Q (b - a))) :
    Calls Try.prog 60 #[.slice (some ⟨g, 0, none⟩) n c, .int .i64 (a : Nat), .int .i64 (m : Nat), .int .i64 (b : Nat), .func (.func 45) #[] #[]] w fun e w' =>
      e = .returned (.tuple #[]) ∧ w.grownBy w' (some g) ∧ ∃ C, SR base 47 g n c Q w' C ∧ Seg D C a b ∧ Srt (fr Q) C a b := by
  have H := Lib.hid h
  have hn := h.n64
  have HS1 := Lib.hid hs1
  have HS2 := Lib.hid hs2
  have HX := Lib.hid hcx
  obtain ⟨x, hx⟩ : ∃ x, x = m - a := ⟨_, rfl⟩
  have ex : (m : Int) - (a : Int) = (x : Int) := by omega
  have wx : IntKind.i64.wrap (x : Int) = (x : Int) := IntWalk.i64_in _ ⟨by omega, by omega⟩
  have hx1 : ((x : Int) == 1) = false := by rw [beq_eq_false_iff_ne]; omega
  obtain ⟨y, hy⟩ : ∃ y, y = b - m := ⟨_, rfl⟩
  have ey : (b : Int) - (m : Int) = (y : Int) := by omega
  have wy : IntKind.i64.wrap (y : Int) = (y : Int) := IntWalk.i64_in _ ⟨by omega, by omega⟩
  have hy1 : ((y : Int) == 1) = false := by rw [beq_eq_false_iff_ne]; omega
  obtain ⟨mid, hmid⟩ : ∃ mid, mid = (a + b) / 2 := ⟨_, rfl⟩
  have emid : ((a : Int) + (b : Int)) / 2 = (mid : Int) := by omega
  have m1 : 2 * mid ≤ a + b := by omega
  have m2 : a + b ≤ 2 * mid + 1 := by omega
  obtain ⟨nn, hnn⟩ : ∃ nn, nn = mid + m := ⟨_, rfl⟩
  have enn : (mid : Int) + (m : Int) = (nn : Int) := by omega
  have wnn : IntKind.i64.wrap (nn : Int) = (nn : Int) := IntWalk.i64_in _ ⟨by omega, by omega⟩
  have n1 : nn ≤ mid + m := by omega
  have n2 : mid + m ≤ nn := by omega
  clear h hs1 hs2 hcx hx hy hmid hnn
  go_enter Try.func60, Try.ntmps60
  go_upto_if 140 with (fail)
  clear ex wx hx1 ey wy hy1 emid enn wnn
  go_cut [20, 21] from 138 to 146 (fun vs vr wc => ∃ s0 r0 : Nat, vs = .int .i64 (s0 : Nat) ∧ vr = .int .i64 (r0 : Nat) ∧ (a ≤ s0 ∧ s0 ≤ r0 ∧ r0 ≤ m ∧ r0 ≤ mid ∧ nn ≤ s0 + b) ∧ Hid ((r0 = m ∨ r0 = mid) ∧ (s0 = a ∨ s0 + b = nn)) ∧ w = wc)
  case first =>
    by_cases hmm : mid < m
    · have i1 : (m : Int) > (mid : Int) := by omega
      have i2 : (mid : Int) < (m : Int) := by omega
      obtain ⟨s0, hs0⟩ : ∃ s0, s0 = nn - b := ⟨_, rfl⟩
      have es : (nn : Int) - (b : Int) = (s0 : Int) := by omega
      have ws : IntKind.i64.wrap (s0 : Int) = (s0 : Int) := IntWalk.i64_in _ ⟨by omega, by omega⟩
      have hf : (a ≤ s0 ∧ s0 ≤ mid ∧ mid ≤ m ∧ mid ≤ mid ∧ nn ≤ s0 + b) := by omega
      have HF : Hid (s0 + b = nn) := Lib.hid (by omega)
      have HFF := Lib.hid hf
      clear hs0 hf
      go_wp2_with fail
      go_meet
      exact ⟨s0, mid, rfl, rfl, HFF.out, Lib.hid ⟨.inr rfl, .inr HF.out⟩, rfl⟩
    · have i1 : ¬ (m : Int) > (mid : Int) := by omega
      have i2 : ¬ (mid : Int) < (m : Int) := by omega
      have HFF : Hid (a ≤ a ∧ a ≤ m ∧ m ≤ m ∧ m ≤ mid ∧ nn ≤ a + b) := Lib.hid (by omega)
      go_wp2_with fail
      go_meet
      exact ⟨a, m, rfl, rfl, HFF.out, Lib.hid ⟨.inl rfl, .inl rfl⟩, rfl⟩
  case rest =>
    obtain ⟨s0, r0, rfl, rfl, ⟨q1, q2, q3, q4, q5⟩, HF, rfl⟩ := hcut
    obtain ⟨p, hp⟩ : ∃ p, p = nn - 1 := ⟨_, rfl⟩
    have ep : (nn : Int) - 1 = (p : Int) := by omega
    have wp : IntKind.i64.wrap (p : Int) = (p : Int) := IntWalk.i64_in _ ⟨by omega, by omega⟩
    have p1 : p + 1 ≤ nn := by omega
    have p2 : nn ≤ p + 1 := by omega
    clear hp
    go_wp2_with fail
    clear ep wp
    go_loopw [20, 21] (fun vs vr wr => ∃ s r : Nat, s0 ≤ s ∧ s ≤ r ∧ r ≤ r0 ∧ vs = .int .i64 (s : Nat) ∧ vr = .int .i64 (r : Nat) ∧ Hid (SR base 47 g n c Q wr D) ∧ Hid (w.grownBy wr (some g)) ∧ Hid (s0 < s → ¬ fr Q (gt D (p - (s - 1))) < fr Q (gt D (s - 1))) ∧ Hid (r < r0 → fr Q (gt D (p - r)) < fr Q (gt D r))) (fun vs vr _ => (intOf vr).toNat - (intOf vs).toNat)
    case atStart => exact ⟨s0, r0, by omega, q2, by omega, rfl, rfl, H, Lib.hid (World.grownBy.refl _ _), Lib.hid (fun h => by omega), Lib.hid (fun h => by omega)⟩
    case round =>
      clear H
      obtain ⟨s, r, hs0, hsr, hr0, rfl, rfl, H, HG, HL, HR⟩ := hrel
      by_cases hlt : s < r
      · have iI : (s : Int) < (r : Int) := by omega
        obtain ⟨h, hh⟩ : ∃ h, h = (s + r) / 2 := ⟨_, rfl⟩
        have eh : ((s : Int) + (r : Int)) / 2 = (h : Int) := by omega
        have h1 : s ≤ h := by omega
        have h2 : h < r := by omega
        obtain ⟨z, hz⟩ : ∃ z, z = p - h := ⟨_, rfl⟩
        have ez : (p : Int) - (h : Int) = (z : Int) := by omega
        have wz : IntKind.i64.wrap (z : Int) = (z : Int) := IntWalk.i64_in _ ⟨by omega, by omega⟩
        have hzn : z < n := by omega
        have zI : (z : Int) < (n : Int) := by omega
        have hI : (h : Int) < (n : Int) := by omega
        obtain ⟨c1, c1p, -, -⟩ := H.out.at_ (p := h) (by omega)
        obtain ⟨c2, c2p, -, -⟩ := H.out.at_ (p := z) hzn
        have hgl := (own_lt H.out.o g rfl).2
        have hcmp := H.out.less (p := z) (q := h) (by omega) (by omega) (HX.out h z (by omega) (by omega) (by omega) (by omega))
        generalize (rgI Q (gt D z)).1 = x1 at *
        generalize (rgI Q (gt D z)).2 = x2 at *
        generalize (rgI Q (gt D h)).1 = y1 at *
        generalize (rgI Q (gt D h)).2 = y2 at *
        have HZ := Lib.hid hz
        clear hh hz
        by_cases hkk : fr Q (gt D z) < fr Q (gt D h)
        · have hcn : cmpR x1 y1 < 0 := hcmp.2 hkk
          have HR2 : Hid (h < r0 → fr Q (gt D (p - h)) < fr Q (gt D h)) := Lib.hid (fun _ => by rw [← HZ.out]; exact hkk)
          clear hcmp hkk
          go_upto_region 35 with fail
          go_region_held3 (fun w' => w'.cell? ⟨g, z * 2, none⟩ = some (.int .i64 x1) ∧ w'.cell? ⟨g, z * 2 + 1, none⟩ = some (.int .i64 x2) ∧ w'.cell? ⟨g, h * 2, none⟩ = some (.int .i64 y1) ∧ w'.cell? ⟨g, h * 2 + 1, none⟩ = some (.int .i64 y2)) (first | go_keep | (go_split_ands; refine ⟨?_, ?_, ?_, ?_⟩ <;> (rw [Below.cell hb9 (by simp; omega)]; assumption))) (first | (go_at_call 45; refine (compareKeys_any x1 x2 y1 y2 _).mono ?_; rintro e w1 ⟨rfl, hb9⟩))
          have hcn4 : decide (cmpR x1 y1 < 0) = true := decide_eq_true (by omega)
          try rw [hcn4]
          clear hcn4
          go_wp2_with fail
          go_roundw
          case rel => exact ⟨s, h, hs0, h1, by omega, rfl, rfl, Lib.hid (H.out.cmp hb9), Lib.hid (near_cmp HG.out hb9), Lib.hid (fun h9 => by have h8 := HL.out h9; omega), Lib.hid (fun h9 => by have h8 := HR2.out h9; omega)⟩
          case measure => (simp [intOf] <;> omega)
        · have hcn : ¬ cmpR x1 y1 < 0 := fun h9 => hkk (hcmp.1 h9)
          have HL2 : Hid (s0 < h + 1 → ¬ fr Q (gt D (p - (h + 1 - 1))) < fr Q (gt D (h + 1 - 1))) := Lib.hid (fun _ => by rw [Nat.add_sub_cancel, ← HZ.out]; exact hkk)
          clear hcmp hkk
          go_upto_region 35 with fail
          go_region_held3 (fun w' => w'.cell? ⟨g, z * 2, none⟩ = some (.int .i64 x1) ∧ w'.cell? ⟨g, z * 2 + 1, none⟩ = some (.int .i64 x2) ∧ w'.cell? ⟨g, h * 2, none⟩ = some (.int .i64 y1) ∧ w'.cell? ⟨g, h * 2 + 1, none⟩ = some (.int .i64 y2)) (first | go_keep | (go_split_ands; refine ⟨?_, ?_, ?_, ?_⟩ <;> (rw [Below.cell hb9 (by simp; omega)]; assumption))) (first | (go_at_call 45; refine (compareKeys_any x1 x2 y1 y2 _).mono ?_; rintro e w1 ⟨rfl, hb9⟩))
          have hcn4 : decide (cmpR x1 y1 < 0) = false := decide_eq_false (by omega)
          try rw [hcn4]
          clear hcn4
          go_wp2_with fail
          go_roundw
          case rel => exact ⟨h + 1, r, by omega, by omega, hr0, by go_num, rfl, Lib.hid (H.out.cmp hb9), Lib.hid (near_cmp HG.out hb9), Lib.hid (fun h9 => by have h8 := HL2.out h9; omega), Lib.hid (fun h9 => by have h8 := HR.out h9; omega)⟩
          case measure => (simp [intOf] <;> omega)
      · have iI : ¬ (s : Int) < (r : Int) := by omega
        obtain rfl : s = r := by omega
        obtain ⟨e, he⟩ : ∃ e, e = nn - s := ⟨_, rfl⟩
        have ee : (nn : Int) - (s : Int) = (e : Int) := by omega
        have we : IntKind.i64.wrap (e : Int) = (e : Int) := IntWalk.i64_in _ ⟨by omega, by omega⟩
        have e1 : m ≤ e := by omega
        have e2 : e ≤ b := by omega
        have e3 : s + e = mid + m := by omega
        have e4 : mid ≤ e := by omega
        have HE3 := Lib.hid e3
        have C1 : Hid (s < m → m < e → fr Q (gt D (e - 1)) ≤ fr Q (gt D s)) := Lib.hid (fun h1 h2 => by
          have h3 := HF.out.1
          have h4 := HR.out (by omega)
          rw [show p - s = e - 1 by omega] at h4
          omega)
        have C2 : Hid (a < s → e < b → fr Q (gt D (s - 1)) ≤ fr Q (gt D e)) := Lib.hid (fun h1 h2 => by
          have h3 := HF.out.2
          have h4 := HL.out (by omega)
          rw [show p - (s - 1) = e by omega] at h4
          omega)
        clear he e3 HL HR
        go_upto_region 39 with fail
        go_cut [185] from 178 to 185 (fun vb wc => vb = .bool (decide (s < m ∧ m < e)) ∧ Hid (SR base 47 g n c Q wc D) ∧ Hid (w.grownBy wc (some g)))
        case first =>
          by_cases h1 : s < m
          · have i1 : (s : Int) < (m : Int) := by omega
            by_cases h2 : m < e
            · have i2 : (m : Int) < (e : Int) := by omega
              have HDD := Lib.hid (show decide (s < m ∧ m < e) = true from decide_eq_true ⟨h1, h2⟩)
              go_wp2_with fail
              go_meet
              exact ⟨by rw [HDD.out], H, HG⟩
            · have i2 : ¬ (m : Int) < (e : Int) := by omega
              have HDD := Lib.hid (show decide (s < m ∧ m < e) = false from decide_eq_false (fun h => h2 h.2))
              go_wp2_with fail
              go_meet
              exact ⟨by rw [HDD.out], H, HG⟩
          · have i1 : ¬ (s : Int) < (m : Int) := by omega
            have HDD := Lib.hid (show decide (s < m ∧ m < e) = false from decide_eq_false (fun h => h1 h.1))
            go_wp2_with fail
            go_meet
            exact ⟨by rw [HDD.out], H, HG⟩
        case rest =>
          clear H HG
          obtain ⟨rfl, H, HG⟩ := hcut
          obtain ⟨bb, hbb⟩ : ∃ bb, decide (s < m ∧ m < e) = bb := ⟨_, rfl⟩
          rw [hbb]
          have HBB := Lib.hid hbb
          clear hbb
          go_upto_if 185 with (fail)
          go_cut [20] from 186 to 191 (fun vs wc => vs = .int .i64 (s : Nat) ∧ ∃ R : List Int, Hid (SR base 47 g n c Q wc R) ∧ Hid (w.grownBy wc (some g)) ∧ Hid (Rt D R s m e))
          case first =>
            cases bb
            · have hd := of_decide_eq_false HBB.out
              have HRR : Hid (Rt D D s m e) := Lib.hid (Rt.refl (by omega))
              clear hd
              go_wp2_with fail
              go_meet
              exact ⟨rfl, D, H, HG, HRR⟩
            · obtain ⟨h1, h2⟩ := of_decide_eq_true HBB.out
              have HP := Lib.hid (rotate_any H.out s m e h1 h2 (by omega))
              go_wp2_with fail
              refine HP.out.mono ?_
              rintro e w1 ⟨rfl, g1, R, s1, r1⟩
              have HS := Lib.hid s1
              have HGG := Lib.hid (HG.out.trans g1)
              have HRR := Lib.hid r1
              clear s1 g1 r1
              go_wp2_with fail
              go_meet
              exact ⟨rfl, R, HS, HGG, HRR⟩
          case rest =>
            clear H HG HBB
            obtain ⟨rfl, R, H, HG, HRT⟩ := hcut
            have hal := halves (mid := mid) ⟨by omega, by omega, e1, e2⟩ HE3.out HS1.out HS2.out HRT.out C1.out C2.out
            have hX := halvesX (mid := mid) ⟨by omega, by omega, e1, e2⟩ HE3.out HX.out HRT.out
            have HX1 := Lib.hid hX.1
            have HX2 := Lib.hid hX.2
            clear hX
            have HAL := Lib.hid hal
            have HSG := Lib.hid ((HRT.out.seg (by omega) e1).wide (a' := a) (b' := b) (by omega) e2)
            clear hal HRT C1 C2 HS1 HS2
            go_upto_region 41 with fail
            go_cut [199] from 192 to 199 (fun vb wc => vb = .bool (decide (a < s ∧ s < mid)) ∧ Hid (SR base 47 g n c Q wc R) ∧ Hid (w.grownBy wc (some g)))
            case first =>
              by_cases h1 : a < s
              · have i1 : (a : Int) < (s : Int) := by omega
                by_cases h2 : s < mid
                · have i2 : (s : Int) < (mid : Int) := by omega
                  have HDD := Lib.hid (show decide (a < s ∧ s < mid) = true from decide_eq_true ⟨h1, h2⟩)
                  go_wp2_with fail
                  go_meet
                  exact ⟨by rw [HDD.out], H, HG⟩
                · have i2 : ¬ (s : Int) < (mid : Int) := by omega
                  have HDD := Lib.hid (show decide (a < s ∧ s < mid) = false from decide_eq_false (fun h => h2 h.2))
                  go_wp2_with fail
                  go_meet
                  exact ⟨by rw [HDD.out], H, HG⟩
              · have i1 : ¬ (a : Int) < (s : Int) := by omega
                have HDD := Lib.hid (show decide (a < s ∧ s < mid) = false from decide_eq_false (fun h => h1 h.1))
                go_wp2_with fail
                go_meet
                exact ⟨by rw [HDD.out], H, HG⟩
            case rest =>
              clear H HG
              obtain ⟨rfl, H, HG⟩ := hcut
              obtain ⟨bb, hbb⟩ : ∃ bb, decide (a < s ∧ s < mid) = bb := ⟨_, rfl⟩
              rw [hbb]
              have HBB := Lib.hid hbb
              clear hbb
              go_upto_if 199 with (fail)
              go_cut [20] from 200 to 205 (fun vs wc => vs = .int .i64 (s : Nat) ∧ ∃ R1 : List Int, Hid (SR base 47 g n c Q wc R1) ∧ Hid (w.grownBy wc (some g)) ∧ Hid (Seg R R1 a mid) ∧ Hid (Srt (fr Q) R1 a mid))
              case first =>
                cases bb
                · have hd := of_decide_eq_false HBB.out
                  have HTT : Hid (Srt (fr Q) R a mid) := Lib.hid (by
                    by_cases h9 : a < s
                    · exact HAL.out.1.1.sub (Nat.le_refl _) (by omega)
                    · exact HAL.out.1.2.1.sub (by omega) (Nat.le_refl _))
                  clear hd
                  go_wp2_with fail
                  go_meet
                  exact ⟨rfl, R, H, HG, Lib.hid (Seg.refl _ _ _), HTT⟩
                · obtain ⟨h1, h2⟩ := of_decide_eq_true HBB.out
                  have HP := Lib.hid (IH.out a s mid R _ (by omega) h1 h2 (by omega) H.out HAL.out.1.1 HAL.out.1.2.1 HX1.out)
                  go_wp2_with fail
                  refine HP.out.mono ?_
                  rintro e w1 ⟨rfl, g1, R1, s1, r1, t1⟩
                  have HS := Lib.hid s1
                  have HGG := Lib.hid (HG.out.trans g1)
                  have HRR := Lib.hid r1
                  have HTT := Lib.hid t1
                  clear s1 g1 r1 t1
                  go_wp2_with fail
                  go_meet
                  exact ⟨rfl, R1, HS, HGG, HRR, HTT⟩
              case rest =>
                clear H HG HBB
                obtain ⟨rfl, R1, H, HG, HSL, HTL⟩ := hcut
                have HA3 := Lib.hid (HAL.out.1.2.2.1.out HSL.out (.inr (Nat.le_refl _)))
                have HA4 := Lib.hid (HAL.out.1.2.2.2.out HSL.out (.inr e4))
                have HCR := Lib.hid HAL.out.2
                clear HAL
                have ham' : a ≤ mid := by omega
                have hmb' : mid ≤ b := by omega
                by_cases h1 : mid < e
                · have i1 : (mid : Int) < (e : Int) := by omega
                  by_cases h2 : e < b
                  · have i2 : (e : Int) < (b : Int) := by omega
                    have HP := Lib.hid (IH.out mid e b R1 _ (by omega) h1 h2 hb H.out HA3.out HA4.out (HX2.out.out HSL.out (.inr (Nat.le_refl _))))
                    go_wp2_with fail
                    refine HP.out.mono ?_
                    rintro e w1 ⟨rfl, g1, R2, s1, r1, t1⟩
                    have HS := Lib.hid s1
                    have HGG := Lib.hid (HG.out.trans g1)
                    have HSF := Lib.hid (HSG.out.trans ((HSL.out.wide (Nat.le_refl _) hmb').trans (r1.wide ham' (Nat.le_refl _))))
                    have HTF := Lib.hid (join_halves ⟨ham', hmb'⟩ HCR.out HSL.out HTL.out r1 t1)
                    clear s1 g1 r1 t1
                    go_wp2_with fail
                    exact bodyPost_end (results_none rfl _ _ _) rfl ⟨rfl, HGG.out, R2, HS.out, HSF.out, HTF.out⟩
                  · have i2 : ¬ (e : Int) < (b : Int) := by omega
                    have hT : Srt (fr Q) R1 mid b := HA3.out.sub (Nat.le_refl _) (by omega)
                    have HSF := Lib.hid (HSG.out.trans (HSL.out.wide (Nat.le_refl _) hmb'))
                    have HTF := Lib.hid (join_halves ⟨ham', hmb'⟩ HCR.out HSL.out HTL.out (Seg.refl R1 mid b) hT)
                    clear hT
                    go_wp2_with fail
                    exact bodyPost_end (results_none rfl _ _ _) rfl ⟨rfl, HG.out, R1, H.out, HSF.out, HTF.out⟩
                · have i1 : ¬ (mid : Int) < (e : Int) := by omega
                  have hT : Srt (fr Q) R1 mid b := HA4.out.sub (by omega) (Nat.le_refl _)
                  have HSF := Lib.hid (HSG.out.trans (HSL.out.wide (Nat.le_refl _) hmb'))
                  have HTF := Lib.hid (join_halves ⟨ham', hmb'⟩ HCR.out HSL.out HTL.out (Seg.refl R1 mid b) hT)
                  clear hT
                  go_wp2_with fail
                  exact bodyPost_end (results_none rfl _ _ _) rfl ⟨rfl, HG.out, R1, H.out, HSF.out, HTF.out⟩
theorem sym_any (base g n c : Nat) (Q : Rcs) : ∀ N, SymC base g n c Q N
  | 0 => fun a m b D w h _ _ _ _ _ _ _ => by omega
  | N + 1 => by
    intro a m b D w hN ham hmb hb h hs1 hs2 hcx
    by_cases h1 : m = a + 1
    · exact sym1_any h a m b h1 hmb hb hs2 hcx
    · by_cases h2 : b = m + 1
      · exact sym2_any h a m b (by omega) h2 hb hs1 hcx
      · refine sym3_any h a m b (by omega) (by omega) hb hs1 hs2 hcx (Lib.hid ?_)
        intro a' m' b' D' w' h'
        exact sym_any base g n c Q N a' m' b' D' w' (by omega)
end Go.Proofs.Ytifjihpnhmemgaa
