/- A stable sort of at most 64 records (printed by gen_sr.py). -/
import Derived.Test.YtifjihpnhmemgaaSrT
import Derived.Test.YtifjihpnhmemgaaSrI
namespace Go.Proofs.Ytifjihpnhmemgaa
open Go.RowKit
set_option linter.unusedVariables false
set_option maxRecDepth 100000 in
set_option maxHeartbeats 3200000 in
theorem stable_any {base g n c : Nat} {Q : Rcs} {D : List Int} {w : World} (h : SR base 47 g n c Q w D) (hid_ : ∀ p, p < n → gt D p = (p : Int)) :
    Calls Try.prog 57 #[.slice (some ⟨g, 0, none⟩) n c, .int .i64 (n : Nat), .func (.func 45) #[] #[]] w fun e w' =>
      e = .returned (.tuple #[]) ∧ w.grownBy w' (some g) ∧ ∃ C, SR base 47 g n c Q w' C ∧ C.Perm D ∧ Srt (fr Q) C 0 n := by
  have H := Lib.hid h
  have HID := Lib.hid hid_
  have hn := h.n64
  clear h hid_
  go_enter Try.func57, Try.ntmps57
  go_wp2_with fail
  go_loopw [7, 8] (fun va vb wr => ∃ (t a b : Nat) (C : List Int), a = 20 * t ∧ b = 20 * t + 20 ∧ a ≤ n ∧ va = .int .i64 (a : Nat) ∧ vb = .int .i64 (b : Nat) ∧ Hid (SR base 47 g n c Q wr C) ∧ Hid (C.Perm D) ∧ Hid (∀ u, u < t → Srt (fr Q) C (20 * u) (20 * u + 20)) ∧ Hid (BKa C 20 n 0) ∧ Hid (∀ p, a ≤ p → p < n → gt C p = (p : Int)) ∧ Hid (w.grownBy wr (some g))) (fun _ vb _ => n + 20 - (intOf vb).toNat)
  case atStart => exact ⟨0, 0, 20, D, rfl, rfl, by omega, rfl, rfl, H, Lib.hid (List.Perm.refl _), Lib.hid (fun u hu => by omega), Lib.hid (BKa.id HID.out), Lib.hid (fun p _ h2 => HID.out p h2), Lib.hid (World.grownBy.refl _ _)⟩
  case round =>
    clear H
    obtain ⟨t, a, b, C, hat, hbt, han, rfl, rfl, HS, HP, HB1, HK, HI, HG⟩ := hrel
    have HAT := Lib.hid hat
    have HBT := Lib.hid hbt
    by_cases hbn : b ≤ n
    · have bI : (b : Int) ≤ (n : Int) := by omega
      have HY := Lib.hid (ins_any HS.out a b hbn han (fun p h1 h2 => HI.out p h1 (by omega)))
      obtain ⟨b', hb'⟩ : ∃ b', b' = b + 20 := ⟨_, rfl⟩
      have eb : (b : Int) + 20 = (b' : Int) := by omega
      have wb : IntKind.i64.wrap (b' : Int) = (b' : Int) := IntWalk.i64_in _ ⟨by omega, by omega⟩
      have HBB := Lib.hid hb'
      have hbb : b < b' := by omega
      have hn70 : b' ≤ n + 20 := by omega
      clear hat hbt hb'
      go_wp2_with fail
      refine HY.out.mono ?_
      rintro e w1 ⟨rfl, g1, E, s1, q1, t1⟩
      have HS' := Lib.hid s1
      have HG' := Lib.hid (HG.out.trans g1)
      have HP' := Lib.hid (q1.perm.trans HP.out)
      have H1' : Hid (∀ u, u < t + 1 → Srt (fr Q) E (20 * u) (20 * u + 20)) := Lib.hid (fun u hu => by
        have h1 := HAT.out
        have h2 := HBT.out
        by_cases hut : u = t
        · subst hut; rw [← h1, show a + 20 = b by omega]; exact t1
        · exact (HB1.out u (by omega)).out q1 (.inl (by omega)))
      have HK' : Hid (BKa E 20 n 0) := Lib.hid (fun u p h0 h2 h3 h4 => by
        have a1 := HAT.out
        have b1 := HBT.out
        by_cases hp : a ≤ p ∧ p < b
        · obtain ⟨j, j1, j2, e⟩ := q1.mem p hp.1 hp.2
          rw [e]
          exact HK.out u j (Nat.zero_le _) (by omega) (by omega) (by omega)
        · rw [q1.out p (by omega)]
          exact HK.out u p h0 h2 h3 h4)
      have HI' : Hid (∀ p, b ≤ p → p < n → gt E p = (p : Int)) := Lib.hid (fun p h1 h2 => by
        have a1 := HAT.out
        have b1 := HBT.out
        rw [q1.out p (.inr h1)]
        exact HI.out p (by omega) h2)
      have HA2 : Hid (b = 20 * (t + 1)) := Lib.hid (by have := HBT.out; omega)
      have HB3 : Hid (b' = 20 * (t + 1) + 20) := Lib.hid (by have := HBB.out; have := HBT.out; omega)
      clear s1 g1 q1 t1
      go_wp2_with fail
      go_roundw
      case rel => exact ⟨t + 1, b, b', E, HA2.out, HB3.out, hbn, rfl, rfl, HS', HP', H1', HK', HI', HG'⟩
      case measure => (simp [intOf] <;> omega)
    · have bI : ¬ (b : Int) ≤ (n : Int) := by omega
      have HY := Lib.hid (ins_any HS.out a n (Nat.le_refl _) han (fun p h1 h2 => HI.out p h1 h2))
      have hbn2 : n < b := by omega
      clear hat hbt
      go_wp2_with fail
      refine HY.out.mono ?_
      rintro e w1 ⟨rfl, g1, E, s1, q1, t1⟩
      have HS0 := Lib.hid s1
      have HG0 := Lib.hid (HG.out.trans g1)
      have HP0 := Lib.hid (q1.perm.trans HP.out)
      have HB0 : Hid (∀ u, Srt (fr Q) E (20 * u) (min (20 * u + 20) n)) := Lib.hid (fun u => by
        have h1 := HAT.out
        have h2 := HBT.out
        by_cases hut : u = t
        · subst hut; rw [← h1, show min (a + 20) n = n by omega]; exact t1
        · by_cases hut2 : u < t
          · rw [show min (20 * u + 20) n = 20 * u + 20 by omega]
            exact (HB1.out u hut2).out q1 (.inl (by omega))
          · exact Srt.one (by omega))
      have HK0 : Hid (BKa E 20 n 0) := Lib.hid (fun u p h0 h2 h3 h4 => by
        have a1 := HAT.out
        have b1 := HBT.out
        by_cases hp : a ≤ p ∧ p < n
        · obtain ⟨j, j1, j2, e⟩ := q1.mem p hp.1 hp.2
          rw [e]
          exact HK.out u j (Nat.zero_le _) (by omega) (by omega) (by omega)
        · rw [q1.out p (by omega)]
          exact HK.out u p h0 h2 h3 h4)
      clear s1 g1 q1 t1 HS HP HB1 HK HI HG HAT HBT HY
      go_wp2_with fail
      go_loopw [6] (fun vb wr => ∃ (bs : Nat) (C : List Int), (bs = 20 ∨ bs = 40 ∨ bs = 80) ∧ vb = .int .i64 (bs : Nat) ∧ Hid (SR base 47 g n c Q wr C) ∧ Hid (C.Perm D) ∧ Hid (∀ u, Srt (fr Q) C (bs * u) (min (bs * u + bs) n)) ∧ Hid (BKa C bs n 0) ∧ Hid (w.grownBy wr (some g))) (fun vb _ => 80 - (intOf vb).toNat)
      case atStart => exact ⟨20, E, by omega, rfl, HS0, HP0, HB0, HK0, HG0⟩
      case round =>
        clear HS0 HP0 HB0 HK0 HG0
        obtain ⟨bs, C, hbs, rfl, HS, HP, HB, HK, HG⟩ := hrel
        by_cases hbn : bs < n
        · rcases hbs with rfl | rfl | rfl
          · have bI : (20 : Int) < (n : Int) := by omega
            rw [show ((20 : Nat) : Int) = 20 from rfl]
            have HKD : Hid (BKa C 40 n 0) := Lib.hid (fun u p h0 h2 h3 h4 => by
              by_cases hp : p < 40 * u + 20
              · have u1 := HK.out (2 * u) p (Nat.zero_le _) (by omega) (by omega) h4
                omega
              · have u1 := HK.out (2 * u + 1) p (Nat.zero_le _) (by omega) (by omega) h4
                omega)
            go_wp2_with fail
            go_loopw [7, 8] (fun va vb wr => ∃ (t a b : Nat) (C : List Int), a = 40 * t ∧ b = 40 * t + 40 ∧ a ≤ n ∧ va = .int .i64 (a : Nat) ∧ vb = .int .i64 (b : Nat) ∧ Hid (SR base 47 g n c Q wr C) ∧ Hid (C.Perm D) ∧ Hid (∀ u, u < t → Srt (fr Q) C (40 * u) (40 * u + 40)) ∧ Hid (∀ u, 2 * t ≤ u → Srt (fr Q) C (20 * u) (min (20 * u + 20) n)) ∧ Hid (BKa C 20 n a) ∧ Hid (BKa C 40 n 0) ∧ Hid (w.grownBy wr (some g))) (fun _ vb _ => n + 40 - (intOf vb).toNat)
            case atStart => exact ⟨0, 0, 40, C, rfl, rfl, by omega, rfl, rfl, HS, HP, Lib.hid (fun u hu => by omega), Lib.hid (fun u hu => HB.out u), HK, HKD, HG⟩
            case round =>
              clear HS HP HB HK HKD HG
              obtain ⟨t, a, b, C, hat, hbt, han, rfl, rfl, HS, HP, HB1, HB2, HK, HKD, HG⟩ := hrel
              obtain ⟨m, hm⟩ : ∃ m, m = a + 20 := ⟨_, rfl⟩
              have em : (a : Int) + 20 = (m : Int) := by omega
              have wm : IntKind.i64.wrap (m : Int) = (m : Int) := IntWalk.i64_in _ ⟨by omega, by omega⟩
              have HAT := Lib.hid hat
              have HBT := Lib.hid hbt
              have HM := Lib.hid hm
              have hn70 : b ≤ n + 40 := by omega
              have ham : a < m := by omega
              have hmb : m < b := by omega
              by_cases hbn : b ≤ n
              · have bI : (b : Int) ≤ (n : Int) := by omega
                have hs1 : Srt (fr Q) C a m := by
                  have := HB2.out (2 * t) (by omega)
                  rw [show 20 * (2 * t) = a by omega, show min (a + 20) n = m by omega] at this
                  exact this
                have hs2 : Srt (fr Q) C m b := by
                  have := HB2.out (2 * t + 1) (by omega)
                  rw [show 20 * (2 * t + 1) = m by omega, show min (m + 20) n = b by omega] at this
                  exact this
                have hcx : Cx C a m b := fun p q p1 p2 p3 p4 => by
                  have u1 := HK.out (2 * t) p p1 (by omega) (by omega) (by omega)
                  have u2 := HK.out (2 * t + 1) q (by omega) (by omega) (by omega) (by omega)
                  omega
                have HY := Lib.hid (sym_any base g n c Q (b - a + 1) a m b C _ (by omega) ham hmb hbn HS.out hs1 hs2 hcx)
                obtain ⟨b', hb'⟩ : ∃ b', b' = b + 40 := ⟨_, rfl⟩
                have eb : (b : Int) + 40 = (b' : Int) := by omega
                have wb : IntKind.i64.wrap (b' : Int) = (b' : Int) := IntWalk.i64_in _ ⟨by omega, by omega⟩
                have HBB := Lib.hid hb'
                have hbb : b < b' := by omega
                clear hat hbt hm hs1 hs2 hcx hb'
                go_wp2_with fail
                refine HY.out.mono ?_
                rintro e w1 ⟨rfl, g1, E, s1, q1, t1⟩
                have HS' := Lib.hid s1
                have HG' := Lib.hid (HG.out.trans g1)
                have HP' := Lib.hid (q1.perm.trans HP.out)
                have H1' : Hid (∀ u, u < t + 1 → Srt (fr Q) E (40 * u) (40 * u + 40)) := Lib.hid (fun u hu => by
                  have h1 := HAT.out
                  have h2 := HBT.out
                  by_cases hut : u = t
                  · subst hut; rw [← h1, show a + 40 = b by omega]; exact t1
                  · exact (HB1.out u (by omega)).out q1 (.inl (by omega)))
                have H2' : Hid (∀ u, 2 * (t + 1) ≤ u → Srt (fr Q) E (20 * u) (min (20 * u + 20) n)) := Lib.hid (fun u hu => by
                  have h1 := HAT.out
                  have h2 := HBT.out
                  exact (HB2.out u (by omega)).out q1 (.inr (by omega)))
                have HK2 : Hid (BKa E 20 n b) := Lib.hid (fun u p h0 h2 h3 h4 => by
                  rw [q1.out p (.inr h0)]
                  exact HK.out u p (by have a1 := HAT.out; have b1 := HBT.out; omega) h2 h3 h4)
                have HKD2 : Hid (BKa E 40 n 0) := Lib.hid (fun u p h0 h2 h3 h4 => by
                  have a1 := HAT.out
                  have b1 := HBT.out
                  by_cases hp : a ≤ p ∧ p < b
                  · obtain ⟨j, j1, j2, e⟩ := q1.mem p hp.1 hp.2
                    rw [e]
                    exact HKD.out u j (Nat.zero_le _) (by omega) (by omega) (by omega)
                  · rw [q1.out p (by omega)]
                    exact HKD.out u p h0 h2 h3 h4)
                have ha' : b = 40 * (t + 1) := by have := HBT.out; omega
                have hb'' : b' = 40 * (t + 1) + 40 := by have := HBB.out; have := HBT.out; omega
                have HA2 := Lib.hid ha'
                have HB3 := Lib.hid hb''
                clear s1 g1 q1 t1 ha' hb''
                go_wp2_with fail
                go_roundw
                case rel => exact ⟨t + 1, b, b', E, HA2.out, HB3.out, hbn, rfl, rfl, HS', HP', H1', H2', HK2, HKD2, HG'⟩
                case measure => (simp [intOf] <;> omega)
              · have bI : ¬ (b : Int) ≤ (n : Int) := by omega
                by_cases hmn : m < n
                · have mI : (m : Int) < (n : Int) := by omega
                  have hs1 : Srt (fr Q) C a m := by
                    have := HB2.out (2 * t) (by omega)
                    rw [show 20 * (2 * t) = a by omega, show min (a + 20) n = m by omega] at this
                    exact this
                  have hs2 : Srt (fr Q) C m n := by
                    have := HB2.out (2 * t + 1) (by omega)
                    rw [show 20 * (2 * t + 1) = m by omega, show min (m + 20) n = n by omega] at this
                    exact this
                  have hcx : Cx C a m n := fun p q p1 p2 p3 p4 => by
                    have u1 := HK.out (2 * t) p p1 (by omega) (by omega) (by omega)
                    have u2 := HK.out (2 * t + 1) q (by omega) (by omega) (by omega) (by omega)
                    omega
                  have HY := Lib.hid (sym_any base g n c Q (n - a + 1) a m n C _ (by omega) ham hmn (Nat.le_refl _) HS.out hs1 hs2 hcx)
                  clear hat hbt hm hs1 hs2 hcx
                  go_wp2_with fail
                  refine HY.out.mono ?_
                  rintro e w1 ⟨rfl, g1, E, s1, q1, t1⟩
                  have HS' := Lib.hid s1
                  have HG' := Lib.hid (HG.out.trans g1)
                  have HP' := Lib.hid (q1.perm.trans HP.out)
                  have H1' : Hid (∀ u, Srt (fr Q) E (40 * u) (min (40 * u + 40) n)) := Lib.hid (fun u => by
                    have h1 := HAT.out
                    have h2 := HBT.out
                    by_cases hut : u = t
                    · subst hut; rw [← h1, show min (a + 40) n = n by omega]; exact t1
                    · by_cases hut2 : u < t
                      · rw [show min (40 * u + 40) n = 40 * u + 40 by omega]
                        exact (HB1.out u hut2).out q1 (.inl (by omega))
                      · exact Srt.one (by omega))
                  have HKD2 : Hid (BKa E 40 n 0) := Lib.hid (fun u p h0 h2 h3 h4 => by
                    have a1 := HAT.out
                    have b1 := HBT.out
                    by_cases hp : a ≤ p ∧ p < n
                    · obtain ⟨j, j1, j2, e⟩ := q1.mem p hp.1 hp.2
                      rw [e]
                      exact HKD.out u j (Nat.zero_le _) (by omega) (by omega) (by omega)
                    · rw [q1.out p (by omega)]
                      exact HKD.out u p h0 h2 h3 h4)
                  clear s1 g1 q1 t1
                  go_wp2_with fail
                  go_roundw
                  case rel => exact ⟨40, E, by omega, rfl, HS', HP', H1', HKD2, HG'⟩
                  case measure => (simp [intOf] <;> omega)
                · have mI : ¬ (m : Int) < (n : Int) := by omega
                  have H1' : Hid (∀ u, Srt (fr Q) C (40 * u) (min (40 * u + 40) n)) := Lib.hid (fun u => by
                    by_cases hut : u = t
                    · subst hut
                      have := HB2.out (2 * u) (by omega)
                      rw [show 20 * (2 * u) = 40 * u by omega] at this
                      exact this.sub (Nat.le_refl _) (by omega)
                    · by_cases hut2 : u < t
                      · rw [show min (40 * u + 40) n = 40 * u + 40 by omega]
                        exact HB1.out u hut2
                      · exact Srt.one (by omega))
                  clear hat hbt hm
                  go_wp2_with fail
                  go_roundw
                  case rel => exact ⟨40, C, by omega, rfl, HS, HP, H1', HKD, HG⟩
                  case measure => (simp [intOf] <;> omega)
          · have bI : (40 : Int) < (n : Int) := by omega
            rw [show ((40 : Nat) : Int) = 40 from rfl]
            have HKD : Hid (BKa C 80 n 0) := Lib.hid (fun u p h0 h2 h3 h4 => by
              by_cases hp : p < 80 * u + 40
              · have u1 := HK.out (2 * u) p (Nat.zero_le _) (by omega) (by omega) h4
                omega
              · have u1 := HK.out (2 * u + 1) p (Nat.zero_le _) (by omega) (by omega) h4
                omega)
            go_wp2_with fail
            go_loopw [7, 8] (fun va vb wr => ∃ (t a b : Nat) (C : List Int), a = 80 * t ∧ b = 80 * t + 80 ∧ a ≤ n ∧ va = .int .i64 (a : Nat) ∧ vb = .int .i64 (b : Nat) ∧ Hid (SR base 47 g n c Q wr C) ∧ Hid (C.Perm D) ∧ Hid (∀ u, u < t → Srt (fr Q) C (80 * u) (80 * u + 80)) ∧ Hid (∀ u, 2 * t ≤ u → Srt (fr Q) C (40 * u) (min (40 * u + 40) n)) ∧ Hid (BKa C 40 n a) ∧ Hid (BKa C 80 n 0) ∧ Hid (w.grownBy wr (some g))) (fun _ vb _ => n + 80 - (intOf vb).toNat)
            case atStart => exact ⟨0, 0, 80, C, rfl, rfl, by omega, rfl, rfl, HS, HP, Lib.hid (fun u hu => by omega), Lib.hid (fun u hu => HB.out u), HK, HKD, HG⟩
            case round =>
              clear HS HP HB HK HKD HG
              obtain ⟨t, a, b, C, hat, hbt, han, rfl, rfl, HS, HP, HB1, HB2, HK, HKD, HG⟩ := hrel
              obtain ⟨m, hm⟩ : ∃ m, m = a + 40 := ⟨_, rfl⟩
              have em : (a : Int) + 40 = (m : Int) := by omega
              have wm : IntKind.i64.wrap (m : Int) = (m : Int) := IntWalk.i64_in _ ⟨by omega, by omega⟩
              have HAT := Lib.hid hat
              have HBT := Lib.hid hbt
              have HM := Lib.hid hm
              have hn70 : b ≤ n + 80 := by omega
              have ham : a < m := by omega
              have hmb : m < b := by omega
              by_cases hbn : b ≤ n
              · have bI : (b : Int) ≤ (n : Int) := by omega
                have hs1 : Srt (fr Q) C a m := by
                  have := HB2.out (2 * t) (by omega)
                  rw [show 40 * (2 * t) = a by omega, show min (a + 40) n = m by omega] at this
                  exact this
                have hs2 : Srt (fr Q) C m b := by
                  have := HB2.out (2 * t + 1) (by omega)
                  rw [show 40 * (2 * t + 1) = m by omega, show min (m + 40) n = b by omega] at this
                  exact this
                have hcx : Cx C a m b := fun p q p1 p2 p3 p4 => by
                  have u1 := HK.out (2 * t) p p1 (by omega) (by omega) (by omega)
                  have u2 := HK.out (2 * t + 1) q (by omega) (by omega) (by omega) (by omega)
                  omega
                have HY := Lib.hid (sym_any base g n c Q (b - a + 1) a m b C _ (by omega) ham hmb hbn HS.out hs1 hs2 hcx)
                obtain ⟨b', hb'⟩ : ∃ b', b' = b + 80 := ⟨_, rfl⟩
                have eb : (b : Int) + 80 = (b' : Int) := by omega
                have wb : IntKind.i64.wrap (b' : Int) = (b' : Int) := IntWalk.i64_in _ ⟨by omega, by omega⟩
                have HBB := Lib.hid hb'
                have hbb : b < b' := by omega
                clear hat hbt hm hs1 hs2 hcx hb'
                go_wp2_with fail
                refine HY.out.mono ?_
                rintro e w1 ⟨rfl, g1, E, s1, q1, t1⟩
                have HS' := Lib.hid s1
                have HG' := Lib.hid (HG.out.trans g1)
                have HP' := Lib.hid (q1.perm.trans HP.out)
                have H1' : Hid (∀ u, u < t + 1 → Srt (fr Q) E (80 * u) (80 * u + 80)) := Lib.hid (fun u hu => by
                  have h1 := HAT.out
                  have h2 := HBT.out
                  by_cases hut : u = t
                  · subst hut; rw [← h1, show a + 80 = b by omega]; exact t1
                  · exact (HB1.out u (by omega)).out q1 (.inl (by omega)))
                have H2' : Hid (∀ u, 2 * (t + 1) ≤ u → Srt (fr Q) E (40 * u) (min (40 * u + 40) n)) := Lib.hid (fun u hu => by
                  have h1 := HAT.out
                  have h2 := HBT.out
                  exact (HB2.out u (by omega)).out q1 (.inr (by omega)))
                have HK2 : Hid (BKa E 40 n b) := Lib.hid (fun u p h0 h2 h3 h4 => by
                  rw [q1.out p (.inr h0)]
                  exact HK.out u p (by have a1 := HAT.out; have b1 := HBT.out; omega) h2 h3 h4)
                have HKD2 : Hid (BKa E 80 n 0) := Lib.hid (fun u p h0 h2 h3 h4 => by
                  have a1 := HAT.out
                  have b1 := HBT.out
                  by_cases hp : a ≤ p ∧ p < b
                  · obtain ⟨j, j1, j2, e⟩ := q1.mem p hp.1 hp.2
                    rw [e]
                    exact HKD.out u j (Nat.zero_le _) (by omega) (by omega) (by omega)
                  · rw [q1.out p (by omega)]
                    exact HKD.out u p h0 h2 h3 h4)
                have ha' : b = 80 * (t + 1) := by have := HBT.out; omega
                have hb'' : b' = 80 * (t + 1) + 80 := by have := HBB.out; have := HBT.out; omega
                have HA2 := Lib.hid ha'
                have HB3 := Lib.hid hb''
                clear s1 g1 q1 t1 ha' hb''
                go_wp2_with fail
                go_roundw
                case rel => exact ⟨t + 1, b, b', E, HA2.out, HB3.out, hbn, rfl, rfl, HS', HP', H1', H2', HK2, HKD2, HG'⟩
                case measure => (simp [intOf] <;> omega)
              · have bI : ¬ (b : Int) ≤ (n : Int) := by omega
                by_cases hmn : m < n
                · have mI : (m : Int) < (n : Int) := by omega
                  have hs1 : Srt (fr Q) C a m := by
                    have := HB2.out (2 * t) (by omega)
                    rw [show 40 * (2 * t) = a by omega, show min (a + 40) n = m by omega] at this
                    exact this
                  have hs2 : Srt (fr Q) C m n := by
                    have := HB2.out (2 * t + 1) (by omega)
                    rw [show 40 * (2 * t + 1) = m by omega, show min (m + 40) n = n by omega] at this
                    exact this
                  have hcx : Cx C a m n := fun p q p1 p2 p3 p4 => by
                    have u1 := HK.out (2 * t) p p1 (by omega) (by omega) (by omega)
                    have u2 := HK.out (2 * t + 1) q (by omega) (by omega) (by omega) (by omega)
                    omega
                  have HY := Lib.hid (sym_any base g n c Q (n - a + 1) a m n C _ (by omega) ham hmn (Nat.le_refl _) HS.out hs1 hs2 hcx)
                  clear hat hbt hm hs1 hs2 hcx
                  go_wp2_with fail
                  refine HY.out.mono ?_
                  rintro e w1 ⟨rfl, g1, E, s1, q1, t1⟩
                  have HS' := Lib.hid s1
                  have HG' := Lib.hid (HG.out.trans g1)
                  have HP' := Lib.hid (q1.perm.trans HP.out)
                  have H1' : Hid (∀ u, Srt (fr Q) E (80 * u) (min (80 * u + 80) n)) := Lib.hid (fun u => by
                    have h1 := HAT.out
                    have h2 := HBT.out
                    by_cases hut : u = t
                    · subst hut; rw [← h1, show min (a + 80) n = n by omega]; exact t1
                    · by_cases hut2 : u < t
                      · rw [show min (80 * u + 80) n = 80 * u + 80 by omega]
                        exact (HB1.out u hut2).out q1 (.inl (by omega))
                      · exact Srt.one (by omega))
                  have HKD2 : Hid (BKa E 80 n 0) := Lib.hid (fun u p h0 h2 h3 h4 => by
                    have a1 := HAT.out
                    have b1 := HBT.out
                    by_cases hp : a ≤ p ∧ p < n
                    · obtain ⟨j, j1, j2, e⟩ := q1.mem p hp.1 hp.2
                      rw [e]
                      exact HKD.out u j (Nat.zero_le _) (by omega) (by omega) (by omega)
                    · rw [q1.out p (by omega)]
                      exact HKD.out u p h0 h2 h3 h4)
                  clear s1 g1 q1 t1
                  go_wp2_with fail
                  go_roundw
                  case rel => exact ⟨80, E, by omega, rfl, HS', HP', H1', HKD2, HG'⟩
                  case measure => (simp [intOf] <;> omega)
                · have mI : ¬ (m : Int) < (n : Int) := by omega
                  have H1' : Hid (∀ u, Srt (fr Q) C (80 * u) (min (80 * u + 80) n)) := Lib.hid (fun u => by
                    by_cases hut : u = t
                    · subst hut
                      have := HB2.out (2 * u) (by omega)
                      rw [show 40 * (2 * u) = 80 * u by omega] at this
                      exact this.sub (Nat.le_refl _) (by omega)
                    · by_cases hut2 : u < t
                      · rw [show min (80 * u + 80) n = 80 * u + 80 by omega]
                        exact HB1.out u hut2
                      · exact Srt.one (by omega))
                  clear hat hbt hm
                  go_wp2_with fail
                  go_roundw
                  case rel => exact ⟨80, C, by omega, rfl, HS, HP, H1', HKD, HG⟩
                  case measure => (simp [intOf] <;> omega)
          · exfalso; omega
        · have bI : ¬ (bs : Int) < (n : Int) := by omega
          have HF : Hid (Srt (fr Q) C 0 n) := Lib.hid (by
            have := HB.out 0
            rw [Nat.mul_zero, show min (0 + bs) n = n by omega] at this
            exact this)
          go_wp2_with fail
          exact bodyPost_end (results_none rfl _ _ _) rfl ⟨rfl, HG.out, C, HS.out, HP.out, HF.out⟩
theorem sortS_any {base g n c : Nat} {Q : Rcs} {D : List Int} {w : World} (h : SR base 47 g n c Q w D) (hid_ : ∀ p, p < n → gt D p = (p : Int)) :
    Calls Try.prog 53 #[.slice (some ⟨g, 0, none⟩) n c, .func (.func 45) #[] #[]] w fun e w' =>
      e = .returned (.tuple #[]) ∧ w.grownBy w' (some g) ∧ ∃ C, SR base 47 g n c Q w' C ∧ C.Perm D ∧ Srt (fr Q) C 0 n := by
  have H := Lib.hid h
  have HID := Lib.hid hid_
  clear h hid_
  go_enter Try.func53, Try.ntmps53
  go_wp2_with fail
  refine (stable_any H.out HID.out).mono ?_
  rintro e w1 ⟨rfl, g1, C, s1, p1, t1⟩
  have HH := Lib.hid (show w.grownBy w1 (some g) ∧ ∃ C, SR base 47 g n c Q w1 C ∧ C.Perm D ∧ Srt (fr Q) C 0 n from ⟨g1, C, s1, p1, t1⟩)
  clear g1 s1 p1 t1
  go_wp2_with fail
  exact bodyPost_end (results_none rfl _ _ _) rfl ⟨rfl, HH.out⟩
end Go.Proofs.Ytifjihpnhmemgaa
