/- A stable sort of at most 64 indices by their keys. -/
import Derived.Test.YtfpojoabfdiadaaStbT
namespace Go.Proofs.Ytfpojoabfdiadaa
open Go.RowKit
set_option linter.unusedVariables false
set_option maxRecDepth 100000 in
set_option maxHeartbeats 3200000 in
theorem stable_any {base g n c gk gK ck : Nat} {K D : List Int} {w : World} (h : SS base 3 g n c gk gK ck K w D) :
    Calls Try.prog 36 #[.slice (some ⟨g, 0, none⟩) n c, .int .i64 (n : Nat), .func (.func 26) #[] #[.pointer (some ⟨gk, 0, none⟩)]] w fun e w' =>
      e = .returned (.tuple #[]) ∧ w.grownBy w' (some g) ∧ ∃ C, SS base 3 g n c gk gK ck K w' C ∧ C.Perm D ∧ Srt (kf K) C 0 n := by
  have H := Lib.hid h
  have hn := h.n64
  clear h
  go_enter Try.func36, Try.ntmps36
  go_wp2_with fail
  go_loopw [7, 8] (fun va vb wr => ∃ (t a b : Nat) (C : List Int), a = 20 * t ∧ b = 20 * t + 20 ∧ a ≤ n ∧ va = .int .i64 (a : Nat) ∧ vb = .int .i64 (b : Nat) ∧ Hid (SS base 3 g n c gk gK ck K wr C) ∧ Hid (C.Perm D) ∧ Hid (∀ u, u < t → Srt (kf K) C (20 * u) (20 * u + 20)) ∧ Hid (w.grownBy wr (some g))) (fun _ vb _ => n + 20 - (intOf vb).toNat)
  case atStart => exact ⟨0, 0, 20, D, rfl, rfl, by omega, rfl, rfl, H, Lib.hid (List.Perm.refl _), Lib.hid (fun u hu => by omega), Lib.hid (World.grownBy.refl _ _)⟩
  case round =>
    clear H
    obtain ⟨t, a, b, C, hat, hbt, han, rfl, rfl, HS, HP, HB1, HG⟩ := hrel
    have HAT := Lib.hid hat
    have HBT := Lib.hid hbt
    by_cases hbn : b ≤ n
    · have bI : (b : Int) ≤ (n : Int) := by omega
      have HY := Lib.hid (ins_any HS.out a b hbn han)
      obtain ⟨b', hb'⟩ : ∃ b', b' = b + 20 := ⟨_, rfl⟩
      have eb : (b : Int) + 20 = (b' : Int) := by omega
      have wb : IntKind.i64.wrap (b' : Int) = (b' : Int) := IntWalk.i64_in _ ⟨by omega, by omega⟩
      have HBB := Lib.hid hb'
      have hbb : b < b' := by omega
      have hn70 : b' ≤ n + 20 := by omega
      clear hat hbt hb'
      go_wp2_with fail
      refine HY.out.mono ?_
      rintro e w1 ⟨rfl, g1, E, s1, q1, t1⟩
      have HS' := Lib.hid s1
      have HG' := Lib.hid (HG.out.trans g1)
      have HP' := Lib.hid (q1.perm.trans HP.out)
      have H1' : Hid (∀ u, u < t + 1 → Srt (kf K) E (20 * u) (20 * u + 20)) := Lib.hid (fun u hu => by
        have h1 := HAT.out
        have h2 := HBT.out
        by_cases hut : u = t
        · subst hut; rw [← h1, show a + 20 = b by omega]; exact t1
        · exact (HB1.out u (by omega)).out q1 (.inl (by omega)))
      have HA2 : Hid (b = 20 * (t + 1)) := Lib.hid (by have := HBT.out; omega)
      have HB3 : Hid (b' = 20 * (t + 1) + 20) := Lib.hid (by have := HBB.out; have := HBT.out; omega)
      clear s1 g1 q1 t1
      go_wp2_with fail
      go_roundw
      case rel => exact ⟨t + 1, b, b', E, HA2.out, HB3.out, hbn, rfl, rfl, HS', HP', H1', HG'⟩
      case measure => (simp [intOf] <;> omega)
    · have bI : ¬ (b : Int) ≤ (n : Int) := by omega
      have HY := Lib.hid (ins_any HS.out a n (Nat.le_refl _) han)
      have hbn2 : n < b := by omega
      clear hat hbt
      go_wp2_with fail
      refine HY.out.mono ?_
      rintro e w1 ⟨rfl, g1, E, s1, q1, t1⟩
      have HS0 := Lib.hid s1
      have HG0 := Lib.hid (HG.out.trans g1)
      have HP0 := Lib.hid (q1.perm.trans HP.out)
      have HB0 : Hid (∀ u, Srt (kf K) E (20 * u) (min (20 * u + 20) n)) := Lib.hid (fun u => by
        have h1 := HAT.out
        have h2 := HBT.out
        by_cases hut : u = t
        · subst hut; rw [← h1, show min (a + 20) n = n by omega]; exact t1
        · by_cases hut2 : u < t
          · rw [show min (20 * u + 20) n = 20 * u + 20 by omega]
            exact (HB1.out u hut2).out q1 (.inl (by omega))
          · exact Srt.one (by omega))
      clear s1 g1 q1 t1 HS HP HB1 HG HAT HBT HY
      go_wp2_with fail
      go_loopw [6] (fun vb wr => ∃ (bs : Nat) (C : List Int), (bs = 20 ∨ bs = 40 ∨ bs = 80) ∧ vb = .int .i64 (bs : Nat) ∧ Hid (SS base 3 g n c gk gK ck K wr C) ∧ Hid (C.Perm D) ∧ Hid (∀ u, Srt (kf K) C (bs * u) (min (bs * u + bs) n)) ∧ Hid (w.grownBy wr (some g))) (fun vb _ => 80 - (intOf vb).toNat)
      case atStart => exact ⟨20, E, by omega, rfl, HS0, HP0, HB0, HG0⟩
      case round =>
        clear HS0 HP0 HB0 HG0
        obtain ⟨bs, C, hbs, rfl, HS, HP, HB, HG⟩ := hrel
        by_cases hbn : bs < n
        · rcases hbs with rfl | rfl | rfl
          · have bI : (20 : Int) < (n : Int) := by omega
            rw [show ((20 : Nat) : Int) = 20 from rfl]
            go_wp2_with fail
            go_loopw [7, 8] (fun va vb wr => ∃ (t a b : Nat) (C : List Int), a = 40 * t ∧ b = 40 * t + 40 ∧ a ≤ n ∧ va = .int .i64 (a : Nat) ∧ vb = .int .i64 (b : Nat) ∧ Hid (SS base 3 g n c gk gK ck K wr C) ∧ Hid (C.Perm D) ∧ Hid (∀ u, u < t → Srt (kf K) C (40 * u) (40 * u + 40)) ∧ Hid (∀ u, 2 * t ≤ u → Srt (kf K) C (20 * u) (min (20 * u + 20) n)) ∧ Hid (w.grownBy wr (some g))) (fun _ vb _ => n + 40 - (intOf vb).toNat)
            case atStart => exact ⟨0, 0, 40, C, rfl, rfl, by omega, rfl, rfl, HS, HP, Lib.hid (fun u hu => by omega), Lib.hid (fun u hu => HB.out u), HG⟩
            case round =>
              clear HS HP HB HG
              obtain ⟨t, a, b, C, hat, hbt, han, rfl, rfl, HS, HP, HB1, HB2, HG⟩ := hrel
              obtain ⟨m, hm⟩ : ∃ m, m = a + 20 := ⟨_, rfl⟩
              have em : (a : Int) + 20 = (m : Int) := by omega
              have wm : IntKind.i64.wrap (m : Int) = (m : Int) := IntWalk.i64_in _ ⟨by omega, by omega⟩
              have HAT := Lib.hid hat
              have HBT := Lib.hid hbt
              have HM := Lib.hid hm
              have hn70 : b ≤ n + 40 := by omega
              have ham : a < m := by omega
              have hmb : m < b := by omega
              by_cases hbn : b ≤ n
              · have bI : (b : Int) ≤ (n : Int) := by omega
                have hs1 : Srt (kf K) C a m := by
                  have := HB2.out (2 * t) (by omega)
                  rw [show 20 * (2 * t) = a by omega, show min (a + 20) n = m by omega] at this
                  exact this
                have hs2 : Srt (kf K) C m b := by
                  have := HB2.out (2 * t + 1) (by omega)
                  rw [show 20 * (2 * t + 1) = m by omega, show min (m + 20) n = b by omega] at this
                  exact this
                have HY := Lib.hid (sym_any base g n c gk gK ck K (b - a + 1) a m b C _ (by omega) ham hmb hbn HS.out hs1 hs2)
                obtain ⟨b', hb'⟩ : ∃ b', b' = b + 40 := ⟨_, rfl⟩
                have eb : (b : Int) + 40 = (b' : Int) := by omega
                have wb : IntKind.i64.wrap (b' : Int) = (b' : Int) := IntWalk.i64_in _ ⟨by omega, by omega⟩
                have HBB := Lib.hid hb'
                have hbb : b < b' := by omega
                clear hat hbt hm hs1 hs2 hb'
                go_wp2_with fail
                refine HY.out.mono ?_
                rintro e w1 ⟨rfl, g1, E, s1, q1, t1⟩
                have HS' := Lib.hid s1
                have HG' := Lib.hid (HG.out.trans g1)
                have HP' := Lib.hid (q1.perm.trans HP.out)
                have H1' : Hid (∀ u, u < t + 1 → Srt (kf K) E (40 * u) (40 * u + 40)) := Lib.hid (fun u hu => by
                  have h1 := HAT.out
                  have h2 := HBT.out
                  by_cases hut : u = t
                  · subst hut; rw [← h1, show a + 40 = b by omega]; exact t1
                  · exact (HB1.out u (by omega)).out q1 (.inl (by omega)))
                have H2' : Hid (∀ u, 2 * (t + 1) ≤ u → Srt (kf K) E (20 * u) (min (20 * u + 20) n)) := Lib.hid (fun u hu => by
                  have h1 := HAT.out
                  have h2 := HBT.out
                  exact (HB2.out u (by omega)).out q1 (.inr (by omega)))
                have ha' : b = 40 * (t + 1) := by have := HBT.out; omega
                have hb'' : b' = 40 * (t + 1) + 40 := by have := HBB.out; have := HBT.out; omega
                have HA2 := Lib.hid ha'
                have HB3 := Lib.hid hb''
                clear s1 g1 q1 t1 ha' hb''
                go_wp2_with fail
                go_roundw
                case rel => exact ⟨t + 1, b, b', E, HA2.out, HB3.out, hbn, rfl, rfl, HS', HP', H1', H2', HG'⟩
                case measure => (simp [intOf] <;> omega)
              · have bI : ¬ (b : Int) ≤ (n : Int) := by omega
                by_cases hmn : m < n
                · have mI : (m : Int) < (n : Int) := by omega
                  have hs1 : Srt (kf K) C a m := by
                    have := HB2.out (2 * t) (by omega)
                    rw [show 20 * (2 * t) = a by omega, show min (a + 20) n = m by omega] at this
                    exact this
                  have hs2 : Srt (kf K) C m n := by
                    have := HB2.out (2 * t + 1) (by omega)
                    rw [show 20 * (2 * t + 1) = m by omega, show min (m + 20) n = n by omega] at this
                    exact this
                  have HY := Lib.hid (sym_any base g n c gk gK ck K (n - a + 1) a m n C _ (by omega) ham hmn (Nat.le_refl _) HS.out hs1 hs2)
                  clear hat hbt hm hs1 hs2
                  go_wp2_with fail
                  refine HY.out.mono ?_
                  rintro e w1 ⟨rfl, g1, E, s1, q1, t1⟩
                  have HS' := Lib.hid s1
                  have HG' := Lib.hid (HG.out.trans g1)
                  have HP' := Lib.hid (q1.perm.trans HP.out)
                  have H1' : Hid (∀ u, Srt (kf K) E (40 * u) (min (40 * u + 40) n)) := Lib.hid (fun u => by
                    have h1 := HAT.out
                    have h2 := HBT.out
                    by_cases hut : u = t
                    · subst hut; rw [← h1, show min (a + 40) n = n by omega]; exact t1
                    · by_cases hut2 : u < t
                      · rw [show min (40 * u + 40) n = 40 * u + 40 by omega]
                        exact (HB1.out u hut2).out q1 (.inl (by omega))
                      · exact Srt.one (by omega))
                  clear s1 g1 q1 t1
                  go_wp2_with fail
                  go_roundw
                  case rel => exact ⟨40, E, by omega, rfl, HS', HP', H1', HG'⟩
                  case measure => (simp [intOf] <;> omega)
                · have mI : ¬ (m : Int) < (n : Int) := by omega
                  have H1' : Hid (∀ u, Srt (kf K) C (40 * u) (min (40 * u + 40) n)) := Lib.hid (fun u => by
                    by_cases hut : u = t
                    · subst hut
                      have := HB2.out (2 * u) (by omega)
                      rw [show 20 * (2 * u) = 40 * u by omega] at this
                      exact this.sub (Nat.le_refl _) (by omega)
                    · by_cases hut2 : u < t
                      · rw [show min (40 * u + 40) n = 40 * u + 40 by omega]
                        exact HB1.out u hut2
                      · exact Srt.one (by omega))
                  clear hat hbt hm
                  go_wp2_with fail
                  go_roundw
                  case rel => exact ⟨40, C, by omega, rfl, HS, HP, H1', HG⟩
                  case measure => (simp [intOf] <;> omega)
          · have bI : (40 : Int) < (n : Int) := by omega
            rw [show ((40 : Nat) : Int) = 40 from rfl]
            go_wp2_with fail
            go_loopw [7, 8] (fun va vb wr => ∃ (t a b : Nat) (C : List Int), a = 80 * t ∧ b = 80 * t + 80 ∧ a ≤ n ∧ va = .int .i64 (a : Nat) ∧ vb = .int .i64 (b : Nat) ∧ Hid (SS base 3 g n c gk gK ck K wr C) ∧ Hid (C.Perm D) ∧ Hid (∀ u, u < t → Srt (kf K) C (80 * u) (80 * u + 80)) ∧ Hid (∀ u, 2 * t ≤ u → Srt (kf K) C (40 * u) (min (40 * u + 40) n)) ∧ Hid (w.grownBy wr (some g))) (fun _ vb _ => n + 80 - (intOf vb).toNat)
            case atStart => exact ⟨0, 0, 80, C, rfl, rfl, by omega, rfl, rfl, HS, HP, Lib.hid (fun u hu => by omega), Lib.hid (fun u hu => HB.out u), HG⟩
            case round =>
              clear HS HP HB HG
              obtain ⟨t, a, b, C, hat, hbt, han, rfl, rfl, HS, HP, HB1, HB2, HG⟩ := hrel
              obtain ⟨m, hm⟩ : ∃ m, m = a + 40 := ⟨_, rfl⟩
              have em : (a : Int) + 40 = (m : Int) := by omega
              have wm : IntKind.i64.wrap (m : Int) = (m : Int) := IntWalk.i64_in _ ⟨by omega, by omega⟩
              have HAT := Lib.hid hat
              have HBT := Lib.hid hbt
              have HM := Lib.hid hm
              have hn70 : b ≤ n + 80 := by omega
              have ham : a < m := by omega
              have hmb : m < b := by omega
              by_cases hbn : b ≤ n
              · have bI : (b : Int) ≤ (n : Int) := by omega
                have hs1 : Srt (kf K) C a m := by
                  have := HB2.out (2 * t) (by omega)
                  rw [show 40 * (2 * t) = a by omega, show min (a + 40) n = m by omega] at this
                  exact this
                have hs2 : Srt (kf K) C m b := by
                  have := HB2.out (2 * t + 1) (by omega)
                  rw [show 40 * (2 * t + 1) = m by omega, show min (m + 40) n = b by omega] at this
                  exact this
                have HY := Lib.hid (sym_any base g n c gk gK ck K (b - a + 1) a m b C _ (by omega) ham hmb hbn HS.out hs1 hs2)
                obtain ⟨b', hb'⟩ : ∃ b', b' = b + 80 := ⟨_, rfl⟩
                have eb : (b : Int) + 80 = (b' : Int) := by omega
                have wb : IntKind.i64.wrap (b' : Int) = (b' : Int) := IntWalk.i64_in _ ⟨by omega, by omega⟩
                have HBB := Lib.hid hb'
                have hbb : b < b' := by omega
                clear hat hbt hm hs1 hs2 hb'
                go_wp2_with fail
                refine HY.out.mono ?_
                rintro e w1 ⟨rfl, g1, E, s1, q1, t1⟩
                have HS' := Lib.hid s1
                have HG' := Lib.hid (HG.out.trans g1)
                have HP' := Lib.hid (q1.perm.trans HP.out)
                have H1' : Hid (∀ u, u < t + 1 → Srt (kf K) E (80 * u) (80 * u + 80)) := Lib.hid (fun u hu => by
                  have h1 := HAT.out
                  have h2 := HBT.out
                  by_cases hut : u = t
                  · subst hut; rw [← h1, show a + 80 = b by omega]; exact t1
                  · exact (HB1.out u (by omega)).out q1 (.inl (by omega)))
                have H2' : Hid (∀ u, 2 * (t + 1) ≤ u → Srt (kf K) E (40 * u) (min (40 * u + 40) n)) := Lib.hid (fun u hu => by
                  have h1 := HAT.out
                  have h2 := HBT.out
                  exact (HB2.out u (by omega)).out q1 (.inr (by omega)))
                have ha' : b = 80 * (t + 1) := by have := HBT.out; omega
                have hb'' : b' = 80 * (t + 1) + 80 := by have := HBB.out; have := HBT.out; omega
                have HA2 := Lib.hid ha'
                have HB3 := Lib.hid hb''
                clear s1 g1 q1 t1 ha' hb''
                go_wp2_with fail
                go_roundw
                case rel => exact ⟨t + 1, b, b', E, HA2.out, HB3.out, hbn, rfl, rfl, HS', HP', H1', H2', HG'⟩
                case measure => (simp [intOf] <;> omega)
              · have bI : ¬ (b : Int) ≤ (n : Int) := by omega
                by_cases hmn : m < n
                · have mI : (m : Int) < (n : Int) := by omega
                  have hs1 : Srt (kf K) C a m := by
                    have := HB2.out (2 * t) (by omega)
                    rw [show 40 * (2 * t) = a by omega, show min (a + 40) n = m by omega] at this
                    exact this
                  have hs2 : Srt (kf K) C m n := by
                    have := HB2.out (2 * t + 1) (by omega)
                    rw [show 40 * (2 * t + 1) = m by omega, show min (m + 40) n = n by omega] at this
                    exact this
                  have HY := Lib.hid (sym_any base g n c gk gK ck K (n - a + 1) a m n C _ (by omega) ham hmn (Nat.le_refl _) HS.out hs1 hs2)
                  clear hat hbt hm hs1 hs2
                  go_wp2_with fail
                  refine HY.out.mono ?_
                  rintro e w1 ⟨rfl, g1, E, s1, q1, t1⟩
                  have HS' := Lib.hid s1
                  have HG' := Lib.hid (HG.out.trans g1)
                  have HP' := Lib.hid (q1.perm.trans HP.out)
                  have H1' : Hid (∀ u, Srt (kf K) E (80 * u) (min (80 * u + 80) n)) := Lib.hid (fun u => by
                    have h1 := HAT.out
                    have h2 := HBT.out
                    by_cases hut : u = t
                    · subst hut; rw [← h1, show min (a + 80) n = n by omega]; exact t1
                    · by_cases hut2 : u < t
                      · rw [show min (80 * u + 80) n = 80 * u + 80 by omega]
                        exact (HB1.out u hut2).out q1 (.inl (by omega))
                      · exact Srt.one (by omega))
                  clear s1 g1 q1 t1
                  go_wp2_with fail
                  go_roundw
                  case rel => exact ⟨80, E, by omega, rfl, HS', HP', H1', HG'⟩
                  case measure => (simp [intOf] <;> omega)
                · have mI : ¬ (m : Int) < (n : Int) := by omega
                  have H1' : Hid (∀ u, Srt (kf K) C (80 * u) (min (80 * u + 80) n)) := Lib.hid (fun u => by
                    by_cases hut : u = t
                    · subst hut
                      have := HB2.out (2 * u) (by omega)
                      rw [show 40 * (2 * u) = 80 * u by omega] at this
                      exact this.sub (Nat.le_refl _) (by omega)
                    · by_cases hut2 : u < t
                      · rw [show min (80 * u + 80) n = 80 * u + 80 by omega]
                        exact HB1.out u hut2
                      · exact Srt.one (by omega))
                  clear hat hbt hm
                  go_wp2_with fail
                  go_roundw
                  case rel => exact ⟨80, C, by omega, rfl, HS, HP, H1', HG⟩
                  case measure => (simp [intOf] <;> omega)
          · exfalso; omega
        · have bI : ¬ (bs : Int) < (n : Int) := by omega
          have HF : Hid (Srt (kf K) C 0 n) := Lib.hid (by
            have := HB.out 0
            rw [Nat.mul_zero, show min (0 + bs) n = n by omega] at this
            exact this)
          go_wp2_with fail
          exact bodyPost_end (results_none rfl _ _ _) rfl ⟨rfl, HG.out, C, HS.out, HP.out, HF.out⟩
theorem sortS_any {base g n c gk gK ck : Nat} {K D : List Int} {w : World} (h : SS base 3 g n c gk gK ck K w D) :
    Calls Try.prog 25 #[.slice (some ⟨g, 0, none⟩) n c, .func (.func 26) #[] #[.pointer (some ⟨gk, 0, none⟩)]] w fun e w' =>
      e = .returned (.tuple #[]) ∧ w.grownBy w' (some g) ∧ ∃ C, SS base 3 g n c gk gK ck K w' C ∧ C.Perm D ∧ Srt (kf K) C 0 n := by
  have H := Lib.hid h
  clear h
  go_enter Try.func25, Try.ntmps25
  go_wp2_with fail
  refine (stable_any H.out).mono ?_
  rintro e w1 ⟨rfl, g1, C, s1, p1, t1⟩
  have HH := Lib.hid (show w.grownBy w1 (some g) ∧ ∃ C, SS base 3 g n c gk gK ck K w1 C ∧ C.Perm D ∧ Srt (kf K) C 0 n from ⟨g1, C, s1, p1, t1⟩)
  clear g1 s1 p1 t1
  go_wp2_with fail
  exact bodyPost_end (results_none rfl _ _ _) rfl ⟨rfl, HH.out⟩
end Go.Proofs.Ytfpojoabfdiadaa
