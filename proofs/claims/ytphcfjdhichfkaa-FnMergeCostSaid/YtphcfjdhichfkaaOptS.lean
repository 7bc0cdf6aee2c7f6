/- OptimalMergeCost, the reference's side. -/
import Derived.Test.YtphcfjdhichfkaaOpt
namespace Go.Proofs.Ytphcfjdhichfkaa
open Go.RowKit
set_option linter.unusedVariables false
set_option maxRecDepth 100000 in
set_option maxHeartbeats 1600000 in
theorem sOptimalMergeCost_any (A0 : Option Addr) (z0 : List Int) (c0 : Nat) (w : World) (hx0 : Reads w w.heap.size 1 A0 z0.length (ints z0)) (hl0 : z0.length ≤ 1048576) :
    Calls Try.prog 29 #[.slice A0 z0.length c0] w fun e w' => e = .returned (.tuple #[.int .i64 (omV z0), .bool (omOk z0)]) ∧ Below w.heap.size w w' := by
  obtain ⟨i0, hi, hz0, hz1, hz2⟩ := info_parts (show (Try.prog.info? 3).map (fun i => (i.zero, i.size, i.bytes)) = some (some (.int .i64 0), 1, 8) by kernel_rfl)
  by_cases h64 : z0.length ≤ 64
  · have h' : ¬ (z0.length : Int) > 64 := by omega
    go_enter Try.func29, Try.ntmps29
    go_wp2_with fail
    go_loop [4] (fun i => ∃ k : Nat, k ≤ z0.length ∧ i = .int .i64 k ∧ (z0.take k).all (fun x => inB x 1 1000) = true) (fun i => 65 - (intOf i).toNat)
    case atStart => exact ⟨0, by omega, rfl, by simp⟩
    case round =>
      obtain ⟨k, hk, rfl, hn⟩ := hrel
      have Hn := Lib.hid hn; clear hn
      by_cases hlt : k < z0.length
      · obtain ⟨ad, rfl, -, hc⟩ := hx0.int hlt
        cases hp : inB z0[k] 1 1000
        · have HP := Lib.hid hp; clear hp
          have hno : (z0.all fun x => inB x 1 1000) = false := all_hit hlt HP.out
          have EV := Lib.hid (show omV z0 = 0 from by simp [omV, omOk, hno])
          have EO := Lib.hid (show omOk z0 = false from by simp [omOk, hno])
          clear hno
          go_wp2_with (go_at_call 61; refine (l1In_any _ _ _ _).mono ?_; rintro e w' ⟨rfl, rfl⟩; rw [HP.out])
          exact bodyPost_ret (v := .tuple #[.int .i64 0, .bool false]) (by simp [results, Try.results29, go_sem]) rfl ⟨by rw [EV.out, EO.out], Below.refl _ _⟩
        · have HP := Lib.hid hp; clear hp
          go_wp2_with (go_at_call 61; refine (l1In_any _ _ _ _).mono ?_; rintro e w' ⟨rfl, rfl⟩; rw [HP.out])
          go_round
          case rel => exact ⟨k + 1, by omega, by go_num, all_take_succ hlt Hn.out HP.out⟩
          case measure => simp [intOf]; omega
      · have hv : (z0.all fun x => inB x 1 1000) = true := all_end (by omega) Hn.out
        have EV := Lib.hid (show omV z0 = mcL 64 (srt z0) 0 from by simp only [omV, omOk, hv]; simp [h64])
        have EO := Lib.hid (show omOk z0 = true from by simp only [omOk, hv]; simp [h64])
        clear hv
        have hsl := srt_len z0
        go_wp2_with fail
        refine (l2Sorted_any A0 z0 c0 _ hx0 (by omega)).mono ?_
        rintro e w2 ⟨v2, rfl, hown, hb2⟩
        go_wp2_with fail
        go_loopw [5, 6] (fun v t wr => ∃ (zs : List Int) (x : Int) (f : Nat), t = .int .i64 x ∧ zs.length ≤ f ∧ f ≤ 64 ∧ Hid (mcL f zs x = mcL 64 (srt z0) 0) ∧ Below w.heap.size w wr ∧ wr.ownsRow w.heap.size 3 1 v zs.length (ints zs)) (fun v _ _ => (match v with | .slice _ n _ => n | _ => 0))
        case atStart => exact ⟨srt z0, 0, 64, rfl, by omega, by omega, Lib.hid rfl, hb2, by rw [hsl]; exact hown⟩
        case round =>
          clear hown hb2 hsl
          obtain ⟨zs, x, f, rfl, hzf, hf, HM, hb, hown⟩ := hrel
          by_cases h2 : 2 ≤ zs.length
          · rcases zs with _ | ⟨a, _ | ⟨b, r⟩⟩
            · simp at h2
            · simp at h2
            obtain ⟨g, c, rfl, hg, hgl, hnc, hcm⟩ := own_some hown (by simp)
            obtain ⟨f, rfl⟩ : ∃ q, f = q + 1 := ⟨f - 1, by omega⟩
            have k0 := hown.cellAt 0 (by simp)
            have k1 := hown.cellAt 1 (by simp)
            simp [ints] at k0 k1
            have hrl : (a :: b :: r).length = r.length + 2 := rfl
            have HR := Lib.hid hrl
            rw [hrl] at hown hzf hnc ⊢
            clear hrl h2
            have hI : (1 : Int) < ((r.length + 2 : Nat) : Int) := by omega
            have hI0 : (0 : Int) < ((r.length + 2 : Nat) : Int) := by omega
            have hrd : ∀ A, (¬ c = 2 → A = some (⟨g, 2, none⟩ : Addr)) → Reads wr wr.heap.size 1 A r.length (ints r) := by
              intro A hA
              refine ⟨by simp [ints], fun hr => ⟨⟨g, 2, none⟩, hA (by omega), hgl, fun j u hu => ?_⟩⟩
              have hj : j < r.length := by
                have := (List.getElem?_eq_some_iff.1 hu).1
                simp [ints] at this; omega
              rw [Addr.add_lit, hown.cellAt (2 + j) (by omega)]
              rw [Nat.add_comm 2 j]
              simpa [ints] using hu
            go_wp2_with fail
            go_quiet (fail)
            go_wp2_with fail
            all_goals (
              refine (l1OwnS_any _ r _ (wr.drewN nq) (by exact hrd _ (by first | exact fun hh => rfl | exact fun hh => absurd (by assumption) hh)) (by omega)).mono ?_
              rintro e w4 ⟨v4, rfl, hown4, hb4⟩
              have hba := below_drewN hb nq
              have hbb := bthen hba hb4
              have hown4' := own_base (base' := w.heap.size) hown4 hba.size
              go_wp2_with (at_builtin; refine wpList_push _ rfl _ _ 24 rfl w.heap.size 3 i0 _ 1 8 Try.underlying24 hi hz0 hz1 hz2 rfl (by decide) v4 _ _ rfl hown4' #[.int .i64 (wrap64 (a + b))] rfl rfl (by simp [Value.oneCell']) (by omega) (by unfold maxLen; omega) hbb.size ?_; intro g1 d1 w5 hown5 hg5 hb5 hat5)
              have hl5 : (r ++ [wrap64 (a + b)]).length = r.length + 1 := by simp
              have hown6 : w5.ownsRow w.heap.size 3 1 (.slice (some ⟨g1, 0, none⟩) (r.length + 1) d1) (r.length + 1) (ints (r ++ [wrap64 (a + b)])) := by simpa [ints] using hown5
              have hr5 := Reads.of_own hown6
              rw [← hl5] at hr5
              have hc := l2Sorted_any (some ⟨g1, 0, none⟩) (r ++ [wrap64 (a + b)]) d1 w5 hr5 (by omega)
              rw [hl5] at hc
              refine hc.mono ?_
              clear hc
              rintro e w6 ⟨v6, rfl, hown7, hb7⟩
              obtain ⟨A6, c6, rfl⟩ := own_slice hown7
              have hbc := hbb.trans hb5
              have hsl : (srt (r ++ [wrap64 (a + b)])).length = r.length + 1 := by rw [srt_len, hl5]
              have hown8 := own_base (base' := w.heap.size) hown7 hbc.size
              rw [← hsl] at hown8 ⊢
              have HSL := Lib.hid hsl; clear hsl
              go_wp2_with fail
              go_roundw
              case rel => exact ⟨_, _, f, rfl, by have := HSL.out; omega, by omega, HM, bthen hbc hb7, hown8⟩
              case measure => have := HSL.out; simp; omega)
          · have hs := mcL_short (f := f) (t := x) (show zs.length < 2 by omega)
            have hI : ¬ (1 : Int) < (zs.length : Int) := by omega
            obtain ⟨G, g, rfl⟩ := own_slice hown
            have HM2 := HM.out
            rw [hs] at HM2
            subst HM2
            go_wp2_with fail
            exact bodyPost_ret (v := .tuple #[.int .i64 (mcL 64 (srt z0) 0), .bool true]) (by simp [results, Try.results29, go_sem]) rfl ⟨by rw [EV.out, EO.out], hb⟩
  · have h' : (z0.length : Int) > 64 := by omega
    rw [show omV z0 = 0 from by simp [omV, omOk, h64], show omOk z0 = false from by simp [omOk, h64]]
    go_enter Try.func29, Try.ntmps29
    go_wp2_with fail
    exact bodyPost_ret (v := .tuple #[.int .i64 0, .bool false]) (by simp [results, Try.results29, go_sem]) rfl ⟨rfl, Below.refl _ _⟩
end Go.Proofs.Ytphcfjdhichfkaa
