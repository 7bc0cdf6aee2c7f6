/- MergeOrder, the reference's side. -/
import Derived.Test.YtphcfjdhichfkaaMOrd
namespace Go.Proofs.Ytphcfjdhichfkaa
open Go.RowKit
set_option linter.unusedVariables false
theorem tail_reads {w : World} {base g N c k : Nat} {t : TypeId} {zs : List Int} (h : w.ownsRow base t 1 (.slice (some ⟨g, 0, none⟩) N c) N (ints zs)) (hk : k ≤ N) :
    Reads w w.heap.size 1 (if c = k then some ⟨g, 0, none⟩ else some ⟨g, k, none⟩) (N - k) (ints (zs.drop k)) := by
  have hl : zs.length = N := by have := h.1; simpa [ints] using this
  refine ⟨by simp [ints, hl], fun h0 => ?_⟩
  obtain ⟨g', c', hv, hg, hlt, hnc, _⟩ := own_some h (by omega)
  simp only [Value.slice.injEq, Option.some.injEq, Addr.mk.injEq] at hv
  obtain ⟨⟨rfl, _⟩, _, rfl⟩ := hv
  rw [if_neg (by omega)]
  refine ⟨_, rfl, hlt, fun j u hu => ?_⟩
  have hj : j < N - k := by
    have := (List.getElem?_eq_some_iff.1 hu).1
    simpa [ints, hl] using this
  rw [Addr.add_lit, h.cellAt (k + j) (by omega), ← hu]
  simp [ints]
theorem pad_srt (zs : List Int) (j : Nat) (h : (zs.all fun x => inB x 1 100000) = true) : srt (List.replicate j 0 ++ srt zs) = List.replicate j 0 ++ srt zs := by
  refine (srt_of (List.Perm.refl _) ?_).symm
  rw [List.pairwise_append]
  refine ⟨List.pairwise_replicate.2 (.inr (by omega)), srt_pair zs, fun a ha b hb => ?_⟩
  have h1 := List.eq_of_mem_replicate ha
  have h2 : b ∈ zs := (srt_perm zs).mem_iff.1 hb
  have h3 := List.all_eq_true.1 h b h2
  have := (inB_iff.1 h3).1
  omega
set_option maxRecDepth 100000 in
set_option maxHeartbeats 6400000 in
theorem sMergeOrder_true (A0 : Option Addr) (z0 : List Int) (c0 m : Nat) (w : World) (hx0 : Reads w w.heap.size 1 A0 z0.length (ints z0)) (h40 : z0.length ≤ 40) (hm1 : 1 ≤ m) (hm2 : m ≤ 15) :
    Calls Try.prog 32 #[.slice A0 z0.length c0, .int .i64 ((m : Int) + 1)] w fun e w' => ∃ A c, e = .returned (.tuple #[.slice A (moV z0 ((m : Int) + 1)).length c, .int .i64 (sumW (moV z0 ((m : Int) + 1))), .bool (moOk z0 ((m : Int) + 1))]) ∧
      w'.ownsRow w.heap.size 3 1 (.slice A (moV z0 ((m : Int) + 1)).length c) (moV z0 ((m : Int) + 1)).length (ints (moV z0 ((m : Int) + 1))) ∧ Below w.heap.size w w' := by
  obtain ⟨i0, hi, hz0, hz1, hz2⟩ := info_parts (show (Try.prog.info? 3).map (fun i => (i.zero, i.size, i.bytes)) = some (some (.int .i64 0), 1, 8) by kernel_rfl)
  have h40' : ¬ (z0.length : Int) > 40 := by omega
  have HIN := Lib.hid (show inB ((m : Int) + 1) 2 16 = true from inB_iff.2 ⟨by omega, by omega⟩)
  have e1 : ((m : Int) + 1).toNat = m + 1 := by omega
  have HTV := Lib.hid (show (z0.all fun x => inB x 1 100000) = true → moOk z0 ((m : Int) + 1) = true ∧ moV z0 ((m : Int) + 1) = moL (m + 1) 64 (moPad z0 m) [] from fun hv => by
    have hok : moOk z0 ((m : Int) + 1) = true := by simp only [moOk, hv, HIN.out]; simp [h40]
    exact ⟨hok, by simp [moV, hok, e1]⟩)
  clear e1
  have hbA := alloc_ (Below.refl w.heap.size w) (.cells #[] 3)
  have hblkA := Blk.new w 3 #[]
  have hrA := hx0.alloc (Nat.le_refl _) (.cells #[] 3)
  go_enter Try.func32, Try.ntmps32
  go_wp2_with (go_at_call 61; refine (l1In_any _ _ _ _).mono ?_; rintro e w' ⟨rfl, rfl⟩; rw [HIN.out])
  go_loop [8] (fun i => ∃ k : Nat, k ≤ z0.length ∧ i = .int .i64 k ∧ (z0.take k).all (fun x => inB x 1 100000) = true) (fun i => 65 - (intOf i).toNat)
  case atStart => exact ⟨0, by omega, rfl, by simp⟩
  case round =>
    obtain ⟨k, hk, rfl, hn⟩ := hrel
    have Hn := Lib.hid hn; clear hn
    by_cases hlt : k < z0.length
    · obtain ⟨ad, rfl, -, hc⟩ := hrA.int hlt
      cases hp : inB z0[k] 1 100000
      · have HP := Lib.hid hp; clear hp
        have hno : (z0.all fun x => inB x 1 100000) = false := all_hit hlt HP.out
        have EO := Lib.hid (show moOk z0 ((m : Int) + 1) = false from by simp [moOk, hno])
        have EV := Lib.hid (show moV z0 ((m : Int) + 1) = [] from by simp [moV, EO.out])
        clear hno
        have hout := World.ownsRow_made (base := w.heap.size) (size := 1) (e := 3) w #[] 0 (Nat.le_refl _) (by simp) (by simp)
        go_wp2_with (go_at_call 61; refine (l1In_any _ _ _ _).mono ?_; rintro e w' ⟨rfl, rfl⟩; rw [HP.out])
        exact bodyPost_ret (v := .tuple #[.slice (some ⟨w.heap.size, 0, none⟩) 0 0, .int .i64 0, .bool false]) (by simp [results, Try.results32, go_sem]) rfl ⟨some ⟨w.heap.size, 0, none⟩, 0, by rw [EO.out, EV.out]; rfl, by rw [EV.out]; exact hout, hbA⟩
      · have HP := Lib.hid hp; clear hp
        go_wp2_with (go_at_call 61; refine (l1In_any _ _ _ _).mono ?_; rintro e w' ⟨rfl, rfl⟩; rw [HP.out])
        go_round
        case rel => exact ⟨k + 1, by omega, by go_num, all_take_succ hlt Hn.out HP.out⟩
        case measure => simp [intOf]; omega
    · have hv : (z0.all fun x => inB x 1 100000) = true := all_end (by omega) Hn.out
      have HV := Lib.hid hv
      obtain ⟨EO', EV'⟩ := HTV.out hv
      have EO := Lib.hid EO'
      have EV := Lib.hid EV'
      clear hv EO' EV' HTV
      have HSL := Lib.hid (srt_len z0)
      go_wp2_with fail
      refine (l2Sorted_any A0 z0 c0 _ (hrA.more (by simp)) (by omega)).mono ?_
      rintro e w2 ⟨v2, rfl, hown, hb2⟩
      have hbw := bthen hbA (by exact hb2)
      by_cases h2 : 2 ≤ z0.length
      · have hne2 : v2.ownBlock ≠ some w.heap.size := fun e => by have := (own_lt hown _ e).1; simp at this; omega
        have hownA := own_base (base' := w.heap.size) hown hbA.size
        have hblkB := hblkA.below_ (by exact hb2)
        go_wp2_with fail
        go_loopw [9] (fun v wr => ∃ (j : Nat), Hid (j + need m (z0.length + j - 1) = need m (z0.length - 1)) ∧ Below w.heap.size w wr ∧ wr.ownsRow w.heap.size 3 1 v (z0.length + j) (ints (List.replicate j 0 ++ srt z0)) ∧
          v.ownBlock ≠ some w.heap.size ∧ Blk wr w.heap.size 3 #[]) (fun v _ => (match v with | .slice _ n _ => 64 - n | _ => 0))
        case atStart => exact ⟨0, Lib.hid (by simp), hbw, by simpa using hownA, hne2, hblkB⟩
        case round =>
          clear hownA hblkB hne2 hown hbw hb2 hblkA hbA hrA
          obtain ⟨j, HJ, hb, hown, hne, hblk⟩ := hrel
          have hj16 : j ≤ 15 := by have := HJ.out; have := need_lt (m := m) (k := z0.length - 1) (by omega); omega
          obtain ⟨A, c, rfl⟩ := own_slice hown
          have hI1 : (1 : Int) < (z0.length : Int) + j := by omega
          by_cases hr : (z0.length + j - 1) % m = 0
          · have hj : j = need m (z0.length - 1) := by have := HJ.out; rw [need_zero hr] at this; omega
            have hout : wr.ownsRow w.heap.size 3 1 (.slice (some ⟨w.heap.size, 0, none⟩) 0 0) 0 (ints []) := ⟨rfl, .inr ⟨w.heap.size, 0, #[], rfl, Nat.le_refl _, hblk, Nat.le_refl _, by simp, rfl, rfl⟩⟩
            have hpl : (List.replicate j 0 ++ srt z0).length = z0.length + j := by simp [HSL.out]; omega
            have hps : srt (List.replicate j 0 ++ srt z0) = List.replicate j 0 ++ srt z0 := pad_srt z0 j HV.out
            have hpp : (List.replicate j 0 ++ srt z0).Perm (moPad z0 m) := by
              have e : moPad z0 m = z0 ++ List.replicate j 0 := by simp [moPad, h2, ← hj]
              rw [e]
              exact (List.Perm.append_left _ (srt_perm z0)).trans List.perm_append_comm
            have hmo : moL (m + 1) 64 (List.replicate j 0 ++ srt z0) [] = moL (m + 1) 64 (moPad z0 m) [] := mo_perm hpp
            have HMD := Lib.hid (show ((List.replicate j 0 ++ srt z0).length - 1) % m = 0 by rw [hpl]; exact hr)
            have hP55 : (List.replicate j 0 ++ srt z0).length ≤ 55 := by omega
            have hP2 : 2 ≤ (List.replicate j 0 ++ srt z0).length := by omega
            rw [← hpl] at hown hne ⊢
            have HPS := Lib.hid hps
            have HMO := Lib.hid hmo
            clear hps hpp hmo hj hr HJ hj16 hpl hI1 hblk
            generalize hGP : List.replicate j 0 ++ srt z0 = P0 at *
            clear hGP
            have hI1 : (1 : Int) < (P0.length : Nat) := by omega
            have hrem : ((((P0.length : Nat) : Int) - 1) % (m : Int) != 0) = false := by
              have h := mo_rem_f (n := P0.length) (j := 0) (m := m) (by omega) HMD.out
              simpa using h
            go_wp2_with fail
            go_loopw [7, 9, 10] (fun o v t wr => ∃ (zs out : List Int) (f : Nat), zs.length ≤ 55 ∧ zs.length ≤ f ∧ out.length + f ≤ 64 ∧ t = .int .i64 (sumW out) ∧ Hid (moL (m + 1) f zs out = moL (m + 1) 64 (moPad z0 m) []) ∧ Hid ((zs.length - 1) % m = 0) ∧ Hid (srt zs = zs) ∧
              Below w.heap.size w wr ∧ wr.ownsRow w.heap.size 3 1 v zs.length (ints zs) ∧ wr.ownsRow w.heap.size 3 1 o out.length (ints out) ∧ (v.ownBlock = none ∨ v.ownBlock ≠ o.ownBlock)) (fun _ v _ _ => (match v with | .slice _ n _ => n | _ => 0))
            case atStart => exact ⟨P0, [], 64, hP55, by omega, by simp, rfl, HMO, HMD, HPS, hb, hown, hout, .inr hne⟩
            case round =>
              clear hout HMD hrem hb hown hne HPS HMO hP55 hP2 hI1
              obtain ⟨zs, out, f, hz55, hzf, hof, rfl, HM, HD, HS, hb, hown, hout, hne⟩ := hrel
              obtain ⟨Ao, co, rfl⟩ := own_slice hout
              by_cases h1 : 1 < zs.length
              · have h1' : (1 : Int) < (zs.length : Nat) := by omega
                obtain ⟨g3, c3, rfl, hg3, hgl3, hnc3, hcm3⟩ := own_some hown (by omega)
                obtain ⟨hW, hD2⟩ := mo_div (by omega) HD.out h1
                have HD2 := Lib.hid hD2; clear hD2
                obtain ⟨f, rfl⟩ : ∃ q, f = q + 1 := ⟨f - 1, by omega⟩
                have hm := mo_step (W := m + 1) (f := f) (out := out) h1
                rw [HS.out] at hm
                have HM2 := Lib.hid (hm.symm.trans HM.out)
                clear hm
                go_wp2_with fail
                go_loop [11, 12] (fun t i => ∃ k : Nat, k ≤ m + 1 ∧ i = .int .i64 k ∧ t = .int .i64 (sumW (zs.take k))) (fun _ i => m + 1 - (intOf i).toNat)
                case atStart => exact ⟨0, by omega, rfl, rfl⟩
                case round =>
                  obtain ⟨k, hk, rfl, rfl⟩ := hrel
                  by_cases hlt : k < m + 1
                  · have hkz : k < zs.length := by omega
                    have hc := hown.cellAt k (by omega)
                    rw [ints_get hkz] at hc
                    have hi1 : (k : Int) < (m : Int) + 1 := by omega
                    go_wp2_with fail
                    go_round
                    case rel => exact ⟨k + 1, by omega, by go_num, by rw [sumW_succ hkz]⟩
                    case measure => simp [intOf]; omega
                  · obtain rfl : k = m + 1 := by omega
                    have hi1 : ¬ ((m + 1 : Nat) : Int) < (m : Int) + 1 := by omega
                    generalize hsz : sumW (zs.take (m + 1)) = sz at *
                    have HSZ := Lib.hid hsz; clear hsz
                    go_upto_region 21 with (at_builtin; refine wpList_push _ rfl _ _ 24 rfl w.heap.size 3 i0 _ 1 8 Try.underlying24 hi hz0 hz1 hz2 rfl (by decide) (.slice Ao out.length co) _ _ rfl hout #[.int .i64 sz] rfl rfl (by simp [Value.oneCell']) (by omega) (by unfold maxLen; omega) hb.size ?_; intro g5 d5 w5 hown5 hg5 hb5 hat5)
                    have hown35 := hown.kept hg5 hne
                    have hbw5 := hb.trans hb5
                    have hg5l : g5 < w5.heap.size := (own_lt hown5 g5 rfl).2
                    have hone := own_full (base := w.heap.size) (e := 3) (size := 1) w5 #[.int .i64 sz] 1 hbw5.size (by unfold maxLen; omega) rfl
                    have htr := tail_reads (k := m + 1) (World.ownsRow.alloc hown35 (.cells #[.int .i64 sz] 3)) hW
                    have hbA5 := alloc_ hbw5 (.cells #[.int .i64 sz] 3)
                    go_wp2_with (at_builtin; go_loud (refine wpList_append_any _ rfl _ _ 24 rfl w.heap.size 3 i0 _ 1 8 Try.underlying24 hi hz0 hz1 hz2 rfl (by decide) _ 1 _ rfl hone _ _ _ _ (ints (zs.drop (m + 1))) rfl htr (by intro u hu; simp only [ints, List.mem_map] at hu; obtain ⟨z, _, rfl⟩ := hu; rfl) (by unfold maxLen; omega) (by omega) hbA5.size ?_; intro v6 w6 hown6 hg6 hat6))
                    all_goals (
                      have hb6 := hbA5.trans (below_of_grown (B := w.heap.size) hg6 hbA5.size (by intro q hq; have h1 := Option.some.inj hq; rw [← h1]; exact hbw5.size))
                      have hout6 : w6.ownsRow w.heap.size 3 1 (.slice (some ⟨g5, 0, none⟩) (out.length + 1) d5) (out.length + 1) (ints out ++ [.int .i64 sz]) := own_kept (World.ownsRow.alloc hown5 _) hg6 (by intro e; have h1 : g5 = w5.heap.size := Option.some.inj e; omega)
                      obtain ⟨A6, c6, rfl⟩ := own_slice hown6
                      have hl6 : (sz :: zs.drop (m + 1)).length = 1 + (zs.length - (m + 1)) := by simp; omega
                      have hr6 : Reads w6 w6.heap.size 1 A6 (sz :: zs.drop (m + 1)).length (ints (sz :: zs.drop (m + 1))) := by
                        rw [hl6]
                        have := Reads.of_own hown6
                        simpa [ints] using this
                      have hc := l2Sorted_any A6 (sz :: zs.drop (m + 1)) c6 w6 hr6 (by omega)
                      rw [hl6] at hc
                      refine hc.mono ?_
                      clear hc
                      rintro e w7 ⟨v7, rfl, hown7, hb7⟩
                      have hne7 := own_ne_old hout6 hown7 (Nat.le_refl _)
                      have hout7 := own_below hout6 hb7 (Nat.le_refl _)
                      have hown8 := own_base (base' := w.heap.size) hown7 hb6.size
                      have hol : out.length + 1 = (out ++ [sz]).length := by simp
                      have HOT : Hid (ints out ++ [.int .i64 sz] = ints (out ++ [sz])) := Lib.hid (by simp [ints])
                      have hsl : (srt (sz :: zs.drop (m + 1))).length = 1 + (zs.length - (m + 1)) := by rw [srt_len, hl6]
                      have HM3 := Lib.hid (show moL (m + 1) f (srt (sz :: zs.drop (m + 1))) (out ++ [sz]) = moL (m + 1) 64 (moPad z0 m) [] by
                        rw [← HM2.out]
                        exact mo_perm ((srt_perm _).trans (List.perm_append_comm (l₁ := [sz]))))
                      have HD3 := Lib.hid (show ((srt (sz :: zs.drop (m + 1))).length - 1) % m = 0 by rw [hsl, Nat.add_comm]; exact HD2.out)
                      have HSW := Lib.hid (sumW_snoc out sz)
                      rw [← hsl] at hown8
                      rw [HOT.out] at hout7
                      have HSL7 := Lib.hid hsl
                      have HOL := Lib.hid hol
                      clear hsl hol hl6 hr6
                      go_wp2_with fail
                      go_roundw
                      case rel => exact ⟨_, _, f, by have := HSL7.out; omega, by have := HSL7.out; omega, by have := HOL.out; omega, by rw [HSW.out], HM3, HD3, Lib.hid (srt_idem _), bthen hb6 hb7, hown8, by rw [← HOL.out]; exact hout7, hne7⟩
                      case measure =>
                        obtain ⟨A8, c8, rfl⟩ := own_slice hown8
                        have := HSL7.out; simp; omega)
              · have h1' : ¬ (1 : Int) < (zs.length : Nat) := by omega
                obtain ⟨Av, cv, rfl⟩ := own_slice hown
                have hs := mo_stop (W := m + 1) (f := f) (out := out) h1
                have HM2 := HM.out
                rw [hs] at HM2
                have HS := Lib.hid HM2
                clear hs HM2
                go_wp2_with fail
                exact bodyPost_ret (v := .tuple #[.slice Ao out.length co, .int .i64 (sumW out), .bool true]) (by simp [results, Try.results32, go_sem]) rfl ⟨Ao, co, by rw [EO.out, EV.out, ← HS.out], by rw [EV.out, ← HS.out]; exact hout, hb⟩
          · have hrem : (((z0.length : Int) + j - 1) % (m : Int) != 0) = true := mo_rem_t (by omega) hr
            have HJ2 := Lib.hid (show (j + 1) + need m (z0.length + (j + 1) - 1) = need m (z0.length - 1) by
              have h1 := HJ.out
              rw [need_step (by omega) hr, show z0.length + j - 1 + 1 = z0.length + (j + 1) - 1 by omega] at h1
              omega)
            clear hr
            have hzr : Reads wr wr.heap.size 1 A (z0.length + j) (ints (List.replicate j 0 ++ srt z0)) := Reads.of_own hown
            have hone := own_full (base := w.heap.size) (e := 3) (size := 1) wr #[.int .i64 0] 1 hb.size (by unfold maxLen; omega) rfl
            go_wp2_with (at_builtin; go_loud (refine wpList_append_any _ rfl _ _ 24 rfl w.heap.size 3 i0 _ 1 8 Try.underlying24 hi hz0 hz1 hz2 rfl (by decide) _ 1 _ rfl hone wr.heap.size A (z0.length + j) c (ints (List.replicate j 0 ++ srt z0)) rfl (hzr.alloc (Nat.le_refl _) _) (by intro u hu; simp only [ints, List.mem_map] at hu; obtain ⟨z, _, rfl⟩ := hu; rfl) (by unfold maxLen; omega) (by omega) (alloc_ hb (.cells #[.int .i64 0] 3)).size ?_; intro v3 w3 hown3 hg3 hat3))
            have hb3 := (alloc_ hb (.cells #[.int .i64 0] 3)).trans (below_of_grown (B := w.heap.size) hg3 (alloc_ hb (.cells #[.int .i64 0] 3)).size (by intro q hq; have h1 := Option.some.inj hq; rw [← h1]; exact hb.size))
            have hlt := hblk.lt
            go_roundw
            case rel =>
              refine ⟨j + 1, HJ2, hb3, ?_, ?_, (hblk.alloc _).grown hg3 (fun e => by have h1 : w.heap.size = wr.heap.size := Option.some.inj e; omega)⟩
              · have e : ints (List.replicate (j + 1) 0 ++ srt z0) = [.int .i64 0] ++ ints (List.replicate j 0 ++ srt z0) := by simp [ints, List.replicate_succ]
                rw [e, show z0.length + (j + 1) = 1 + (z0.length + j) by omega]
                exact hown3
              · intro e
                rcases hat3 with h | h
                · rw [h] at e; have h1 : wr.heap.size = w.heap.size := Option.some.inj e; omega
                · rw [h] at e; have h1 := Option.some.inj e; simp only [World.size_alloc] at h1; omega
            case measure =>
              obtain ⟨A3, c3, rfl⟩ := own_slice hown3
              simp; omega
      · have h2' : ¬ (1 : Int) < z0.length := by omega
        obtain ⟨A2, c2, rfl⟩ := own_slice hown
        have HMO := Lib.hid (show moL (m + 1) 64 (moPad z0 m) [] = [] from mo_stop (by simp [moPad, h2]; omega))
        have hout := own_below (World.ownsRow_made (base := w.heap.size) (size := 1) (e := 3) w #[] 0 (Nat.le_refl _) (by simp) (by simp)) hb2 (Nat.le_refl _)
        have hdn : decide ((1 : Int) < z0.length) = false := by simpa using h2'
        go_wp2_with fail
        go_loopw [9] (fun v wr => v = .slice A2 z0.length c2 ∧ wr = w2) (fun _ _ => 0)
        case atStart => exact ⟨rfl, rfl⟩
        case round =>
          obtain ⟨rfl, hw⟩ := hrel
          rw [hw]
          clear hw
          go_wp2_with fail
          go_loopw [7, 9, 10] (fun o v t wr => o = .slice (some ⟨w.heap.size, 0, none⟩) 0 0 ∧ v = .slice A2 z0.length c2 ∧ t = .int .i64 0 ∧ wr = w2) (fun _ _ _ _ => 0)
          case atStart => exact ⟨rfl, rfl, rfl, rfl⟩
          case round =>
            obtain ⟨rfl, rfl, rfl, hw⟩ := hrel
            rw [hw]
            clear hw
            go_wp2_with fail
            exact bodyPost_ret (v := .tuple #[.slice (some ⟨w.heap.size, 0, none⟩) 0 0, .int .i64 0, .bool true]) (by simp [results, Try.results32, go_sem]) rfl ⟨some ⟨w.heap.size, 0, none⟩, 0, by rw [EO.out, EV.out, HMO.out]; rfl, by rw [EV.out, HMO.out]; exact hout, hbw⟩
theorem sMergeOrder_any (A0 : Option Addr) (z0 : List Int) (c0 : Nat) (y : Int) (w : World) (hx0 : Reads w w.heap.size 1 A0 z0.length (ints z0)) (hl0 : z0.length ≤ 1048576) :
    Calls Try.prog 32 #[.slice A0 z0.length c0, .int .i64 y] w fun e w' => ∃ A c, e = .returned (.tuple #[.slice A (moV z0 y).length c, .int .i64 (sumW (moV z0 y)), .bool (moOk z0 y)]) ∧
      w'.ownsRow w.heap.size 3 1 (.slice A (moV z0 y).length c) (moV z0 y).length (ints (moV z0 y)) ∧ Below w.heap.size w w' := by
  by_cases h40 : z0.length ≤ 40
  · have h40' : ¬ (z0.length : Int) > 40 := by omega
    cases hy : inB y 2 16
    · have hok : moOk z0 y = false := by simp [moOk, hy]
      have hbA := alloc_ (Below.refl w.heap.size w) (.cells #[] 3)
      have hout := World.ownsRow_made (base := w.heap.size) (size := 1) (e := 3) w #[] 0 (Nat.le_refl _) (by simp) (by simp)
      rw [show moV z0 y = [] from by simp [moV, hok], hok]
      go_enter Try.func32, Try.ntmps32
      go_wp2_with (go_at_call 61; refine (l1In_any _ _ _ _).mono ?_; rintro e w' ⟨rfl, rfl⟩; rw [hy])
      exact bodyPost_ret (v := .tuple #[.slice (some ⟨w.heap.size, 0, none⟩) 0 0, .int .i64 0, .bool false]) (by simp [results, Try.results32, go_sem]) rfl ⟨some ⟨w.heap.size, 0, none⟩, 0, rfl, hout, hbA⟩
    · obtain ⟨y1, y2⟩ := inB_iff.1 hy
      obtain ⟨m, rfl⟩ : ∃ m : Nat, y = (m : Int) + 1 := ⟨(y - 1).toNat, by omega⟩
      exact sMergeOrder_true A0 z0 c0 m w hx0 h40 (by omega) (by omega)
  · have h40' : (z0.length : Int) > 40 := by omega
    have hok : moOk z0 y = false := by simp [moOk, h40]
    have hbA := alloc_ (Below.refl w.heap.size w) (.cells #[] 3)
    have hout := World.ownsRow_made (base := w.heap.size) (size := 1) (e := 3) w #[] 0 (Nat.le_refl _) (by simp) (by simp)
    rw [show moV z0 y = [] from by simp [moV, hok], hok]
    go_enter Try.func32, Try.ntmps32
    go_wp2_with fail
    exact bodyPost_ret (v := .tuple #[.slice (some ⟨w.heap.size, 0, none⟩) 0 0, .int .i64 0, .bool false]) (by simp [results, Try.results32, go_sem]) rfl ⟨some ⟨w.heap.size, 0, none⟩, 0, rfl, hout, hbA⟩
end Go.Proofs.Ytphcfjdhichfkaa
