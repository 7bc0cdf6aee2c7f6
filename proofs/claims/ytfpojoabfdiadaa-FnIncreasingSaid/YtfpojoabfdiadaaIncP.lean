/- PatiencePiles. -/
import Derived.Test.YtfpojoabfdiadaaIncW
import Derived.Test.YtfpojoabfdiadaaNest
import Derived.Deep.RegionHeld3
namespace Go.Proofs.Ytfpojoabfdiadaa
open Go.RowKit
set_option linter.unusedVariables false
theorem topP_get {z : List Int} {u : Nat} (h : z.length = u + 1) : z[u]? = some (topP z) := by
  obtain ⟨b, c, rfl⟩ : ∃ b c, z = b ++ [c] := by
    rcases List.eq_nil_or_concat z with h0 | ⟨a, b, h0⟩
    · rw [h0] at h; simp at h
    · exact ⟨a, b, by simpa using h0⟩
  rw [top_snoc]
  have : b.length = u := by simpa using h
  rw [List.getElem?_append_right (by omega), this]
  simp
theorem pp_take {zs : List Int} {k : Nat} (h : k < zs.length) : (zs.take (k + 1)).foldl pput [] = pput ((zs.take k).foldl pput []) zs[k] := by
  rw [List.take_succ_eq_append_getElem h, List.foldl_append]
  rfl
theorem pp_sum (zs : List Int) (k : Nat) : (((zs.take k).foldl pput []).map List.length).sum ≤ k ∧ ((zs.take k).foldl pput []).length ≤ k := by
  obtain ⟨h1, h2⟩ := ppV_facts (zs.take k)
  have h3 := h2.length_eq
  unfold ppV at h1 h3
  rw [List.length_flatten, List.length_take] at h3
  refine ⟨by omega, ?_⟩
  have : ∀ (P : List (List Int)), (∀ a ∈ P, okP a) → P.length ≤ (P.map List.length).sum := by
    intro P
    induction P with
    | nil => simp
    | cons a P ih =>
      intro h
      have h4 := ih fun b hb => h b (List.mem_cons_of_mem _ hb)
      have h5 := List.length_pos_iff.2 (h a List.mem_cons_self).1
      rw [List.map_cons, List.sum_cons, List.length_cons]
      omega
  have := this _ h1
  omega
theorem pile_any (A : Option Addr) (z : List Int) (n c g B : Nat) (x : Int) (w : World) (hx : Reads w B 1 A n (ints z)) (hn : z.length = n) (h0 : 0 < n) (h64 : n ≤ 64) (hb : w.cell? ⟨g, 0, none⟩ = some (.int .i64 x)) :
    Calls Try.prog 33 #[.slice A n c, .pointer (some ⟨g, 0, none⟩)] w fun e w' => e = .returned (.bool (decide (x ≤ topP z))) ∧ ∃ k, w' = w.drewN k := by
  obtain ⟨u, rfl⟩ : ∃ u, n = u + 1 := ⟨n - 1, by omega⟩
  obtain ⟨ad, v, rfl, -, hu, c1⟩ := hx.at_ (k := u) (by omega)
  rw [ints_at (topP_get hn)] at hu
  cases hu
  have ecast : ((u + 1 : Nat) : Int) = (u : Int) + 1 := by omega
  have ewu : IntKind.i64.wrap (u : Int) = (u : Int) := IntWalk.i64_in _ ⟨by omega, by omega⟩
  have uI : (u : Int) < (u : Int) + 1 := by omega
  generalize topP z = y at *
  clear hx hn
  go_enter Try.func33, Try.ntmps33
  go_upto_region 1 with fail
  go_quiet (fail)
  go_wp2_with fail
  go_ret
  exact ⟨rfl, _, rfl⟩
set_option maxRecDepth 100000 in
set_option maxHeartbeats 1600000 in
theorem indexRR_any (Au : Option Addr) (P : List (List Int)) (p cu g : Nat) (x : Int) (w : World) (hr : ReadsRR w w.heap.size Au P) (hp : P.length = p) (h64 : p ≤ 64) (hne : ∀ a ∈ P, 0 < a.length ∧ a.length ≤ 64) (hb : w.cell? ⟨g, 0, none⟩ = some (.int .i64 x)) (hg : g < w.heap.size) :
    Calls Try.prog 32 #[.slice Au p cu, .func (.func 33) #[] #[.pointer (some ⟨g, 0, none⟩)]] w fun e w' =>
      ∃ y : Int, e = .returned (.int .i64 y) ∧ (posT (P.map topP) x < p → y = (posT (P.map topP) x : Nat)) ∧ (¬ posT (P.map topP) x < p → y = -1) ∧ Below w.heap.size w w' := by
  have HR := Lib.hid hr
  have HP := Lib.hid hp
  have HNE := Lib.hid hne
  obtain ⟨f1, f2, f3⟩ := posT_facts x (P.map topP)
  rw [List.length_map, hp] at f1
  have F2 := Lib.hid f2
  have F3 := Lib.hid f3
  obtain ⟨q, hq⟩ : ∃ q, posT (P.map topP) x = q := ⟨_, rfl⟩
  rw [hq] at f1 F2 F3 ⊢
  clear hr hp hne f2 f3 hq
  go_enter Try.func32, Try.ntmps32
  go_wp2_with fail
  go_loopw [8] (fun i wr => ∃ k : Nat, k ≤ q ∧ i = .int .i64 (k : Nat) ∧ Hid (Below w.heap.size w wr)) (fun i _ => p - (intOf i).toNat)
  case atStart => exact ⟨0, by omega, rfl, Lib.hid (Below.refl _ _)⟩
  case round =>
    obtain ⟨k, hk, rfl, HB⟩ := hrel
    by_cases hlt : k < p
    · have kI : (k : Int) < (p : Int) := by omega
      have hkP : k < P.length := by rw [HP.out]; exact hlt
      obtain ⟨ad, Ai, ci, rfl, c1, r1⟩ := (HR.out.below HB.out).at_ hkP
      obtain ⟨n1, n2⟩ := HNE.out _ (List.getElem_mem hkP)
      have hbx : wr.cell? ⟨g, 0, none⟩ = some (.int .i64 x) := (HB.out.cell (p := ⟨g, 0, none⟩) hg).trans hb
      have hT : (P.map topP)[k]? = some (topP P[k]) := by simp [hkP]
      have HPI := Lib.hid (pile_any Ai P[k] P[k].length ci g _ x wr r1 rfl n1 n2 hbx)
      by_cases hkq : k < q
      · have hlow := F2.out k hkq _ hT
        have hdec : decide (x ≤ topP P[k]) = false := by simp; omega
        rw [hdec] at HPI
        clear hlow hdec hT
        generalize P[k].length = u at *
        go_wp2_with fail
        refine HPI.out.mono ?_
        rintro e w1 ⟨rfl, nd, rfl⟩
        go_wp2_with fail
        go_roundw
        case rel => exact ⟨k + 1, by omega, by go_num, Lib.hid (below_drewN HB.out _)⟩
        case measure => simp [intOf]; omega
      · obtain rfl : k = q := by omega
        have hhi := F3.out _ hT
        have hdec : decide (x ≤ topP P[k]) = true := by simp; omega
        rw [hdec] at HPI
        clear hhi hdec hT
        generalize P[k].length = u at *
        go_wp2_with fail
        refine HPI.out.mono ?_
        rintro e w1 ⟨rfl, nd, rfl⟩
        go_wp2_with fail
        go_ret
        exact ⟨_, rfl, fun _ => rfl, fun h => absurd hlt h, below_drewN HB.out _⟩
    · have kI : ¬ (k : Int) < (p : Int) := by omega
      go_wp2_with fail
      go_ret
      exact ⟨_, rfl, fun h => by omega, fun _ => rfl, HB.out⟩
set_option maxRecDepth 100000 in
set_option maxHeartbeats 3200000 in
theorem PatiencePiles_any (A0 : Option Addr) (zs : List Int) (n c0 : Nat) (w : World) (hx : Reads w w.heap.size 1 A0 n (ints zs)) (hn : zs.length = n) (hv : vList zs = true) :
    Calls Try.prog 19 #[.slice A0 n c0] w fun e w' => ∃ A c, e = .returned (.tuple #[.slice A (ppV zs).length c, .bool true]) ∧ OwnsRR w' w.heap.size 22 3 (.slice A (ppV zs).length c) (ppV zs) ∧ Below w.heap.size w w' := by
  have h64 : n ≤ 64 := by rw [← hn]; simp [vList] at hv; exact hv.1
  obtain ⟨i0, hi, hz0, hz1, hz2⟩ := info_parts (show (Try.prog.info? 3).map (fun i => (i.zero, i.size, i.bytes)) = some (some (.int .i64 0), 1, 8) by kernel_rfl)
  obtain ⟨i1, hj, hy0, hy1, hy2⟩ := info_parts (show (Try.prog.info? 22).map (fun i => (i.zero, i.size, i.bytes)) = some (some (.slice none 0 0), 1, 24) by kernel_rfl)
  have HIV := IsValidList_any A0 zs c0 w (by rw [hn]; exact hx) (by omega)
  rw [hn, hv] at HIV
  have HIV := Lib.hid HIV
  have HX := Lib.hid hx
  have HN := Lib.hid hn
  clear hx hn hv
  go_enter Try.func19, Try.ntmps19
  go_wp2_with fail
  refine HIV.out.mono ?_
  rintro e w1 ⟨rfl, hb1⟩
  have HB2 := Lib.hid (alloc_ hb1 (.cells #[] 22))
  have HO2 : Hid ((w1.alloc (.cells #[] 22)).ownsRow w.heap.size 22 1 (.slice (some ⟨w1.heap.size, 0, none⟩) 0 0) 0 []) := Lib.hid (made_at hb1.size rfl)
  clear hb1
  go_wp2_with fail
  go_loopw [4, 14] (fun vu vi wr => ∃ (k p cu : Nat) (Au : Option Addr) (P : List (List Int)) (vals : List Value), k ≤ n ∧ vi = .int .i64 (k : Nat) ∧ vu = .slice Au p cu ∧ p ≤ k ∧ Hid (P = (zs.take k).foldl pput []) ∧ Hid (P.length = p) ∧ Hid (wr.ownsRow w.heap.size 22 1 (.slice Au p cu) p vals) ∧ Hid (Inner wr w.heap.size 3 vals P) ∧ Hid (Below w.heap.size w wr)) (fun _ vi _ => n - (intOf vi).toNat)
  case atStart => exact ⟨0, 0, 0, _, [], [], by omega, rfl, rfl, by omega, Lib.hid rfl, Lib.hid rfl, HO2, Lib.hid Inner.nil, HB2⟩
  case round =>
    clear HO2 HB2
    obtain ⟨k, p, cu, Au, P, vals, hkn, rfl, rfl, hpk, HP, HPL, HO, HI, HB⟩ := hrel
    by_cases hk : k < n
    · have kI : (k : Int) < (n : Int) := by omega
      have hkz : k < zs.length := by rw [HN.out]; exact hk
      obtain ⟨ad, u0, rfl, -, hu0, a1⟩ := (HX.out.below HB.out).at_ hk
      rw [ints_get hkz] at hu0
      cases hu0
      have hst := pp_take hkz
      rw [← HP.out] at hst
      obtain ⟨x, hxx⟩ : ∃ x, zs[k] = x := ⟨_, rfl⟩
      rw [hxx] at a1 hst
      have HST := Lib.hid hst
      have hne : ∀ a ∈ P, 0 < a.length ∧ a.length ≤ 64 := by
        intro a ha
        have h1 := (ppV_facts (zs.take k)).1 a (by unfold ppV; rw [← HP.out]; exact ha)
        have h2 := (pp_sum zs k).1
        rw [← HP.out] at h2
        obtain ⟨i, hi, rfl⟩ := List.mem_iff_getElem.1 ha
        have h3 := le_sum (ls := P.map List.length) (i := i) (by simpa using hi)
        simp at h3
        exact ⟨List.length_pos_iff.2 h1.1, by omega⟩
      have HNE := Lib.hid hne
      clear hne hst hxx
      go_upto_region 7 with fail
      have HO2 : Hid ((wr.alloc (.cells #[.int .i64 x] 3)).ownsRow w.heap.size 22 1 (.slice Au p cu) p vals) := Lib.hid (World.ownsRow.alloc HO.out _)
      have HI2 := Lib.hid (HI.out.alloc (.cells #[.int .i64 x] 3))
      have HB2 := Lib.hid (alloc_ HB.out (.cells #[.int .i64 x] 3))
      have HBX := Lib.hid ((Blk.new wr 3 #[.int .i64 x]).cell 0)
      have HGX : Hid (wr.heap.size < (wr.alloc (.cells #[.int .i64 x] 3)).heap.size) := Lib.hid (by simp)
      have HRR : Hid (ReadsRR (wr.alloc (.cells #[.int .i64 x] 3)) (wr.alloc (.cells #[.int .i64 x] 3)).heap.size Au P) := Lib.hid (ReadsRR.of_own (c := cu) ⟨vals, by rw [HPL.out]; exact HO2.out, HI2.out⟩)
      generalize wr.alloc (.cells #[.int .i64 x] 3) = w2 at *
      generalize wr.heap.size = g at *
      clear HO HI HB a1
      go_wp2_with fail
      refine (indexRR_any Au P p cu g x w2 HRR.out HPL.out (by omega) HNE.out HBX.out HGX.out).mono ?_
      rintro e w3 ⟨y, rfl, hy1', hy2', hb3⟩
      have HO3 := Lib.hid (own_below HO2.out hb3 (Nat.le_refl _))
      have HI3 := Lib.hid (HI2.out.below hb3 (Nat.le_refl _))
      have HB3 := Lib.hid (HB2.out.trans (hb3.mono HB2.out.size))
      have cx : w3.cell? ⟨g, 0, none⟩ = some (.int .i64 x) := (hb3.cell (p := ⟨g, 0, none⟩) HGX.out).trans HBX.out
      have hgx : g < w3.heap.size := Nat.lt_of_lt_of_le HGX.out hb3.size
      have hbs := HB3.out.size
      have hpa := pput_at x P
      rw [← HST.out, HPL.out] at hpa
      clear hb3 HO2 HI2 HB2 HBX HGX HRR HST
      by_cases hq : posT (P.map topP) x < p
      · obtain rfl := hy1' hq
        rw [if_pos hq] at hpa
        clear hy1' hy2'
        obtain ⟨q, hqq⟩ : ∃ q, posT (P.map topP) x = q := ⟨_, rfl⟩
        rw [hqq] at hpa hq ⊢
        clear hqq
        have qI : (q : Int) < (p : Int) := by omega
        have q0 : ¬ (q : Int) < 0 := by omega
        obtain ⟨ys, hys⟩ : ∃ ys, P[q]? = some ys := ⟨_, List.getElem?_eq_getElem (by rw [HPL.out]; exact hq)⟩
        rw [hys, Option.getD_some] at hpa
        have HPA := Lib.hid hpa
        have hyl := (HNE.out ys (List.mem_of_getElem? hys)).2
        obtain ⟨gu, cu', eu, -, -, -, -⟩ := own_some HO3.out (by omega)
        cases eu
        have hvl : q < vals.length := by rw [HI3.out.len, HPL.out]; exact hq
        have hu := List.getElem?_eq_getElem hvl
        obtain ⟨U, hU⟩ : ∃ U, vals[q] = U := ⟨_, rfl⟩
        rw [hU] at hu
        have ho := HI3.out.own q U ys hu hys
        have c1 := HO3.out.cellAt q (by omega)
        rw [hu] at c1
        have f1 := HO3.out.frozenAt q
        obtain ⟨Ai, ci, rfl⟩ := own_slice ho
        have HU := Lib.hid hu
        have HYS := Lib.hid hys
        obtain ⟨t, ht⟩ : ∃ t, ys.length = t := ⟨_, rfl⟩
        have HT := Lib.hid ht
        rw [ht] at ho c1 hyl HU
        have HOY := Lib.hid ho
        clear hpa hys hu hvl hU ht ho
        have hd : w3.drew.ownsRow w.heap.size 3 1 (.slice Ai t ci) t (ints ys) := HOY.out
        have hdo : w3.drew.ownsRow w.heap.size 22 1 (.slice (some ⟨gu, 0, none⟩) p cu) p vals := HO3.out
        have hdi : Inner w3.drew w.heap.size 3 vals P := HI3.out.drew
        have c1a : (w3.alloc (.cells #[.int .i64 x] 3)).cell? ⟨gu, q, none⟩ = some (.slice Ai t ci) := ((World.ownsRow.alloc HO3.out (.cells #[.int .i64 x] 3)).cellAt q (by omega)).trans HU.out
        go_upto_region 10 with fail
        go_region_law (refine step_push _ rfl (.tmp 33) (.tmp 35) 22 rfl w.heap.size 3 i0 _ 1 8 Try.underlying22 hi hz0 hz1 hz2 rfl (by decide) (.slice Ai t ci) _ (ints ys) (by simp [Act.eval]) (World.ownsRow.alloc hd _) #[.int .i64 x] w3.heap.size (by simp [Act.eval]) (blk_new_at rfl) rfl (by simp [Value.oneCell']) (by omega) (by unfold maxLen; omega) (Nat.le_trans hbs (by simp)) ?_; intro g5 d5 w5 hown5 hg5 hb5 hat5; have hout5 := (World.ownsRow.alloc hdo (.cells #[.int .i64 x] 3)).kept hg5 (own_ne_type (World.ownsRow.alloc hdo (.cells #[.int .i64 x] 3)) (World.ownsRow.alloc hd (.cells #[.int .i64 x] 3)) (by decide)); have c5 := (hout5.cellAt q (by omega)).trans HU.out; have f5 := hout5.frozenAt q)
        all_goals
          have hr3 : w5.ownsRow w.heap.size 3 1 (.slice (some ⟨g5, 0, none⟩) (t + 1) d5) (ys ++ [x]).length (ints (ys ++ [x])) := by
            rw [List.length_append, HT.out]
            simpa [ints] using hown5
          have hp2 := rr_put (k := q) (World.ownsRow.alloc hdo (.cells #[.int .i64 x] 3)) (hdi.alloc (.cells #[.int .i64 x] 3)) (by decide) HU.out hg5 hr3 (by
            rcases hat5 with h | h
            · exact .inl h.symm
            · exact .inr fun j hj => by cases hj; exact h)
          have HP2 := Lib.hid hp2
          have hgl := own_lt hout5 gu rfl
          have HB5 := Lib.hid (((alloc_ (bdrew HB3.out) (.cells #[.int .i64 x] 3)).trans hb5).setCell (p := ⟨gu, q, none⟩) hgl.1 (.slice (some ⟨g5, 0, none⟩) (t + 1) d5))
          clear hown5 hg5 hb5 hat5 hout5 c5 f5 hr3 hp2 c1a
          go_wp2_with fail
          go_roundw
          case rel => exact ⟨k + 1, p, cu, _, P.set q (ys ++ [x]), _, by omega, by go_num, rfl, by omega, Lib.hid HPA.out.symm, Lib.hid (by rw [List.length_set]; exact HPL.out), Lib.hid HP2.out.1, Lib.hid HP2.out.2, HB5⟩
          case measure => simp [intOf]; omega
      · obtain rfl := hy2' hq
        rw [if_neg hq] at hpa
        have HPA := Lib.hid hpa
        clear hy1' hy2' hq hpa
        have HR1 := Lib.hid (own_full (base := w.heap.size) (size := 1) (e := 3) w3 #[.int .i64 x] 1 hbs (by decide) rfl)
        have hb4 := alloc_ (alloc_ HB3.out (.cells #[.int .i64 x] 3)) (.cells #[.slice (some ⟨w3.heap.size, 0, none⟩) 1 1] 22)
        have ho4 := World.ownsRow.alloc (World.ownsRow.alloc HO3.out (.cells #[.int .i64 x] 3)) (.cells #[.slice (some ⟨w3.heap.size, 0, none⟩) 1 1] 22)
        go_wp2_with (at_builtin; go_loud (refine wpList_push' _ rfl _ _ 35 rfl w.heap.size 22 i1 _ 1 24 Try.underlying35 hj hy0 hy1 hy2 rfl (by decide) (.slice Au p cu) _ vals rfl ho4 #[.slice (some ⟨w3.heap.size, 0, none⟩) 1 1] (w3.heap.size + 1) rfl (blk_new_at (by simp)) rfl (by simp [Value.oneCell']) (by omega) (by unfold maxLen; omega) hb4.size ?_; intro g1 d1 w5 hown5 hg5 hb5 hat5))
        have HI5 := Lib.hid (((HI3.out.alloc (.cells #[.int .i64 x] 3)).alloc (.cells #[.slice (some ⟨w3.heap.size, 0, none⟩) 1 1] 22)).add (zs := [x]) ho4 (by decide) (World.ownsRow.alloc HR1.out _) (HI3.out.fresh (fun q hq => by have h2 : w3.heap.size = q := Option.some.inj hq; omega)) hg5)
        have HO5 : Hid (w5.ownsRow w.heap.size 22 1 (.slice (some ⟨g1, 0, none⟩) (p + 1) d1) (p + 1) (vals ++ [.slice (some ⟨w3.heap.size, 0, none⟩) 1 1])) := Lib.hid hown5
        have HB5 := Lib.hid (hb4.trans hb5)
        clear hown5 hg5 hb5 hat5 ho4 hb4
        go_wp2_with fail
        go_roundw
        case rel => exact ⟨k + 1, p + 1, d1, _, P ++ [[x]], _, by omega, by go_num, rfl, by omega, Lib.hid HPA.out.symm, Lib.hid (by rw [List.length_append, HPL.out]; rfl), HO5, HI5, HB5⟩
        case measure => simp [intOf]; omega
    · have kI : ¬ (k : Int) < (n : Int) := by omega
      have HE : Hid (P = ppV zs) := Lib.hid (by rw [HP.out, List.take_of_length_le (by rw [HN.out]; omega)]; rfl)
      have HE2 : Hid (p = (ppV zs).length) := Lib.hid (by rw [← HE.out, HPL.out])
      go_wp2_with fail
      exact bodyPost_ret (v := .tuple #[.slice Au p cu, .bool true]) (by simp [results, Try.results19, go_sem]) rfl ⟨Au, cu, by rw [← HE2.out], ⟨vals, by rw [← HE2.out]; exact HO.out, by rw [← HE.out]; exact HI.out⟩, HB.out⟩
end Go.Proofs.Ytfpojoabfdiadaa
