/- A network read out of a text: the reference's ParseNetwork. -/
import Derived.Test.YtfpojoabfdiadaaDoorParR
namespace Go.Proofs.YtfpojoabfdiadaaDoor
open Go.RowKit
set_option linter.unusedVariables false
theorem strs_get {ws : List (List UInt8)} {k : Nat} (h : k < ws.length) : (strs ws)[k]? = some (.string (bs ws[k])) := by simp [strs, h]
theorem str_row {w : World} {base g n c : Nat} {ws : List (List UInt8)} (h : w.ownsRow base 9 1 (.slice (some ⟨g, 0, none⟩) n c) n (strs ws)) (hn : n = ws.length) (h0 : 0 < n) : StrRow w g ws := by
  obtain ⟨g1, c1, hv, _, hg, _⟩ := own_some h h0
  simp only [Value.slice.injEq, Option.some.injEq, Addr.mk.injEq] at hv
  refine ⟨by omega, fun k hk => ?_⟩
  have := h.cellAt k (by omega)
  rw [strs_get hk] at this
  simpa using this
theorem sNo {l : List UInt8} (h : sOk1 l = false) : iGood l = false := iGood_no fun W z h1 h2 => by
  subst h2
  rw [(sNet_txt h1).2.2] at h
  cases h
theorem sNo2 {l : List UInt8} (h : ¬ (netOk (sW l) (sZ l) = true ∧ txt (sW l) (sZ l) = l)) : iGood l = false := iGood_no fun W z h1 h2 => by
  subst h2
  rw [(sNet_txt h1).1, (sNet_txt h1).2.1] at h
  exact h ⟨h1, rfl⟩
theorem all_no {α : Type} {p : α → Bool} {t : List α} {k : Nat} (h : k < t.length) (hp : p t[k] = false) : t.all p = false := by
  cases ha : t.all p with
  | false => rfl
  | true => rw [List.all_eq_true.1 ha _ (List.getElem_mem h)] at hp; cases hp
set_option maxRecDepth 100000 in
set_option maxHeartbeats 3200000 in
theorem sParseNetwork_any (l : List UInt8) (w : World) (hl : l.length ≤ 1048576) :
    Calls Tryd.prog 11 #[.string (bs l)] w fun e w' => ∃ A c, e = .returned (.tuple #[.agg #[.int .i64 (parW l), .slice A (parZ l).length c], .bool (iGood l)]) ∧
      w'.ownsRow w.heap.size 48 2 (.slice A (parZ l).length c) (parZ l).length (cmps (parZ l)) ∧ Below w.heap.size w w' := by
  have Br := Blk.new w 30 #[.int .i64 0, .slice none 0 0]
  obtain ⟨wb, hwb⟩ : ∃ wb, wb = w.alloc (.cells #[.int .i64 0, .slice none 0 0] 30) := ⟨_, rfl⟩
  have hbw : Below w.heap.size w wb := by rw [hwb]; go_grown
  have hsz : wb.heap.size = w.heap.size + 1 := by rw [hwb]; simp
  rw [← hwb] at Br
  have HWB := Lib.hid hwb
  clear hwb
  have hbz : (bs l).size = l.length := bs_size l
  go_enter Tryd.func11, Tryd.ntmps11
  by_cases hlong : 1300 < l.length
  · have hlong' : (1300 : Int) < (bs l).size := by rw [hbz]; omega
    go_upto_region 1 with fail
    rw [← HWB.out]
    have HNOG := Lib.hid (iGood_no (s := l) fun W z h1 h2 => by have := txt_short h1; rw [h2] at this; omega)
    obtain ⟨pW, pZ⟩ := par_no HNOG.out
    have HPW := Lib.hid pW
    have HPZ := Lib.hid pZ
    clear pW pZ
    have d0 : wb.cell? ⟨w.heap.size, 0, none⟩ = some (.int .i64 0) := Br.cell 0
    have d1 : wb.cell? ⟨w.heap.size, 1, none⟩ = some (.slice none 0 0) := Br.cell 1
    have f0 := Br.frozen 0
    have f1 := Br.frozen 1
    have hbe := ((hbw.setCell (p := ⟨w.heap.size, 0, none⟩) (Nat.le_refl _) (.int .i64 0)).setCell (p := ⟨w.heap.size, 1, none⟩) (Nat.le_refl _) (.slice none 0 0))
    have Bf := (Br.set_ 0 (.int .i64 0)).set_ 1 (.slice none 0 0)
    have R0 := Lib.hid (show ((wb.setCell ⟨w.heap.size, 0, none⟩ (.int .i64 0)).setCell ⟨w.heap.size, 1, none⟩ (.slice none 0 0)).cell? ⟨w.heap.size, 0, none⟩ = some (.int .i64 0) from Bf.cell 0)
    have R1 := Lib.hid (show ((wb.setCell ⟨w.heap.size, 0, none⟩ (.int .i64 0)).setCell ⟨w.heap.size, 1, none⟩ (.slice none 0 0)).cell? ⟨w.heap.size, 1, none⟩ = some (.slice none 0 0) from Bf.cell 1)
    clear Bf
    go_wp2_with fail
    refine bodyPost_ret (v := .tuple #[.agg #[.int .i64 0, .slice none 0 0], .bool false]) (by simp [results, Tryd.results11, go_sem, R0.out, R1.out]) rfl ?_
    rw [HPW.out, HPZ.out, HNOG.out]
    exact ⟨none, 0, rfl, World.ownsRow_nil _ _ _ _, hbe⟩
  have hlong' : ¬ (1300 : Int) < (bs l).size := by rw [hbz]; omega
  have HS := Lib.hid (l1Split_any l 32 wb hl)
  have hsl := spl_len 32 l
  have hbd := spl_bd 32 l
  obtain ⟨x0, t, hws⟩ : ∃ x0 t, spl 32 l = x0 :: t := by
    cases hc : spl 32 l with
    | nil => exact absurd hc (spl_ne _ _)
    | cons x0 t => exact ⟨x0, t, rfl⟩
  have eW : sW l = (sRead x0).1 := by simp [sW, hws]
  have eZ : sZ l = t.map sPair := by simp [sZ, hws]
  have eO : sOk1 l = ((sRead x0).2 && t.all sPok) := by simp [sOk1, hws]
  rw [hws] at HS hbd hsl
  rw [hsz] at HS
  have hh := hbd x0 (by simp)
  have HT := Lib.hid (fun x (hx : x ∈ t) => hbd x (by simp [hx]))
  have htl : t.length ≤ 1300 := by simp at hsl; omega
  have EW := Lib.hid eW
  have EZ := Lib.hid eZ
  have EO := Lib.hid eO
  clear eW eZ eO hws hbd hsl
  go_wp2_with fail
  rw [← HWB.out]
  refine HS.out.mono ?_
  rintro e w1 ⟨A, c, rfl, own1, hb1⟩
  clear HS
  obtain ⟨g, rfl, hg1, hg2⟩ := own_at own1 (by simp)
  have row1 := str_row own1 rfl (by simp)
  have hr0 := row1.2 0 (by simp)
  simp only [List.getElem_cons_zero] at hr0
  go_wp2_with fail
  refine (l1Read_any x0 w1 (by omega)).mono ?_
  rintro e w2 ⟨rfl, n2, hw2⟩
  have hb2 : Below w1.heap.size w1 w2 := by rw [hw2]; exact below_drewN (Below.refl _ _) n2
  clear hw2
  have B2 : Below (w.heap.size + 1) wb w2 := hb1.trans (hb2.mono (by have := hb1.size; omega))
  have row2 := row1.below hb2 row1.1
  clear hb1 hb2 hr0 row1 own1
  have hg3 := row2.1
  have s2 := B2.size
  have hN : NetAt ((w2.alloc (.cells #[] 48)).alloc (.cells #[.int .i64 (sRead x0).1, .slice (some ⟨w2.heap.size, 0, none⟩) 0 0] 30)) w2.heap.size (w2.heap.size + 1) (sRead x0).1 [] := by
    refine ⟨.slice (some ⟨w2.heap.size, 0, none⟩) 0 0, ?_, ?_, by omega⟩
    · have := Blk.new (w2.alloc (.cells #[] 48)) 30 #[.int .i64 (sRead x0).1, .slice (some ⟨w2.heap.size, 0, none⟩) 0 0]
      simpa using this
    · have := World.ownsRow_made (base := w2.heap.size) (size := 2) (e := 48) w2 #[] 0 (by omega) (by simp) (by simp)
      exact this.alloc _
  have B3 := Joins.below_alloc2 w2 (.cells #[] 48) (.cells #[.int .i64 (sRead x0).1, .slice (some ⟨w2.heap.size, 0, none⟩) 0 0] 30)
  go_upto_region 6 with fail
  generalize (w2.alloc (.cells #[] 48)).alloc (.cells #[.int .i64 (sRead x0).1, .slice (some ⟨w2.heap.size, 0, none⟩) 0 0] 30) = w3 at hN B3 ⊢
  obtain ⟨q, hq⟩ : ∃ q, q = w2.heap.size := ⟨_, rfl⟩
  rw [← hq] at hN B3 hg3 s2 ⊢
  have HQ := Lib.hid hq; clear hq
  obtain ⟨rp, rc⟩ := row2
  have HB2 := Lib.hid B2; clear B2
  go_wp2_with fail
  go_loopw [8] (fun i wr => ∃ k : Nat, k ≤ t.length ∧ i = .int .i64 ((k : Int) + 1) ∧ Hid ((t.take k).all sPok = true) ∧ ((sRead x0).2 = true ∨ k = 0) ∧ NetAt wr q (q + 1) (sRead x0).1 ((t.take k).map sPair) ∧ Below q w2 wr) (fun i _ => t.length + 1 - (intOf i).toNat)
  case atStart => exact ⟨0, by omega, rfl, Lib.hid (by simp), Or.inr rfl, hN, B3⟩
  case round =>
    clear hN B3
    obtain ⟨k, hk, rfl, HK, hok, hN, hB⟩ := hrel
    have Br1 := Br.below (HB2.out.trans (hB.mono (by omega))) (by omega)
    have BWr := hbw.trans (HB2.out.trans (hB.mono (by omega)) |>.mono (by omega))
    have hlr := Br1.lt
    cases hro : (sRead x0).2
    · have hno : sOk1 l = false := by rw [EO.out, hro]; rfl
      clear hN
      by_cases hlt : k < t.length
      · have hlt' : (k : Int) + 1 < (t.length : Int) + 1 := by omega
        have HNOG := Lib.hid (sNo hno)
        obtain ⟨pW, pZ⟩ := par_no HNOG.out
        have HPW := Lib.hid pW
        have HPZ := Lib.hid pZ
        clear pW pZ
        have d0 : wr.cell? ⟨w.heap.size, 0, none⟩ = some (.int .i64 0) := Br1.cell 0
        have d1 : wr.cell? ⟨w.heap.size, 1, none⟩ = some (.slice none 0 0) := Br1.cell 1
        have f0 := Br1.frozen 0
        have f1 := Br1.frozen 1
        have hbe := ((BWr.setCell (p := ⟨w.heap.size, 0, none⟩) (Nat.le_refl _) (.int .i64 0)).setCell (p := ⟨w.heap.size, 1, none⟩) (Nat.le_refl _) (.slice none 0 0))
        have Bf := (Br1.set_ 0 (.int .i64 0)).set_ 1 (.slice none 0 0)
        have R0 := Lib.hid (show ((wr.setCell ⟨w.heap.size, 0, none⟩ (.int .i64 0)).setCell ⟨w.heap.size, 1, none⟩ (.slice none 0 0)).cell? ⟨w.heap.size, 0, none⟩ = some (.int .i64 0) from Bf.cell 0)
        have R1 := Lib.hid (show ((wr.setCell ⟨w.heap.size, 0, none⟩ (.int .i64 0)).setCell ⟨w.heap.size, 1, none⟩ (.slice none 0 0)).cell? ⟨w.heap.size, 1, none⟩ = some (.slice none 0 0) from Bf.cell 1)
        clear Bf
        go_wp2_with fail
        refine bodyPost_ret (v := .tuple #[.agg #[.int .i64 0, .slice none 0 0], .bool false]) (by simp [results, Tryd.results11, go_sem, R0.out, R1.out]) rfl ?_
        rw [HPW.out, HPZ.out, HNOG.out]
        exact ⟨none, 0, rfl, World.ownsRow_nil _ _ _ _, hbe⟩
      · have hlt' : ¬ (k : Int) + 1 < (t.length : Int) + 1 := by omega
        have HNOG := Lib.hid (sNo hno)
        obtain ⟨pW, pZ⟩ := par_no HNOG.out
        have HPW := Lib.hid pW
        have HPZ := Lib.hid pZ
        clear pW pZ
        have d0 : wr.cell? ⟨w.heap.size, 0, none⟩ = some (.int .i64 0) := Br1.cell 0
        have d1 : wr.cell? ⟨w.heap.size, 1, none⟩ = some (.slice none 0 0) := Br1.cell 1
        have f0 := Br1.frozen 0
        have f1 := Br1.frozen 1
        have hbe := ((BWr.setCell (p := ⟨w.heap.size, 0, none⟩) (Nat.le_refl _) (.int .i64 0)).setCell (p := ⟨w.heap.size, 1, none⟩) (Nat.le_refl _) (.slice none 0 0))
        have Bf := (Br1.set_ 0 (.int .i64 0)).set_ 1 (.slice none 0 0)
        have R0 := Lib.hid (show ((wr.setCell ⟨w.heap.size, 0, none⟩ (.int .i64 0)).setCell ⟨w.heap.size, 1, none⟩ (.slice none 0 0)).cell? ⟨w.heap.size, 0, none⟩ = some (.int .i64 0) from Bf.cell 0)
        have R1 := Lib.hid (show ((wr.setCell ⟨w.heap.size, 0, none⟩ (.int .i64 0)).setCell ⟨w.heap.size, 1, none⟩ (.slice none 0 0)).cell? ⟨w.heap.size, 1, none⟩ = some (.slice none 0 0) from Bf.cell 1)
        clear Bf
        go_wp2_with fail
        refine bodyPost_ret (v := .tuple #[.agg #[.int .i64 0, .slice none 0 0], .bool false]) (by simp [results, Tryd.results11, go_sem, R0.out, R1.out]) rfl ?_
        rw [HPW.out, HPZ.out, HNOG.out]
        exact ⟨none, 0, rfl, World.ownsRow_nil _ _ _ _, hbe⟩
    clear hok
    have HRO := Lib.hid hro; 
    by_cases hlt : k < t.length
    · have hlt' : (k : Int) + 1 < (t.length : Int) + 1 := by omega
      have hword := (hB.cell (show (⟨g, k + 1, none⟩ : Addr).block < q from hg3)).trans (rc (k + 1) (by simp; omega))
      rw [List.getElem_cons_succ] at hword
      have ht1 : (t.take (k + 1)).map sPair = (t.take k).map sPair ++ [sPair t[k]] := by rw [List.take_succ_eq_append_getElem hlt, List.map_append]; rfl
      have ht2 : (t.take (k + 1)).all sPok = ((t.take k).all sPok && sPok t[k]) := by rw [List.take_succ_eq_append_getElem hlt, List.all_append]; simp
      have hno1 : sPok t[k] = false → sOk1 l = false := fun h => by rw [EO.out, all_no hlt h]; simp
      have hxl := HT.out t[k] (List.getElem_mem hlt)
      generalize t[k] = x at *
      have HT1 := Lib.hid ht1
      have HT2 := Lib.hid ht2
      have HNO := Lib.hid hno1
      clear ht1 ht2 hno1
      have hkl : ((t.take k).map sPair).length ≤ 1048576 := by simp; omega
      generalize hcs : (t.take k).map sPair = cs at *
      have hlen5 := spl_len 45 x
      have hbd5 := spl_bd 45 x
      have hip : sPok x = (decide ((spl 45 x).length = 2) && ((sRead ((spl 45 x).headD [])).2 && (sRead ((spl 45 x)[1]?.getD [])).2)) := rfl
      have hpr : sPair x = ((sRead ((spl 45 x).headD [])).1, (sRead ((spl 45 x)[1]?.getD [])).1) := rfl
      have HSP := Lib.hid (l1Split_any x 45 wr (by omega))
      generalize spl 45 x = ys at *
      have HIP := Lib.hid hip
      have HPR := Lib.hid hpr
      clear hip hpr
      have hbr : Below wr.heap.size wr wr := Below.refl _ _
      go_wp2_with fail
      refine HSP.out.mono ?_
      rintro e w4 ⟨A4, c4, rfl, own4, hb4⟩
      have Br4 := Br1.below hb4 hlr
      have BW4 := BWr.trans (hb4.mono (by have := BWr.size; omega))
      clear Br1 BWr hword
      by_cases hy2 : ys.length = 2
      case neg =>
        have hy2' : ((ys.length : Int) == 2) = false := by simp; omega
        have hno : sOk1 l = false := HNO.out (by rw [HIP.out]; simp [hy2])
        clear hN own4
        have HNOG := Lib.hid (sNo hno)
        obtain ⟨pW, pZ⟩ := par_no HNOG.out
        have HPW := Lib.hid pW
        have HPZ := Lib.hid pZ
        clear pW pZ
        have d0 : w4.cell? ⟨w.heap.size, 0, none⟩ = some (.int .i64 0) := Br4.cell 0
        have d1 : w4.cell? ⟨w.heap.size, 1, none⟩ = some (.slice none 0 0) := Br4.cell 1
        have f0 := Br4.frozen 0
        have f1 := Br4.frozen 1
        have hbe := ((BW4.setCell (p := ⟨w.heap.size, 0, none⟩) (Nat.le_refl _) (.int .i64 0)).setCell (p := ⟨w.heap.size, 1, none⟩) (Nat.le_refl _) (.slice none 0 0))
        have Bf := (Br4.set_ 0 (.int .i64 0)).set_ 1 (.slice none 0 0)
        have R0 := Lib.hid (show ((w4.setCell ⟨w.heap.size, 0, none⟩ (.int .i64 0)).setCell ⟨w.heap.size, 1, none⟩ (.slice none 0 0)).cell? ⟨w.heap.size, 0, none⟩ = some (.int .i64 0) from Bf.cell 0)
        have R1 := Lib.hid (show ((w4.setCell ⟨w.heap.size, 0, none⟩ (.int .i64 0)).setCell ⟨w.heap.size, 1, none⟩ (.slice none 0 0)).cell? ⟨w.heap.size, 1, none⟩ = some (.slice none 0 0) from Bf.cell 1)
        clear Bf
        go_wp2_with fail
        refine bodyPost_ret (v := .tuple #[.agg #[.int .i64 0, .slice none 0 0], .bool false]) (by simp [results, Tryd.results11, go_sem, R0.out, R1.out]) rfl ?_
        rw [HPW.out, HPZ.out, HNOG.out]
        exact ⟨none, 0, rfl, World.ownsRow_nil _ _ _ _, hbe⟩
      obtain ⟨y0, y1, rfl⟩ : ∃ y0 y1, ys = [y0, y1] := by
        match ys, hy2 with
        | [a, b], _ => exact ⟨a, b, rfl⟩
      obtain ⟨g4, rfl, hg4, hg4'⟩ := own_at own4 (by simp)
      have row4 := str_row own4 rfl (by simp)
      have z0 := row4.2 0 (by simp)
      have z1 := row4.2 1 (by simp)
      simp only [List.getElem_cons_zero, List.getElem_cons_succ] at z0 z1
      have hy0 := hbd5 y0 (by simp)
      have hy1 := hbd5 y1 (by simp)
      clear own4 hbd5 hlen5
      have HZ1 := Lib.hid z1
      clear z1 row4
      go_wp2_with fail
      refine (l1Read_any y0 w4 (by omega)).mono ?_
      rintro e w5 ⟨rfl, n5, hw5⟩
      have hb5 : Below w4.heap.size w4 w5 := by rw [hw5]; exact below_drewN (Below.refl _ _) n5
      clear hw5 z0
      have z1 := (hb5.cell (show (⟨g4, 1, none⟩ : Addr).block < w4.heap.size from hg4')).trans HZ1.out
      go_wp2_with fail
      refine (l1Read_any y1 w5 (by omega)).mono ?_
      rintro e w6 ⟨rfl, n6, hw6⟩
      have hb6 : Below w5.heap.size w5 w6 := by rw [hw6]; exact below_drewN (Below.refl _ _) n6
      clear hw6 z1 HZ1
      have hb46 := bthen hb5 hb6
      have Br6 := Br4.below hb46 Br4.lt
      have BW6 := BW4.trans (hb46.mono (by have := BW4.size; omega))
      have hb06 := bthen hb4 hb46
      clear hb4 hb5 hb6 hb46 Br4 BW4
      have hip : sPok x = ((sRead y0).2 && (sRead y1).2) := by rw [HIP.out]; simp
      have hpr : sPair x = ((sRead y0).1, (sRead y1).1) := by rw [HPR.out]; simp
      clear HIP HPR
      have HIP := Lib.hid hip
      have HPR := Lib.hid hpr
      clear hip hpr
      cases ho1 : (sRead y0).2
      · have hno : sOk1 l = false := HNO.out (by rw [HIP.out, ho1]; rfl)
        clear hN
        have HNOG := Lib.hid (sNo hno)
        obtain ⟨pW, pZ⟩ := par_no HNOG.out
        have HPW := Lib.hid pW
        have HPZ := Lib.hid pZ
        clear pW pZ
        have d0 : w6.cell? ⟨w.heap.size, 0, none⟩ = some (.int .i64 0) := Br6.cell 0
        have d1 : w6.cell? ⟨w.heap.size, 1, none⟩ = some (.slice none 0 0) := Br6.cell 1
        have f0 := Br6.frozen 0
        have f1 := Br6.frozen 1
        have hbe := ((BW6.setCell (p := ⟨w.heap.size, 0, none⟩) (Nat.le_refl _) (.int .i64 0)).setCell (p := ⟨w.heap.size, 1, none⟩) (Nat.le_refl _) (.slice none 0 0))
        have Bf := (Br6.set_ 0 (.int .i64 0)).set_ 1 (.slice none 0 0)
        have R0 := Lib.hid (show ((w6.setCell ⟨w.heap.size, 0, none⟩ (.int .i64 0)).setCell ⟨w.heap.size, 1, none⟩ (.slice none 0 0)).cell? ⟨w.heap.size, 0, none⟩ = some (.int .i64 0) from Bf.cell 0)
        have R1 := Lib.hid (show ((w6.setCell ⟨w.heap.size, 0, none⟩ (.int .i64 0)).setCell ⟨w.heap.size, 1, none⟩ (.slice none 0 0)).cell? ⟨w.heap.size, 1, none⟩ = some (.slice none 0 0) from Bf.cell 1)
        clear Bf
        go_wp2_with fail
        refine bodyPost_ret (v := .tuple #[.agg #[.int .i64 0, .slice none 0 0], .bool false]) (by simp [results, Tryd.results11, go_sem, R0.out, R1.out]) rfl ?_
        rw [HPW.out, HPZ.out, HNOG.out]
        exact ⟨none, 0, rfl, World.ownsRow_nil _ _ _ _, hbe⟩
      cases ho2 : (sRead y1).2
      · have hno : sOk1 l = false := HNO.out (by rw [HIP.out, ho1, ho2]; rfl)
        clear hN
        have HNOG := Lib.hid (sNo hno)
        obtain ⟨pW, pZ⟩ := par_no HNOG.out
        have HPW := Lib.hid pW
        have HPZ := Lib.hid pZ
        clear pW pZ
        have d0 : w6.cell? ⟨w.heap.size, 0, none⟩ = some (.int .i64 0) := Br6.cell 0
        have d1 : w6.cell? ⟨w.heap.size, 1, none⟩ = some (.slice none 0 0) := Br6.cell 1
        have f0 := Br6.frozen 0
        have f1 := Br6.frozen 1
        have hbe := ((BW6.setCell (p := ⟨w.heap.size, 0, none⟩) (Nat.le_refl _) (.int .i64 0)).setCell (p := ⟨w.heap.size, 1, none⟩) (Nat.le_refl _) (.slice none 0 0))
        have Bf := (Br6.set_ 0 (.int .i64 0)).set_ 1 (.slice none 0 0)
        have R0 := Lib.hid (show ((w6.setCell ⟨w.heap.size, 0, none⟩ (.int .i64 0)).setCell ⟨w.heap.size, 1, none⟩ (.slice none 0 0)).cell? ⟨w.heap.size, 0, none⟩ = some (.int .i64 0) from Bf.cell 0)
        have R1 := Lib.hid (show ((w6.setCell ⟨w.heap.size, 0, none⟩ (.int .i64 0)).setCell ⟨w.heap.size, 1, none⟩ (.slice none 0 0)).cell? ⟨w.heap.size, 1, none⟩ = some (.slice none 0 0) from Bf.cell 1)
        clear Bf
        go_wp2_with fail
        refine bodyPost_ret (v := .tuple #[.agg #[.int .i64 0, .slice none 0 0], .bool false]) (by simp [results, Tryd.results11, go_sem, R0.out, R1.out]) rfl ?_
        rw [HPW.out, HPZ.out, HNOG.out]
        exact ⟨none, 0, rfl, World.ownsRow_nil _ _ _ _, hbe⟩
      have HO1 := Lib.hid ho1
      have HO2 := Lib.hid ho2
      obtain ⟨v, hblk, hown, hBp⟩ := hN
      have hblk6 := hblk.below hb06 hblk.lt
      have hown6 := own_below hown hb06 (Nat.le_refl _)
      have hpl6 := hblk6.lt
      have hB6 := hB.trans (hb06.mono (by rw [HQ.out]; exact hB.size))
      clear hblk hown hb06 Br6 BW6
      have c1 : w6.cell? ⟨q + 1, 1, none⟩ = some v := hblk6.cell 1
      obtain ⟨i0, hi, hz0, hz1, hz2⟩ := info_parts info_cmp
      have hqs : q ≤ w6.heap.size := by rw [HQ.out]; exact hB6.size
      generalize hn1 : (sRead y0).1 = n1 at *
      generalize hn2 : (sRead y1).1 = n2 at *
      have HN1 := Lib.hid hn1
      have HN2 := Lib.hid hn2
      clear hn1 hn2
      go_wp2_with (at_builtin; refine wpList_push _ rfl _ _ 28 rfl q 48 i0 _ 2 16 Tryd.underlying28 hi hz0 hz1 hz2 rfl (by decide) v _ _ rfl hown6 #[.int .i64 n1, .int .i64 n2] rfl rfl (by simp [Value.oneCell']) (by omega) (by unfold maxLen; omega) (by omega) ?_; intro g1 k1 w7 hown7 hg7 hb7 hat7; have hblk7 := hblk6.grown hg7 (fun e => own_blk_ne hown6 hblk6 (by decide) e.symm); have c2 : w7.cell? ⟨q + 1, 1, none⟩ = some v := hblk7.cell 1; have f2 := hblk7.frozen 1)
      go_roundw
      case rel =>
        refine ⟨k + 1, by omega, by go_num, Lib.hid ?_, Or.inl trivial, ?_, ?_⟩
        · rw [HT2.out, HK.out, HIP.out, HO1.out, HO2.out]; rfl
        · rw [HT1.out, HPR.out]
          refine ⟨.slice (some ⟨g1, 0, none⟩) (cs.length + 1) k1, hblk7.set_ 1 _, ?_, by omega⟩
          refine own_setCell ?_ (own_blk_ne hown7 hblk7 (by decide)) _
          exact cmps_push hown7
        · exact (hB6.trans hb7).setCell (by simp) _
      case measure => simp [intOf]; omega
    · have hlt' : ¬ (k : Int) + 1 < (t.length : Int) + 1 := by omega
      obtain ⟨v, hblk, hown, hBp⟩ := hN
      obtain ⟨A, c, rfl⟩ := own_slice hown
      have hk' : t.take k = t := List.take_of_length_le (by omega)
      rw [hk', ← EZ.out] at hblk hown
      rw [← EW.out] at *
      have hzl : (sZ l).length ≤ 1300 := by rw [EZ.out]; simp; omega
      have c0 : wr.cell? ⟨q + 1, 0, none⟩ = some (.int .i64 (sW l)) := hblk.cell 0
      have c1 : wr.cell? ⟨q + 1, 1, none⟩ = some (.slice A (sZ l).length c) := hblk.cell 1
      have hl2 := hblk.lt
      have HG := Lib.hid (l12Good_any (sW l) A (sZ l) c wr (Reads.of_own hown) (by omega))
      cases hgd : netOk (sW l) (sZ l)
      · rw [hgd] at HG
        have hno : iGood l = false := sNo2 fun h => by rw [hgd] at h; cases h.1
        go_wp2_with fail
        refine HG.out.mono ?_
        rintro e w5 ⟨rfl, hb5⟩
        have Br5 := Br1.below hb5 hlr
        have BW5 := BWr.trans (hb5.mono (by have := BWr.size; omega))
        have hblk5 := hblk.below hb5 hl2
        have hl25 := hblk5.lt
        clear Br1 BWr hblk hown c0 c1 hgd
        have HNOG := Lib.hid (hno)
        obtain ⟨pW, pZ⟩ := par_no HNOG.out
        have HPW := Lib.hid pW
        have HPZ := Lib.hid pZ
        clear pW pZ
        have d0 : w5.cell? ⟨w.heap.size, 0, none⟩ = some (.int .i64 0) := Br5.cell 0
        have d1 : w5.cell? ⟨w.heap.size, 1, none⟩ = some (.slice none 0 0) := Br5.cell 1
        have f0 := Br5.frozen 0
        have f1 := Br5.frozen 1
        have hbe := ((BW5.setCell (p := ⟨w.heap.size, 0, none⟩) (Nat.le_refl _) (.int .i64 0)).setCell (p := ⟨w.heap.size, 1, none⟩) (Nat.le_refl _) (.slice none 0 0))
        have Bf := (Br5.set_ 0 (.int .i64 0)).set_ 1 (.slice none 0 0)
        have R0 := Lib.hid (show ((w5.setCell ⟨w.heap.size, 0, none⟩ (.int .i64 0)).setCell ⟨w.heap.size, 1, none⟩ (.slice none 0 0)).cell? ⟨w.heap.size, 0, none⟩ = some (.int .i64 0) from Bf.cell 0)
        have R1 := Lib.hid (show ((w5.setCell ⟨w.heap.size, 0, none⟩ (.int .i64 0)).setCell ⟨w.heap.size, 1, none⟩ (.slice none 0 0)).cell? ⟨w.heap.size, 1, none⟩ = some (.slice none 0 0) from Bf.cell 1)
        clear Bf
        go_wp2_with fail
        refine bodyPost_ret (v := .tuple #[.agg #[.int .i64 0, .slice none 0 0], .bool false]) (by simp [results, Tryd.results11, go_sem, R0.out, R1.out]) rfl ?_
        rw [HPW.out, HPZ.out, HNOG.out]
        exact ⟨none, 0, rfl, World.ownsRow_nil _ _ _ _, hbe⟩
      rw [hgd] at HG
      go_wp2_with fail
      refine HG.out.mono ?_
      rintro e w5 ⟨rfl, hb5⟩
      have Br5 := Br1.below hb5 hlr
      have BW5 := BWr.trans (hb5.mono (by have := BWr.size; omega))
      have hblk5 := hblk.below hb5 hl2
      have hown5 := own_below hown hb5 (Nat.le_refl _)
      have hl25 := hblk5.lt
      have hl15 := Br5.lt
      clear Br1 BWr hblk hown c0 c1 HG hb5
      have c0 : w5.cell? ⟨q + 1, 0, none⟩ = some (.int .i64 (sW l)) := hblk5.cell 0
      have c1 : w5.cell? ⟨q + 1, 1, none⟩ = some (.slice A (sZ l).length c) := hblk5.cell 1
      have HX := Lib.hid (l12Text_any (sW l) A (sZ l) c w5 (Reads.of_own hown5) hgd)
      have HGD := Lib.hid hgd
      clear hgd
      go_wp2_with fail
      refine HX.out.mono ?_
      rintro e w6 ⟨rfl, hb6⟩
      have Br6 := Br5.below hb6 hl15
      have BW6 := BW5.trans (hb6.mono (by have := BW5.size; omega))
      have hblk6 := hblk5.below hb6 hl25
      have hown6 := own_below hown5 hb6 (Nat.le_refl _)
      have hl26 := hblk6.lt
      have hl16 := Br6.lt
      clear Br5 BW5 hblk5 hown5 c0 c1 HX hb6
      have c0 : w6.cell? ⟨q + 1, 0, none⟩ = some (.int .i64 (sW l)) := hblk6.cell 0
      have c1 : w6.cell? ⟨q + 1, 1, none⟩ = some (.slice A (sZ l).length c) := hblk6.cell 1
      by_cases heq : txt (sW l) (sZ l) = l
      case neg =>
        have hne : ((bs (txt (sW l) (sZ l))).toList == (bs l).toList) = false := by rw [bs_toList, bs_toList]; simpa using heq
        have hno : iGood l = false := sNo2 fun h => heq h.2
        have HNOG := Lib.hid (hno)
        obtain ⟨pW, pZ⟩ := par_no HNOG.out
        have HPW := Lib.hid pW
        have HPZ := Lib.hid pZ
        clear pW pZ
        have d0 : w6.cell? ⟨w.heap.size, 0, none⟩ = some (.int .i64 0) := Br6.cell 0
        have d1 : w6.cell? ⟨w.heap.size, 1, none⟩ = some (.slice none 0 0) := Br6.cell 1
        have f0 := Br6.frozen 0
        have f1 := Br6.frozen 1
        have hbe := ((BW6.setCell (p := ⟨w.heap.size, 0, none⟩) (Nat.le_refl _) (.int .i64 0)).setCell (p := ⟨w.heap.size, 1, none⟩) (Nat.le_refl _) (.slice none 0 0))
        have Bf := (Br6.set_ 0 (.int .i64 0)).set_ 1 (.slice none 0 0)
        have R0 := Lib.hid (show ((w6.setCell ⟨w.heap.size, 0, none⟩ (.int .i64 0)).setCell ⟨w.heap.size, 1, none⟩ (.slice none 0 0)).cell? ⟨w.heap.size, 0, none⟩ = some (.int .i64 0) from Bf.cell 0)
        have R1 := Lib.hid (show ((w6.setCell ⟨w.heap.size, 0, none⟩ (.int .i64 0)).setCell ⟨w.heap.size, 1, none⟩ (.slice none 0 0)).cell? ⟨w.heap.size, 1, none⟩ = some (.slice none 0 0) from Bf.cell 1)
        clear Bf
        go_wp2_with fail
        refine bodyPost_ret (v := .tuple #[.agg #[.int .i64 0, .slice none 0 0], .bool false]) (by simp [results, Tryd.results11, go_sem, R0.out, R1.out]) rfl ?_
        rw [HPW.out, HPZ.out, HNOG.out]
        exact ⟨none, 0, rfl, World.ownsRow_nil _ _ _ _, hbe⟩
      have hee : ((bs (txt (sW l) (sZ l))).toList == (bs l).toList) = true := by rw [bs_toList, bs_toList]; simpa using heq
      obtain ⟨pG, pW, pZ⟩ := par_hit HGD.out heq
      have HPG := Lib.hid pG
      have HPW := Lib.hid pW
      have HPZ := Lib.hid pZ
      clear pG pW pZ heq
      have d0 : w6.cell? ⟨w.heap.size, 0, none⟩ = some (.int .i64 0) := Br6.cell 0
      have d1 : w6.cell? ⟨w.heap.size, 1, none⟩ = some (.slice none 0 0) := Br6.cell 1
      have f0 := Br6.frozen 0
      have f1 := Br6.frozen 1
      have o1 := own_setCell hown6 (p := ⟨w.heap.size, 0, none⟩) (own_blk_ne hown6 Br6 (by decide)) (.int .i64 (sW l))
      have o2 := own_setCell o1 (p := ⟨w.heap.size, 1, none⟩) (own_blk_ne hown6 Br6 (by decide)) (.slice A (sZ l).length c)
      have O2 := Lib.hid (own_base o2 (show w.heap.size ≤ q by omega))
      have hbe := ((BW6.setCell (p := ⟨w.heap.size, 0, none⟩) (Nat.le_refl _) (.int .i64 (sW l))).setCell (p := ⟨w.heap.size, 1, none⟩) (Nat.le_refl _) (.slice A (sZ l).length c))
      have Bf := (Br6.set_ 0 (.int .i64 (sW l))).set_ 1 (.slice A (sZ l).length c)
      have R0 := Lib.hid (show ((w6.setCell ⟨w.heap.size, 0, none⟩ (.int .i64 (sW l))).setCell ⟨w.heap.size, 1, none⟩ (.slice A (sZ l).length c)).cell? ⟨w.heap.size, 0, none⟩ = some (.int .i64 (sW l)) from Bf.cell 0)
      have R1 := Lib.hid (show ((w6.setCell ⟨w.heap.size, 0, none⟩ (.int .i64 (sW l))).setCell ⟨w.heap.size, 1, none⟩ (.slice A (sZ l).length c)).cell? ⟨w.heap.size, 1, none⟩ = some (.slice A (sZ l).length c) from Bf.cell 1)
      clear o1 o2 hown6 Bf
      go_wp2_with fail
      refine bodyPost_ret (v := .tuple #[.agg #[.int .i64 (sW l), .slice A (sZ l).length c], .bool true]) (by simp [results, Tryd.results11, go_sem, R0.out, R1.out]) rfl ?_
      rw [HPW.out, HPZ.out, HPG.out]
      exact ⟨A, c, rfl, O2.out, hbe⟩
end Go.Proofs.YtfpojoabfdiadaaDoor
