/- A network read out of a text: the program's ParseNetwork. -/
import Derived.Test.YtfpojoabfdiadaaDoorParI
import Derived.Deep.DeepCutAuto
import Derived.Deep.CutRange
namespace Go.Proofs.YtfpojoabfdiadaaDoor
open Go.RowKit
set_option linter.unusedVariables false
/-- a row of texts -/
def StrRow (w : World) (g : Nat) (ws : List (List UInt8)) : Prop := g < w.heap.size ∧ ∀ k (h : k < ws.length), w.cell? ⟨g, k, none⟩ = some (.string (bs ws[k]))
theorem StrRow.below {w w' : World} {g B : Nat} {ws : List (List UInt8)} (h : StrRow w g ws) (hb : Below B w w') (hB : g < B) : StrRow w' g ws :=
  ⟨Nat.lt_of_lt_of_le h.1 hb.size, fun k hk => (hb.cell hB).trans (h.2 k hk)⟩
theorem splitK_bound (sep : List UInt8) : ∀ (k : Nat) (s : List UInt8), ∀ x ∈ Lib.splitK sep 0 k s, x.length ≤ s.length := by
  intro k
  induction k with
  | zero => intro s x hx; simp [Lib.splitK] at hx; subst hx; exact Nat.le_refl _
  | succ k ih =>
    intro s x hx
    unfold Lib.splitK at hx
    split at hx
    · simp at hx; subst hx; exact Nat.le_refl _
    · simp only [List.mem_cons] at hx
      rcases hx with rfl | hx
      · simp; omega
      · have := ih _ x hx
        simp at this; omega
theorem splitK_ne (sep : List UInt8) (k : Nat) (s : List UInt8) : Lib.splitK sep 0 k s ≠ [] := by
  cases k with
  | zero => simp [Lib.splitK]
  | succ k => unfold Lib.splitK; split <;> simp
theorem words_eq (l : List UInt8) : Lib.splitB ⟨#[32]⟩ 0 (Lib.countB (bs l) ⟨#[32]⟩) (bs l) = (Lib.split l [32]).map bs ∧ Lib.countB (bs l) ⟨#[32]⟩ + 1 = (Lib.split l [32]).length := by
  have h1 := Lib.splitB_data ⟨#[32]⟩ 0 (Lib.countB (bs l) ⟨#[32]⟩) (bs l)
  have h2 := Lib.splitB_all ⟨#[32]⟩ (by decide) 0 _ (bs l) rfl
  have e : Lib.countB (bs l) ⟨#[32]⟩ = Lib.count l [32] := by unfold Lib.countB; rw [bs_data]
  rw [bs_data] at h1
  have h3 : (Lib.splitB ⟨#[32]⟩ 0 (Lib.countB (bs l) ⟨#[32]⟩) (bs l)).map (·.data.toList) = Lib.split l [32] := by rw [h1, e]; rfl
  refine ⟨?_, ?_⟩
  · rw [← h3, List.map_map]
    conv => lhs; rw [← List.map_id (Lib.splitB ⟨#[32]⟩ 0 (Lib.countB (bs l) ⟨#[32]⟩) (bs l))]
    exact List.map_congr_left fun x _ => (of_bs x).symm
  · rw [← h3, List.length_map, h2]
theorem split_len (l : List UInt8) : (Lib.split l [32]).length ≤ l.length + 1 := by
  rw [← (words_eq l).2]
  have := Lib.countB_le ⟨#[32]⟩ (by decide) _ (bs l) (Nat.le_refl _)
  rw [bs_size] at this
  omega
theorem Split_any (l : List UInt8) (w : World) (hd : DoorW w) (hl : l.length ≤ 4294967280) :
    Calls Tryd.prog 28 #[.string (bs l), .string ⟨#[32]⟩] w fun e w' => e = .returned (.slice (some ⟨w.heap.size, 0, none⟩) (Lib.split l [32]).length (Lib.split l [32]).length) ∧ StrRow w' w.heap.size (Lib.split l [32]) ∧ Below w.heap.size w w' := by
  obtain ⟨m, hm⟩ := hd.mx
  refine (Tryd.strings_Split (bs l) ⟨#[32]⟩ m w (by rw [bs_size]; omega) hm (by decide)).mono ?_
  rintro e w' ⟨rfl, rfl⟩
  obtain ⟨h1, h2⟩ := words_eq l
  rw [h1, h2]
  refine ⟨rfl, ⟨by simp, fun k hk => ?_⟩, by go_grown⟩
  rw [World.cell?_alloc_mark]
  simp [hk]
theorem Cut_any (l : List UInt8) (w : World) (hd : DoorW w) (hl : l.length ≤ 4294967280) :
    Calls Tryd.prog 30 #[.string (bs l), .string ⟨#[45]⟩] w fun e w' => e = .returned (.tuple #[.string (bs (Lib.cut l [45]).1), .string (bs (Lib.cut l [45]).2.1), .bool (Lib.cut l [45]).2.2]) ∧ ∃ n, w' = w.drewN n := by
  obtain ⟨m, hm⟩ := hd.mx
  have := Tryd.strings_Cut (bs l) ⟨#[45]⟩ m w (by rw [bs_size]; omega) hm
  rw [bs_data] at this
  exact this
theorem cut_len (l : List UInt8) : (Lib.cut l [45]).1.length ≤ l.length ∧ (Lib.cut l [45]).2.1.length ≤ l.length := by
  unfold Lib.cut
  split <;> simp
  omega
set_option maxRecDepth 100000 in
set_option maxHeartbeats 1600000 in
theorem ParseNetwork_any (l : List UInt8) (w : World) (hd : DoorW w) (hl : l.length ≤ 1048576) :
    Calls Tryd.prog 12 #[.string (bs l)] w fun e w' => ∃ A c, e = .returned (.tuple #[.agg #[.int .i64 (parW l), .slice A (parZ l).length c], .bool (iGood l)]) ∧
      w'.ownsRow w.heap.size 48 2 (.slice A (parZ l).length c) (parZ l).length (cmps (parZ l)) ∧ Below w.heap.size w w' := by
  have Br := Blk.new w 30 #[.int .i64 0, .slice none 0 0]
  obtain ⟨wb, hwb⟩ : ∃ wb, wb = w.alloc (.cells #[.int .i64 0, .slice none 0 0] 30) := ⟨_, rfl⟩
  have hbw : Below w.heap.size w wb := by rw [hwb]; go_grown
  have hsz : wb.heap.size = w.heap.size + 1 := by rw [hwb]; simp
  rw [← hwb] at Br
  have hdb := hd.below hbw (Nat.le_refl _)
  have HS := Lib.hid (Split_any l wb hdb (by omega))
  have hsl := split_len l
  have hbd : ∀ x ∈ Lib.split l [32], x.length ≤ l.length := splitK_bound _ _ _
  obtain ⟨x0, t, hws⟩ : ∃ x0 t, Lib.split l [32] = x0 :: t := by
    cases hc : Lib.split l [32] with
    | nil => exact absurd hc (splitK_ne _ _ _)
    | cons x0 t => exact ⟨x0, t, rfl⟩
  have eW : iW l = (iRead x0).1 := by simp [iW, hws]
  have eZ : iZ l = t.map iPair := by simp [iZ, hws]
  have eO : iOk l = ((iRead x0).2 && t.all iPok) := by simp [iOk, hws]
  rw [hws] at HS hbd hsl
  rw [hsz] at HS
  have hh := hbd x0 (by simp)
  have HT := Lib.hid (fun x (hx : x ∈ t) => hbd x (by simp [hx]))
  have htl : t.length ≤ 1048576 := by simp at hsl; omega
  have EW := Lib.hid eW
  have EZ := Lib.hid eZ
  have EO := Lib.hid eO
  have HWB := Lib.hid hwb
  clear eW eZ eO hws hbd hsl hd
  go_enter Tryd.func12, Tryd.ntmps12
  go_wp2_with fail
  rw [← HWB.out]
  refine HS.out.mono ?_
  rintro e w1 ⟨rfl, row1, hb1⟩
  clear hwb HS
  have hr0 := row1.2 0 (by simp)
  simp only [List.getElem_cons_zero] at hr0
  go_wp2_with fail
  refine (ParseInt_any x0 w1 (hdb.below hb1 (by omega)) (by omega)).mono ?_
  rintro e w2 ⟨rfl, hb2⟩
  have B2 : Below (w.heap.size + 1) wb w2 := hb1.trans (hb2.mono (by have := hb1.size; omega))
  have row2 := row1.below hb2 row1.1
  clear hb1 hb2 hr0 row1
  have hg2 := row2.1
  have s2 := B2.size
  have HD2 := Lib.hid (hdb.below B2 (by omega))
  clear hdb
  have hN : NetAt ((w2.alloc (.cells #[] 48)).alloc (.cells #[.int .i64 (iRead x0).1, .slice (some ⟨w2.heap.size, 0, none⟩) 0 0] 30)) w2.heap.size (w2.heap.size + 1) (iRead x0).1 [] := by
    refine ⟨.slice (some ⟨w2.heap.size, 0, none⟩) 0 0, ?_, ?_, by omega⟩
    · have := Blk.new (w2.alloc (.cells #[] 48)) 30 #[.int .i64 (iRead x0).1, .slice (some ⟨w2.heap.size, 0, none⟩) 0 0]
      simpa using this
    · have := World.ownsRow_made (base := w2.heap.size) (size := 2) (e := 48) w2 #[] 0 (by omega) (by simp) (by simp)
      exact this.alloc _
  have B3 := Joins.below_alloc2 w2 (.cells #[] 48) (.cells #[.int .i64 (iRead x0).1, .slice (some ⟨w2.heap.size, 0, none⟩) 0 0] 30)
  go_upto_region 4 with fail
  generalize (w2.alloc (.cells #[] 48)).alloc (.cells #[.int .i64 (iRead x0).1, .slice (some ⟨w2.heap.size, 0, none⟩) 0 0] 30) = w3 at hN B3 ⊢
  obtain ⟨q, hq⟩ : ∃ q, q = w2.heap.size := ⟨_, rfl⟩
  rw [← hq] at hN B3 hg2 s2 ⊢
  have HQ := Lib.hid hq; clear hq
  obtain ⟨rp, rc⟩ := row2
  go_cut [4, 32, 33, 34] (fun _ x n i wc => ∃ X, x = .slice X t.length t.length ∧ n = .int .i64 t.length ∧ i = .int .i64 0 ∧ Hid (0 < t.length → X = some ⟨w.heap.size + 1, 1, none⟩) ∧ wc = w3)
  case first =>
    by_cases ht : t.length = 0
    · go_wp2_with fail
      all_goals
        go_meet
        exact ⟨_, by rw [ht], by rw [ht]; rfl, rfl, Lib.hid (fun h => by omega), rfl⟩
    · have hb0 : ¬ t.length + 1 = 1 := by omega
      go_wp2_with fail
      all_goals
        go_meet
        exact ⟨_, rfl, rfl, rfl, Lib.hid (fun h => rfl), rfl⟩
  case rest =>
    obtain ⟨X, rfl, rfl, rfl, HX, rfl⟩ := hcut
    go_wp2_with fail
    go_loopw [6, 34] (fun o i wr => ∃ k : Nat, k ≤ t.length ∧ i = .int .i64 k ∧ o = .bool ((iRead x0).2 && (t.take k).all iPok) ∧ NetAt wr q (q + 1) (iRead x0).1 ((t.take k).map iPair) ∧ Below q w2 wr) (fun _ i _ => t.length - (intOf i).toNat)
    case atStart => exact ⟨0, by omega, rfl, by simp, hN, B3⟩
    case round =>
      clear hN B3
      obtain ⟨k, hk, rfl, rfl, hN, hB⟩ := hrel
      have HDr := Lib.hid (HD2.out.below hB (Nat.le_of_eq HQ.out.symm))
      by_cases hlt : k < t.length
      · have hX := HX.out (by omega)
        subst hX
        have hword := (hB.cell (show (⟨w.heap.size + 1, k + 1, none⟩ : Addr).block < q from hg2)).trans (rc (k + 1) (by simp; omega))
        rw [List.getElem_cons_succ] at hword
        have hword' : wr.cell? ⟨w.heap.size + 1, 1 + k, none⟩ = some (.string (bs t[k])) := by rw [Nat.add_comm 1 k]; exact hword
        have ht1 : (t.take (k + 1)).map iPair = (t.take k).map iPair ++ [iPair t[k]] := by rw [List.take_succ_eq_append_getElem hlt, List.map_append]; rfl
        have ht2 : (t.take (k + 1)).all iPok = ((t.take k).all iPok && iPok t[k]) := by rw [List.take_succ_eq_append_getElem hlt, List.all_append]; simp
        have hxl := HT.out t[k] (List.getElem_mem hlt)
        have hcl := cut_len t[k]
        generalize t[k] = x at *
        have HT1 := Lib.hid ht1
        have HT2 := Lib.hid ht2
        clear ht1 ht2
        have hkl : ((t.take k).map iPair).length ≤ 1048576 := by simp; omega
        generalize hcs : (t.take k).map iPair = cs at *
        generalize hbo : ((iRead x0).2 && (t.take k).all iPok) = bo at *
        have HBO := Lib.hid hbo; clear hbo
        obtain ⟨v, hblk, hown, hBp⟩ := hN
        have hpl := hblk.lt
        go_wp2_with fail
        refine (Cut_any x wr HDr.out (by omega)).mono ?_
        rintro e w4 ⟨rfl, n4, rfl⟩
        have HD4 := Lib.hid (HDr.out.below (below_drewN (Below.refl _ _) n4) (Nat.le_refl _))
        have b4 := below_drewN (Below.refl wr.heap.size wr) n4
        generalize wr.drewN n4 = w4 at *
        go_wp2_with fail
        have hbr := b4
        refine (ParseInt_any (Lib.cut x [45]).1 w4 HD4.out (by omega)).mono ?_
        rintro e w5 ⟨rfl, hb5⟩
        have b5 := bthen b4 hb5
        have HD5 := Lib.hid (HDr.out.below b5 (Nat.le_refl _))
        clear b4 hbr hb5
        go_wp2_with fail
        refine (ParseInt_any (Lib.cut x [45]).2.1 w5 HD5.out (by omega)).mono ?_
        rintro e w6 ⟨rfl, hb6⟩
        have b6 := bthen b5 hb6
        clear b5 hb6
        have hblk6 := hblk.below b6 hpl
        have hown6 := own_below hown b6 (Nat.le_refl _)
        have hpl6 := hblk6.lt
        have hB6 := hB.trans (b6.mono (by rw [HQ.out]; exact hB.size))
        clear hblk hown b6 hword hword' hpl
        have hip : iPok x = ((iRead (Lib.cut x [45]).1).2 && (iRead (Lib.cut x [45]).2.1).2) := rfl
        have hpr : iPair x = ((iRead (Lib.cut x [45]).1).1, (iRead (Lib.cut x [45]).2.1).1) := rfl
        have HIP := Lib.hid hip; clear hip
        have HPR := Lib.hid hpr; clear hpr
        generalize (iRead (Lib.cut x [45]).1).2 = o1 at *
        generalize (iRead (Lib.cut x [45]).2.1).2 = o2 at *
        generalize (iRead (Lib.cut x [45]).1).1 = n1 at *
        generalize (iRead (Lib.cut x [45]).2.1).1 = n2 at *
        go_upto_region 10 with fail
        go_cut [6] from 54 to 60 (fun vb wc => vb = .bool (bo && (o1 && o2)) ∧ wc = w6)
        case first =>
          cases bo <;> cases o1 <;> cases o2
          all_goals
            go_wp2_with fail
            go_meet
            exact ⟨rfl, rfl⟩
        case rest =>
          obtain ⟨rfl, rfl⟩ := hcut
          have c1 : wc.cell? ⟨q + 1, 1, none⟩ = some v := hblk6.cell 1
          obtain ⟨i0, hi, hz0, hz1, hz2⟩ := info_parts info_cmp
          have hqs : q ≤ wc.heap.size := by rw [HQ.out]; exact hB6.size
          go_wp2_with (at_builtin; refine wpList_push _ rfl _ _ 28 rfl q 48 i0 _ 2 16 Tryd.underlying28 hi hz0 hz1 hz2 rfl (by decide) v _ _ rfl hown6 #[.int .i64 n1, .int .i64 n2] rfl rfl (by simp [Value.oneCell']) (by omega) (by unfold maxLen; omega) (by omega) ?_; intro g1 k1 w7 hown7 hg7 hb7 hat7; have hblk7 := hblk6.grown hg7 (fun e => own_blk_ne hown6 hblk6 (by decide) e.symm); have c2 : w7.cell? ⟨q + 1, 1, none⟩ = some v := hblk7.cell 1; have f2 := hblk7.frozen 1)
          go_roundw
          case rel =>
            refine ⟨k + 1, by omega, by go_num, ?_, ?_, ?_⟩
            · rw [HT2.out, HIP.out, ← HBO.out, Bool.and_assoc]
            · rw [HT1.out, HPR.out]
              refine ⟨.slice (some ⟨g1, 0, none⟩) (cs.length + 1) k1, hblk7.set_ 1 _, ?_, by omega⟩
              refine own_setCell ?_ (own_blk_ne hown7 hblk7 (by decide)) _
              exact cmps_push hown7
            · exact (hB6.trans hb7).setCell (by simp) _
          case measure => simp [intOf]; omega
      · obtain ⟨v, hblk, hown, hBp⟩ := hN
        obtain ⟨A, c, rfl⟩ := own_slice hown
        have hk' : t.take k = t := List.take_of_length_le (by omega)
        rw [hk'] at hblk hown
        simp only [hk']
        rw [← EZ.out] at hblk hown
        have HF := Lib.hid (FormatNetwork_any (iRead x0).1 A (iZ l) c wr (Reads.of_own hown) (by rw [EZ.out]; simp; omega))
        have hzl : (iZ l).length ≤ 1048576 := by rw [EZ.out]; simp; omega
        have c0 : wr.cell? ⟨q + 1, 0, none⟩ = some (.int .i64 (iRead x0).1) := hblk.cell 0
        have c1 : wr.cell? ⟨q + 1, 1, none⟩ = some (.slice A (iZ l).length c) := hblk.cell 1
        rw [← EO.out, ← EW.out] at *
        have BA := B2.trans (hB.mono (Nat.le_of_lt hg2))
        have Br1 := Br.below BA (by omega)
        have d0 : wr.cell? ⟨w.heap.size, 0, none⟩ = some (.int .i64 0) := Br1.cell 0
        have d1 : wr.cell? ⟨w.heap.size, 1, none⟩ = some (.slice none 0 0) := Br1.cell 1
        have hl1 := Br1.lt
        have hl2 := hblk.lt
        go_wp2_with fail
        refine HF.out.mono ?_
        rintro e w5 ⟨rfl, hb5⟩
        have hblk5 := hblk.below hb5 hl2
        have hown5 := own_below hown hb5 (Nat.le_refl _)
        have Br5 := Br1.below hb5 hl1
        have BA5 := BA.trans (hb5.mono (by have := BA.size; omega))
        have BW5 := hbw.trans (BA5.mono (by omega))
        have hl15 := Br5.lt
        have hl25 := hblk5.lt
        clear hblk hown Br1 hb5 BA d0 d1 c0 c1 hl1 hl2 HF hB hbw Br B2
        have e0 : w5.cell? ⟨q + 1, 0, none⟩ = some (.int .i64 (iW l)) := hblk5.cell 0
        have e1 : w5.cell? ⟨q + 1, 1, none⟩ = some (.slice A (iZ l).length c) := hblk5.cell 1
        have d0 : w5.cell? ⟨w.heap.size, 0, none⟩ = some (.int .i64 0) := Br5.cell 0
        have d1 : w5.cell? ⟨w.heap.size, 1, none⟩ = some (.slice none 0 0) := Br5.cell 1
        have f0 := Br5.frozen 0
        have f1 := Br5.frozen 1
        have hig : iGood l = (iOk l && (netOk (iW l) (iZ l) && decide (txt (iW l) (iZ l) = l))) := rfl
        have HG := Lib.hid hig; clear hig
        by_cases hgood : iGood l = true
        · have hgg := hgood
          rw [HG.out] at hgg
          simp only [Bool.and_eq_true, decide_eq_true_eq] at hgg
          obtain ⟨g1, g2, g3⟩ := hgg
          have pW : parW l = iW l := by unfold parW; rw [if_pos hgood]
          have pZ : parZ l = iZ l := by unfold parZ; rw [if_pos hgood]
          have HPZ := Lib.hid pZ
          have HPW := Lib.hid pW
          have HGO := Lib.hid hgood
          have hfv : fmtV (iW l) (iZ l) = l := by unfold fmtV; rw [if_pos g2, g3]
          rw [g1, g2, hfv]
          have o1 := own_setCell hown5 (p := ⟨w.heap.size, 0, none⟩) (own_blk_ne hown5 Br5 (by decide)) (.int .i64 (iW l))
          have o2 := own_setCell o1 (p := ⟨w.heap.size, 1, none⟩) (own_blk_ne hown5 Br5 (by decide)) (.slice A (iZ l).length c)
          have O2 := Lib.hid (own_base o2 (show w.heap.size ≤ q by omega))
          have hbe := ((BW5.setCell (p := ⟨w.heap.size, 0, none⟩) (Nat.le_refl _) (.int .i64 (iW l))).setCell (p := ⟨w.heap.size, 1, none⟩) (Nat.le_refl _) (.slice A (iZ l).length c))
          have Bf := (Br5.set_ 0 (.int .i64 (iW l))).set_ 1 (.slice A (iZ l).length c)
          have R0 := Lib.hid (show ((w5.setCell ⟨w.heap.size, 0, none⟩ (.int .i64 (iW l))).setCell ⟨w.heap.size, 1, none⟩ (.slice A (iZ l).length c)).cell? ⟨w.heap.size, 0, none⟩ = some (.int .i64 (iW l)) from Bf.cell 0)
          have R1 := Lib.hid (show ((w5.setCell ⟨w.heap.size, 0, none⟩ (.int .i64 (iW l))).setCell ⟨w.heap.size, 1, none⟩ (.slice A (iZ l).length c)).cell? ⟨w.heap.size, 1, none⟩ = some (.slice A (iZ l).length c) from Bf.cell 1)
          clear o1 o2 hown5 Bf pW pZ hgood g1 g2 g3 hfv
          go_wp2_with fail
          refine bodyPost_ret (v := .tuple #[.agg #[.int .i64 (iW l), .slice A (iZ l).length c], .bool true]) (by simp [results, Tryd.results12, go_sem, R0.out, R1.out]) rfl ?_
          rw [HPW.out, HPZ.out, HGO.out]
          exact ⟨A, c, rfl, O2.out, hbe⟩
        · have hgf : iGood l = false := by simpa using hgood
          obtain ⟨pW, pZ⟩ := par_no hgf
          have HPZ := Lib.hid pZ
          have HPW := Lib.hid pW
          have HGO := Lib.hid hgf
          have hbe := ((BW5.setCell (p := ⟨w.heap.size, 0, none⟩) (Nat.le_refl _) (.int .i64 0)).setCell (p := ⟨w.heap.size, 1, none⟩) (Nat.le_refl _) (.slice none 0 0))
          have Bf := (Br5.set_ 0 (.int .i64 0)).set_ 1 (.slice none 0 0)
          have R0 := Lib.hid (show ((w5.setCell ⟨w.heap.size, 0, none⟩ (.int .i64 0)).setCell ⟨w.heap.size, 1, none⟩ (.slice none 0 0)).cell? ⟨w.heap.size, 0, none⟩ = some (.int .i64 0) from Bf.cell 0)
          have R1 := Lib.hid (show ((w5.setCell ⟨w.heap.size, 0, none⟩ (.int .i64 0)).setCell ⟨w.heap.size, 1, none⟩ (.slice none 0 0)).cell? ⟨w.heap.size, 1, none⟩ = some (.slice none 0 0) from Bf.cell 1)
          have hne : iOk l = true → netOk (iW l) (iZ l) = true → ((bs (fmtV (iW l) (iZ l))).toList == (bs l).toList) = false := by
            intro h1 h2
            rw [bs_toList, bs_toList]
            have h3 : ¬ txt (iW l) (iZ l) = l := fun h3 => hgood (by rw [HG.out, h1, h2]; simpa using h3)
            have h4 : fmtV (iW l) (iZ l) = txt (iW l) (iZ l) := by unfold fmtV; rw [if_pos h2]
            rw [h4]; simpa using h3
          have HNE := Lib.hid hne
          clear Bf pW pZ hgood hgf hown5 hne
          cases h1 : iOk l
          · go_wp2_with fail
            refine bodyPost_ret (v := .tuple #[.agg #[.int .i64 0, .slice none 0 0], .bool false]) (by simp [results, Tryd.results12, go_sem, R0.out, R1.out]) rfl ?_
            rw [HPW.out, HPZ.out, HGO.out]
            exact ⟨none, 0, rfl, World.ownsRow_nil _ _ _ _, hbe⟩
          · cases h2 : netOk (iW l) (iZ l)
            · go_wp2_with fail
              refine bodyPost_ret (v := .tuple #[.agg #[.int .i64 0, .slice none 0 0], .bool false]) (by simp [results, Tryd.results12, go_sem, R0.out, R1.out]) rfl ?_
              rw [HPW.out, HPZ.out, HGO.out]
              exact ⟨none, 0, rfl, World.ownsRow_nil _ _ _ _, hbe⟩
            · have h3 := HNE.out h1 h2
              go_wp2_with fail
              refine bodyPost_ret (v := .tuple #[.agg #[.int .i64 0, .slice none 0 0], .bool false]) (by simp [results, Tryd.results12, go_sem, R0.out, R1.out]) rfl ?_
              rw [HPW.out, HPZ.out, HGO.out]
              exact ⟨none, 0, rfl, World.ownsRow_nil _ _ _ _, hbe⟩
end Go.Proofs.YtfpojoabfdiadaaDoor
