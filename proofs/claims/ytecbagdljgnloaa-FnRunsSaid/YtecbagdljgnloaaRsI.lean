/- Replacement selection: the program's side. -/
import Derived.Test.YtecbagdljgnloaaRsW
import Derived.Deep.LoopGhost
import Derived.Deep.DeepCutAuto
import Derived.Deep.RegionHeld3
namespace Go.Proofs.Ytecbagdljgnloaa
open Go.RowKit
set_option linter.unusedVariables false
def rinit (zs : List Int) (k : Nat) : List Slt := (zs.take k).map fun x => (x, false)
theorem rinit_succ {zs rest : List Int} {k : Nat} {r : Int} (h : zs.drop k = r :: rest) : rinit zs (k + 1) = rinit zs k ++ [(r, false)] ∧ zs.drop (k + 1) = rest ∧ k < zs.length := by
  have hk : k < zs.length := by
    rcases Nat.lt_or_ge k zs.length with h1 | h1
    · exact h1
    · rw [List.drop_of_length_le h1] at h; cases h
  rw [List.drop_eq_getElem_cons hk] at h
  cases h
  refine ⟨?_, rfl, hk⟩
  unfold rinit
  rw [List.take_succ_eq_append_getElem hk, List.map_append]
  rfl
theorem best_old {sl : List Slt} {j : Nat} (h : mkd sl j = true) : bestI sl (j + 1) = bestI sl j := by simp [bestI, h]
theorem best_neg {sl : List Slt} {j : Nat} (h : mkd sl j = false) (hb : bestI sl j < 0) : bestI sl (j + 1) = (j : Int) := by simp [bestI, h, hb]
theorem best_new {sl : List Slt} {j b : Nat} (h : mkd sl j = false) (hb : bestI sl j = (b : Int)) (hl : ky sl j < ky sl b) : bestI sl (j + 1) = (j : Int) := by simp [bestI, h, hb, hl]
theorem best_kept {sl : List Slt} {j b : Nat} (h : mkd sl j = false) (hb : bestI sl j = (b : Int)) (hl : ¬ ky sl j < ky sl b) : bestI sl (j + 1) = (b : Int) := by
  have h0 : ¬ ((b : Int) < 0) := by omega
  simp [bestI, h, hb, hl, h0]
def Lp1 (w : World) (z0 : List Int) (m : Nat) (vs vr : Value) (wr : World) : Prop := ∃ (k gs cs q c : Nat) (A : Option Addr) (rest : List Int) (sl : List Slt), vs = .slice (some ⟨gs, 0, none⟩) k cs ∧ vr = .slice A q c ∧ k ≤ m ∧ Hid (sl = rinit z0 k) ∧ Hid (z0.drop k = rest) ∧
    Hid (RsW w wr (.slice (some ⟨gs, 0, none⟩) k cs) (.slice (some ⟨w.heap.size + 1, 0, none⟩) 0 0) (.slice (some ⟨w.heap.size + 1 + 1, 0, none⟩) 0 0) k 0 0 A q c sl rest [] [] [])
def Lp2 (w : World) (z0 : List Int) (m F : Nat) (vs vr vu vc : Value) (wr : World) : Prop := ∃ (As : Option Addr) (n cs : Nat) (A : Option Addr) (q c : Nat) (Au : Option Addr) (p cu : Nat) (Ac : Option Addr) (t cc : Nat) (sl : List Slt) (rest : List Int) (runs : List (List Int)) (run : List Int) (vals : List Value),
    vs = .slice As n cs ∧ vr = .slice A q c ∧ vu = .slice Au p cu ∧ vc = .slice Ac t cc ∧ Hid (RsW w wr (.slice As n cs) (.slice Au p cu) (.slice Ac t cc) n p t A q c sl rest runs run vals) ∧ Hid (rsM sl rest < F) ∧ Hid (rsF F sl rest runs run = rsV z0 m) ∧ Hid (RsI z0 m sl rest runs run)
set_option maxRecDepth 100000 in
set_option maxHeartbeats 6400000 in
theorem replacement_any (A0 : Option Addr) (z0 : List Int) (n0 c0 m : Nat) (w : World) (hx0 : Reads w w.heap.size 1 A0 n0 (ints z0)) (hn0 : z0.length = n0) (hc0 : n0 ≤ c0) (h64 : n0 ≤ 64) (hm1 : 1 ≤ m) (hm2 : m ≤ 16) :
    Calls Try.prog 32 #[.slice A0 n0 c0, .int .i64 (m : Nat)] w fun e w' => ∃ v, e = .returned v ∧ OwnsRR w' w.heap.size 22 3 v (rsV z0 m) ∧ Below w.heap.size w w' := by
  obtain ⟨i0, hi, hz0, hz1, hz2⟩ := info_parts (show (Try.prog.info? 3).map (fun i => (i.zero, i.size, i.bytes)) = some (some (.int .i64 0), 1, 8) by kernel_rfl)
  obtain ⟨i1, hj, hy0, hy1, hy2⟩ := info_parts (show (Try.prog.info? 22).map (fun i => (i.zero, i.size, i.bytes)) = some (some (.slice none 0 0), 1, 24) by kernel_rfl)
  obtain ⟨i2, hk, hw0, hw1, hw2⟩ := info_parts (show (Try.prog.info? 60).map (fun i => (i.zero, i.size, i.bytes)) = some (some (.agg #[.int .i64 0, .bool false]), 2, 16) by kernel_rfl)
  have hR0 : RsW w (((w.alloc (.cells #[] 60)).alloc (.cells #[] 22)).alloc (.cells #[] 3)) (.slice (some ⟨w.heap.size, 0, none⟩) 0 0) (.slice (some ⟨w.heap.size + 1, 0, none⟩) 0 0) (.slice (some ⟨w.heap.size + 1 + 1, 0, none⟩) 0 0) 0 0 0 A0 n0 c0 [] z0 [] [] [] :=
    ⟨alloc_ (alloc_ (alloc_ (Below.refl _ _) _) _) _, World.ownsRow.alloc (World.ownsRow.alloc (made_at (Nat.le_refl _) rfl) _) _, rfl, ((hx0.alloc (Nat.le_refl _) _).alloc (by simp) _).alloc (by simp; omega) _, hn0, hc0,
      World.ownsRow.alloc (made_at (by simp) (by simp)) _, Inner.nil, rfl, made_at (by simp; omega) (by simp), rfl, by simp⟩
  have HZ := Lib.hid hn0
  clear hx0 hn0
  have HR0 := Lib.hid hR0
  clear hR0
  go_enter Try.func32, Try.ntmps32
  go_wp2_with fail
  go_loopw [5, 6] (fun vs vr wr => Lp1 w z0 m vs vr wr) (fun _ vr _ => match vr with | .slice _ q _ => q | _ => 0)
  case atStart => exact ⟨0, _, _, _, _, _, z0, [], rfl, rfl, by omega, Lib.hid rfl, Lib.hid rfl, HR0⟩
  case round =>
    clear HR0
    obtain ⟨k, gs, cs, q, c, A, rest, sl, rfl, rfl, hkm, HS, HD, HR⟩ := hrel
    by_cases hgo : 0 < q ∧ k < m
    · obtain ⟨hq, hk2⟩ := hgo
      have iq : (0 : Int) < (q : Int) := by omega
      have ik : (k : Int) < (m : Int) := by omega
      obtain ⟨r, rest', hrr⟩ : ∃ r rest', rest = r :: rest' := by
        cases rest with
        | nil => have := HR.out.rq; simp at this; omega
        | cons a l => exact ⟨a, l, rfl⟩
      subst hrr
      obtain ⟨ad, rfl, hc⟩ := HR.out.first
      have HR2 := Lib.hid HR.out.cut
      have hqc := HR.out.qc
      have hc1 : 1 ≤ c := by omega
      have hq1 : 1 ≤ q := by omega
      have hq2 : (1 : Int) ≤ (q : Int) := by omega
      obtain ⟨A2, hA2⟩ : ∃ A2, (if c = 1 then some ad else some (⟨ad.block, ad.off + 1, none⟩ : Addr)) = A2 := ⟨_, rfl⟩
      rw [hA2] at HR2
      have hs := HR2.out.s
      have hbs := HR2.out.b.size
      have hsd : wr.drew.ownsRow w.heap.size 60 2 (.slice (some ⟨gs, 0, none⟩) k cs) k (sls sl) := hs
      go_wp2_with fail
      go_region_law (refine step_push _ rfl (.tmp 27) (.tmp 32) 58 rfl w.heap.size 60 i2 _ 2 16 Try.underlying58 hk hw0 hw1 hw2 rfl (by decide) (.slice (some ⟨gs, 0, none⟩) k cs) _ (sls sl) (by simp [Act.eval]) (World.ownsRow.alloc hsd _) #[.int .i64 r, .bool false] wr.heap.size (by simp [Act.eval]) (blk_new_at rfl) rfl (by simp [Value.oneCell']) (by omega) (by unfold maxLen; omega) (Nat.le_trans hbs (by simp)) ?_; intro g1 d1 w3 hown3 hg3 hb3 hat3)
      go_wp2_with fail
      have hdr : Below wr.heap.size wr (wr.drew.alloc (.cells #[.int .i64 r, .bool false] 60)) := alloc_ (bdrew (Below.refl _ _)) _
      have HR3 := Lib.hid ((HR2.out.below hdr).slots (n' := k + 1) (sl' := sl ++ [(r, false)]) hg3 (by have h9 := hown3; simpa using h9) (by rw [List.length_append, HR2.out.sn]; rfl))
      obtain ⟨e1, e2, -⟩ := rinit_succ HD.out
      go_roundw
      case rel => exact ⟨k + 1, g1, d1, q - 1, c - 1, A2, rest', sl ++ [(r, false)], rfl, rfl, by omega, Lib.hid (by rw [e1, HS.out]), Lib.hid e2, HR3⟩
      case measure => omega
    · have HST : Hid (sl = (z0.take m).map (fun x => (x, false)) ∧ rest = z0.drop m) := Lib.hid (by
        have hd := HD.out
        have hq := HR.out.rq
        rcases Nat.lt_or_ge k m with h | h
        · have h0 : q = 0 := by omega
          have hk : n0 ≤ k := by
            have := HZ.out
            rw [← hd, List.length_drop] at hq
            omega
          have hz := HZ.out
          rw [HS.out, ← hd]
          unfold rinit
          rw [List.take_of_length_le (show z0.length ≤ k by omega), List.take_of_length_le (show z0.length ≤ m by omega), List.drop_of_length_le (show z0.length ≤ k by omega), List.drop_of_length_le (show z0.length ≤ m by omega)]
          exact ⟨rfl, rfl⟩
        · have : k = m := by omega
          subst this
          rw [HS.out, ← hd]
          exact ⟨rfl, rfl⟩)
      clear HS HD
      have hcase : q = 0 ∨ (0 < q ∧ k = m) := by omega
      have HN : 1 ≤ m := hm1
      clear hgo
      rcases hcase with rfl | ⟨hq, rfl⟩
      · have iq0 : (0 : Int) ≤ 0 := by omega
        go_wp2_with fail
        have HR1 := Lib.hid (show RsW w wr (.slice (some ⟨gs, 0, none⟩) k cs) (.slice (some ⟨w.heap.size + 1, 0, none⟩) 0 0) (.slice (some ⟨w.heap.size + 1 + 1, 0, none⟩) 0 0) k 0 0 A 0 c ((z0.take m).map fun x => (x, false)) (z0.drop m) [] [] [] from by rw [← HST.out.1, ← HST.out.2]; exact HR.out)
        have HST2 := Lib.hid (rs_start z0 m HN)
        clear HR HST
        go_loopg [5, 6, 7, 8] (2 * z0.length + 2) (fun F vs vr vu vc wr => Lp2 w z0 m F vs vr vu vc wr)
        case atStart => exact ⟨_, _, _, _, _, _, _, _, _, _, _, _, _, _, _, _, [], rfl, rfl, rfl, rfl, HR1, Lib.hid HST2.out.2, Lib.hid rfl, Lib.hid HST2.out.1⟩
        case round =>
          clear HR1 HST2
          obtain ⟨As, n, cs, A, q, c, Au, p, cu, Ac, t, cc, sl, rest, runs, run, vals, rfl, rfl, rfl, rfl, HR, HF, HE, HI⟩ := hrel
          have hle := HR.out.le HI.out
          have h64 : p + t + n + q ≤ 64 := by have := HZ.out; omega
          clear hle
          by_cases hn : 0 < n
          · obtain ⟨gs, cs', hA', -, -, -, -⟩ := own_some HR.out.s hn
            cases hA'
            have hnI : (0 : Int) < (n : Int) := by omega
            have HSN := Lib.hid HR.out.sn
            go_wp2_with fail
            go_loopw [9, 41] (fun vb vi wr2 => ∃ (j : Nat) (b : Int), j ≤ n ∧ vi = .int .i64 (j : Nat) ∧ vb = .int .i64 b ∧ Hid (b = bestI sl j) ∧ -1 ≤ b ∧ b < (j : Int) ∧ Below wr.heap.size wr wr2) (fun _ vi _ => n - (intOf vi).toNat)
            case atStart => exact ⟨0, -1, by omega, rfl, rfl, Lib.hid rfl, by omega, by omega, Below.refl _ _⟩
            case round =>
              obtain ⟨j, b, hjn, rfl, rfl, HB, hb1, hb2, hbl⟩ := hrel
              have HR2 := Lib.hid (HR.out.below hbl)
              by_cases hjj : j < n
              · have jI : (j : Int) < (n : Int) := by omega
                have hjl : j < sl.length := by rw [HSN.out]; exact hjj
                have c1 := HR2.out.s.cellAt (j * 2) (by omega)
                have c2 := HR2.out.s.cellAt (j * 2 + 1) (by omega)
                rw [(sls_get hjl).1] at c1
                rw [(sls_get hjl).2] at c2
                obtain ⟨x, hx⟩ : ∃ x, ky sl j = x := ⟨_, rfl⟩
                obtain ⟨mk, hmk⟩ : ∃ mk, mkd sl j = mk := ⟨_, rfl⟩
                rw [hx] at c1
                rw [hmk] at c2
                have HX := Lib.hid hx
                have HM := Lib.hid hmk
                clear hx hmk hjl
                go_upto_region 9 with fail
                have HR3 := Lib.hid (HR2.out.alloc (.cells #[.int .i64 x, .bool mk] 60))
                have hbl2 := alloc_ hbl (.cells #[.int .i64 x, .bool mk] 60)
                obtain ⟨c3, c4⟩ := (Blk.new wr 60 #[.int .i64 x, .bool mk]).two
                generalize wr.alloc (.cells #[.int .i64 x, .bool mk] 60) = w9 at *
                generalize wr.heap.size = g9 at *
                clear c1 c2 HR2 hbl
                cases mk
                · by_cases hbn : b < 0
                  · have HBN := Lib.hid (best_neg HM.out (by rw [← HB.out]; exact hbn))
                    go_quiet (fail)
                    go_wp2_with fail
                    go_roundw
                    case rel => exact ⟨j + 1, j, by omega, by go_num, rfl, Lib.hid HBN.out.symm, by omega, by omega, below_drewN hbl2 _⟩
                    case measure => simp [intOf]; omega
                  · obtain ⟨d, rfl⟩ : ∃ d : Nat, b = (d : Int) := ⟨b.toNat, by omega⟩
                    have hdj : d < n := by omega
                    have hdI : (d : Int) < (n : Int) := by omega
                    have hd0 : ¬ ((d : Int) < 0) := by omega
                    have c5 := HR3.out.s.cellAt (d * 2) (by omega)
                    rw [(sls_get (show d < sl.length by rw [HSN.out]; exact hdj)).1] at c5
                    obtain ⟨y, hy⟩ : ∃ y, ky sl d = y := ⟨_, rfl⟩
                    rw [hy] at c5
                    have HY := Lib.hid hy
                    clear hy
                    by_cases hxy : x < y
                    · have HBN := Lib.hid (best_new HM.out HB.out.symm (by rw [HX.out, HY.out]; exact hxy))
                      go_quiet (fail)
                      go_wp2_with fail
                      go_roundw
                      case rel => exact ⟨j + 1, j, by omega, by go_num, rfl, Lib.hid HBN.out.symm, by omega, by omega, below_drewN hbl2 _⟩
                      case measure => simp [intOf]; omega
                    · have HBN := Lib.hid (best_kept HM.out HB.out.symm (by rw [HX.out, HY.out]; exact hxy))
                      go_quiet (fail)
                      go_wp2_with fail
                      go_roundw
                      case rel => exact ⟨j + 1, d, by omega, by go_num, rfl, Lib.hid HBN.out.symm, by omega, by omega, below_drewN hbl2 _⟩
                      case measure => simp [intOf]; omega
                · have HBN := Lib.hid (best_old HM.out)
                  go_quiet (fail)
                  go_wp2_with fail
                  go_roundw
                  case rel => exact ⟨j + 1, b, by omega, by go_num, rfl, Lib.hid (by rw [HBN.out]; exact HB.out), by omega, by omega, below_drewN hbl2 _⟩
                  case measure => simp [intOf]; omega
              · have jI : ¬ (j : Int) < (n : Int) := by omega
                obtain rfl : n = j := by omega
                have HSL : Hid (sl.length ≠ 0) := Lib.hid (by rw [HSN.out]; omega)
                obtain ⟨F, rfl⟩ : ∃ F, gk = F + 1 := ⟨gk - 1, by have := HF.out; omega⟩
                clear HR hbl
                have hbs := HR2.out.b.size
                by_cases hbn : b < 0
                · have hbb : bestI sl sl.length < 0 := by rw [HSN.out, ← HB.out]; exact hbn
                  have HI2 := Lib.hid (HI.out.close HSL.out hbb)
                  have HF2 : Hid (rsM (unm sl) rest < F) := Lib.hid (by have h1 := rsM_unm (rest := rest) HSL.out hbb; have h2 := HF.out; omega)
                  have HE2 : Hid (rsF F (unm sl) rest (runs ++ [run]) [] = rsV z0 m) := Lib.hid (by have h9 := HE.out; unfold rsF at h9; rw [if_neg HSL.out, if_pos hbb] at h9; exact h9)
                  clear hbb
                  have HR3 := Lib.hid (HR2.out.alloc (.cells #[.slice Ac t cc] 22))
                  have hu := HR3.out.u
                  go_wp2_with (at_builtin; go_loud (refine wpList_push' _ rfl _ _ 29 rfl w.heap.size 22 i1 _ 1 24 Try.underlying29 hj hy0 hy1 hy2 rfl (by decide) (.slice Au p cu) _ vals rfl hu #[.slice Ac t cc] wr.heap.size rfl (Blk.new _ _ _) rfl (by simp [Value.oneCell']) (by omega) (by unfold maxLen; omega) (Nat.le_trans hbs (by simp)) ?_; intro g1 d1 w3 hown3 hg3 hb3 hat3))
                  have HR4 := Lib.hid (HR3.out.close hg3 hown3)
                  clear HR2 HR3 hu hown3 hg3 hb3 hat3 HE HF HI
                  go_loopw [74] (fun vi wr2 => ∃ (j : Nat) (sl2 : List Slt), j ≤ n ∧ vi = .int .i64 (j : Nat) ∧ Hid (sl2 = (unm sl).take j ++ sl.drop j) ∧ Hid (RsW w wr2 (.slice (some ⟨gs, 0, none⟩) n cs) (.slice (some ⟨g1, 0, none⟩) (p + 1) d1) (.slice (some ⟨w3.heap.size, 0, none⟩) 0 0) n (p + 1) 0 A q c sl2 rest (runs ++ [run]) [] (vals ++ [.slice Ac t cc]))) (fun vi _ => n - (intOf vi).toNat)
                  case atStart => exact ⟨0, sl, by omega, rfl, Lib.hid (by simp), HR4⟩
                  case round =>
                    clear HR4
                    obtain ⟨j, sl2, hjn, rfl, HS2, HR5⟩ := hrel
                    by_cases hjj : j < n
                    · have jI : (j : Int) < (n : Int) := by omega
                      have hsl2 : sl2.length = n := HR5.out.sn
                      have c1 := HR5.out.s.cellAt (j * 2 + 1) (by omega)
                      have f1 := HR5.out.s.frozenAt (j * 2 + 1)
                      rw [(sls_get (by omega)).2] at c1
                      obtain ⟨h1, h2⟩ := HR5.out.s.stored (j * 2 + 1) (.bool false)
                      rw [sls_set2 _ _ _ (by omega)] at h1
                      have HR6 := Lib.hid (HR5.out.slots h2 h1 (by rw [List.length_set]; exact hsl2))
                      have HS3 : Hid (sl2.set j (ky sl2 j, false) = (unm sl).take (j + 1) ++ sl.drop (j + 1)) := Lib.hid (by rw [HS2.out]; exact unm_step sl j (by rw [HSN.out]; exact hjj))
                      clear h1 h2 hsl2
                      go_wp2_with fail
                      go_roundw
                      case rel => exact ⟨j + 1, _, by omega, by go_num, HS3, HR6⟩
                      case measure => simp [intOf]; omega
                    · have jI : ¬ (j : Int) < (n : Int) := by omega
                      obtain rfl : n = j := by omega
                      have hse : sl2 = unm sl := by
                        rw [HS2.out, List.take_of_length_le (by simp [unm, HSN.out]), List.drop_of_length_le (by rw [HSN.out]; exact Nat.le_refl _), List.append_nil]
                      subst hse
                      go_wp2_with fail
                      go_roundg F
                      case measure => omega
                      case rel => exact ⟨_, _, _, _, _, _, _, _, _, _, _, _, _, _, _, _, _, rfl, rfl, rfl, rfl, HR5, HF2, HE2, HI2⟩
                · obtain ⟨d, rfl⟩ : ∃ d : Nat, b = (d : Int) := ⟨b.toNat, by omega⟩
                  have hdj : d < n := by omega
                  have hdI : (d : Int) < (n : Int) := by omega
                  have hd0 : ¬ ((d : Int) < 0) := by omega
                  have hdl : d < sl.length := by rw [HSN.out]; exact hdj
                  have HBD : Hid (bestI sl sl.length = (d : Int)) := Lib.hid (by rw [HSN.out, ← HB.out])
                  have HNB : Hid (¬ bestI sl sl.length < 0) := Lib.hid (by rw [HBD.out]; omega)
                  have c1 := HR2.out.s.cellAt (d * 2) (by omega)
                  rw [(sls_get hdl).1] at c1
                  obtain ⟨x, hx⟩ : ∃ x, ky sl d = x := ⟨_, rfl⟩
                  rw [hx] at c1
                  have HX := Lib.hid hx
                  clear hx
                  have HDL := Lib.hid hdl
                  clear hdl
                  have HR3 := Lib.hid (HR2.out.alloc (.cells #[.int .i64 x] 3))
                  have hkr := HR3.out.k
                  have HKT := Lib.hid HR3.out.kt
                  have HRQ := Lib.hid HR3.out.rq
                  rcases rest with _ | ⟨r, rest'⟩
                  · have hq0 : q = 0 := by have := HRQ.out; simpa using this.symm
                    subst hq0
                    have HI2 : Hid (RsI z0 m (sl.eraseIdx d) [] runs (run ++ [x])) := Lib.hid (by have := HI.out.drop HNB.out; rwa [HBD.out, Int.toNat_natCast, HX.out] at this)
                    have HF2 : Hid (rsM (sl.eraseIdx d) [] < F) := Lib.hid (by have h1 := rsM_erase HDL.out; have h2 := HF.out; omega)
                    have HE2 : Hid (rsF F (sl.eraseIdx d) [] runs (run ++ [x]) = rsV z0 m) := Lib.hid (by rw [← HE.out, rsF, if_neg HSL.out, if_neg HNB.out]; simp only [HBD.out, Int.toNat_natCast, HX.out])
                    clear HE HF HI
                    go_wp2_with (at_builtin; go_loud (refine wpList_push' _ rfl _ _ 22 rfl w.heap.size 3 i0 _ 1 8 Try.underlying22 hi hz0 hz1 hz2 rfl (by decide) (.slice Ac t cc) _ (ints run) rfl hkr #[.int .i64 x] wr.heap.size rfl (Blk.new _ _ _) rfl (by simp [Value.oneCell']) (by omega) (by unfold maxLen; omega) (Nat.le_trans hbs (by simp)) ?_; intro g5 d5 w5 hown5 hg5 hb5 hat5))
                    have HR4 := Lib.hid (HR3.out.grow (run' := run ++ [x]) (vC' := .slice (some ⟨g5, 0, none⟩) (t + 1) d5) hg5 (by have h9 := hown5; simpa [ints] using h9) (by rw [List.length_append, HKT.out]; rfl) (by
                      rcases hat5 with h | h
                      · exact .inl h.symm
                      · exact .inr fun k hk => by cases hk; exact h))
                    clear HR2 HR3 hkr hown5 hg5 hb5 hat5 c1
                    refine (delS_any w.heap.size n cs d (some ⟨gs, 0, none⟩) sl w5 HR4.out.s HSN.out hdj).mono ?_
                    rintro e w6 ⟨rfl, ho6, hg6⟩
                    have HR5 := Lib.hid (HR4.out.slots hg6 ho6 (by rw [List.length_eraseIdx_of_lt HDL.out, HSN.out]))
                    go_wp2_with fail
                    go_roundg F
                    case measure => omega
                    case rel => exact ⟨_, _, _, _, _, _, _, _, _, _, _, _, _, _, _, _, _, rfl, rfl, rfl, rfl, HR5, HF2, HE2, HI2⟩
                  · have hq1 : 1 ≤ q := by have := HRQ.out; simp at this; omega
                    have hq2 : (1 : Int) ≤ (q : Int) := by omega
                    have hq3 : (0 : Int) < (q : Int) := by omega
                    obtain ⟨ad, rfl, -⟩ := HR3.out.first
                    have hqc := HR3.out.qc
                    have hc1 : 1 ≤ c := by omega
                    have HI2 : Hid (RsI z0 m (sl.set d (r, decide (r < x))) rest' runs (run ++ [x])) := Lib.hid (by have := HI.out.swap HNB.out; rwa [HBD.out, Int.toNat_natCast, HX.out] at this)
                    have HF2 : Hid (rsM (sl.set d (r, decide (r < x))) rest' < F) := Lib.hid (by have h1 := rsM_set (sl := sl) (r := r) (rest := rest') d (r, decide (r < x)); have h2 := HF.out; omega)
                    have HE2 : Hid (rsF F (sl.set d (r, decide (r < x))) rest' runs (run ++ [x]) = rsV z0 m) := Lib.hid (by rw [← HE.out, rsF, if_neg HSL.out, if_neg HNB.out]; simp only [HBD.out, Int.toNat_natCast, HX.out])
                    clear HE HF HI
                    go_upto_region 22 with (at_builtin; go_loud (refine wpList_push' _ rfl _ _ 22 rfl w.heap.size 3 i0 _ 1 8 Try.underlying22 hi hz0 hz1 hz2 rfl (by decide) (.slice Ac t cc) _ (ints run) rfl hkr #[.int .i64 x] wr.heap.size rfl (Blk.new _ _ _) rfl (by simp [Value.oneCell']) (by omega) (by unfold maxLen; omega) (Nat.le_trans hbs (by simp)) ?_; intro g5 d5 w5 hown5 hg5 hb5 hat5))
                    have HR4 := Lib.hid (HR3.out.grow (run' := run ++ [x]) (vC' := .slice (some ⟨g5, 0, none⟩) (t + 1) d5) hg5 (by have h9 := hown5; simpa [ints] using h9) (by rw [List.length_append, HKT.out]; rfl) (by
                      rcases hat5 with h | h
                      · exact .inl h.symm
                      · exact .inr fun k hk => by cases hk; exact h))
                    clear HR2 HR3 hkr hown5 hg5 hb5 hat5 c1
                    obtain ⟨ad', ha', c0⟩ := HR4.out.first
                    cases ha'
                    have HR5 := Lib.hid HR4.out.drew.cut
                    obtain ⟨A2, hA2⟩ : ∃ A2, (if c = 1 then some ad else some (⟨ad.block, ad.off + 1, none⟩ : Addr)) = A2 := ⟨_, rfl⟩
                    rw [hA2] at HR5
                    have c1 := HR4.out.s.cellAt (d * 2) (by omega)
                    have c2 := HR4.out.s.cellAt (d * 2 + 1) (by omega)
                    rw [(sls_get HDL.out).1] at c1
                    rw [(sls_get HDL.out).2] at c2
                    have f1 := HR4.out.s.frozenAt (d * 2)
                    have f2 := HR4.out.s.frozenAt (d * 2 + 1)
                    obtain ⟨h1, h2⟩ := HR5.out.s.stored (d * 2) (.int .i64 r)
                    obtain ⟨h3, h4⟩ := h1.stored (d * 2 + 1) (.bool (decide (r < x)))
                    rw [sls_set sl d (r, decide (r < x)) HDL.out] at h3
                    have HR6 := Lib.hid (HR5.out.slots (h2.trans h4) h3 (by rw [List.length_set, HSN.out]))
                    clear h1 h2 h3 h4 HR4 HR5
                    go_region_law (fail)
                    all_goals
                      go_wp2_with fail
                      go_roundg F
                      case measure => omega
                      case rel => exact ⟨_, _, _, _, _, _, _, _, _, _, _, _, _, _, _, _, _, rfl, rfl, rfl, rfl, HR6, HF2, HE2, HI2⟩
          · have hn0 : n = 0 := by omega
            subst hn0
            obtain ⟨F, rfl⟩ : ∃ F, gk = F + 1 := ⟨gk - 1, by have := HF.out; omega⟩
            have h9 := HE.out
            unfold rsF at h9
            rw [if_pos HR.out.sn] at h9
            have hrl := HR.out.kt
            rw [hrl] at h9
            have hbs := HR.out.b.size
            by_cases ht : t = 0
            · rw [if_pos ht] at h9
              have HE2 := Lib.hid h9
              have hu := HR.out.u
              have hpp := HR.out.up
              have HO : Hid (OwnsRR wr w.heap.size 22 3 (.slice Au p cu) (rsV z0 m) ∧ Below w.heap.size w wr) := Lib.hid ⟨⟨vals, by rw [← h9, hpp]; exact hu, by rw [← h9]; exact HR.out.i⟩, HR.out.b⟩
              clear h9 hrl hu hpp
              subst ht
              go_wp2_with fail
              go_ret
              exact ⟨_, rfl, HO.out.1, HO.out.2⟩
            · rw [if_neg ht] at h9
              have HE2 := Lib.hid h9
              have htI : (0 : Int) < (t : Int) := by omega
              have HR3 := Lib.hid (HR.out.alloc (.cells #[.slice Ac t cc] 22))
              have hu := HR3.out.u
              clear h9 hrl
              go_wp2_with (at_builtin; go_loud (refine wpList_push' _ rfl _ _ 29 rfl w.heap.size 22 i1 _ 1 24 Try.underlying29 hj hy0 hy1 hy2 rfl (by decide) (.slice Au p cu) _ vals rfl hu #[.slice Ac t cc] wr.heap.size rfl (Blk.new _ _ _) rfl (by simp [Value.oneCell']) (by omega) (by unfold maxLen; omega) (Nat.le_trans hbs (by simp)) ?_; intro g1 d1 w3 hown3 hg3 hb3 hat3))
              have HO := Lib.hid (HR3.out.last hg3 hown3)
              go_ret
              exact ⟨_, rfl, by rw [← HE2.out]; exact HO.out.2.1, HO.out.1⟩
      · have iq : (0 : Int) < (q : Int) := by omega
        go_wp2_with fail
        have HR1 := Lib.hid (show RsW w wr (.slice (some ⟨gs, 0, none⟩) k cs) (.slice (some ⟨w.heap.size + 1, 0, none⟩) 0 0) (.slice (some ⟨w.heap.size + 1 + 1, 0, none⟩) 0 0) k 0 0 A q c ((z0.take k).map fun x => (x, false)) (z0.drop k) [] [] [] from by rw [← HST.out.1, ← HST.out.2]; exact HR.out)
        have HST2 := Lib.hid (rs_start z0 k HN)
        clear HR HST
        go_loopg [5, 6, 7, 8] (2 * z0.length + 2) (fun F vs vr vu vc wr => Lp2 w z0 k F vs vr vu vc wr)
        case atStart => exact ⟨_, _, _, _, _, _, _, _, _, _, _, _, _, _, _, _, [], rfl, rfl, rfl, rfl, HR1, Lib.hid HST2.out.2, Lib.hid rfl, Lib.hid HST2.out.1⟩
        case round =>
          clear HR1 HST2
          obtain ⟨As, n, cs, A, q, c, Au, p, cu, Ac, t, cc, sl, rest, runs, run, vals, rfl, rfl, rfl, rfl, HR, HF, HE, HI⟩ := hrel
          have hle := HR.out.le HI.out
          have h64 : p + t + n + q ≤ 64 := by have := HZ.out; omega
          clear hle
          by_cases hn : 0 < n
          · obtain ⟨gs, cs', hA', -, -, -, -⟩ := own_some HR.out.s hn
            cases hA'
            have hnI : (0 : Int) < (n : Int) := by omega
            have HSN := Lib.hid HR.out.sn
            go_wp2_with fail
            go_loopw [9, 41] (fun vb vi wr2 => ∃ (j : Nat) (b : Int), j ≤ n ∧ vi = .int .i64 (j : Nat) ∧ vb = .int .i64 b ∧ Hid (b = bestI sl j) ∧ -1 ≤ b ∧ b < (j : Int) ∧ Below wr.heap.size wr wr2) (fun _ vi _ => n - (intOf vi).toNat)
            case atStart => exact ⟨0, -1, by omega, rfl, rfl, Lib.hid rfl, by omega, by omega, Below.refl _ _⟩
            case round =>
              obtain ⟨j, b, hjn, rfl, rfl, HB, hb1, hb2, hbl⟩ := hrel
              have HR2 := Lib.hid (HR.out.below hbl)
              by_cases hjj : j < n
              · have jI : (j : Int) < (n : Int) := by omega
                have hjl : j < sl.length := by rw [HSN.out]; exact hjj
                have c1 := HR2.out.s.cellAt (j * 2) (by omega)
                have c2 := HR2.out.s.cellAt (j * 2 + 1) (by omega)
                rw [(sls_get hjl).1] at c1
                rw [(sls_get hjl).2] at c2
                obtain ⟨x, hx⟩ : ∃ x, ky sl j = x := ⟨_, rfl⟩
                obtain ⟨mk, hmk⟩ : ∃ mk, mkd sl j = mk := ⟨_, rfl⟩
                rw [hx] at c1
                rw [hmk] at c2
                have HX := Lib.hid hx
                have HM := Lib.hid hmk
                clear hx hmk hjl
                go_upto_region 9 with fail
                have HR3 := Lib.hid (HR2.out.alloc (.cells #[.int .i64 x, .bool mk] 60))
                have hbl2 := alloc_ hbl (.cells #[.int .i64 x, .bool mk] 60)
                obtain ⟨c3, c4⟩ := (Blk.new wr 60 #[.int .i64 x, .bool mk]).two
                generalize wr.alloc (.cells #[.int .i64 x, .bool mk] 60) = w9 at *
                generalize wr.heap.size = g9 at *
                clear c1 c2 HR2 hbl
                cases mk
                · by_cases hbn : b < 0
                  · have HBN := Lib.hid (best_neg HM.out (by rw [← HB.out]; exact hbn))
                    go_quiet (fail)
                    go_wp2_with fail
                    go_roundw
                    case rel => exact ⟨j + 1, j, by omega, by go_num, rfl, Lib.hid HBN.out.symm, by omega, by omega, below_drewN hbl2 _⟩
                    case measure => simp [intOf]; omega
                  · obtain ⟨d, rfl⟩ : ∃ d : Nat, b = (d : Int) := ⟨b.toNat, by omega⟩
                    have hdj : d < n := by omega
                    have hdI : (d : Int) < (n : Int) := by omega
                    have hd0 : ¬ ((d : Int) < 0) := by omega
                    have c5 := HR3.out.s.cellAt (d * 2) (by omega)
                    rw [(sls_get (show d < sl.length by rw [HSN.out]; exact hdj)).1] at c5
                    obtain ⟨y, hy⟩ : ∃ y, ky sl d = y := ⟨_, rfl⟩
                    rw [hy] at c5
                    have HY := Lib.hid hy
                    clear hy
                    by_cases hxy : x < y
                    · have HBN := Lib.hid (best_new HM.out HB.out.symm (by rw [HX.out, HY.out]; exact hxy))
                      go_quiet (fail)
                      go_wp2_with fail
                      go_roundw
                      case rel => exact ⟨j + 1, j, by omega, by go_num, rfl, Lib.hid HBN.out.symm, by omega, by omega, below_drewN hbl2 _⟩
                      case measure => simp [intOf]; omega
                    · have HBN := Lib.hid (best_kept HM.out HB.out.symm (by rw [HX.out, HY.out]; exact hxy))
                      go_quiet (fail)
                      go_wp2_with fail
                      go_roundw
                      case rel => exact ⟨j + 1, d, by omega, by go_num, rfl, Lib.hid HBN.out.symm, by omega, by omega, below_drewN hbl2 _⟩
                      case measure => simp [intOf]; omega
                · have HBN := Lib.hid (best_old HM.out)
                  go_quiet (fail)
                  go_wp2_with fail
                  go_roundw
                  case rel => exact ⟨j + 1, b, by omega, by go_num, rfl, Lib.hid (by rw [HBN.out]; exact HB.out), by omega, by omega, below_drewN hbl2 _⟩
                  case measure => simp [intOf]; omega
              · have jI : ¬ (j : Int) < (n : Int) := by omega
                obtain rfl : n = j := by omega
                have HSL : Hid (sl.length ≠ 0) := Lib.hid (by rw [HSN.out]; omega)
                obtain ⟨F, rfl⟩ : ∃ F, gk = F + 1 := ⟨gk - 1, by have := HF.out; omega⟩
                clear HR hbl
                have hbs := HR2.out.b.size
                by_cases hbn : b < 0
                · have hbb : bestI sl sl.length < 0 := by rw [HSN.out, ← HB.out]; exact hbn
                  have HI2 := Lib.hid (HI.out.close HSL.out hbb)
                  have HF2 : Hid (rsM (unm sl) rest < F) := Lib.hid (by have h1 := rsM_unm (rest := rest) HSL.out hbb; have h2 := HF.out; omega)
                  have HE2 : Hid (rsF F (unm sl) rest (runs ++ [run]) [] = rsV z0 k) := Lib.hid (by have h9 := HE.out; unfold rsF at h9; rw [if_neg HSL.out, if_pos hbb] at h9; exact h9)
                  clear hbb
                  have HR3 := Lib.hid (HR2.out.alloc (.cells #[.slice Ac t cc] 22))
                  have hu := HR3.out.u
                  go_wp2_with (at_builtin; go_loud (refine wpList_push' _ rfl _ _ 29 rfl w.heap.size 22 i1 _ 1 24 Try.underlying29 hj hy0 hy1 hy2 rfl (by decide) (.slice Au p cu) _ vals rfl hu #[.slice Ac t cc] wr.heap.size rfl (Blk.new _ _ _) rfl (by simp [Value.oneCell']) (by omega) (by unfold maxLen; omega) (Nat.le_trans hbs (by simp)) ?_; intro g1 d1 w3 hown3 hg3 hb3 hat3))
                  have HR4 := Lib.hid (HR3.out.close hg3 hown3)
                  clear HR2 HR3 hu hown3 hg3 hb3 hat3 HE HF HI
                  go_loopw [74] (fun vi wr2 => ∃ (j : Nat) (sl2 : List Slt), j ≤ n ∧ vi = .int .i64 (j : Nat) ∧ Hid (sl2 = (unm sl).take j ++ sl.drop j) ∧ Hid (RsW w wr2 (.slice (some ⟨gs, 0, none⟩) n cs) (.slice (some ⟨g1, 0, none⟩) (p + 1) d1) (.slice (some ⟨w3.heap.size, 0, none⟩) 0 0) n (p + 1) 0 A q c sl2 rest (runs ++ [run]) [] (vals ++ [.slice Ac t cc]))) (fun vi _ => n - (intOf vi).toNat)
                  case atStart => exact ⟨0, sl, by omega, rfl, Lib.hid (by simp), HR4⟩
                  case round =>
                    clear HR4
                    obtain ⟨j, sl2, hjn, rfl, HS2, HR5⟩ := hrel
                    by_cases hjj : j < n
                    · have jI : (j : Int) < (n : Int) := by omega
                      have hsl2 : sl2.length = n := HR5.out.sn
                      have c1 := HR5.out.s.cellAt (j * 2 + 1) (by omega)
                      have f1 := HR5.out.s.frozenAt (j * 2 + 1)
                      rw [(sls_get (by omega)).2] at c1
                      obtain ⟨h1, h2⟩ := HR5.out.s.stored (j * 2 + 1) (.bool false)
                      rw [sls_set2 _ _ _ (by omega)] at h1
                      have HR6 := Lib.hid (HR5.out.slots h2 h1 (by rw [List.length_set]; exact hsl2))
                      have HS3 : Hid (sl2.set j (ky sl2 j, false) = (unm sl).take (j + 1) ++ sl.drop (j + 1)) := Lib.hid (by rw [HS2.out]; exact unm_step sl j (by rw [HSN.out]; exact hjj))
                      clear h1 h2 hsl2
                      go_wp2_with fail
                      go_roundw
                      case rel => exact ⟨j + 1, _, by omega, by go_num, HS3, HR6⟩
                      case measure => simp [intOf]; omega
                    · have jI : ¬ (j : Int) < (n : Int) := by omega
                      obtain rfl : n = j := by omega
                      have hse : sl2 = unm sl := by
                        rw [HS2.out, List.take_of_length_le (by simp [unm, HSN.out]), List.drop_of_length_le (by rw [HSN.out]; exact Nat.le_refl _), List.append_nil]
                      subst hse
                      go_wp2_with fail
                      go_roundg F
                      case measure => omega
                      case rel => exact ⟨_, _, _, _, _, _, _, _, _, _, _, _, _, _, _, _, _, rfl, rfl, rfl, rfl, HR5, HF2, HE2, HI2⟩
                · obtain ⟨d, rfl⟩ : ∃ d : Nat, b = (d : Int) := ⟨b.toNat, by omega⟩
                  have hdj : d < n := by omega
                  have hdI : (d : Int) < (n : Int) := by omega
                  have hd0 : ¬ ((d : Int) < 0) := by omega
                  have hdl : d < sl.length := by rw [HSN.out]; exact hdj
                  have HBD : Hid (bestI sl sl.length = (d : Int)) := Lib.hid (by rw [HSN.out, ← HB.out])
                  have HNB : Hid (¬ bestI sl sl.length < 0) := Lib.hid (by rw [HBD.out]; omega)
                  have c1 := HR2.out.s.cellAt (d * 2) (by omega)
                  rw [(sls_get hdl).1] at c1
                  obtain ⟨x, hx⟩ : ∃ x, ky sl d = x := ⟨_, rfl⟩
                  rw [hx] at c1
                  have HX := Lib.hid hx
                  clear hx
                  have HDL := Lib.hid hdl
                  clear hdl
                  have HR3 := Lib.hid (HR2.out.alloc (.cells #[.int .i64 x] 3))
                  have hkr := HR3.out.k
                  have HKT := Lib.hid HR3.out.kt
                  have HRQ := Lib.hid HR3.out.rq
                  rcases rest with _ | ⟨r, rest'⟩
                  · have hq0 : q = 0 := by have := HRQ.out; simpa using this.symm
                    subst hq0
                    have HI2 : Hid (RsI z0 k (sl.eraseIdx d) [] runs (run ++ [x])) := Lib.hid (by have := HI.out.drop HNB.out; rwa [HBD.out, Int.toNat_natCast, HX.out] at this)
                    have HF2 : Hid (rsM (sl.eraseIdx d) [] < F) := Lib.hid (by have h1 := rsM_erase HDL.out; have h2 := HF.out; omega)
                    have HE2 : Hid (rsF F (sl.eraseIdx d) [] runs (run ++ [x]) = rsV z0 k) := Lib.hid (by rw [← HE.out, rsF, if_neg HSL.out, if_neg HNB.out]; simp only [HBD.out, Int.toNat_natCast, HX.out])
                    clear HE HF HI
                    go_wp2_with (at_builtin; go_loud (refine wpList_push' _ rfl _ _ 22 rfl w.heap.size 3 i0 _ 1 8 Try.underlying22 hi hz0 hz1 hz2 rfl (by decide) (.slice Ac t cc) _ (ints run) rfl hkr #[.int .i64 x] wr.heap.size rfl (Blk.new _ _ _) rfl (by simp [Value.oneCell']) (by omega) (by unfold maxLen; omega) (Nat.le_trans hbs (by simp)) ?_; intro g5 d5 w5 hown5 hg5 hb5 hat5))
                    have HR4 := Lib.hid (HR3.out.grow (run' := run ++ [x]) (vC' := .slice (some ⟨g5, 0, none⟩) (t + 1) d5) hg5 (by have h9 := hown5; simpa [ints] using h9) (by rw [List.length_append, HKT.out]; rfl) (by
                      rcases hat5 with h | h
                      · exact .inl h.symm
                      · exact .inr fun k hk => by cases hk; exact h))
                    clear HR2 HR3 hkr hown5 hg5 hb5 hat5 c1
                    refine (delS_any w.heap.size n cs d (some ⟨gs, 0, none⟩) sl w5 HR4.out.s HSN.out hdj).mono ?_
                    rintro e w6 ⟨rfl, ho6, hg6⟩
                    have HR5 := Lib.hid (HR4.out.slots hg6 ho6 (by rw [List.length_eraseIdx_of_lt HDL.out, HSN.out]))
                    go_wp2_with fail
                    go_roundg F
                    case measure => omega
                    case rel => exact ⟨_, _, _, _, _, _, _, _, _, _, _, _, _, _, _, _, _, rfl, rfl, rfl, rfl, HR5, HF2, HE2, HI2⟩
                  · have hq1 : 1 ≤ q := by have := HRQ.out; simp at this; omega
                    have hq2 : (1 : Int) ≤ (q : Int) := by omega
                    have hq3 : (0 : Int) < (q : Int) := by omega
                    obtain ⟨ad, rfl, -⟩ := HR3.out.first
                    have hqc := HR3.out.qc
                    have hc1 : 1 ≤ c := by omega
                    have HI2 : Hid (RsI z0 k (sl.set d (r, decide (r < x))) rest' runs (run ++ [x])) := Lib.hid (by have := HI.out.swap HNB.out; rwa [HBD.out, Int.toNat_natCast, HX.out] at this)
                    have HF2 : Hid (rsM (sl.set d (r, decide (r < x))) rest' < F) := Lib.hid (by have h1 := rsM_set (sl := sl) (r := r) (rest := rest') d (r, decide (r < x)); have h2 := HF.out; omega)
                    have HE2 : Hid (rsF F (sl.set d (r, decide (r < x))) rest' runs (run ++ [x]) = rsV z0 k) := Lib.hid (by rw [← HE.out, rsF, if_neg HSL.out, if_neg HNB.out]; simp only [HBD.out, Int.toNat_natCast, HX.out])
                    clear HE HF HI
                    go_upto_region 22 with (at_builtin; go_loud (refine wpList_push' _ rfl _ _ 22 rfl w.heap.size 3 i0 _ 1 8 Try.underlying22 hi hz0 hz1 hz2 rfl (by decide) (.slice Ac t cc) _ (ints run) rfl hkr #[.int .i64 x] wr.heap.size rfl (Blk.new _ _ _) rfl (by simp [Value.oneCell']) (by omega) (by unfold maxLen; omega) (Nat.le_trans hbs (by simp)) ?_; intro g5 d5 w5 hown5 hg5 hb5 hat5))
                    have HR4 := Lib.hid (HR3.out.grow (run' := run ++ [x]) (vC' := .slice (some ⟨g5, 0, none⟩) (t + 1) d5) hg5 (by have h9 := hown5; simpa [ints] using h9) (by rw [List.length_append, HKT.out]; rfl) (by
                      rcases hat5 with h | h
                      · exact .inl h.symm
                      · exact .inr fun k hk => by cases hk; exact h))
                    clear HR2 HR3 hkr hown5 hg5 hb5 hat5 c1
                    obtain ⟨ad', ha', c0⟩ := HR4.out.first
                    cases ha'
                    have HR5 := Lib.hid HR4.out.drew.cut
                    obtain ⟨A2, hA2⟩ : ∃ A2, (if c = 1 then some ad else some (⟨ad.block, ad.off + 1, none⟩ : Addr)) = A2 := ⟨_, rfl⟩
                    rw [hA2] at HR5
                    have c1 := HR4.out.s.cellAt (d * 2) (by omega)
                    have c2 := HR4.out.s.cellAt (d * 2 + 1) (by omega)
                    rw [(sls_get HDL.out).1] at c1
                    rw [(sls_get HDL.out).2] at c2
                    have f1 := HR4.out.s.frozenAt (d * 2)
                    have f2 := HR4.out.s.frozenAt (d * 2 + 1)
                    obtain ⟨h1, h2⟩ := HR5.out.s.stored (d * 2) (.int .i64 r)
                    obtain ⟨h3, h4⟩ := h1.stored (d * 2 + 1) (.bool (decide (r < x)))
                    rw [sls_set sl d (r, decide (r < x)) HDL.out] at h3
                    have HR6 := Lib.hid (HR5.out.slots (h2.trans h4) h3 (by rw [List.length_set, HSN.out]))
                    clear h1 h2 h3 h4 HR4 HR5
                    go_region_law (fail)
                    all_goals
                      go_wp2_with fail
                      go_roundg F
                      case measure => omega
                      case rel => exact ⟨_, _, _, _, _, _, _, _, _, _, _, _, _, _, _, _, _, rfl, rfl, rfl, rfl, HR6, HF2, HE2, HI2⟩
          · have hn0 : n = 0 := by omega
            subst hn0
            obtain ⟨F, rfl⟩ : ∃ F, gk = F + 1 := ⟨gk - 1, by have := HF.out; omega⟩
            have h9 := HE.out
            unfold rsF at h9
            rw [if_pos HR.out.sn] at h9
            have hrl := HR.out.kt
            rw [hrl] at h9
            have hbs := HR.out.b.size
            by_cases ht : t = 0
            · rw [if_pos ht] at h9
              have HE2 := Lib.hid h9
              have hu := HR.out.u
              have hpp := HR.out.up
              have HO : Hid (OwnsRR wr w.heap.size 22 3 (.slice Au p cu) (rsV z0 k) ∧ Below w.heap.size w wr) := Lib.hid ⟨⟨vals, by rw [← h9, hpp]; exact hu, by rw [← h9]; exact HR.out.i⟩, HR.out.b⟩
              clear h9 hrl hu hpp
              subst ht
              go_wp2_with fail
              go_ret
              exact ⟨_, rfl, HO.out.1, HO.out.2⟩
            · rw [if_neg ht] at h9
              have HE2 := Lib.hid h9
              have htI : (0 : Int) < (t : Int) := by omega
              have HR3 := Lib.hid (HR.out.alloc (.cells #[.slice Ac t cc] 22))
              have hu := HR3.out.u
              clear h9 hrl
              go_wp2_with (at_builtin; go_loud (refine wpList_push' _ rfl _ _ 29 rfl w.heap.size 22 i1 _ 1 24 Try.underlying29 hj hy0 hy1 hy2 rfl (by decide) (.slice Au p cu) _ vals rfl hu #[.slice Ac t cc] wr.heap.size rfl (Blk.new _ _ _) rfl (by simp [Value.oneCell']) (by omega) (by unfold maxLen; omega) (Nat.le_trans hbs (by simp)) ?_; intro g1 d1 w3 hown3 hg3 hb3 hat3))
              have HO := Lib.hid (HR3.out.last hg3 hown3)
              go_ret
              exact ⟨_, rfl, by rw [← HE2.out]; exact HO.out.2.1, HO.out.1⟩
end Go.Proofs.Ytecbagdljgnloaa
