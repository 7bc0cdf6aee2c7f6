/- The runs of a list of records: the program's side. -/
import Derived.Test.YtifjihpnhmemgaaSrF
namespace Go.Proofs.Ytifjihpnhmemgaa
open Go.RowKit
set_option linter.unusedVariables false
theorem idR_map (R : List (Int × Int)) : (idR R.length).map (rgI R) = R := by
  apply List.ext_getElem
  · simp
  · intro i h1 h2
    simp [idR, rgI, h2]
theorem reads_mid {w : World} {B i k : Nat} {ad : Addr} {R : List (Int × Int)} (h : Reads w B 2 (some ad) R.length (cmps R)) (hk : i + k ≤ R.length) : Reads w B 2 (some (ad.add (i * 2))) k (cmps ((R.drop i).take k)) := by
  have hl : ((R.drop i).take k).length = k := by simp; omega
  refine ⟨by rw [cmps_length, hl], fun h0 => ?_⟩
  obtain ⟨ad', e, hb, hc⟩ := h.2 (by omega)
  cases e
  refine ⟨_, rfl, by rw [block_of_add]; exact hb, fun j u hu => ?_⟩
  have hj : j < k * 2 := by have := (List.getElem?_eq_some_iff.1 hu).1; rw [cmps_length, hl] at this; exact this
  rw [add_of_add]
  refine hc _ u ?_
  have e2 : R = R.take i ++ ((R.drop i).take k ++ (R.drop i).drop k) := by rw [List.take_append_drop, List.take_append_drop]
  conv => lhs; rw [e2, cmps_append, cmps_append]
  have hti : (cmps (R.take i)).length = i * 2 := by rw [cmps_length, List.length_take]; congr 1; omega
  rw [List.getElem?_append_right (by omega), hti, Nat.add_sub_cancel_left, List.getElem?_append_left (by rw [cmps_length, hl]; exact hj)]
  exact hu
set_option maxHeartbeats 400000 in
theorem copyR_any (A : Option Addr) (cs : List (Int × Int)) (c : Nat) (w : World) (hx : Reads w w.heap.size 2 A cs.length (cmps cs)) (hl : cs.length ≤ 1048576) :
    Calls Try.prog 52 #[.slice A cs.length c] w fun e w' => ∃ v, e = .returned v ∧ w'.ownsRow w.heap.size 47 2 v cs.length (cmps cs) ∧ Below w.heap.size w w' := by
  obtain ⟨i0, hi, hz0, hz1, hz2⟩ := info_parts info_rec
  have ho := World.ownsRow_made (base := w.heap.size) (size := 2) (e := 47) w #[] 0 (Nat.le_refl _) (by simp) (by simp)
  have hb := alloc_ (Below.refl w.heap.size w) (.cells #[] 47)
  have hr := hx.alloc (Nat.le_refl _) (.cells #[] 47)
  go_enter Try.func52, Try.ntmps52
  go_wp2_with (at_builtin; refine wpList_append_any _ rfl _ _ 24 rfl w.heap.size 47 i0 _ 2 16 Try.underlying24 hi hz0 hz1 hz2 rfl (by decide) (.slice (some ⟨w.heap.size, 0, none⟩) 0 0) _ _ rfl ho w.heap.size A cs.length c (cmps cs) rfl hr (cmps_one cs) (by unfold maxLen; omega) (by omega) (by simp) ?_; intro v1 w1 hown1 hg1 hat1)
  go_ret
  simp only [Nat.zero_add, List.nil_append] at hown1
  exact ⟨v1, rfl, hown1, hb.grown hg1 (by simp) (by simp [Value.ownBlock])⟩
set_option maxHeartbeats 400000 in
theorem implStable_any (A : Option Addr) (cs : List (Int × Int)) (c : Nat) (w : World) (hx : Reads w w.heap.size 2 A cs.length (cmps cs)) (h1 : 1 ≤ cs.length) (hl : cs.length ≤ 64) :
    Calls Try.prog 41 #[.slice A cs.length c] w fun e w' => ∃ g d, e = .returned (.slice (some ⟨g, 0, none⟩) cs.length d) ∧ w'.ownsRow w.heap.size 47 2 (.slice (some ⟨g, 0, none⟩) cs.length d) cs.length (cmps (stR cs)) ∧ Below w.heap.size w w' := by
  go_enter Try.func41, Try.ntmps41
  go_wp2_with fail
  refine (copyR_any A cs c w hx (by omega)).mono ?_
  rintro e w1 ⟨v, rfl, ho, hb1⟩
  obtain ⟨g, d, rfl, -, -, -⟩ := own_some ho (by omega)
  have hs : SR w.heap.size 47 g cs.length d cs w1 (idR cs.length) := ⟨by rw [idR_map]; exact ho, by simp, fun x hx => idR_mem hx, hl⟩
  have HY := Lib.hid (sortS_any hs (fun p hp => idR_get hp))
  have hgb := (own_lt ho g rfl).1
  clear hs ho hx
  go_wp2_with fail
  refine HY.out.mono ?_
  rintro e w2 ⟨rfl, g2, C, s2, p2, t2⟩
  have HO := Lib.hid s2.o
  have HST := Lib.hid (st_of hl p2 t2)
  have HB := Lib.hid (hb1.trans (below_of_grown g2 hb1.size (fun q hq => by have h9 : g = q := Option.some.inj hq; omega)))
  clear g2 s2 p2 t2 hb1
  go_wp2_with fail
  go_ret
  exact ⟨g, d, rfl, by rw [← HST.out]; exact HO.out, HB.out⟩
/-- the runs under way -/
def Mr (w : World) (R : List (Int × Int)) (m : Nat) (vo vi : Value) (wr : World) : Prop := ∃ (gO p cO f i : Nat) (vals : List Value) (runs : List (List (Int × Int))), vo = .slice (some ⟨gO, 0, none⟩) p cO ∧ vi = .int .i64 (i : Nat) ∧ p + f = 65 ∧ 65 ≤ f + i ∧ i ≤ 128 ∧
  Hid (wr.ownsRow w.heap.size 24 1 (.slice (some ⟨gO, 0, none⟩) p cO) p vals) ∧ Hid (InnerQ wr w.heap.size 47 vals runs) ∧ Hid (runs.length = p) ∧ Hid (runs ++ chF R m f i = mkR R m) ∧ Hid (Below w.heap.size w wr)
set_option maxRecDepth 100000 in
set_option maxHeartbeats 1600000 in
theorem makeRuns_any (A : Option Addr) (R : List (Int × Int)) (c m : Nat) (w : World) (hx : Reads w w.heap.size 2 A R.length (cmps R)) (hc : R.length ≤ c) (hl : R.length ≤ 64) (hm1 : 1 ≤ m) (hm2 : m ≤ 64) :
    Calls Try.prog 30 #[.slice A R.length c, .int .i64 (m : Nat)] w fun e w' => ∃ g d, e = .returned (.slice (some ⟨g, 0, none⟩) (mkR R m).length d) ∧ OwnsQQ w' w.heap.size 24 47 (.slice (some ⟨g, 0, none⟩) (mkR R m).length d) (mkR R m) ∧ Below w.heap.size w w' := by
  obtain ⟨i1, hj, hy0, hy1, hy2⟩ := info_parts (show (Try.prog.info? 24).map (fun i => (i.zero, i.size, i.bytes)) = some (some (.slice none 0 0), 1, 24) by kernel_rfl)
  have HX := Lib.hid hx
  have hO0 := made_at (w := w) (base := w.heap.size) (g := w.heap.size) (size := 1) (e := 24) (Nat.le_refl _) rfl
  have hB0 := alloc_ (Below.refl w.heap.size w) (.cells #[] 24)
  have HO0 := Lib.hid hO0
  have HB0 := Lib.hid hB0
  clear hx hO0 hB0
  go_enter Try.func30, Try.ntmps30
  go_wp2_with fail
  go_loopw [5, 6] (fun vo vi wr => Mr w R m vo vi wr) (fun _ vi _ => 200 - (intOf vi).toNat)
  case atStart => exact ⟨_, 0, 0, 65, 0, [], [], rfl, rfl, rfl, by omega, by omega, HO0, Lib.hid InnerQ.nil, Lib.hid rfl, Lib.hid rfl, HB0⟩
  case round =>
    clear HO0 HB0
    obtain ⟨gO, p, cO, f, i, vals, runs, rfl, rfl, hpf, hfi, hi8, HO, HI, HRL, HC, HB⟩ := hrel
    by_cases hlt : i < R.length
    · have hiI : (i : Int) < (R.length : Int) := by omega
      obtain ⟨ad, rfl⟩ : ∃ ad, A = some ad := by obtain ⟨ad, e, -⟩ := HX.out.2 (by omega); exact ⟨ad, e⟩
      rcases Nat.lt_trichotomy (i + m) R.length with hcase | hcase | hcase
      · have a1 : (i : Int) + (m : Int) < (R.length : Int) := by omega
        have a2 : (i : Int) + (m : Int) ≤ (R.length : Int) := by omega
        have a3 : ¬ (R.length : Int) < (i : Int) + (m : Int) := by omega
        have a4 : ¬ (R.length : Int) ≤ (i : Int) + (m : Int) := by omega
        have hlen : ((R.drop i).take m).length = m := by first | (simp; done) | (simp; omega)
        have hcs : True := trivial
        have HCS := Lib.hid hcs
        have hy := implStable_any (some (ad.add (i * 2))) ((R.drop i).take m) (c - i) wr (by rw [hlen]; exact ((reads_mid HX.out (k := m) (by omega)).below HB.out).more HB.out.size) (by rw [hlen]; omega) (by rw [hlen]; omega)
        rw [hlen] at hy
        have HY := Lib.hid hy
        have HLN := Lib.hid hlen
        clear hy hcs hlen
        have t1 : ((i : Int) + (m : Int)).toNat - i = m := by omega
        go_wp2_with fail
        try rw [t1]
        try rw [show R.length - i = m by omega]
        refine HY.out.mono ?_
        clear HY a1 a2 a3 a4 t1
        rintro e w1 ⟨g, d, rfl, ho, hb1⟩
        have hO1 := own_below HO.out hb1 (Nat.le_refl _)
        have hB1 := bthen HB.out hb1
        have hne := HI.out.fresh (u := .slice (some ⟨g, 0, none⟩) m d) (fun k hk => (own_lt ho k hk).1)
        have hO2 := World.ownsRow.alloc hO1 (.cells #[.slice (some ⟨g, 0, none⟩) m d] 24)
        have hI2 := (HI.out.below hb1 (Nat.le_refl _)).alloc (.cells #[.slice (some ⟨g, 0, none⟩) m d] 24)
        have hr2 := World.ownsRow.alloc (own_base ho HB.out.size) (.cells #[.slice (some ⟨g, 0, none⟩) m d] 24)
        have hB2 := alloc_ hB1 (.cells #[.slice (some ⟨g, 0, none⟩) m d] 24)
        have hbs := hB1.size
        have HI2 := Lib.hid hI2
        have HR2 := Lib.hid hr2
        have HB2 := Lib.hid hB2
        have HNE := Lib.hid hne
        clear hI2 hr2 hB2 hne hO1 hB1 ho hb1
        go_wp2_with (at_builtin; go_loud (refine wpList_push' _ rfl _ _ 27 rfl w.heap.size 24 i1 _ 1 24 Try.underlying27 hj hy0 hy1 hy2 rfl (by decide) (.slice (some ⟨gO, 0, none⟩) p cO) _ vals rfl hO2 #[.slice (some ⟨g, 0, none⟩) m d] w1.heap.size rfl (Blk.new _ _ _) rfl (by simp [Value.oneCell']) (by omega) (by unfold maxLen; omega) (Nat.le_trans hbs (by simp)) ?_; intro g1 d1 w3 hown3 hg3 hb3 hat3))
        have HI3 : Hid (InnerQ w3 w.heap.size 47 (vals ++ [.slice (some ⟨g, 0, none⟩) m d]) (runs ++ [stR ((R.drop i).take m)])) := Lib.hid (HI2.out.add hO2 (by decide) (by rw [stR_len, HLN.out]; exact HR2.out) HNE.out hg3)
        go_roundw
        case rel => exact ⟨g1, p + 1, d1, f - 1, i + m, _, _, rfl, by go_num, by omega, by omega, by omega, Lib.hid hown3, HI3, Lib.hid (by rw [List.length_append, HRL.out]; rfl), Lib.hid (by
          rw [← HC.out, List.append_assoc]
          congr 1
          obtain ⟨f', rfl⟩ : ∃ f', f = f' + 1 := ⟨f - 1, by omega⟩
          rw [chF_on hlt, Nat.add_sub_cancel]
          first | rfl | (rw [HCS.out]; rfl)), Lib.hid (HB2.out.trans hb3)⟩
        case measure => simp [intOf]; omega
      · have a1 : ¬ (i : Int) + (m : Int) < (R.length : Int) := by omega
        have a2 : (i : Int) + (m : Int) ≤ (R.length : Int) := by omega
        have a3 : ¬ (R.length : Int) < (i : Int) + (m : Int) := by omega
        have a4 : (R.length : Int) ≤ (i : Int) + (m : Int) := by omega
        have hlen : ((R.drop i).take m).length = m := by first | (simp; done) | (simp; omega)
        have hcs : True := trivial
        have HCS := Lib.hid hcs
        have hy := implStable_any (some (ad.add (i * 2))) ((R.drop i).take m) (c - i) wr (by rw [hlen]; exact ((reads_mid HX.out (k := m) (by omega)).below HB.out).more HB.out.size) (by rw [hlen]; omega) (by rw [hlen]; omega)
        rw [hlen] at hy
        have HY := Lib.hid hy
        have HLN := Lib.hid hlen
        clear hy hcs hlen
        have t1 : ((i : Int) + (m : Int)).toNat - i = m := by omega
        go_wp2_with fail
        try rw [t1]
        try rw [show R.length - i = m by omega]
        refine HY.out.mono ?_
        clear HY a1 a2 a3 a4 t1
        rintro e w1 ⟨g, d, rfl, ho, hb1⟩
        have hO1 := own_below HO.out hb1 (Nat.le_refl _)
        have hB1 := bthen HB.out hb1
        have hne := HI.out.fresh (u := .slice (some ⟨g, 0, none⟩) m d) (fun k hk => (own_lt ho k hk).1)
        have hO2 := World.ownsRow.alloc hO1 (.cells #[.slice (some ⟨g, 0, none⟩) m d] 24)
        have hI2 := (HI.out.below hb1 (Nat.le_refl _)).alloc (.cells #[.slice (some ⟨g, 0, none⟩) m d] 24)
        have hr2 := World.ownsRow.alloc (own_base ho HB.out.size) (.cells #[.slice (some ⟨g, 0, none⟩) m d] 24)
        have hB2 := alloc_ hB1 (.cells #[.slice (some ⟨g, 0, none⟩) m d] 24)
        have hbs := hB1.size
        have HI2 := Lib.hid hI2
        have HR2 := Lib.hid hr2
        have HB2 := Lib.hid hB2
        have HNE := Lib.hid hne
        clear hI2 hr2 hB2 hne hO1 hB1 ho hb1
        go_wp2_with (at_builtin; go_loud (refine wpList_push' _ rfl _ _ 27 rfl w.heap.size 24 i1 _ 1 24 Try.underlying27 hj hy0 hy1 hy2 rfl (by decide) (.slice (some ⟨gO, 0, none⟩) p cO) _ vals rfl hO2 #[.slice (some ⟨g, 0, none⟩) m d] w1.heap.size rfl (Blk.new _ _ _) rfl (by simp [Value.oneCell']) (by omega) (by unfold maxLen; omega) (Nat.le_trans hbs (by simp)) ?_; intro g1 d1 w3 hown3 hg3 hb3 hat3))
        have HI3 : Hid (InnerQ w3 w.heap.size 47 (vals ++ [.slice (some ⟨g, 0, none⟩) m d]) (runs ++ [stR ((R.drop i).take m)])) := Lib.hid (HI2.out.add hO2 (by decide) (by rw [stR_len, HLN.out]; exact HR2.out) HNE.out hg3)
        go_roundw
        case rel => exact ⟨g1, p + 1, d1, f - 1, i + m, _, _, rfl, by go_num, by omega, by omega, by omega, Lib.hid hown3, HI3, Lib.hid (by rw [List.length_append, HRL.out]; rfl), Lib.hid (by
          rw [← HC.out, List.append_assoc]
          congr 1
          obtain ⟨f', rfl⟩ : ∃ f', f = f' + 1 := ⟨f - 1, by omega⟩
          rw [chF_on hlt, Nat.add_sub_cancel]
          first | rfl | (rw [HCS.out]; rfl)), Lib.hid (HB2.out.trans hb3)⟩
        case measure => simp [intOf]; omega
      · have a1 : ¬ (i : Int) + (m : Int) < (R.length : Int) := by omega
        have a2 : ¬ (i : Int) + (m : Int) ≤ (R.length : Int) := by omega
        have a3 : (R.length : Int) < (i : Int) + (m : Int) := by omega
        have a4 : (R.length : Int) ≤ (i : Int) + (m : Int) := by omega
        have hlen : ((R.drop i).take (R.length - i)).length = (R.length - i) := by first | (simp; done) | (simp; omega)
        have hcs : (R.drop i).take (R.length - i) = (R.drop i).take m := by rw [List.take_of_length_le (l := R.drop i) (i := m) (by simp; omega), List.take_of_length_le (l := R.drop i) (by simp)]
        have HCS := Lib.hid hcs
        have hy := implStable_any (some (ad.add (i * 2))) ((R.drop i).take (R.length - i)) (c - i) wr (by rw [hlen]; exact ((reads_mid HX.out (k := (R.length - i)) (by omega)).below HB.out).more HB.out.size) (by rw [hlen]; omega) (by rw [hlen]; omega)
        rw [hlen] at hy
        have HY := Lib.hid hy
        have HLN := Lib.hid hlen
        clear hy hcs hlen
        have t1 : ((i : Int) + (m : Int)).toNat - i = m := by omega
        go_wp2_with fail
        try rw [t1]
        try rw [show R.length - i = m by omega]
        refine HY.out.mono ?_
        clear HY a1 a2 a3 a4 t1
        rintro e w1 ⟨g, d, rfl, ho, hb1⟩
        have hO1 := own_below HO.out hb1 (Nat.le_refl _)
        have hB1 := bthen HB.out hb1
        have hne := HI.out.fresh (u := .slice (some ⟨g, 0, none⟩) (R.length - i) d) (fun k hk => (own_lt ho k hk).1)
        have hO2 := World.ownsRow.alloc hO1 (.cells #[.slice (some ⟨g, 0, none⟩) (R.length - i) d] 24)
        have hI2 := (HI.out.below hb1 (Nat.le_refl _)).alloc (.cells #[.slice (some ⟨g, 0, none⟩) (R.length - i) d] 24)
        have hr2 := World.ownsRow.alloc (own_base ho HB.out.size) (.cells #[.slice (some ⟨g, 0, none⟩) (R.length - i) d] 24)
        have hB2 := alloc_ hB1 (.cells #[.slice (some ⟨g, 0, none⟩) (R.length - i) d] 24)
        have hbs := hB1.size
        have HI2 := Lib.hid hI2
        have HR2 := Lib.hid hr2
        have HB2 := Lib.hid hB2
        have HNE := Lib.hid hne
        clear hI2 hr2 hB2 hne hO1 hB1 ho hb1
        go_wp2_with (at_builtin; go_loud (refine wpList_push' _ rfl _ _ 27 rfl w.heap.size 24 i1 _ 1 24 Try.underlying27 hj hy0 hy1 hy2 rfl (by decide) (.slice (some ⟨gO, 0, none⟩) p cO) _ vals rfl hO2 #[.slice (some ⟨g, 0, none⟩) (R.length - i) d] w1.heap.size rfl (Blk.new _ _ _) rfl (by simp [Value.oneCell']) (by omega) (by unfold maxLen; omega) (Nat.le_trans hbs (by simp)) ?_; intro g1 d1 w3 hown3 hg3 hb3 hat3))
        have HI3 : Hid (InnerQ w3 w.heap.size 47 (vals ++ [.slice (some ⟨g, 0, none⟩) (R.length - i) d]) (runs ++ [stR ((R.drop i).take (R.length - i))])) := Lib.hid (HI2.out.add hO2 (by decide) (by rw [stR_len, HLN.out]; exact HR2.out) HNE.out hg3)
        go_roundw
        case rel => exact ⟨g1, p + 1, d1, f - 1, i + m, _, _, rfl, by go_num, by omega, by omega, by omega, Lib.hid hown3, HI3, Lib.hid (by rw [List.length_append, HRL.out]; rfl), Lib.hid (by
          rw [← HC.out, List.append_assoc]
          congr 1
          obtain ⟨f', rfl⟩ : ∃ f', f = f' + 1 := ⟨f - 1, by omega⟩
          rw [chF_on hlt, Nat.add_sub_cancel]
          first | rfl | (rw [HCS.out]; rfl)), Lib.hid (HB2.out.trans hb3)⟩
        case measure => simp [intOf]; omega
    · have hiI : ¬ (i : Int) < (R.length : Int) := by omega
      have HF : Hid (runs = mkR R m) := Lib.hid (by have h := HC.out; rwa [chF_off hlt, List.append_nil] at h)
      go_wp2_with fail
      go_ret
      refine ⟨gO, cO, by rw [← HF.out, HRL.out]; rfl, ?_, HB.out⟩
      rw [← HF.out, HRL.out]
      exact ⟨vals, by rw [HRL.out]; exact HO.out, HI.out⟩
end Go.Proofs.Ytifjihpnhmemgaa
