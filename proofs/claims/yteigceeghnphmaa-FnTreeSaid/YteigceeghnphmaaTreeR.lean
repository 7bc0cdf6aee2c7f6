/- ReplaceWinner, the program's side. -/
import Derived.Test.YteigceeghnphmaaTreeV
import Derived.Deep.RegionHeld3
import Derived.Deep.DeepCutAuto
namespace Go.Proofs.Yteigceeghnphmaa
open Go.RowKit
set_option linter.unusedVariables false
def plen (p : Nat) : Nat := if p = 0 then 0 else p.log2 + 1
theorem plen_step {p : Nat} (h : 1 ≤ p) : plen p = plen (p / 2) + 1 := by
  unfold plen
  rw [if_neg (by omega)]
  by_cases h2 : p < 2
  · obtain rfl : p = 1 := by omega
    rfl
  · rw [if_neg (by omega), Nat.log2_def, if_pos (by omega)]
theorem plen_zero : plen 0 = 0 := rfl
theorem plen_le : ∀ (n p : Nat), p ≤ n → plen p ≤ p := by
  intro n
  induction n with
  | zero => intro p h; obtain rfl : p = 0 := by omega
            exact Nat.le_refl _
  | succ n ih =>
    intro p h
    by_cases h0 : p = 0
    · subst h0; exact Nat.le_refl _
    · rw [plen_step (by omega)]
      have := ih (p / 2) (by omega)
      omega
theorem winnerV_lt {ks : List Int} {ds : List Bool} (h : 1 ≤ ks.length) : winnerV ks ds < ks.length := plK_lt (by omega) _ _
def rwOk (ks : List Int) (ds : List Bool) (ls : List Int) (W key : Int) (done : Bool) : Bool := itOk ks ds ls W && (!(ds[winnerV ks ds]?.getD false) && (done || keyB key))
def rwKs (ks : List Int) (ds : List Bool) (key : Int) (done : Bool) : List Int := ks.set (winnerV ks ds) (if done then 0 else key)
def rwDs (ks : List Int) (ds : List Bool) (done : Bool) : List Bool := ds.set (winnerV ks ds) done
def rwK (ks : List Int) (ds : List Bool) (ls : List Int) (W key : Int) (done : Bool) : List Int := if rwOk ks ds ls W key done then rwKs ks ds key done else []
def rwD (ks : List Int) (ds : List Bool) (ls : List Int) (W key : Int) (done : Bool) : List Bool := if rwOk ks ds ls W key done then rwDs ks ds done else []
def rwL (ks : List Int) (ds : List Bool) (ls : List Int) (W key : Int) (done : Bool) : List Int := if rwOk ks ds ls W key done then loserI (rwKs ks ds key done) (rwDs ks ds done) else []
def rwW (ks : List Int) (ds : List Bool) (ls : List Int) (W key : Int) (done : Bool) : Int := if rwOk ks ds ls W key done then (winnerV (rwKs ks ds key done) (rwDs ks ds done) : Nat) else 0
def rwN (ks : List Int) (ds : List Bool) (ls : List Int) (W key : Int) (done : Bool) : Int := if rwOk ks ds ls W key done then (plen ((ks.length + winnerV ks ds) / 2) : Nat) else 0
theorem TreeRC.drew_ {w : World} {base C tI tB nK cK nD cD nL cL : Nat} {AK AD AL : Option Addr} {ks ls : List Int} {ds : List Bool} (h : TreeRC w base C tI tB AK nK cK AD nD cD AL nL cL ks ds ls) : TreeRC w.drew base C tI tB AK nK cK AD nD cD AL nL cL ks ds ls := ⟨h.k, h.d, h.l, h.ne, h.kC, h.dC, h.lC⟩
theorem it_parts {ks : List Int} {ds : List Bool} {ls : List Int} {W : Int} (h : itOk ks ds ls W = true) : 1 ≤ ks.length ∧ ks.length ≤ 16 ∧ ds.length = ks.length ∧ ls.length = ks.length ∧ W = (winnerV ks ds : Nat) := by
  simp only [itOk, Bool.and_eq_true, decide_eq_true_eq] at h
  obtain ⟨⟨⟨⟨h1, h2⟩, h3⟩, _⟩, _, h5⟩ := h
  have := inB_iff.1 h1
  exact ⟨by omega, by omega, h2, h3, h5.symm⟩
theorem rw_lens (ks : List Int) (ds : List Bool) (ls : List Int) (W key : Int) (done : Bool) : (rwK ks ds ls W key done).length ≤ 16 ∧ (rwD ks ds ls W key done).length ≤ 16 ∧ (rwL ks ds ls W key done).length ≤ 16 := by
  cases h : rwOk ks ds ls W key done
  · simp [rwK, rwD, rwL, h]
  · have h2 := h
    simp only [rwOk, Bool.and_eq_true] at h2
    obtain ⟨_, h3, h4, _, _⟩ := it_parts h2.1
    simp only [rwK, rwD, rwL, h, if_true]
    rw [loserI_len]
    simp only [rwKs, rwDs, List.length_set]
    omega
theorem pathLength_any (k leaf : Nat) (w : World) (hk : k + leaf ≤ 1048576) :
    Calls Try.prog 93 #[.int .i64 k, .int .i64 leaf] w fun e w' => e = .returned (.int .i64 (plen ((k + leaf) / 2) : Nat)) ∧ w = w' := by
  have hle := plen_le _ ((k + leaf) / 2) (Nat.le_refl _)
  obtain ⟨m, hm⟩ : ∃ m, (k + leaf) / 2 = m := ⟨_, rfl⟩
  have hmI : ((k : Int) + leaf) / 2 = (m : Nat) := by omega
  rw [hm] at hle ⊢
  have hm2 : m ≤ 1048576 := by omega
  have HMI := Lib.hid hmI
  clear hm hmI
  go_enter Try.func93, Try.ntmps93
  go_wp2_with fail
  rw [HMI.out]
  go_loop [5, 6] (fun n p => ∃ a b : Nat, a + plen b = plen m ∧ b ≤ m ∧ n = .int .i64 (a : Nat) ∧ p = .int .i64 (b : Nat)) (fun _ p => (intOf p).toNat)
  case atStart => exact ⟨0, m, by omega, Nat.le_refl _, rfl, rfl⟩
  case round =>
    obtain ⟨a, b, hab, hbm, rfl, rfl⟩ := hrel
    by_cases hb : 1 ≤ b
    · have hs := plen_step hb
      have hbI : (b : Int) ≥ 1 := by omega
      have hbI2 : (1 : Int) ≤ b := by omega
      go_wp2_with fail
      go_round
      case rel => exact ⟨a + 1, b / 2, by omega, by omega, by go_num, by go_num⟩
      case measure => simp [intOf]; omega
    · obtain rfl : b = 0 := by omega
      rw [plen_zero] at hab
      have HA : Hid (a = plen m) := Lib.hid (by omega)
      clear hab hle
      go_wp2_with fail
      go_ret
      exact ⟨congrArg (fun x : Nat => Ending.returned (.int .i64 (x : Int))) HA.out, rfl⟩
set_option maxRecDepth 100000 in
set_option maxHeartbeats 3200000 in
theorem ReplaceWinner_any (AK : Option Addr) (ks : List Int) (cK : Nat) (AD : Option Addr) (ds : List Bool) (cD : Nat) (AL : Option Addr) (ls : List Int) (cL : Nat) (W key : Int) (done : Bool) (w : World)
    (hx : ReadsT w w.heap.size AK ks.length AD ds.length AL ls.length ks ds ls) (hl : ks.length + ds.length + ls.length ≤ 1048576) :
    Calls Try.prog 44 #[.agg #[.slice AK ks.length cK, .slice AD ds.length cD, .slice AL ls.length cL, .int .i64 W], .int .i64 key, .bool done] w fun e w' => ∃ BK dK BD dD BL dL,
      e = .returned (.tuple #[.agg #[.slice BK (rwK ks ds ls W key done).length dK, .slice BD (rwD ks ds ls W key done).length dD, .slice BL (rwL ks ds ls W key done).length dL, .int .i64 (rwW ks ds ls W key done)], .int .i64 (rwN ks ds ls W key done), .bool (rwOk ks ds ls W key done)]) ∧
      TreeRC w' w.heap.size w'.heap.size 3 4 BK (rwK ks ds ls W key done).length dK BD (rwD ks ds ls W key done).length dD BL (rwL ks ds ls W key done).length dL (rwK ks ds ls W key done) (rwD ks ds ls W key done) (rwL ks ds ls W key done) ∧ Below w.heap.size w w' := by
  have hbA := alloc_ (alloc_ (Below.refl w.heap.size w) (.cells #[.slice AK ks.length cK, .slice AD ds.length cD, .slice AL ls.length cL, .int .i64 W] 57)) (.cells #[.slice none 0 0, .slice none 0 0, .slice none 0 0, .int .i64 0] 57)
  have hblkT := (Blk.new w 57 #[.slice AK ks.length cK, .slice AD ds.length cD, .slice AL ls.length cL, .int .i64 W]).alloc (.cells #[.slice none 0 0, .slice none 0 0, .slice none 0 0, .int .i64 0] 57)
  have hblkR := Blk.new (w.alloc (.cells #[.slice AK ks.length cK, .slice AD ds.length cD, .slice AL ls.length cL, .int .i64 W] 57)) 57 #[.slice none 0 0, .slice none 0 0, .slice none 0 0, .int .i64 0]
  rw [World.size_alloc] at hblkR
  generalize hwA : (w.alloc (.cells #[.slice AK ks.length cK, .slice AD ds.length cD, .slice AL ls.length cL, .int .i64 W] 57)).alloc (.cells #[.slice none 0 0, .slice none 0 0, .slice none 0 0, .int .i64 0] 57) = wA at *
  have HXA := Lib.hid ((hx.below hbA).more hbA.size)
  have HV := Lib.hid (IsValidTree_any AK ks cK AD ds cD AL ls cL W wA HXA.out hl)
  obtain ⟨t0, t1, t2, t3⟩ := hblkT.four
  have htl := hblkT.lt
  clear hx
  cases hit : itOk ks ds ls W
  case false =>
    have HO := Lib.hid (show rwOk ks ds ls W key done = false by simp [rwOk, hit])
    rw [show rwK ks ds ls W key done = [] from by simp [rwK, HO.out], show rwD ks ds ls W key done = [] from by simp [rwD, HO.out], show rwL ks ds ls W key done = [] from by simp [rwL, HO.out], show rwW ks ds ls W key done = 0 from by simp [rwW, HO.out], show rwN ks ds ls W key done = 0 from by simp [rwN, HO.out], HO.out]
    have HIT := Lib.hid hit; clear hit
    go_enter Try.func44, Try.ntmps44
    go_upto_region 2 with (go_at_call 47; refine HV.out.mono ?_; rintro e w1 ⟨rfl, hb1⟩; rw [HIT.out])
    have hblk1 := hblkR.below_ hb1
    have hb5 := blk4 (a' := .slice none 0 0) (b' := .slice none 0 0) (c' := .slice none 0 0) (d' := .int .i64 0) hblk1
    obtain ⟨r0, r1, r2, r3⟩ := hb5.four
    have R0 := Lib.hid r0; have R1 := Lib.hid r1; have R2 := Lib.hid r2; have R3 := Lib.hid r3
    have HBF := Lib.hid (below4 (bthen hbA hb1) (Nat.le_succ _) (.slice none 0 0) (.slice none 0 0) (.slice none 0 0) (.int .i64 0))
    obtain ⟨z0', z1, z2, z3⟩ := hblk1.four
    obtain ⟨f0, f1, f2, f3⟩ := hblk1.ice
    have hlt := hblk1.lt
    clear hb5 r0 r1 r2 r3
    go_wp2_with fail
    exact bodyPost_ret (v := .tuple #[.agg #[.slice none 0 0, .slice none 0 0, .slice none 0 0, .int .i64 0], .int .i64 0, .bool false]) (by simp [results, Try.results44, go_sem, R0.out, R1.out, R2.out, R3.out]) rfl ⟨none, 0, none, 0, none, 0, rfl, TreeRC.nil _ _ _ _, HBF.out⟩
  case true =>
    obtain ⟨q1, q2, hd, hll, hW⟩ := it_parts hit
    have hm := winnerV_lt (ks := ks) (ds := ds) q1
    obtain ⟨m, hme⟩ : ∃ m, winnerV ks ds = m := ⟨_, rfl⟩
    obtain ⟨k, hk⟩ : ∃ k, ks.length = k := ⟨_, rfl⟩
    rw [hme] at hW hm
    rw [hk] at hm hd hll q1 q2
    subst hW
    simp only [hd, hll, hk] at HV hwA hblkT t0 t1 t2 hl
    simp only [hd, hll, hk]
    have HRK : Hid (Reads wA wA.heap.size 1 AK ks.length (ints ks)) := Lib.hid HXA.out.1
    have HRD : Hid (Reads wA wA.heap.size 1 AD ds.length (bools ds)) := Lib.hid HXA.out.2.1
    obtain ⟨ad, rfl, -, -⟩ := HRD.out.tv (k := m) (by omega)
    have HIT := Lib.hid hit
    have HK := Lib.hid hk; have HD := Lib.hid hd; have HM := Lib.hid hme
    have HRO : ∀ b, rwOk ks ds ls (m : Nat) key b = (!(ds[m]?.getD false) && (b || keyB key)) := by intro b; rw [rwOk, hit, hme]; rfl
    have HRO := Lib.hid (HRO done)
    have mI : (m : Int) < k := by omega
    clear hit hk hd hll hme HXA
    obtain ⟨x, hx⟩ : ∃ x, ds[m]'(by have := HD.out; omega) = x := ⟨_, rfl⟩
    have HDX := Lib.hid hx
    have HDX0 : Hid (ds[m]? = some x) := Lib.hid (by rw [List.getElem?_eq_getElem (by have := HD.out; omega), hx])
    clear hx
    cases x
    case true =>
      have HO := Lib.hid (show rwOk ks ds ls (m : Nat) key done = false by rw [HRO.out]; simp [HDX0.out])
      rw [show rwK ks ds ls (m : Nat) key done = [] from by simp [rwK, HO.out], show rwD ks ds ls (m : Nat) key done = [] from by simp [rwD, HO.out], show rwL ks ds ls (m : Nat) key done = [] from by simp [rwL, HO.out], show rwW ks ds ls (m : Nat) key done = 0 from by simp [rwW, HO.out], show rwN ks ds ls (m : Nat) key done = 0 from by simp [rwN, HO.out], HO.out]
      go_enter Try.func44, Try.ntmps44
      go_upto_region 2 with (first | (go_at_call 47; refine HV.out.mono ?_; rintro e w1 ⟨rfl, hb1⟩; rw [HIT.out]; obtain ⟨t0, t1, t2, t3⟩ := (hblkT.below_ hb1).four; have htl := (hblkT.below_ hb1).lt; obtain ⟨ad2, hE, -, hcD⟩ := Reads.tv (k := m) (Reads.below HRD.out hb1) (by have := HD.out; omega); cases hE; rw [HDX.out] at hcD))
      have hblk1 := hblkR.below_ hb1
      have hb5 := blk4 (a' := .slice none 0 0) (b' := .slice none 0 0) (c' := .slice none 0 0) (d' := .int .i64 0) hblk1
      obtain ⟨r0, r1, r2, r3⟩ := hb5.four
      have R0 := Lib.hid r0; have R1 := Lib.hid r1; have R2 := Lib.hid r2; have R3 := Lib.hid r3
      have HBF := Lib.hid (below4 (bthen hbA hb1) (Nat.le_succ _) (.slice none 0 0) (.slice none 0 0) (.slice none 0 0) (.int .i64 0))
      obtain ⟨z0', z1, z2, z3⟩ := hblk1.four
      obtain ⟨f0, f1, f2, f3⟩ := hblk1.ice
      have hlt := hblk1.lt
      clear hb5 r0 r1 r2 r3
      go_wp2_with fail
      exact bodyPost_ret (v := .tuple #[.agg #[.slice none 0 0, .slice none 0 0, .slice none 0 0, .int .i64 0], .int .i64 0, .bool false]) (by simp [results, Try.results44, go_sem, R0.out, R1.out, R2.out, R3.out]) rfl ⟨none, 0, none, 0, none, 0, rfl, TreeRC.nil _ _ _ _, HBF.out⟩

    case false =>
      cases done
      case true =>
        have HO := Lib.hid (show rwOk ks ds ls (m : Nat) key true = true by rw [HRO.out]; simp [HDX0.out])
        have HKs : Hid (rwKs ks ds key true = (ks.set m 0)) := Lib.hid (by simp [rwKs, HM.out])
        have HDs : Hid (rwDs ks ds true = (ds.set m true)) := Lib.hid (by simp [rwDs, HM.out])
        have HK4 : Hid (rwK ks ds ls (m : Nat) key true = (ks.set m 0)) := Lib.hid (by simp [rwK, HO.out, HKs.out])
        have HD4 : Hid (rwD ks ds ls (m : Nat) key true = (ds.set m true)) := Lib.hid (by simp [rwD, HO.out, HDs.out])
        have HL4 : Hid (rwL ks ds ls (m : Nat) key true = loserI (ks.set m 0) (ds.set m true)) := Lib.hid (by simp [rwL, HO.out, HKs.out, HDs.out])
        have HW4 : Hid (rwW ks ds ls (m : Nat) key true = (winnerV (ks.set m 0) (ds.set m true) : Nat)) := Lib.hid (by simp [rwW, HO.out, HKs.out, HDs.out])
        have HN4 : Hid (rwN ks ds ls (m : Nat) key true = (plen ((k + m) / 2) : Nat)) := Lib.hid (by simp [rwN, HO.out, HM.out, HK.out])
        go_enter Try.func44, Try.ntmps44
        go_upto_region 5 with (first | (go_at_call 47; refine HV.out.mono ?_; rintro e w1 ⟨rfl, hb1⟩; rw [HIT.out]; obtain ⟨t0, t1, t2, t3⟩ := (hblkT.below_ hb1).four; have htl := (hblkT.below_ hb1).lt; obtain ⟨ad2, hE, -, hcD⟩ := Reads.tv (k := m) (Reads.below HRD.out hb1) (by have := HD.out; omega); cases hE; rw [HDX.out] at hcD))
        have hB1 := bthen hbA hb1
        have hT := Lib.hid (treeOf_any AK ks cK (some ad) ds cD k w1 HK.out HD.out ((HRK.out.below hb1).more hb1.size) ((HRD.out.below hb1).more hb1.size) (by omega) (by omega))
        have hblkT1 := hblkT.below_ hb1
        have hblkR1 := hblkR.below_ hb1
        clear hcD
        go_wp2_with fail
        refine hT.out.mono ?_
        rintro e w3 ⟨BK, dK, BD, dD, gL, rfl, hown, hb3⟩
        obtain ⟨gK, cK2, eK, hKge, hKlt, -⟩ := own_some hown.1 (by omega)
        cases eK
        obtain ⟨gD, cD2, eD, hDge, hDlt, -⟩ := own_some hown.2.1 (by omega)
        cases eD
        have hB3 := bthen hB1 hb3
        have hbp := Blk.new w3 57 #[.slice (some ⟨gK, 0, none⟩) k dK, .slice (some ⟨gD, 0, none⟩) k dD, .slice (some ⟨gL, 0, none⟩) k k, .int .i64 (winnerV ks ds : Nat)]
        have hb4 := alloc_ hB3 (.cells #[.slice (some ⟨gK, 0, none⟩) k dK, .slice (some ⟨gD, 0, none⟩) k dD, .slice (some ⟨gL, 0, none⟩) k k, .int .i64 (winnerV ks ds : Nat)] 57)
        have hoK := World.ownsRow.alloc hown.1 (.cells #[.slice (some ⟨gK, 0, none⟩) k dK, .slice (some ⟨gD, 0, none⟩) k dD, .slice (some ⟨gL, 0, none⟩) k k, .int .i64 (winnerV ks ds : Nat)] 57)
        have hoD := World.ownsRow.alloc hown.2.1 (.cells #[.slice (some ⟨gK, 0, none⟩) k dK, .slice (some ⟨gD, 0, none⟩) k dD, .slice (some ⟨gL, 0, none⟩) k k, .int .i64 (winnerV ks ds : Nat)] 57)
        have hT4 := (hblkT1.below_ hb3).alloc (.cells #[.slice (some ⟨gK, 0, none⟩) k dK, .slice (some ⟨gD, 0, none⟩) k dD, .slice (some ⟨gL, 0, none⟩) k k, .int .i64 (winnerV ks ds : Nat)] 57)
        have hR4 := (hblkR1.below_ hb3).alloc (.cells #[.slice (some ⟨gK, 0, none⟩) k dK, .slice (some ⟨gD, 0, none⟩) k dD, .slice (some ⟨gL, 0, none⟩) k k, .int .i64 (winnerV ks ds : Nat)] 57)
        clear t0 t1 t2 t3 htl hT
        go_upto_region 6 with fail
        generalize hw4 : w3.alloc (.cells #[.slice (some ⟨gK, 0, none⟩) k dK, .slice (some ⟨gD, 0, none⟩) k dD, .slice (some ⟨gL, 0, none⟩) k k, .int .i64 (winnerV ks ds : Nat)] 57) = w4 at *
        generalize hpp : w3.heap.size = p at *
        have hsz1 : w.heap.size + 1 < p := by have := hblkR1.lt; have := hb3.size; omega
        clear hw4
        go_cut [] (fun wc => Blk wc p 57 #[.slice (some ⟨gK, 0, none⟩) k dK, .slice (some ⟨gD, 0, none⟩) k dD, .slice (some ⟨gL, 0, none⟩) k k, .int .i64 (winnerV ks ds : Nat)] ∧ wc.ownsRow w1.heap.size 3 1 (.slice (some ⟨gK, 0, none⟩) k dK) k (ints (ks.set m 0)) ∧ wc.ownsRow w1.heap.size 4 1 (.slice (some ⟨gD, 0, none⟩) k dD) k (bools (ds.set m true)) ∧
          Blk wc w.heap.size 57 #[.slice AK k cK, .slice (some ad) k cD, .slice AL k cL, .int .i64 (m : Nat)] ∧ Blk wc (w.heap.size + 1) 57 #[.slice none 0 0, .slice none 0 0, .slice none 0 0, .int .i64 0] ∧ Below w.heap.size w wc)
        case first =>
          obtain ⟨p0, p1, p2, p3⟩ := hbp.four
          have pl := hbp.lt
          obtain ⟨t0, t1, t2, t3⟩ := hT4.four
          have htl := hT4.lt
          have cK := hoK.cellAt m (by omega)
          have cD := hoD.cellAt m (by omega)
          rw [ints_get (by have := HK.out; omega)] at cK
          rw [bools_get (by have := HD.out; omega)] at cD
          have fK := hoK.frozenAt m
          have fD := hoD.frozenAt m
          have s1 := hoK.stored m (.int .i64 0)
          have s2 := hoD.stored m (.bool true)
          have nKD := own_ne_type hoK hoD (by decide)
          have nDK := own_ne_type hoD hoK (by decide)
          rw [show (ints ks).set m (.int .i64 0) = ints (ks.set m 0) from by simp [ints, List.map_set]] at s1
          rw [show (bools ds).set m (.bool true) = bools (ds.set m true) from by simp [bools, List.map_set]] at s2
          have n1 : gK ≠ p := by have := hKlt; omega
          have n2 : gD ≠ p := by have := hDlt; omega
          have n3 : p ≠ gK := by omega
          have n4 : p ≠ gD := by omega
          have n5 : gK ≠ w.heap.size := by have := hKge; have := hB1.size; have := hblkR1.lt; omega
          have n6 : gD ≠ w.heap.size := by have := hDge; have := hB1.size; have := hblkR1.lt; omega
          have n7 : w.heap.size ≠ gK := by omega
          have n8 : w.heap.size ≠ gD := by omega
          have hgg : gK ≠ gD := fun e => by rcases nKD with h | h <;> simp [Value.ownBlock] at h; exact h e
          have S1 := Lib.hid s1
          have S2 := Lib.hid s2
          have HKD := Lib.hid nKD
          have HDK := Lib.hid nDK
          have A1 := Lib.hid (own_drew_ (own_setCell s1.1 (p := ⟨gD, m, none⟩) (by intro e; exact hgg (Option.some.inj e)) (.bool true)))
          have A2' := (own_setCell hoK (p := ⟨gD, m, none⟩) (by intro e; exact hgg (Option.some.inj e)) (.bool true)).stored m (.int .i64 0)
          rw [show (ints ks).set m (.int .i64 0) = ints (ks.set m 0) from by simp [ints, List.map_set]] at A2'
          have A2 := Lib.hid (own_drew_ A2'.1)
          have B2 := Lib.hid (own_drew_ (own_setCell s2.1 (p := ⟨gK, m, none⟩) (by intro e; exact hgg (Option.some.inj e).symm) (.int .i64 0)))
          have B1' := (own_setCell hoD (p := ⟨gK, m, none⟩) (by intro e; exact hgg (Option.some.inj e).symm) (.int .i64 0)).stored m (.bool true)
          rw [show (bools ds).set m (.bool true) = bools (ds.set m true) from by simp [bools, List.map_set]] at B1'
          have B1 := Lib.hid (own_drew_ B1'.1)
          have n9 : w.heap.size + 1 ≠ gK := by have := hKge; have := hblkR1.lt; omega
          have n10 : w.heap.size + 1 ≠ gD := by have := hDge; have := hblkR1.lt; omega
          have n11 : w.heap.size ≤ gK := by have := hKge; have := hB1.size; omega
          have n12 : w.heap.size ≤ gD := by have := hDge; have := hB1.size; omega
          clear s1 s2 nKD nDK A2' B1'
          go_region_held3 (fun w' => w'.cell? ⟨p, 0, none⟩ = some (.slice (some ⟨gK, 0, none⟩) k dK) ∧ w'.cell? ⟨p, 1, none⟩ = some (.slice (some ⟨gD, 0, none⟩) k dD) ∧ w'.cell? ⟨w.heap.size, 3, none⟩ = some (.int .i64 (m : Nat))) (go_keep) (fail)
          all_goals
            go_wp2_with fail
            go_meet
            first
              | exact ⟨Blk.drew (Blk.far (Blk.far hbp n3 _) n4 _), A1.out, B1.out, Blk.drew (Blk.far (Blk.far hT4 n7 _) n8 _), Blk.drew (Blk.far (Blk.far hR4 n9 _) n10 _), bdrew (Below.setCell (Below.setCell hb4 n11 _) n12 _)⟩
              | exact ⟨Blk.drew (Blk.far (Blk.far hbp n4 _) n3 _), A2.out, B2.out, Blk.drew (Blk.far (Blk.far hT4 n8 _) n7 _), Blk.drew (Blk.far (Blk.far hR4 n10 _) n9 _), bdrew (Below.setCell (Below.setCell hb4 n12 _) n11 _)⟩
        case rest =>
          obtain ⟨hbp, hoK, hoD, hT4, hR4, hb4⟩ := hcut
          have hrK : Reads wc p 1 (some ⟨gK, 0, none⟩) (ks.set m 0).length (ints (ks.set m 0)) := by rw [List.length_set, HK.out]; exact ⟨by simp [HK.out], fun _ => ⟨_, rfl, hKlt, hoK.cells rfl⟩⟩
          have hrD : Reads wc p 1 (some ⟨gD, 0, none⟩) (ds.set m true).length (bools (ds.set m true)) := by rw [List.length_set, HD.out]; exact ⟨by simp [HD.out], fun _ => ⟨_, rfl, hDlt, hoD.cells rfl⟩⟩
          have hP := Lib.hid (play_any p (some ⟨gK, 0, none⟩) (some ⟨gD, 0, none⟩) (ks.set m 0) (ds.set m true) k dK dD _ _ wc hbp (by rw [List.length_set, HK.out]) (by rw [List.length_set, HD.out]) hrK hrD (by omega) (by omega))
          go_wp2_with fail
          refine hP.out.mono ?_
          rintro e w5 ⟨rfl, gM, hbp5, hoM, hg5⟩
          have hoK5 := own_kept hoK hg5 (own_blk_ne hoK hbp (by decide))
          have hoD5 := own_kept hoD hg5 (own_blk_ne hoD hbp (by decide))
          have hT5 := hT4.grown hg5 (by intro e; have h := Option.some.inj e; omega)
          have hR5 := hR4.grown hg5 (by intro e; have h := Option.some.inj e; omega)
          have hb5 := hb4.trans (below_of_grown (B := w.heap.size) hg5 hb4.size (by intro q hq; have h : p = q := Option.some.inj hq; omega))
          have hne := own_ne_new hoK hoM (Nat.le_refl _)
          have hbase : w.heap.size ≤ w1.heap.size := hB1.size
          have hTO : TreeOwn w5 w.heap.size 3 4 k (some ⟨gK, 0, none⟩) dK (some ⟨gD, 0, none⟩) dD (some ⟨gM, 0, none⟩) k (ks.set m 0) (ds.set m true) (loserI (ks.set m 0) (ds.set m true)) := ⟨own_base hoK5 hbase, own_base hoD5 hbase, by rw [← nats_loser]; exact own_base hoM hb4.size, hne⟩
          have hT3 := TreeRC.of_own (base' := w.heap.size) hTO (Nat.le_refl _)
          generalize hWV : winnerV (ks.set m 0) (ds.set m true) = W at *
          have HWV := Lib.hid hWV; clear hWV
          generalize hPL : plen ((k + m) / 2) = pn at *
          have HPL := Lib.hid hPL; clear hPL
          have hb6 := blk4 (a' := .slice (some ⟨gK, 0, none⟩) k dK) (b' := .slice (some ⟨gD, 0, none⟩) k dD) (c' := .slice (some ⟨gM, 0, none⟩) k k) (d' := .int .i64 (W : Nat)) hR5
          obtain ⟨r0, r1, r2, r3⟩ := hb6.four
          have R0 := Lib.hid r0; have R1 := Lib.hid r1; have R2 := Lib.hid r2; have R3 := Lib.hid r3
          have HBF := Lib.hid (below4 hb5 (Nat.le_succ _) (.slice (some ⟨gK, 0, none⟩) k dK) (.slice (some ⟨gD, 0, none⟩) k dD) (.slice (some ⟨gM, 0, none⟩) k k) (.int .i64 (W : Nat)))
          have HTF := Lib.hid (hT3.put4 hR5 (by decide) (by decide) (.slice (some ⟨gK, 0, none⟩) k dK) (.slice (some ⟨gD, 0, none⟩) k dD) (.slice (some ⟨gM, 0, none⟩) k k) (.int .i64 (W : Nat)))
          obtain ⟨z0', z1, z2, z3⟩ := hR5.four
          obtain ⟨f0, f1, f2, f3⟩ := hR5.ice
          have hlt := hR5.lt
          obtain ⟨p0, p1, p2, p3⟩ := hbp5.four
          have pl := hbp5.lt
          obtain ⟨t0, t1, t2, t3⟩ := hT5.four
          have htl := hT5.lt
          have HKl : Hid ((ks.set m 0).length = k) := Lib.hid (by rw [List.length_set, HK.out])
          have HDl : Hid ((ds.set m true).length = k) := Lib.hid (by rw [List.length_set, HD.out])
          have HLl : Hid ((loserI (ks.set m 0) (ds.set m true)).length = k) := Lib.hid (by rw [loserI_len, List.length_set, HK.out])
          have HPC := Lib.hid (fun w => pathLength_any k m w (by omega))
          clear hb6 r0 r1 r2 r3 hbp5 hoK5 hoD5 hT5 hb5 hne hTO hT3 hrK hrD hP hoK hoD hbp hT4 hR4 hb4 hg5 hoM hR5
          rw [HPL.out] at HPC
          have np1 : p ≠ w.heap.size + 1 := by omega
          have np2 : w.heap.size + 1 ≠ p := by omega
          go_upto_region 8 with fail
          go_region_held3 (fun w' => w'.cell? ⟨p, 0, none⟩ = some (.slice (some ⟨gK, 0, none⟩) k dK) ∧ w'.cell? ⟨p, 1, none⟩ = some (.slice (some ⟨gD, 0, none⟩) k dD) ∧ w'.cell? ⟨p, 2, none⟩ = some (.slice (some ⟨gM, 0, none⟩) k k) ∧ w'.cell? ⟨p, 3, none⟩ = some (.int .i64 (W : Nat)) ∧ w'.cell? ⟨w.heap.size, 0, none⟩ = some (.slice AK k cK) ∧ w'.cell? ⟨w.heap.size, 3, none⟩ = some (.int .i64 (m : Nat))) (go_keep) ((go_at_call 93; refine (HPC.out _).mono ?_; rintro e w6 ⟨rfl, rfl⟩))
          go_wp2_with fail

          refine bodyPost_ret (v := .tuple #[.agg #[.slice (some ⟨gK, 0, none⟩) k dK, .slice (some ⟨gD, 0, none⟩) k dD, .slice (some ⟨gM, 0, none⟩) k k, .int .i64 (W : Nat)], .int .i64 (pn : Nat), .bool true]) (by simp [results, Try.results44, go_sem, R0.out, R1.out, R2.out, R3.out]) rfl ⟨some ⟨gK, 0, none⟩, dK, some ⟨gD, 0, none⟩, dD, some ⟨gM, 0, none⟩, k, ?_, ?_, bdrew HBF.out⟩
          · rw [HK4.out, HD4.out, HL4.out, HW4.out, HN4.out, HO.out, HKl.out, HDl.out, HLl.out]
          · rw [HK4.out, HD4.out, HL4.out, HKl.out, HDl.out, HLl.out]
            exact HTF.out.drew_.grownC

      case false =>
        cases hkey : keyB key
        case false =>
          have HKEY := Lib.hid hkey; clear hkey
          have HO := Lib.hid (show rwOk ks ds ls (m : Nat) key false = false by rw [HRO.out]; simp [HDX0.out, HKEY.out])
          rw [show rwK ks ds ls (m : Nat) key false = [] from by simp [rwK, HO.out], show rwD ks ds ls (m : Nat) key false = [] from by simp [rwD, HO.out], show rwL ks ds ls (m : Nat) key false = [] from by simp [rwL, HO.out], show rwW ks ds ls (m : Nat) key false = 0 from by simp [rwW, HO.out], show rwN ks ds ls (m : Nat) key false = 0 from by simp [rwN, HO.out], HO.out]
          go_enter Try.func44, Try.ntmps44
          go_upto_region 2 with (first | (go_at_call 47; refine HV.out.mono ?_; rintro e w1 ⟨rfl, hb1⟩; rw [HIT.out]; obtain ⟨t0, t1, t2, t3⟩ := (hblkT.below_ hb1).four; have htl := (hblkT.below_ hb1).lt; obtain ⟨ad2, hE, -, hcD⟩ := Reads.tv (k := m) (Reads.below HRD.out hb1) (by have := HD.out; omega); cases hE; rw [HDX.out] at hcD) | (go_at_call 90; refine (isKey_any _ _).mono ?_; rintro e w' ⟨rfl, rfl⟩; rw [show inB key (-100000) 100000 = false from HKEY.out]))
          have hblk1 := hblkR.below_ hb1
          have hb5 := blk4 (a' := .slice none 0 0) (b' := .slice none 0 0) (c' := .slice none 0 0) (d' := .int .i64 0) hblk1
          obtain ⟨r0, r1, r2, r3⟩ := hb5.four
          have R0 := Lib.hid r0; have R1 := Lib.hid r1; have R2 := Lib.hid r2; have R3 := Lib.hid r3
          have HBF := Lib.hid (below4 (bthen hbA hb1) (Nat.le_succ _) (.slice none 0 0) (.slice none 0 0) (.slice none 0 0) (.int .i64 0))
          obtain ⟨z0', z1, z2, z3⟩ := hblk1.four
          obtain ⟨f0, f1, f2, f3⟩ := hblk1.ice
          have hlt := hblk1.lt
          clear hb5 r0 r1 r2 r3
          go_wp2_with fail
          exact bodyPost_ret (v := .tuple #[.agg #[.slice none 0 0, .slice none 0 0, .slice none 0 0, .int .i64 0], .int .i64 0, .bool false]) (by simp [results, Try.results44, go_sem, R0.out, R1.out, R2.out, R3.out]) rfl ⟨none, 0, none, 0, none, 0, rfl, TreeRC.nil _ _ _ _, HBF.out⟩

        case true =>
          have HKEY := Lib.hid hkey; clear hkey
          have HO := Lib.hid (show rwOk ks ds ls (m : Nat) key false = true by rw [HRO.out]; simp [HDX0.out, HKEY.out])
          have HKs : Hid (rwKs ks ds key false = (ks.set m key)) := Lib.hid (by simp [rwKs, HM.out])
          have HDs : Hid (rwDs ks ds false = (ds.set m false)) := Lib.hid (by simp [rwDs, HM.out])
          have HK4 : Hid (rwK ks ds ls (m : Nat) key false = (ks.set m key)) := Lib.hid (by simp [rwK, HO.out, HKs.out])
          have HD4 : Hid (rwD ks ds ls (m : Nat) key false = (ds.set m false)) := Lib.hid (by simp [rwD, HO.out, HDs.out])
          have HL4 : Hid (rwL ks ds ls (m : Nat) key false = loserI (ks.set m key) (ds.set m false)) := Lib.hid (by simp [rwL, HO.out, HKs.out, HDs.out])
          have HW4 : Hid (rwW ks ds ls (m : Nat) key false = (winnerV (ks.set m key) (ds.set m false) : Nat)) := Lib.hid (by simp [rwW, HO.out, HKs.out, HDs.out])
          have HN4 : Hid (rwN ks ds ls (m : Nat) key false = (plen ((k + m) / 2) : Nat)) := Lib.hid (by simp [rwN, HO.out, HM.out, HK.out])
          go_enter Try.func44, Try.ntmps44
          go_upto_region 5 with (first | (go_at_call 47; refine HV.out.mono ?_; rintro e w1 ⟨rfl, hb1⟩; rw [HIT.out]; obtain ⟨t0, t1, t2, t3⟩ := (hblkT.below_ hb1).four; have htl := (hblkT.below_ hb1).lt; obtain ⟨ad2, hE, -, hcD⟩ := Reads.tv (k := m) (Reads.below HRD.out hb1) (by have := HD.out; omega); cases hE; rw [HDX.out] at hcD) | (go_at_call 90; refine (isKey_any _ _).mono ?_; rintro e w' ⟨rfl, rfl⟩; rw [show inB key (-100000) 100000 = true from HKEY.out]))
          have hB1 := bthen hbA hb1
          have hT := Lib.hid (treeOf_any AK ks cK (some ad) ds cD k w1 HK.out HD.out ((HRK.out.below hb1).more hb1.size) ((HRD.out.below hb1).more hb1.size) (by omega) (by omega))
          have hblkT1 := hblkT.below_ hb1
          have hblkR1 := hblkR.below_ hb1
          clear hcD
          go_wp2_with fail
          refine hT.out.mono ?_
          rintro e w3 ⟨BK, dK, BD, dD, gL, rfl, hown, hb3⟩
          obtain ⟨gK, cK2, eK, hKge, hKlt, -⟩ := own_some hown.1 (by omega)
          cases eK
          obtain ⟨gD, cD2, eD, hDge, hDlt, -⟩ := own_some hown.2.1 (by omega)
          cases eD
          have hB3 := bthen hB1 hb3
          have hbp := Blk.new w3 57 #[.slice (some ⟨gK, 0, none⟩) k dK, .slice (some ⟨gD, 0, none⟩) k dD, .slice (some ⟨gL, 0, none⟩) k k, .int .i64 (winnerV ks ds : Nat)]
          have hb4 := alloc_ hB3 (.cells #[.slice (some ⟨gK, 0, none⟩) k dK, .slice (some ⟨gD, 0, none⟩) k dD, .slice (some ⟨gL, 0, none⟩) k k, .int .i64 (winnerV ks ds : Nat)] 57)
          have hoK := World.ownsRow.alloc hown.1 (.cells #[.slice (some ⟨gK, 0, none⟩) k dK, .slice (some ⟨gD, 0, none⟩) k dD, .slice (some ⟨gL, 0, none⟩) k k, .int .i64 (winnerV ks ds : Nat)] 57)
          have hoD := World.ownsRow.alloc hown.2.1 (.cells #[.slice (some ⟨gK, 0, none⟩) k dK, .slice (some ⟨gD, 0, none⟩) k dD, .slice (some ⟨gL, 0, none⟩) k k, .int .i64 (winnerV ks ds : Nat)] 57)
          have hT4 := (hblkT1.below_ hb3).alloc (.cells #[.slice (some ⟨gK, 0, none⟩) k dK, .slice (some ⟨gD, 0, none⟩) k dD, .slice (some ⟨gL, 0, none⟩) k k, .int .i64 (winnerV ks ds : Nat)] 57)
          have hR4 := (hblkR1.below_ hb3).alloc (.cells #[.slice (some ⟨gK, 0, none⟩) k dK, .slice (some ⟨gD, 0, none⟩) k dD, .slice (some ⟨gL, 0, none⟩) k k, .int .i64 (winnerV ks ds : Nat)] 57)
          clear t0 t1 t2 t3 htl hT
          go_upto_region 6 with fail
          generalize hw4 : w3.alloc (.cells #[.slice (some ⟨gK, 0, none⟩) k dK, .slice (some ⟨gD, 0, none⟩) k dD, .slice (some ⟨gL, 0, none⟩) k k, .int .i64 (winnerV ks ds : Nat)] 57) = w4 at *
          generalize hpp : w3.heap.size = p at *
          have hsz1 : w.heap.size + 1 < p := by have := hblkR1.lt; have := hb3.size; omega
          clear hw4
          go_cut [] (fun wc => Blk wc p 57 #[.slice (some ⟨gK, 0, none⟩) k dK, .slice (some ⟨gD, 0, none⟩) k dD, .slice (some ⟨gL, 0, none⟩) k k, .int .i64 (winnerV ks ds : Nat)] ∧ wc.ownsRow w1.heap.size 3 1 (.slice (some ⟨gK, 0, none⟩) k dK) k (ints (ks.set m key)) ∧ wc.ownsRow w1.heap.size 4 1 (.slice (some ⟨gD, 0, none⟩) k dD) k (bools (ds.set m false)) ∧
            Blk wc w.heap.size 57 #[.slice AK k cK, .slice (some ad) k cD, .slice AL k cL, .int .i64 (m : Nat)] ∧ Blk wc (w.heap.size + 1) 57 #[.slice none 0 0, .slice none 0 0, .slice none 0 0, .int .i64 0] ∧ Below w.heap.size w wc)
          case first =>
            obtain ⟨p0, p1, p2, p3⟩ := hbp.four
            have pl := hbp.lt
            obtain ⟨t0, t1, t2, t3⟩ := hT4.four
            have htl := hT4.lt
            have cK := hoK.cellAt m (by omega)
            have cD := hoD.cellAt m (by omega)
            rw [ints_get (by have := HK.out; omega)] at cK
            rw [bools_get (by have := HD.out; omega)] at cD
            have fK := hoK.frozenAt m
            have fD := hoD.frozenAt m
            have s1 := hoK.stored m (.int .i64 key)
            have s2 := hoD.stored m (.bool false)
            have nKD := own_ne_type hoK hoD (by decide)
            have nDK := own_ne_type hoD hoK (by decide)
            rw [show (ints ks).set m (.int .i64 key) = ints (ks.set m key) from by simp [ints, List.map_set]] at s1
            rw [show (bools ds).set m (.bool false) = bools (ds.set m false) from by simp [bools, List.map_set]] at s2
            have n1 : gK ≠ p := by have := hKlt; omega
            have n2 : gD ≠ p := by have := hDlt; omega
            have n3 : p ≠ gK := by omega
            have n4 : p ≠ gD := by omega
            have n5 : gK ≠ w.heap.size := by have := hKge; have := hB1.size; have := hblkR1.lt; omega
            have n6 : gD ≠ w.heap.size := by have := hDge; have := hB1.size; have := hblkR1.lt; omega
            have n7 : w.heap.size ≠ gK := by omega
            have n8 : w.heap.size ≠ gD := by omega
            have hgg : gK ≠ gD := fun e => by rcases nKD with h | h <;> simp [Value.ownBlock] at h; exact h e
            have S1 := Lib.hid s1
            have S2 := Lib.hid s2
            have HKD := Lib.hid nKD
            have HDK := Lib.hid nDK
            have A1 := Lib.hid (own_drew_ (own_setCell s1.1 (p := ⟨gD, m, none⟩) (by intro e; exact hgg (Option.some.inj e)) (.bool false)))
            have A2' := (own_setCell hoK (p := ⟨gD, m, none⟩) (by intro e; exact hgg (Option.some.inj e)) (.bool false)).stored m (.int .i64 key)
            rw [show (ints ks).set m (.int .i64 key) = ints (ks.set m key) from by simp [ints, List.map_set]] at A2'
            have A2 := Lib.hid (own_drew_ A2'.1)
            have B2 := Lib.hid (own_drew_ (own_setCell s2.1 (p := ⟨gK, m, none⟩) (by intro e; exact hgg (Option.some.inj e).symm) (.int .i64 key)))
            have B1' := (own_setCell hoD (p := ⟨gK, m, none⟩) (by intro e; exact hgg (Option.some.inj e).symm) (.int .i64 key)).stored m (.bool false)
            rw [show (bools ds).set m (.bool false) = bools (ds.set m false) from by simp [bools, List.map_set]] at B1'
            have B1 := Lib.hid (own_drew_ B1'.1)
            have n9 : w.heap.size + 1 ≠ gK := by have := hKge; have := hblkR1.lt; omega
            have n10 : w.heap.size + 1 ≠ gD := by have := hDge; have := hblkR1.lt; omega
            have n11 : w.heap.size ≤ gK := by have := hKge; have := hB1.size; omega
            have n12 : w.heap.size ≤ gD := by have := hDge; have := hB1.size; omega
            clear s1 s2 nKD nDK A2' B1'
            go_region_held3 (fun w' => w'.cell? ⟨p, 0, none⟩ = some (.slice (some ⟨gK, 0, none⟩) k dK) ∧ w'.cell? ⟨p, 1, none⟩ = some (.slice (some ⟨gD, 0, none⟩) k dD) ∧ w'.cell? ⟨w.heap.size, 3, none⟩ = some (.int .i64 (m : Nat))) (go_keep) (fail)
            all_goals
              go_wp2_with fail
              go_meet
              first
                | exact ⟨Blk.drew (Blk.far (Blk.far hbp n3 _) n4 _), A1.out, B1.out, Blk.drew (Blk.far (Blk.far hT4 n7 _) n8 _), Blk.drew (Blk.far (Blk.far hR4 n9 _) n10 _), bdrew (Below.setCell (Below.setCell hb4 n11 _) n12 _)⟩
                | exact ⟨Blk.drew (Blk.far (Blk.far hbp n4 _) n3 _), A2.out, B2.out, Blk.drew (Blk.far (Blk.far hT4 n8 _) n7 _), Blk.drew (Blk.far (Blk.far hR4 n10 _) n9 _), bdrew (Below.setCell (Below.setCell hb4 n12 _) n11 _)⟩
          case rest =>
            obtain ⟨hbp, hoK, hoD, hT4, hR4, hb4⟩ := hcut
            have hrK : Reads wc p 1 (some ⟨gK, 0, none⟩) (ks.set m key).length (ints (ks.set m key)) := by rw [List.length_set, HK.out]; exact ⟨by simp [HK.out], fun _ => ⟨_, rfl, hKlt, hoK.cells rfl⟩⟩
            have hrD : Reads wc p 1 (some ⟨gD, 0, none⟩) (ds.set m false).length (bools (ds.set m false)) := by rw [List.length_set, HD.out]; exact ⟨by simp [HD.out], fun _ => ⟨_, rfl, hDlt, hoD.cells rfl⟩⟩
            have hP := Lib.hid (play_any p (some ⟨gK, 0, none⟩) (some ⟨gD, 0, none⟩) (ks.set m key) (ds.set m false) k dK dD _ _ wc hbp (by rw [List.length_set, HK.out]) (by rw [List.length_set, HD.out]) hrK hrD (by omega) (by omega))
            go_wp2_with fail
            refine hP.out.mono ?_
            rintro e w5 ⟨rfl, gM, hbp5, hoM, hg5⟩
            have hoK5 := own_kept hoK hg5 (own_blk_ne hoK hbp (by decide))
            have hoD5 := own_kept hoD hg5 (own_blk_ne hoD hbp (by decide))
            have hT5 := hT4.grown hg5 (by intro e; have h := Option.some.inj e; omega)
            have hR5 := hR4.grown hg5 (by intro e; have h := Option.some.inj e; omega)
            have hb5 := hb4.trans (below_of_grown (B := w.heap.size) hg5 hb4.size (by intro q hq; have h : p = q := Option.some.inj hq; omega))
            have hne := own_ne_new hoK hoM (Nat.le_refl _)
            have hbase : w.heap.size ≤ w1.heap.size := hB1.size
            have hTO : TreeOwn w5 w.heap.size 3 4 k (some ⟨gK, 0, none⟩) dK (some ⟨gD, 0, none⟩) dD (some ⟨gM, 0, none⟩) k (ks.set m key) (ds.set m false) (loserI (ks.set m key) (ds.set m false)) := ⟨own_base hoK5 hbase, own_base hoD5 hbase, by rw [← nats_loser]; exact own_base hoM hb4.size, hne⟩
            have hT3 := TreeRC.of_own (base' := w.heap.size) hTO (Nat.le_refl _)
            generalize hWV : winnerV (ks.set m key) (ds.set m false) = W at *
            have HWV := Lib.hid hWV; clear hWV
            generalize hPL : plen ((k + m) / 2) = pn at *
            have HPL := Lib.hid hPL; clear hPL
            have hb6 := blk4 (a' := .slice (some ⟨gK, 0, none⟩) k dK) (b' := .slice (some ⟨gD, 0, none⟩) k dD) (c' := .slice (some ⟨gM, 0, none⟩) k k) (d' := .int .i64 (W : Nat)) hR5
            obtain ⟨r0, r1, r2, r3⟩ := hb6.four
            have R0 := Lib.hid r0; have R1 := Lib.hid r1; have R2 := Lib.hid r2; have R3 := Lib.hid r3
            have HBF := Lib.hid (below4 hb5 (Nat.le_succ _) (.slice (some ⟨gK, 0, none⟩) k dK) (.slice (some ⟨gD, 0, none⟩) k dD) (.slice (some ⟨gM, 0, none⟩) k k) (.int .i64 (W : Nat)))
            have HTF := Lib.hid (hT3.put4 hR5 (by decide) (by decide) (.slice (some ⟨gK, 0, none⟩) k dK) (.slice (some ⟨gD, 0, none⟩) k dD) (.slice (some ⟨gM, 0, none⟩) k k) (.int .i64 (W : Nat)))
            obtain ⟨z0', z1, z2, z3⟩ := hR5.four
            obtain ⟨f0, f1, f2, f3⟩ := hR5.ice
            have hlt := hR5.lt
            obtain ⟨p0, p1, p2, p3⟩ := hbp5.four
            have pl := hbp5.lt
            obtain ⟨t0, t1, t2, t3⟩ := hT5.four
            have htl := hT5.lt
            have HKl : Hid ((ks.set m key).length = k) := Lib.hid (by rw [List.length_set, HK.out])
            have HDl : Hid ((ds.set m false).length = k) := Lib.hid (by rw [List.length_set, HD.out])
            have HLl : Hid ((loserI (ks.set m key) (ds.set m false)).length = k) := Lib.hid (by rw [loserI_len, List.length_set, HK.out])
            have HPC := Lib.hid (fun w => pathLength_any k m w (by omega))
            clear hb6 r0 r1 r2 r3 hbp5 hoK5 hoD5 hT5 hb5 hne hTO hT3 hrK hrD hP hoK hoD hbp hT4 hR4 hb4 hg5 hoM hR5
            rw [HPL.out] at HPC
            have np1 : p ≠ w.heap.size + 1 := by omega
            have np2 : w.heap.size + 1 ≠ p := by omega
            go_upto_region 8 with fail
            go_region_held3 (fun w' => w'.cell? ⟨p, 0, none⟩ = some (.slice (some ⟨gK, 0, none⟩) k dK) ∧ w'.cell? ⟨p, 1, none⟩ = some (.slice (some ⟨gD, 0, none⟩) k dD) ∧ w'.cell? ⟨p, 2, none⟩ = some (.slice (some ⟨gM, 0, none⟩) k k) ∧ w'.cell? ⟨p, 3, none⟩ = some (.int .i64 (W : Nat)) ∧ w'.cell? ⟨w.heap.size, 0, none⟩ = some (.slice AK k cK) ∧ w'.cell? ⟨w.heap.size, 3, none⟩ = some (.int .i64 (m : Nat))) (go_keep) ((go_at_call 93; refine (HPC.out _).mono ?_; rintro e w6 ⟨rfl, rfl⟩))
            go_wp2_with fail

            refine bodyPost_ret (v := .tuple #[.agg #[.slice (some ⟨gK, 0, none⟩) k dK, .slice (some ⟨gD, 0, none⟩) k dD, .slice (some ⟨gM, 0, none⟩) k k, .int .i64 (W : Nat)], .int .i64 (pn : Nat), .bool true]) (by simp [results, Try.results44, go_sem, R0.out, R1.out, R2.out, R3.out]) rfl ⟨some ⟨gK, 0, none⟩, dK, some ⟨gD, 0, none⟩, dD, some ⟨gM, 0, none⟩, k, ?_, ?_, bdrew HBF.out⟩
            · rw [HK4.out, HD4.out, HL4.out, HW4.out, HN4.out, HO.out, HKl.out, HDl.out, HLl.out]
            · rw [HK4.out, HD4.out, HL4.out, HKl.out, HDl.out, HLl.out]
              exact HTF.out.drew_.grownC

end Go.Proofs.Yteigceeghnphmaa
