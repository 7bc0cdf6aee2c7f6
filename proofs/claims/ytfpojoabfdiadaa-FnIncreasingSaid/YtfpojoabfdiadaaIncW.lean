/- LongestIncreasing. -/
import Derived.Test.YtfpojoabfdiadaaIncM
import Derived.Test.YtfpojoabfdiadaaCore
import Derived.Test.YtfpojoabfdiadaaPush
import Derived.IntWalk
import Derived.Deep.QuietTactic
import Derived.Deep.DeepCutAuto
import Derived.Deep.RegionLaw
import Derived.Deep.LoopGhost
import Derived.Deep.OwnRows
namespace Go.Proofs.Ytfpojoabfdiadaa
open Go.RowKit
set_option linter.unusedVariables false
def ntI (ns : List Nat) : List Int := ns.map fun n : Nat => (n : Int)
@[simp] theorem ntI_len (ns : List Nat) : (ntI ns).length = ns.length := by simp [ntI]
theorem ntI_get {ns : List Nat} {k : Nat} (h : k < ns.length) : (ntI ns)[k]? = some ((ns[k] : Nat) : Int) := by simp [ntI, h]
theorem stL_drop : ∀ (t : List Int) (k : Nat), stL (t.drop k) = (stL t).drop k
  | [], k => by simp [stL]
  | x :: t, 0 => rfl
  | x :: t, k + 1 => by rw [List.drop_succ_cons, stL_drop t k]; simp [stL]
theorem stL_at {zs : List Int} {q : Nat} (h : q < zs.length) : stL (zs.drop q) = incB zs[q] 1 ((zs.drop (q + 1)).zip (stL (zs.drop (q + 1)))) :: stL (zs.drop (q + 1)) := by
  rw [List.drop_eq_getElem_cons h, stL]
theorem maxL_at {zs : List Int} {q : Nat} (h : q < zs.length) : maxL (stL (zs.drop q)) = max (incB zs[q] 1 ((zs.drop (q + 1)).zip (stL (zs.drop (q + 1))))) (maxL (stL (zs.drop (q + 1)))) := by
  rw [stL_at h]; rfl
/-- the row of lengths while the place q is under way: c is its value so far, behind it all is done -/
def LRow (zs : List Int) (q : Nat) (c : Nat) (ls : List Int) : Prop := ls.length = zs.length ∧ ls.drop (q + 1) = ntI (stL (zs.drop (q + 1))) ∧ ls[q]? = some (c : Int)
theorem LRow.at_ {zs ls : List Int} {q c k : Nat} (h : LRow zs q c ls) (hk : q < k) (hkl : k < zs.length) : ∃ m : Nat, ls[k]? = some (m : Int) ∧ m ≤ zs.length ∧ ((zs.drop (q + 1)).zip (stL (zs.drop (q + 1))))[k - (q + 1)]? = some (zs[k], m) := by
  have h2 := congrArg (fun l => l[k - (q + 1)]?) h.2.1
  simp only [List.getElem?_drop] at h2
  rw [show q + 1 + (k - (q + 1)) = k by omega] at h2
  have hl : k - (q + 1) < (stL (zs.drop (q + 1))).length := by rw [stL_len, List.length_drop]; omega
  rw [ntI_get hl] at h2
  have hz : ((zs.drop (q + 1)).zip (stL (zs.drop (q + 1))))[k - (q + 1)]? = some (zs[k], (stL (zs.drop (q + 1)))[k - (q + 1)]) := by
    rw [List.getElem?_zip_eq_some]
    refine ⟨?_, List.getElem?_eq_getElem hl⟩
    rw [List.getElem?_drop, show q + 1 + (k - (q + 1)) = k by omega, List.getElem?_eq_getElem hkl]
  refine ⟨_, h2, ?_, hz⟩
  have := stL_le _ _ (List.mem_of_getElem? hz)
  simp at this
  omega
theorem LRow.set_ {zs ls : List Int} {q c d : Nat} (h : LRow zs q c ls) : LRow zs q d (ls.set q (d : Int)) := by
  have hq : q < ls.length := (List.getElem?_eq_some_iff.1 h.2.2).1
  refine ⟨by rw [List.length_set]; exact h.1, ?_, by rw [List.getElem?_set_self hq]⟩
  rw [List.drop_set_of_lt (by omega)]
  exact h.2.1
theorem LRow.start {zs ls : List Int} {q : Nat} (hl : ls.length = zs.length) (hd : ls.drop (q + 1) = ntI (stL (zs.drop (q + 1)))) (hq : q < zs.length) : LRow zs q 1 (ls.set q 1) := by
  refine ⟨by rw [List.length_set]; exact hl, ?_, by rw [List.getElem?_set_self (by omega)]; rfl⟩
  rw [List.drop_set_of_lt (by omega)]
  exact hd
theorem LRow.stop {zs ls : List Int} {q c : Nat} (h : LRow zs q c ls) (hq : q < zs.length) (hc : c = incB zs[q] 1 ((zs.drop (q + 1)).zip (stL (zs.drop (q + 1))))) : ls.drop q = ntI (stL (zs.drop q)) := by
  have hql : q < ls.length := (List.getElem?_eq_some_iff.1 h.2.2).1
  rw [List.drop_eq_getElem_cons hql, h.2.1, stL_at hq, ← hc]
  have := h.2.2
  rw [List.getElem?_eq_getElem hql] at this
  rw [Option.some.inj this]
  rfl
theorem ints_at {zs : List Int} {k : Nat} {x : Int} (h : zs[k]? = some x) : (ints zs)[k]? = some (.int .i64 x) := by simp [ints, h]
theorem incB_step {x y : Int} {zs : List Int} {q k m c : Nat} (hz : ((zs.drop (q + 1)).zip (stL (zs.drop (q + 1))))[k - (q + 1)]? = some (y, m)) (hk : q < k) (hc : c = incB x 1 (((zs.drop (q + 1)).zip (stL (zs.drop (q + 1)))).take (k - (q + 1)))) :
    (if x < y then max c (m + 1) else c) = incB x 1 (((zs.drop (q + 1)).zip (stL (zs.drop (q + 1)))).take (k + 1 - (q + 1))) := by
  have hlt := (List.getElem?_eq_some_iff.1 hz).1
  rw [show k + 1 - (q + 1) = (k - (q + 1)) + 1 by omega, List.take_succ_eq_append_getElem hlt, incB_snoc, ← hc]
  rw [List.getElem?_eq_getElem hlt] at hz
  rw [Option.some.inj hz]
/-- the last value read off -/
def lastV (o : List (Nat × Int)) : Option Int := o.getLast?.map (·.2)
def outI (o : List (Nat × Int)) : List Int := o.map fun p => (p.1 : Int)
theorem lastV_snoc (o : List (Nat × Int)) (p : Nat × Int) : lastV (o ++ [p]) = some p.2 := by simp [lastV]
theorem outI_snoc (o : List (Nat × Int)) (p : Nat × Int) : outI (o ++ [p]) = outI o ++ [(p.1 : Int)] := by simp [outI]
@[simp] theorem outI_len (o : List (Nat × Int)) : (outI o).length = o.length := by simp [outI]
theorem zipS_drop {zs : List Int} {k : Nat} (h : k < zs.length) : ∃ n : Nat, (ntI (stL zs))[k]? = some (n : Int) ∧ 1 ≤ n ∧ n ≤ zs.length ∧ (zs.zip (stL zs)).drop k = (zs[k], n) :: (zs.zip (stL zs)).drop (k + 1) := by
  have hs : k < (stL zs).length := by rw [stL_len]; exact h
  have hz : k < (zs.zip (stL zs)).length := by simp; omega
  have hm : (zs[k], (stL zs)[k]) ∈ zs.zip (stL zs) := by
    rw [List.mem_iff_getElem]; exact ⟨k, hz, by simp⟩
  refine ⟨(stL zs)[k], ntI_get hs, stL_pos _ _ hm, stL_le _ _ hm, ?_⟩
  rw [List.drop_eq_getElem_cons hz]
  simp
theorem gP_cons (k x n t m last) : gP k ((x, n) :: t) m last = if n = m ∧ (∀ y, last = some y → y < x) then (k, x) :: gP (k + 1) t (m - 1) (some x) else gP (k + 1) t m last := rfl
theorem last_at {zs : List Int} {o : List (Nat × Int)} {p : Nat × Int} (h : ∀ p ∈ o ++ [p], zs[p.1]? = some p.2) : zs[p.1]? = some p.2 := h p (by simp)
theorem li_le (l : List Int) : (liV l).length ≤ l.length := by
  have h1 : (liV l).length = maxL (stL l) := by rw [← liP_len]; simp [liV]
  rw [h1, maxL_le]
  intro n hn
  obtain ⟨p, hp, rfl⟩ := zip_snd (stL_len l) hn
  exact stL_le l p hp
set_option maxRecDepth 100000 in
set_option maxHeartbeats 6400000 in
theorem LongestIncreasing_any (A0 : Option Addr) (zs : List Int) (n c0 : Nat) (w : World) (hx : Reads w w.heap.size 1 A0 n (ints zs)) (hn : zs.length = n) (hv : vList zs = true) :
    Calls Try.prog 18 #[.slice A0 n c0] w fun e w' => ∃ A c, e = .returned (.tuple #[.slice A (liV zs).length c, .bool true]) ∧ w'.ownsRow w.heap.size 3 1 (.slice A (liV zs).length c) (liV zs).length (ints (liV zs)) ∧ Below w.heap.size w w' := by
  have h64 : n ≤ 64 := by rw [← hn]; simp [vList] at hv; exact hv.1
  obtain ⟨i0, hi, hz0, hz1, hz2⟩ := info_parts (show (Try.prog.info? 3).map (fun i => (i.zero, i.size, i.bytes)) = some (some (.int .i64 0), 1, 8) by kernel_rfl)
  have hmi := run_make_row (P := Try.prog) 22 3 i0 (.int .i64 0) Try.underlying22 hi hz0 hz1 rfl .i64 .i64 n (by rw [hz2]; omega) (by omega)
  have HIV := IsValidList_any A0 zs c0 w (by rw [hn]; exact hx) (by omega)
  rw [hn, hv] at HIV
  have HIV := Lib.hid HIV
  have HX := Lib.hid hx
  have HN := Lib.hid hn
  clear hx hn hv
  go_enter Try.func18, Try.ntmps18
  go_wp2_with fail
  refine HIV.out.mono ?_
  rintro e w1 ⟨rfl, hb1⟩
  have HB1 := Lib.hid hb1
  have hbs := hb1.size
  clear hb1
  have HO1 : Hid ((w1.alloc (.cells (madeCells #[.int .i64 0] n) 3)).ownsRow w.heap.size 3 1 (.slice (some ⟨w1.heap.size, 0, none⟩) n n) n (ints (List.replicate n 0))) := Lib.hid (by
    have h1 := own_full (base := w.heap.size) (size := 1) (e := 3) w1 (madeCells #[.int .i64 0] n) n hbs (by unfold maxLen; omega) (by simp [madeCells])
    rw [toList_madeCells_one] at h1
    simpa [ints] using h1)
  have HB2 := Lib.hid (alloc_ HB1.out (.cells (madeCells #[.int .i64 0] n) 3))
  go_wp2_with fail
  generalize w1.alloc (.cells (madeCells #[.int .i64 0] n) 3) = w2 at *
  generalize w1.heap.size = gL at *
  clear hmi hbs HB1 HIV
  go_loopw [5, 6] (fun vm vi wr => ∃ (j m : Nat) (x : Int) (ls : List Int), j ≤ n ∧ vi = .int .i64 x ∧ x + 1 = (j : Int) ∧ vm = .int .i64 (m : Nat) ∧ m ≤ n ∧ Hid (m = maxL (stL (zs.drop j))) ∧ Hid (ls.length = n ∧ ls.drop j = ntI (stL (zs.drop j))) ∧ Hid (wr.ownsRow w.heap.size 3 1 (.slice (some ⟨gL, 0, none⟩) n n) n (ints ls)) ∧ Hid (Below w.heap.size w wr)) (fun _ vi _ => (intOf vi + 1).toNat)
  case atStart => exact ⟨n, 0, _, List.replicate n 0, Nat.le_refl _, rfl, by omega, rfl, by omega, Lib.hid (by rw [List.drop_of_length_le (by rw [HN.out]; exact Nat.le_refl _)]; rfl), Lib.hid ⟨by simp, by rw [List.drop_of_length_le (by simp), List.drop_of_length_le (by rw [HN.out]; exact Nat.le_refl _)]; rfl⟩, HO1, HB2⟩
  case round =>
    clear HO1 HB2
    obtain ⟨j, m, x, ls, hj, rfl, hxj, rfl, hmn, HM, HL, HO, HB⟩ := hrel
    by_cases hx0 : 0 ≤ x
    · obtain ⟨q, rfl⟩ : ∃ q : Nat, x = (q : Int) := ⟨x.toNat, by omega⟩
      obtain rfl : j = q + 1 := by omega
      have hqn : q < n := by omega
      have hqI : (q : Int) < (n : Int) := by omega
      clear hxj hx0
      have hqz : q < zs.length := by rw [HN.out]; exact hqn
      have cq := HO.out.cellAt q (by omega)
      rw [ints_get (show q < ls.length by rw [HL.out.1]; exact hqn)] at cq
      have fq := HO.out.frozenAt q
      obtain ⟨s1, s2⟩ := HO.out.stored q (.int .i64 1)
      rw [ints_set] at s1
      have HR0 := Lib.hid (LRow.start (zs := zs) (by rw [HL.out.1, HN.out]) HL.out.2 hqz)
      have HO2 := Lib.hid s1
      have HB2 := Lib.hid (HB.out.trans (below_of_grown s2 HB.out.size (fun k hk => (own_lt HO.out k hk).1)))
      clear s1 s2
      go_upto_region 8 with fail
      generalize wr.setCell ⟨gL, q, none⟩ (.int .i64 1) = w3 at *
      clear cq fq HO HB HL
      have ew : IntKind.i64.wrap ((q : Int) + 1) = (q : Int) + 1 := IntWalk.i64_in _ ⟨by omega, by omega⟩
      go_wp2_with fail
      go_loopw [7] (fun vk wr => ∃ (k c : Nat) (ls : List Int), q < k ∧ k ≤ n ∧ vk = .int .i64 (k : Nat) ∧ c ≤ n ∧ Hid (c = incB zs[q] 1 (((zs.drop (q + 1)).zip (stL (zs.drop (q + 1)))).take (k - (q + 1)))) ∧ Hid (LRow zs q c ls) ∧ Hid (wr.ownsRow w.heap.size 3 1 (.slice (some ⟨gL, 0, none⟩) n n) n (ints ls)) ∧ Hid (Below w.heap.size w wr)) (fun vk _ => n - (intOf vk).toNat)
      case atStart => exact ⟨q + 1, 1, _, by omega, by omega, by go_num, by omega, Lib.hid (by simp [incB]), HR0, HO2, HB2⟩
      case round =>
        clear HR0 HO2 HB2
        obtain ⟨k, c, ls, hqk, hkn, rfl, hcn, HC, HR, HO, HB⟩ := hrel
        by_cases hk : k < n
        · have kI : (k : Int) < (n : Int) := by omega
          have hkz : k < zs.length := by rw [HN.out]; exact hk
          obtain ⟨mk, hm1, hm2, hm3⟩ := HR.out.at_ hqk hkz
          rw [HN.out] at hm2
          obtain ⟨ad, u0, rfl, -, hu0, a1⟩ := (HX.out.below HB.out).at_ hk
          rw [ints_get hkz] at hu0
          cases hu0
          obtain ⟨ad', u1, e1, -, hu1, a2⟩ := (HX.out.below HB.out).at_ hqn
          cases e1
          rw [ints_get hqz] at hu1
          cases hu1
          have HST := Lib.hid (incB_step hm3 hqk HC.out)
          have l1 := HO.out.cellAt k (by omega)
          rw [ints_at hm1] at l1
          have l2 := HO.out.cellAt q (by omega)
          rw [ints_at HR.out.2.2] at l2
          have fq := HO.out.frozenAt q
          obtain ⟨x, hx⟩ : ∃ x, zs[q] = x := ⟨_, rfl⟩
          obtain ⟨y, hy⟩ : ∃ y, zs[k] = y := ⟨_, rfl⟩
          rw [hx] at a2 HST
          rw [hy] at a1 HST
          have HXX := Lib.hid hx
          have HM1 := Lib.hid hm1
          clear hx hy hm1 hm3 HC
          by_cases hxy : x < y
          · have hs := HST.out
            rw [if_pos hxy] at hs
            have HS2 := Lib.hid hs
            obtain ⟨d, hd⟩ : ∃ d, max c (mk + 1) = d := ⟨_, rfl⟩
            have hdn : d ≤ n ∨ n < d := by omega
            have em : (if (c : Int) < (mk : Int) + 1 then (mk : Int) + 1 else (c : Int)) = (d : Int) := by split <;> omega
            have ew2 : IntKind.i64.wrap ((mk : Int) + 1) = (mk : Int) + 1 := IntWalk.i64_in _ ⟨by omega, by omega⟩
            rw [hd] at HS2
            have HDN : Hid (d ≤ n) := Lib.hid (by
              have h1 := (incB_le x (((zs.drop (q + 1)).zip (stL (zs.drop (q + 1)))).take (k + 1 - (q + 1))) 1 n).2 ⟨by omega, fun p hp _ => by
                have h2 := stL_le _ p (List.mem_of_mem_take hp)
                have := HN.out
                rw [List.length_drop] at h2
                omega⟩
              rw [← HS2.out] at h1
              exact h1)
            have HR2 := Lib.hid (HR.out.set_ (d := d))
            clear hd hs l1 l2 fq
            go_upto_region 11 with fail
            go_quiet (fail)
            have HOq : Hid ((wr.drewN nq).ownsRow w.heap.size 3 1 (.slice (some ⟨gL, 0, none⟩) n n) n (ints ls)) := Lib.hid HO.out
            have HBq := Lib.hid (below_drewN HB.out nq)
            clear HO HB a1 a2
            generalize wr.drewN nq = wq at *
            have l1 := HOq.out.cellAt k (by omega)
            rw [ints_at HM1.out] at l1
            have l2 := HOq.out.cellAt q (by omega)
            rw [ints_at HR.out.2.2] at l2
            have fq := HOq.out.frozenAt q
            have hOd : wq.drew.ownsRow w.heap.size 3 1 (.slice (some ⟨gL, 0, none⟩) n n) n (ints ls) := HOq.out
            obtain ⟨s1, s2⟩ := hOd.stored q (.int .i64 (d : Nat))
            rw [ints_set] at s1
            have HO2 := Lib.hid s1
            have HB2 := Lib.hid ((bdrew HBq.out).trans (below_of_grown s2 HBq.out.size (fun k hk => (own_lt HOq.out k hk).1)))
            clear s1 s2 hOd HOq HBq
            go_upto_region 12 with fail
            go_region_law (fail)
            all_goals
              try rw [em]
              have HO3 := Lib.hid (show ((wq.setCell ⟨gL, q, none⟩ (.int .i64 (d : Nat))).drew).ownsRow _ 3 1 _ _ _ from HO2.out)
              have HB3 := Lib.hid (show Below w.heap.size w ((wq.setCell ⟨gL, q, none⟩ (.int .i64 (d : Nat))).drew) from HB2.out)
              go_wp2_with fail
              go_roundw
              case rel => exact ⟨k + 1, d, _, by omega, by omega, by go_num, HDN.out, by rw [HXX.out]; exact HS2, HR2, (by first | exact HO2 | exact HO3 | (rw [em]; exact HO3)), (by first | exact HB2 | exact HB3 | (rw [em]; exact HB3))⟩
              case measure => simp [intOf]; omega
          · have hs := HST.out
            rw [if_neg hxy] at hs
            have HS2 := Lib.hid hs
            clear hs
            go_upto_region 11 with fail
            go_quiet (fail)
            go_wp2_with fail
            go_roundw
            case rel => exact ⟨k + 1, c, ls, by omega, by omega, by go_num, hcn, by rw [HXX.out]; exact HS2, HR, Lib.hid HO.out, Lib.hid (below_drewN HB.out _)⟩
            case measure => simp [intOf]; omega
        · have kI : ¬ (k : Int) < (n : Int) := by omega
          obtain rfl : k = n := by omega
          have HC2 : Hid (c = incB zs[q] 1 ((zs.drop (q + 1)).zip (stL (zs.drop (q + 1))))) := Lib.hid (by
            rw [HC.out, List.take_of_length_le]
            simp [stL_len, HN.out])
          have HDR := Lib.hid (HR.out.stop hqz HC2.out)
          have l2 := HO.out.cellAt q (by omega)
          rw [ints_at HR.out.2.2] at l2
          obtain ⟨d, hd⟩ : ∃ d, max c m = d := ⟨_, rfl⟩
          have em : (if m < c then (c : Int) else (m : Int)) = (d : Int) := by split <;> omega
          have HM2 : Hid (d = maxL (stL (zs.drop q))) := Lib.hid (by rw [maxL_at hqz, ← hd, HC2.out, HM.out])
          have hdn : d ≤ k := by omega
          have HLS := Lib.hid HR.out.1
          clear hd HC HC2
          go_wp2_with fail
          go_roundw
          case rel => exact ⟨q, d, _, ls, by omega, rfl, by omega, rfl, hdn, HM2, Lib.hid ⟨by rw [HLS.out, HN.out], HDR.out⟩, HO, HB⟩
          case measure => simp [intOf] <;> omega
    · have hj0 : j = 0 := by omega
      subst hj0
      have hxm : x = -1 := by omega
      subst hxm
      have hd := HL.out.2
      rw [List.drop_zero, List.drop_zero] at hd
      have HL2 := Lib.hid hd
      have HO2 : Hid ((wr.alloc (.cells #[] 3)).ownsRow w.heap.size 3 1 (.slice (some ⟨gL, 0, none⟩) n n) n (ints ls)) := Lib.hid (World.ownsRow.alloc HO.out _)
      have HB2 := Lib.hid (alloc_ HB.out (.cells #[] 3))
      have hbs := HB.out.size
      have HO3 : Hid ((wr.alloc (.cells #[] 3)).ownsRow wr.heap.size 3 1 (.slice (some ⟨wr.heap.size, 0, none⟩) 0 0) 0 []) := Lib.hid (made_at (Nat.le_refl _) rfl)
      have hgl := (own_lt HO.out gL rfl).2
      rw [List.drop_zero] at HM
      clear hd HO HB HL
      go_wp2_with fail
      have HS4 : Hid (wr.heap.size ≤ (wr.alloc (.cells #[] 3)).heap.size) := Lib.hid (by simp)
      generalize wr.alloc (.cells #[] 3) = w4 at *
      have HGW : Hid (w.heap.size ≤ wr.heap.size) := Lib.hid hbs
      have HG40 : Hid (wr.heap.size ≤ w4.heap.size) := HS4
      generalize wr.heap.size = g4 at *
      go_loopw [5, 8, 66] (fun vm vo vi wr => ∃ (k m t : Nat) (o : List (Nat × Int)) (Ao : Option Addr) (co : Nat), k ≤ n ∧ vi = .int .i64 (k : Nat) ∧ vm = .int .i64 (m : Nat) ∧ m ≤ n ∧ vo = .slice Ao t co ∧ t ≤ k ∧ Hid (o.length = t) ∧ Hid (o ++ gP k ((zs.zip (stL zs)).drop k) m (lastV o) = liP zs) ∧ Hid (wr.ownsRow g4 3 1 (.slice Ao t co) t (ints (outI o))) ∧ Hid (wr.ownsRow w.heap.size 3 1 (.slice (some ⟨gL, 0, none⟩) n n) n (ints ls)) ∧ Hid (Below w.heap.size w wr) ∧ Hid (g4 ≤ wr.heap.size)) (fun _ _ vi _ => n - (intOf vi).toNat)
      case atStart => exact ⟨0, m, 0, [], _, _, by omega, rfl, rfl, hmn, rfl, by omega, Lib.hid rfl, Lib.hid (by rw [HM.out]; rfl), HO3, HO2, HB2, HG40⟩
      case round =>
        clear HO3 HO2 HB2 HG40 HM hmn
        obtain ⟨k, m, t, o, Ao, co, hkn, rfl, rfl, hmn, rfl, htk, HT, HG, HO, HLO, HB, HG4⟩ := hrel
        by_cases hk : k < n
        · have kI : (k : Int) < (n : Int) := by omega
          have hkz : k < zs.length := by rw [HN.out]; exact hk
          obtain ⟨s, hs1, hs2, hs3, hs4⟩ := zipS_drop hkz
          rw [HN.out] at hs3
          obtain ⟨ad, u0, rfl, -, hu0, a1⟩ := (HX.out.below HB.out).at_ hk
          rw [ints_get hkz] at hu0
          cases hu0
          have l1 := HLO.out.cellAt k (by omega)
          rw [HL2.out, ints_at hs1] at l1
          have HMEM : Hid (∀ p ∈ o, zs[p.1]? = some p.2) := Lib.hid fun p hp => (liP_facts zs).1 p (by rw [← HG.out]; exact List.mem_append_left _ hp)
          obtain ⟨x, hx⟩ : ∃ x, zs[k] = x := ⟨_, rfl⟩
          rw [hx] at a1 hs4
          have hg := HG.out
          rw [hs4, gP_cons] at hg
          clear hs1 hs4 hx HG
          by_cases hsm : s = m
          · subst hsm
            have hss : ((s : Int) == (s : Int)) = true := by simp
            rcases t with _ | u
            · have hon : o = [] := List.eq_nil_of_length_eq_zero HT.out
              have HG2 : Hid ((o ++ [(k, x)]) ++ gP (k + 1) ((zs.zip (stL zs)).drop (k + 1)) (s - 1) (lastV (o ++ [(k, x)])) = liP zs) := Lib.hid (by
                rw [lastV_snoc]
                rw [if_pos ⟨rfl, fun y hy => by rw [hon] at hy; cases hy⟩] at hg
                rw [List.append_assoc]
                exact hg)
              clear hg hon
              go_upto_region 18 with fail
              go_quiet (fail)
              have HOq : Hid ((wr.drewN nq).ownsRow g4 3 1 (.slice Ao 0 co) 0 (ints (outI o))) := Lib.hid HO.out
              have HLq : Hid ((wr.drewN nq).ownsRow w.heap.size 3 1 (.slice (some ⟨gL, 0, none⟩) n n) n (ints ls)) := Lib.hid HLO.out
              have HBq := Lib.hid (below_drewN HB.out nq)
              have hgq : g4 ≤ (wr.drewN nq).heap.size := HG4.out
              clear HO HLO HB HG4 a1 l1
              generalize wr.drewN nq = wq at *
              have ho1 := World.ownsRow.alloc HOq.out (.cells #[.int .i64 (k : Nat)] 3)
              have hl1 := World.ownsRow.alloc HLq.out (.cells #[.int .i64 (k : Nat)] 3)
              go_wp2_with (at_builtin; go_loud (refine wpList_push' _ rfl _ _ 22 rfl g4 3 i0 _ 1 8 Try.underlying22 hi hz0 hz1 hz2 rfl (by decide) (.slice Ao 0 co) _ (ints (outI o)) rfl ho1 #[.int .i64 (k : Nat)] wq.heap.size rfl (Blk.new _ _ _) rfl (by simp [Value.oneCell']) (by omega) (by unfold maxLen; omega) (Nat.le_trans hgq (by simp)) ?_; intro g5 d5 w5 hown5 hg5 hb5 hat5))
              have HO5 : Hid (w5.ownsRow g4 3 1 (.slice (some ⟨g5, 0, none⟩) (0 + 1) d5) (0 + 1) (ints (outI (o ++ [(k, x)])))) := Lib.hid (by rw [outI_snoc]; have h9 := hown5; simpa [ints] using h9)
              have HL5 := Lib.hid (hl1.kept hg5 (.inr (fun e => by
                have h9 := (own_lt ho1 gL e.symm).1
                omega)))
              have HB5 := Lib.hid ((alloc_ HBq.out (.cells #[.int .i64 (k : Nat)] 3)).trans (hb5.mono HGW.out))
              have HG5 : Hid (g4 ≤ w5.heap.size) := Lib.hid (Nat.le_trans hgq (Nat.le_trans (by simp) hg5.size))
              have HT5 : Hid ((o ++ [(k, x)]).length = 0 + 1) := Lib.hid (by rw [List.length_append, HT.out]; rfl)
              have es : (s : Int) - 1 = ((s - 1 : Nat) : Int) := by omega
              clear hown5 hg5 hb5 hat5 ho1 hl1 HOq HLq HBq
              go_wp2_with fail
              go_roundw
              case rel => exact ⟨k + 1, s - 1, 0 + 1, o ++ [(k, x)], _, _, by omega, by go_num, by rw [es], by omega, rfl, by omega, HT5, HG2, HO5, HL5, HB5, HG5⟩
              case measure => simp [intOf]; omega
            · obtain ⟨o', p, hop⟩ : ∃ o' p, o = o' ++ [p] := by
                rcases List.eq_nil_or_concat o with h | ⟨a, b, h⟩
                · rw [h] at HT; have := HT.out; simp at this
                · exact ⟨a, b, by simpa using h⟩
              have hou : o'.length = u := by have := HT.out; rw [hop] at this; simpa using this
              obtain ⟨go, co', eo, -, -, -, -⟩ := own_some HO.out (by omega)
              cases eo
              have b1 := HO.out.cellAt u (by omega)
              have hb2 : (outI o)[u]? = some ((p.1 : Nat) : Int) := by rw [hop, outI_snoc, List.getElem?_append_right (by simp [hou]), outI_len, hou]; simp
              rw [ints_at hb2] at b1
              have hzp := HMEM.out p (by rw [hop]; simp)
              have hpn : p.1 < n := by rw [← HN.out]; exact (List.getElem?_eq_some_iff.1 hzp).1
              have hpI : (p.1 : Int) < (n : Int) := by omega
              obtain ⟨ad', u1, e1, -, hu1, b2⟩ := (HX.out.below HB.out).at_ hpn
              cases e1
              rw [ints_at hzp] at hu1
              cases hu1
              have hlv : lastV o = some p.2 := by rw [hop, lastV_snoc]
              rw [hlv] at hg
              have hu0 : ((u : Int) + 1 == 0) = false := by rw [beq_eq_false_iff_ne]; omega
              have ecast : ((u + 1 : Nat) : Int) = (u : Int) + 1 := by omega
              have ewu : IntKind.i64.wrap (u : Int) = (u : Int) := IntWalk.i64_in _ ⟨by omega, by omega⟩
              have uI : (u : Int) < (u : Int) + 1 := by omega
              have hlv' := Lib.hid hlv
              clear hb2 hop hou hzp hlv HMEM
              generalize p.1 = pi at *
              generalize p.2 = pv at *
              by_cases hpx : pv < x
              · have HG2 : Hid ((o ++ [(k, x)]) ++ gP (k + 1) ((zs.zip (stL zs)).drop (k + 1)) (s - 1) (lastV (o ++ [(k, x)])) = liP zs) := Lib.hid (by
                  rw [lastV_snoc]
                  rw [if_pos ⟨rfl, fun y hy => by cases hy; exact hpx⟩] at hg
                  rw [List.append_assoc]
                  exact hg)
                clear hg
                go_upto_region 18 with fail
                go_quiet (fail)
                clear b1 b2
                have HOq : Hid ((wr.drewN nq).ownsRow g4 3 1 (.slice (some ⟨go, 0, none⟩) (u + 1) co) (u + 1) (ints (outI o))) := Lib.hid HO.out
                have HLq : Hid ((wr.drewN nq).ownsRow w.heap.size 3 1 (.slice (some ⟨gL, 0, none⟩) n n) n (ints ls)) := Lib.hid HLO.out
                have HBq := Lib.hid (below_drewN HB.out nq)
                have hgq : g4 ≤ (wr.drewN nq).heap.size := HG4.out
                clear HO HLO HB HG4 a1 l1
                generalize wr.drewN nq = wq at *
                have ho1 := World.ownsRow.alloc HOq.out (.cells #[.int .i64 (k : Nat)] 3)
                have hl1 := World.ownsRow.alloc HLq.out (.cells #[.int .i64 (k : Nat)] 3)
                go_wp2_with (at_builtin; go_loud (refine wpList_push' _ rfl _ _ 22 rfl g4 3 i0 _ 1 8 Try.underlying22 hi hz0 hz1 hz2 rfl (by decide) (.slice (some ⟨go, 0, none⟩) (u + 1) co) _ (ints (outI o)) rfl ho1 #[.int .i64 (k : Nat)] wq.heap.size rfl (Blk.new _ _ _) rfl (by simp [Value.oneCell']) (by omega) (by unfold maxLen; omega) (Nat.le_trans hgq (by simp)) ?_; intro g5 d5 w5 hown5 hg5 hb5 hat5))
                have HO5 : Hid (w5.ownsRow g4 3 1 (.slice (some ⟨g5, 0, none⟩) ((u + 1) + 1) d5) ((u + 1) + 1) (ints (outI (o ++ [(k, x)])))) := Lib.hid (by rw [outI_snoc]; have h9 := hown5; simpa [ints] using h9)
                have HL5 := Lib.hid (hl1.kept hg5 (.inr (fun e => by
                  have h9 := (own_lt ho1 gL e.symm).1
                  omega)))
                have HB5 := Lib.hid ((alloc_ HBq.out (.cells #[.int .i64 (k : Nat)] 3)).trans (hb5.mono HGW.out))
                have HG5 : Hid (g4 ≤ w5.heap.size) := Lib.hid (Nat.le_trans hgq (Nat.le_trans (by simp) hg5.size))
                have HT5 : Hid ((o ++ [(k, x)]).length = (u + 1) + 1) := Lib.hid (by rw [List.length_append, HT.out]; rfl)
                have es : (s : Int) - 1 = ((s - 1 : Nat) : Int) := by omega
                clear hown5 hg5 hb5 hat5 ho1 hl1 HOq HLq HBq
                go_wp2_with fail
                go_roundw
                case rel => exact ⟨k + 1, s - 1, (u + 1) + 1, o ++ [(k, x)], _, _, by omega, by go_num, by rw [es], by omega, rfl, by omega, HT5, HG2, HO5, HL5, HB5, HG5⟩
                case measure => simp [intOf]; omega
              · have HG2 : Hid (o ++ gP (k + 1) ((zs.zip (stL zs)).drop (k + 1)) s (lastV o) = liP zs) := Lib.hid (by
                  rw [hlv'.out]
                  rw [if_neg (fun h => hpx (h.2 pv rfl))] at hg
                  exact hg)
                clear hg
                go_upto_region 18 with fail
                go_quiet (fail)
                go_wp2_with fail
                go_roundw
                case rel => exact ⟨k + 1, s, (u + 1), o, _, _, by omega, by go_num, rfl, hmn, rfl, by omega, HT, HG2, Lib.hid HO.out, Lib.hid HLO.out, Lib.hid (below_drewN HB.out _), Lib.hid HG4.out⟩
                case measure => simp [intOf]; omega
          · have hsb : ((s : Int) == (m : Int)) = false := by rw [beq_eq_false_iff_ne]; omega
            rw [if_neg (fun h => hsm h.1)] at hg
            have HG2 := Lib.hid hg
            clear hg
            go_upto_region 18 with fail
            go_quiet (fail)
            go_wp2_with fail
            go_roundw
            case rel => exact ⟨k + 1, m, t, o, _, _, by omega, by go_num, rfl, hmn, rfl, by omega, HT, HG2, Lib.hid HO.out, Lib.hid HLO.out, Lib.hid (below_drewN HB.out _), Lib.hid HG4.out⟩
            case measure => simp [intOf]; omega
        · have kI : ¬ (k : Int) < (n : Int) := by omega
          have hd := HG.out
          rw [List.drop_of_length_le (by simp [stL_len, HN.out]; omega)] at hd
          have ho : o = liP zs := by rw [← hd]; simp [gP]
          have HE : Hid (outI o = liV zs ∧ t = (liV zs).length) := Lib.hid (by rw [← HT.out]; subst ho; exact ⟨rfl, by simp [liV]⟩)
          have hgw : w.heap.size ≤ g4 := HGW.out
          clear hd ho
          go_wp2_with fail
          exact bodyPost_ret (v := .tuple #[.slice Ao t co, .bool true]) (by simp [results, Try.results18, go_sem]) rfl ⟨Ao, co, by rw [← HE.out.2], by rw [← HE.out.2, ← HE.out.1]; exact own_base HO.out hgw, HB.out⟩
end Go.Proofs.Ytfpojoabfdiadaa
