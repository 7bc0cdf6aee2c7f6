/- The helpers of the laws: lists out of a code, and the comparing of lists. -/
import Derived.Test.YtfpojoabfdiadaaDrawI
import Derived.Test.YtfpojoabfdiadaaSort
namespace Go.Proofs.Ytfpojoabfdiadaa
open Go.RowKit
set_option linter.unusedVariables false
theorem cur_box {w : World} {A : Option Addr} {bs : List Nat} {c : Nat} (hr : Reads w w.heap.size 1 A bs.length (byts bs)) (hb : ∀ b ∈ bs, b ≤ 255) (hl : bs.length ≤ 65536) :
    Cur (w.alloc (.cells #[.slice A bs.length c, .int .i64 0, .int .u64 0] 51)) w.heap.size A bs c 0 :=
  ⟨⟨0, 0, Blk.new _ _ _, Nat.le_refl _, by omega, by omega⟩, hr.alloc (Nat.le_refl _) _, hb, hl⟩
/-- a call has returned a list of integers of its own -/
def GotL (tI : TypeId) (w : World) (p : List Int → Prop) (e : Ending) (w' : World) : Prop := ∃ v zs, e = .returned v ∧ w'.ownsRow w.heap.size tI 1 v zs.length (ints zs) ∧ p zs ∧ Below w.heap.size w w'
theorem GotL.mk {tI : TypeId} {w : World} {p : List Int → Prop} {e : Ending} {w' : World} (h : ∃ v zs, e = .returned v ∧ w'.ownsRow w.heap.size tI 1 v zs.length (ints zs) ∧ p zs ∧ Below w.heap.size w w') : GotL tI w p e w' := h
theorem sIsValidList_any (A : Option Addr) (zs : List Int) (c : Nat) (w : World) (hx : Reads w w.heap.size 1 A zs.length (ints zs)) (hl : zs.length ≤ 1099511627776) :
    Calls Try.prog 30 #[.slice A zs.length c] w fun e w' => e = .returned (.bool (vList zs)) ∧ w = w' := by
  go_enter Try.func30, Try.ntmps30
  go_wp2_with (go_at_call 21; refine (l2List_any A zs c _ hx hl).mono ?_; rintro e w2 ⟨rfl, rfl⟩)
  go_ret
  exact ⟨rfl, rfl⟩
set_option maxRecDepth 100000 in
set_option maxHeartbeats 1600000 in
theorem DrawIsSorted_any (A : Option Addr) (bs : List Nat) (c : Nat) (w : World) (hr : Reads w w.heap.size 1 A bs.length (byts bs)) (hb : ∀ b ∈ bs, b ≤ 255) (hl : bs.length ≤ 65536) :
    Calls Try.prog 29 #[.slice A bs.length c] w (GotL 3 w fun zs => zs.length ≤ 65) := by
  have HC0 := Lib.hid (cur_box (c := c) hr hb hl)
  have hB0 := alloc_ (Below.refl w.heap.size w) (.cells #[.slice A bs.length c, .int .i64 0, .int .u64 0] 51)
  clear hr hb
  go_enter Try.func29, Try.ntmps29
  go_wp2_with fail
  refine (anyInts_any w.heap.size A bs c 0 _ HC0.out (by omega)).mono ?_
  rintro e w1 ⟨v, zs, rfl, hO1, hl1, hs1, hc1, hg1⟩
  have hB1 := hB0.trans (below_near hg1 (Nat.le_refl _) hB0.size)
  have HC1 := Lib.hid hc1
  have hO1' := own_base hO1 hB0.size
  clear hc1 hO1 hs1 hg1
  obtain ⟨AV, CV, rfl⟩ := own_slice hO1'
  cases hv : vList zs
  case false =>
    have HV := Lib.hid hv; clear hv
    go_wp2_with (go_at_call 21; refine (l2List_any AV zs CV _ (Reads.of_own hO1') (by omega)).mono ?_; rintro e w2 ⟨rfl, rfl⟩; rw [HV.out])
    go_ret
    exact GotL.mk ⟨_, zs, rfl, hO1', hl1, hB1⟩
  case true =>
    have HV := Lib.hid hv; clear hv
    go_wp2_with (go_at_call 21; refine (l2List_any AV zs CV _ (Reads.of_own hO1') (by omega)).mono ?_; rintro e w2 ⟨rfl, rfl⟩; rw [HV.out])
    refine (one_any w.heap.size A bs c _ 2 _ HC1.out (by omega) (by omega) (by omega)).mono ?_
    rintro e w2 ⟨b2, rfl, hc2, hg2⟩
    have hO2 := Cur.row HC1.out hO1' hg2 (by decide)
    have hB2 := hB1.trans (below_near hg2 (Nat.le_refl _) hB1.size)
    have HC2 := Lib.hid hc2
    clear hc2 hO1' hg2
    cases b2
    case false =>
      go_wp2_with fail
      go_ret
      exact GotL.mk ⟨_, zs, rfl, hO2, hl1, hB2⟩
    case true =>
      go_wp2_with fail
      refine (l2Sorted_any AV zs CV _ (Reads.of_own hO2) (by omega)).mono ?_
      rintro e w3 ⟨v3, rfl, hO3, hb3⟩
      have hB3 := bthen hB2 hb3
      have HC3 := Lib.hid (HC2.out.below hb3 HC2.out.lt)
      have hO3' := own_base hO3 hB2.size
      obtain ⟨A3, C3, rfl⟩ := own_slice hO3'
      obtain ⟨ys, hys⟩ : ∃ ys, srt zs = ys := ⟨_, rfl⟩
      have hyl : ys.length = zs.length := by rw [← hys]; exact srt_len zs
      rw [hys, ← hyl] at hO3'
      have HYL := Lib.hid hyl
      have hl2 : ys.length ≤ 65 := by omega
      rw [← hyl]
      clear hys hyl hO3 hO2 hb3
      by_cases h1 : 1 < ys.length
      case neg =>
        have h1I : ¬ (ys.length : Int) > 1 := by omega
        go_wp2_with fail
        go_ret
        exact GotL.mk ⟨_, ys, rfl, hO3', hl2, hB3⟩
      case pos =>
        have h1I : (ys.length : Int) > 1 := by omega
        have h1J : (1 : Int) < ys.length := by omega
        go_wp2_with fail
        refine (one_any w.heap.size A bs c _ 2 _ HC3.out (by omega) (by omega) (by omega)).mono ?_
        rintro e w4 ⟨b4, rfl, hc4, hg4⟩
        have hO4 := Cur.row HC3.out hO3' hg4 (by decide)
        have hB4 := hB3.trans (below_near hg4 (Nat.le_refl _) hB3.size)
        have HC4 := Lib.hid hc4
        clear hc4 hO3' hg4
        cases b4
        case false =>
          go_wp2_with fail
          go_ret
          exact GotL.mk ⟨_, ys, rfl, hO4, hl2, hB4⟩
        case true =>
          go_wp2_with fail
          refine (pick_any w.heap.size A bs c _ ((ys.length : Int) - 1) _ HC4.out (by omega) (by omega) (by omega)).mono ?_
          rintro e w5 ⟨x, hx, rfl, hc5, hg5⟩
          have hO5 := Cur.row HC4.out hO4 hg5 (by decide)
          have hB5 := hB4.trans (below_near hg5 (Nat.le_refl _) hB4.size)
          clear hO4 hg5 hc5
          obtain ⟨gY, cY, eY, hY1, hY2, -⟩ := own_some hO5 (by omega)
          cases eY
          have hx1 : x + 1 < ys.length := by omega
          have i1 : (x : Int) < ys.length := by omega
          have i2 : (x : Int) + 1 < ys.length := by omega
          have c1 := hO5.cellAt x (by omega)
          have c2 := hO5.cellAt (x + 1) (by omega)
          have f1 := hO5.frozenAt x
          have f2 := hO5.frozenAt (x + 1)
          rw [ints_get (by omega)] at c1
          rw [ints_get (by omega)] at c2
          have s1 := hO5.stored x (.int .i64 (ys[x + 1]'(by omega)))
          have s2 := s1.1.stored (x + 1) (.int .i64 (ys[x]'(by omega)))
          have hset : ((ints ys).set x (.int .i64 (ys[x + 1]'(by omega)))).set (x + 1) (.int .i64 (ys[x]'(by omega))) = ints ((ys.set x (ys[x + 1]'(by omega))).set (x + 1) (ys[x]'(by omega))) := by simp [ints, List.map_set]
          rw [hset] at s2
          have HS2 := Lib.hid s2.1
          have hB6 := (hB5.setCell (p := ⟨gY, x, none⟩) hY1 (.int .i64 (ys[x + 1]'(by omega)))).setCell (p := ⟨gY, x + 1, none⟩) hY1 (.int .i64 (ys[x]'(by omega)))
          have HB6 := Lib.hid hB6
          have HSL : Hid (((ys.set x (ys[x + 1]'(by omega))).set (x + 1) (ys[x]'(by omega))).length = ys.length) := Lib.hid (by simp)
          clear s1 s2 hset hB6 hO5 hx
          generalize (ys.set x (ys[x + 1]'(by omega))).set (x + 1) (ys[x]'(by omega)) = ys2 at *
          generalize ys[x]'(by omega) = a at *
          generalize ys[x + 1]'(by omega) = b at *
          go_wp2_with fail
          go_ret
          exact GotL.mk ⟨_, ys2, rfl, by rw [HSL.out]; exact HS2.out, by rw [HSL.out]; exact hl2, HB6.out⟩
theorem vList_any (A : Option Addr) (bs : List Nat) (c : Nat) (w : World) (hr : Reads w w.heap.size 1 A bs.length (byts bs)) (hb : ∀ b ∈ bs, b ≤ 255) (hl : bs.length ≤ 65536) :
    Calls Try.prog 13 #[.slice A bs.length c] w (GotL 3 w fun zs => vList zs = true) := by
  have HD := Lib.hid (DrawIsSorted_any A bs c w hr hb hl)
  clear hr hb
  go_enter Try.func13, Try.ntmps13
  go_wp2_with fail
  refine HD.out.mono ?_
  rintro e w1 ⟨v, zs, rfl, hO, hl1, hb1⟩
  obtain ⟨AV, CV, rfl⟩ := own_slice hO
  have hlit := own_full (base := w.heap.size) (e := 3) (size := 1) w1 (ints [3, 1, 2, 1]).toArray 4 hb1.size (by decide) rfl
  cases hv : vList zs
  case false =>
    have HV := Lib.hid hv; clear hv
    go_wp2_with (go_at_call 30; refine (sIsValidList_any AV zs CV _ (Reads.of_own hO) (by omega)).mono ?_; rintro e w2 ⟨rfl, rfl⟩; rw [HV.out])
    go_ret
    exact GotL.mk ⟨_, [3, 1, 2, 1], rfl, hlit, by decide, alloc_ hb1 _⟩
  case true =>
    have HV := Lib.hid hv; clear hv
    go_wp2_with (go_at_call 30; refine (sIsValidList_any AV zs CV _ (Reads.of_own hO) (by omega)).mono ?_; rintro e w2 ⟨rfl, rfl⟩; rw [HV.out])
    go_ret
    exact GotL.mk ⟨_, zs, rfl, hO, HV.out, hb1⟩
set_option maxHeartbeats 400000 in
theorem vInts_any (A B : Option Addr) (xs ys : List Int) (c d : Nat) (w : World) (hx : Reads w w.heap.size 1 A xs.length (ints xs)) (hy : Reads w w.heap.size 1 B ys.length (ints ys))
    (hl : xs.length ≤ 1099511627776) (hl' : ys.length ≤ 1099511627776) :
    Calls Try.prog 16 #[.slice A xs.length c, .slice B ys.length d] w fun e w' => e = .returned (.bool (decide (xs = ys))) ∧ ∃ n, w' = w.drewN n := by
  by_cases hne : xs.length = ys.length
  case neg =>
    have hd : ((xs.length : Int) == (ys.length : Int)) = false := by simp; omega
    have hd' : ((xs.length : Int) != (ys.length : Int)) = true := by simp; omega
    go_enter Try.func16, Try.ntmps16
    go_wp2_with fail
    go_ret
    exact ⟨retb (by symm; simp; intro h; exact hne (by rw [h])), 0, rfl⟩
  have hd : ((xs.length : Int) == (ys.length : Int)) = true := by simp; omega
  have hd' : ((xs.length : Int) != (ys.length : Int)) = false := by simp; omega
  have Hne := Lib.hid hne; clear hne
  go_enter Try.func16, Try.ntmps16
  go_wp2_with fail
  go_loopw [5] (fun i wr => ∃ k n : Nat, k ≤ xs.length ∧ i = .int .i64 k ∧ wr = w.drewN n ∧ xs.take k = ys.take k) (fun i _ => xs.length - (intOf i).toNat)
  case atStart => exact ⟨0, 0, by omega, rfl, rfl, by simp⟩
  case round =>
    obtain ⟨k, n, hk, rfl, rfl, heq⟩ := hrel
    have HE := Lib.hid heq; clear heq
    by_cases hlt : k < xs.length
    · have hlt' : k < ys.length := by have := Hne.out; omega
      obtain ⟨ad, rfl, -, hc⟩ := hx.int hlt
      obtain ⟨bd, rfl, -, hc'⟩ := hy.int hlt'
      go_wp2_with fail
      by_cases hv : xs[k] = ys[k]
      · have hb : (xs[k] != ys[k]) = false := by simpa using hv
        have hb' : (xs[k] == ys[k]) = true := by simpa using hv
        have HV := Lib.hid hv; clear hv
        go_quiet (fail)
        go_wp2_with fail
        go_roundw
        case rel => exact ⟨k + 1, n + nq, by omega, by go_num, rfl, take_succ_eq HE.out hlt hlt' HV.out⟩
        case measure => simp [intOf]; omega
      · have hb : (xs[k] != ys[k]) = true := by simpa using hv
        have hb' : (xs[k] == ys[k]) = false := by simpa using hv
        have HV := Lib.hid hv; clear hv
        go_quiet (fail)
        go_wp2_with fail
        go_ret
        exact ⟨retb (by symm; simp only [decide_eq_false_iff_not]; intro h; exact HV.out (by simp [h])), _, by rw [World.drewN_drewN]⟩
    · go_wp2_with fail
      go_ret
      refine ⟨retb (by symm; simp only [decide_eq_true_eq]; have h := HE.out; have hk' := Hne.out; rwa [List.take_of_length_le (by omega), List.take_of_length_le (by omega)] at h), n, rfl⟩

theorem vBig_any (A : Option Addr) (n c : Nat) (w : World) (hn : n ≤ maxLen) :
    Calls Try.prog 12 #[.slice A n c] w fun e w' => e = .returned (.bool (decide (65536 < n))) ∧ w = w' := by
  unfold maxLen at hn
  by_cases h : 65536 < n
  · have h2 : (65536 : Int) < n := by omega
    have HD := Lib.hid (show decide (65536 < n) = true by simpa using h)
    go_enter Try.func12, Try.ntmps12
    go_wp2
    go_ret
    exact ⟨retb HD.out.symm, rfl⟩
  · have h2 : ¬ (65536 : Int) < n := by omega
    have HD := Lib.hid (show decide (65536 < n) = false by simpa using h)
    go_enter Try.func12, Try.ntmps12
    go_wp2
    go_ret
    first | exact ⟨retb HD.out.symm, rfl⟩ | exact ⟨rfl, rfl⟩
def atV (bs : List Nat) (i : Nat) : Nat := if i < bs.length then bs[i]?.getD 0 else (i * 7 + bs.length) % 256
theorem atV_lt {bs : List Nat} (hb : ∀ b ∈ bs, b ≤ 255) (i : Nat) : atV bs i ≤ 255 := by
  unfold atV
  split
  · rename_i h
    rw [List.getElem?_eq_getElem h]
    exact hb _ (List.getElem_mem h)
  · omega
theorem vAt_any (A : Option Addr) (bs : List Nat) (c i : Nat) (w : World) (hr : Reads w w.heap.size 1 A bs.length (byts bs)) (hb : ∀ b ∈ bs, b ≤ 255) (hl : bs.length ≤ 65536) (hi : i ≤ 1048576) :
    Calls Try.prog 14 #[.slice A bs.length c, .int .i64 (i : Nat)] w fun e w' => e = .returned (.int .i64 (atV bs i : Nat)) ∧ w = w' := by
  by_cases h : i < bs.length
  · obtain ⟨ad, rfl, -, hc⟩ := hr.byte h
    have hx := hb _ (List.getElem_mem h)
    have HA := Lib.hid (show atV bs i = bs[i] by rw [atV, if_pos h, List.getElem?_eq_getElem h]; rfl)
    generalize bs[i] = x at *
    have i1 : (i : Int) < bs.length := by omega
    go_enter Try.func14, Try.ntmps14
    go_wp2_with fail
    go_ret
    exact ⟨by rw [HA.out]; rfl, rfl⟩
  · have i1 : ¬ (i : Int) < bs.length := by omega
    have HA := Lib.hid (show ((atV bs i : Nat) : Int) = ((i : Int) * 7 + bs.length) % 256 by rw [atV, if_neg h]; omega)
    go_enter Try.func14, Try.ntmps14
    go_wp2_with fail
    go_ret
    exact ⟨by rw [HA.out]; rfl, rfl⟩
theorem hole_step {cur : List Int} {k : Nat} {x : Int} (hk : 0 < k) (hl : k < cur.length) :
    (cur.set k (cur[k - 1]?.getD 0)).set (k - 1) x = ((cur.set k x).set (k - 1) ((cur.set k x)[k]?.getD 0)).set k ((cur.set k x)[k - 1]?.getD 0) := by
  rw [List.getElem?_set_self hl, Option.getD_some, List.getElem?_set_ne (by omega)]
  apply List.ext_getElem?
  intro j
  simp only [List.getElem?_set, List.length_set]
  by_cases h1 : k - 1 = j <;> by_cases h2 : k = j <;> simp [h1, h2] <;> omega
set_option maxRecDepth 100000 in
set_option maxHeartbeats 1600000 in
theorem vOrdered_any (A : Option Addr) (zs : List Int) (c : Nat) (w : World) (hx : Reads w w.heap.size 1 A zs.length (ints zs)) (hl : zs.length ≤ 1048576) :
    Calls Try.prog 17 #[.slice A zs.length c] w fun e w' => ∃ v, e = .returned v ∧ w'.ownsRow w.heap.size 3 1 v zs.length (ints (srt zs)) ∧ Below w.heap.size w w' := by
  obtain ⟨i0, hi, hz0, hz1, hz2⟩ := info_parts (show (Try.prog.info? 3).map (fun i => (i.zero, i.size, i.bytes)) = some (some (.int .i64 0), 1, 8) by kernel_rfl)
  have ho := World.ownsRow_made (base := w.heap.size) (size := 1) (e := 3) w #[] 0 (Nat.le_refl _) (by simp) (by simp)
  have hb0 := alloc_ (Below.refl w.heap.size w) (.cells #[] 3)
  have hr := hx.alloc (Nat.le_refl _) (.cells #[] 3)
  go_enter Try.func17, Try.ntmps17
  go_upto_region 2 with (at_builtin; refine wpList_append_any _ rfl _ _ 22 rfl w.heap.size 3 i0 _ 1 8 Try.underlying22 hi hz0 hz1 hz2 rfl (by decide) (.slice (some ⟨w.heap.size, 0, none⟩) 0 0) _ _ rfl ho w.heap.size A zs.length c (ints zs) rfl hr (by intro u hu; simp [ints] at hu; obtain ⟨_, _, rfl⟩ := hu; rfl) (by unfold maxLen; omega) (by omega) (by simp) ?_; intro v1 w1 hown1 hg1 hat1)
  simp only [Nat.zero_add, List.nil_append] at hown1
  have hb : Below w.heap.size w w1 := hb0.grown hg1 (by simp) (by simp [Value.ownBlock])
  clear ho hb0 hr hg1 hat1
  obtain ⟨G, g, rfl⟩ := own_slice hown1
  go_wp2_with fail
  go_loopw [4] (fun i wr => ∃ (k : Nat) (ys : List Int), 1 ≤ k ∧ (k ≤ zs.length ∨ k = 1) ∧ i = .int .i64 k ∧ ys.length = zs.length ∧ Hid (Ins ys k k ∧ ys.Perm zs) ∧ Below w.heap.size w wr ∧ wr.ownsRow w.heap.size 3 1 (.slice G zs.length g) zs.length (ints ys)) (fun i _ => zs.length - (intOf i).toNat)
  case atStart => exact ⟨1, zs, by omega, by omega, rfl, rfl, Lib.hid ⟨fun a b h1 h2 h3 => by omega, List.Perm.refl _⟩, hb, hown1⟩
  case round =>
    clear hown1 hb
    obtain ⟨i, ys, hi1, hin, rfl, hyl, HI, hb, hown⟩ := hrel
    have HYL := Lib.hid hyl; clear hyl
    by_cases hlt : i < zs.length
    · obtain ⟨gv, rfl, hgv, hgl⟩ := own_at hown (by omega)
      have ci := hown.cellAt i (by omega)
      rw [ints_get (by rw [HYL.out]; omega)] at ci
      have HX0 : Hid (ys.set i (ys[i]'(by rw [HYL.out]; omega)) = ys) := Lib.hid (by simp)
      generalize ys[i]'(by rw [HYL.out]; omega) = x at *
      have iI : (i : Int) < zs.length := by omega
      go_wp2_with fail
      go_loopw [6] (fun kv wr => ∃ (k : Nat) (cur : List Int), k ≤ i ∧ kv = .int .i64 k ∧ cur.length = zs.length ∧ Hid (Ins (cur.set k x) (i + 1) k ∧ (cur.set k x).Perm zs) ∧ Below w.heap.size w wr ∧ wr.ownsRow w.heap.size 3 1 (.slice (some ⟨gv, 0, none⟩) zs.length g) zs.length (ints cur)) (fun kv _ => (intOf kv).toNat)
      case atStart => exact ⟨i, ys, by omega, rfl, HYL.out, Lib.hid (by rw [HX0.out]; exact ⟨HI.out.1.start, HI.out.2⟩), hb, hown⟩
      case round =>
        clear hb hown HI HYL hgl ci
        obtain ⟨k, cur, hki, rfl, hcl, HI, hb, hown⟩ := hrel
        have HCL := Lib.hid hcl; clear hcl
        have stopT : ∀ (h : k = 0 ∨ ((cur.set k x)[k - 1]?.getD 0) ≤ ((cur.set k x)[k]?.getD 0)), Hid (Ins (cur.set k x) (i + 1) (i + 1)) := fun h => Lib.hid (Ins.stop HI.out.1 h)
        have kI : (k : Int) < zs.length := by omega
        have fk := hown.frozenAt k
        obtain ⟨xk, hxk⟩ : ∃ xk, (ints cur)[k]? = some xk := ⟨_, ints_get (by rw [HCL.out]; omega)⟩
        have ck := hown.cellAt k (by omega)
        rw [hxk] at ck
        have HXK := Lib.hid hxk; clear hxk
        have sk := hown.stored k (.int .i64 x)
        rw [ints_set] at sk
        have SK := Lib.hid sk.1; clear sk
        have hbk := Below.setCell hb (p := ⟨gv, k, none⟩) hgv (.int .i64 x)
        have HBK := Lib.hid hbk; clear hbk
        by_cases hk0 : 0 < k
        · obtain ⟨q, rfl⟩ : ∃ q, k = q + 1 := ⟨k - 1, by omega⟩
          have ecast : ((q + 1 : Nat) : Int) = (q : Int) + 1 := by omega
          rw [ecast]
          have HEC := Lib.hid ecast; clear ecast
          have hq1 : q + 1 < cur.length := by rw [HCL.out]; omega
          have hq0 : q < cur.length := by rw [HCL.out]; omega
          have c0 := hown.cellAt q (by omega)
          rw [ints_get hq0] at c0
          have e0 : (0 : Int) ≤ (q : Int) + 1 := by omega
          have e0' : (0 : Int) < (q : Int) + 1 := by omega
          have e1 : ((q : Int) + 1).toNat = q + 1 := by omega
          have i0 : (0 : Int) ≤ (q : Int) := by omega
          have i1 : (q : Int) < zs.length := by omega
          have i2 : (q : Int) + 1 < zs.length := by omega
          have hg0 : ((cur.set (q + 1) x)[q + 1 - 1]?.getD 0) = cur[q] := by rw [Nat.add_sub_cancel, List.getElem?_set_ne (by omega), List.getElem?_eq_getElem hq0]; rfl
          have hg1 : ((cur.set (q + 1) x)[q + 1]?.getD 0) = x := by rw [List.getElem?_set_self hq1]; rfl
          by_cases hgt : x < cur[q]
          · have hst := Ins.step (ys := cur.set (q + 1) x) (i := i + 1) (k := q + 1) hk0 (by omega) (by rw [List.length_set, HCL.out]; omega) HI.out.1 (by rw [hg0, hg1]; exact hgt)
            have hsp := swap_perm (ys := cur.set (q + 1) x) (k := q + 1) hk0 (by rw [List.length_set]; exact hq1)
            rw [← hole_step hk0 hq1] at hst hsp
            rw [Nat.add_sub_cancel, List.getElem?_eq_getElem hq0, Option.getD_some] at hst hsp
            have HST := Lib.hid hst; have HSP := Lib.hid (hsp.trans HI.out.2)
            clear hst hsp stopT hg0 hg1
            have s1 := hown.stored (q + 1) (.int .i64 cur[q])
            rw [ints_set] at s1
            have S1 := Lib.hid s1.1; clear s1
            have hbA := Below.setCell hb (p := ⟨gv, q + 1, none⟩) hgv (.int .i64 cur[q])
            have hgtI : cur[q] > x := hgt
            have HLL : Hid ((cur.set (q + 1) cur[q]).length = zs.length) := Lib.hid (by rw [List.length_set, HCL.out])
            go_wp2_with fail
            go_roundw
            case rel => exact ⟨q, cur.set (q + 1) cur[q], by omega, by go_num, HLL.out, Lib.hid ⟨HST.out, HSP.out⟩, hbA, S1.out⟩
            case measure => (simp [intOf] <;> omega)
          · have hso := stopT (.inr (by rw [hg0, hg1]; omega))
            have hgtI : ¬ cur[q] > x := hgt
            have hgtJ : ¬ x < cur[q] := hgt
            have HLL : Hid ((cur.set (q + 1) x).length = zs.length) := Lib.hid (by rw [List.length_set, HCL.out])
            clear stopT hg0 hg1 hgt
            go_wp2_with fail
            go_roundw
            case rel => exact ⟨i + 1, cur.set (q + 1) x, by omega, by omega, by go_num, HLL.out, Lib.hid ⟨hso.out, HI.out.2⟩, HBK.out, SK.out⟩
            case measure => (simp [intOf] <;> omega)
        · obtain rfl : k = 0 := by omega
          have hso := stopT (.inl rfl)
          have hd0 : decide ((0 : Int) < 0) = false := by decide
          have HLL : Hid ((cur.set 0 x).length = zs.length) := Lib.hid (by rw [List.length_set, HCL.out])
          clear stopT hk0
          go_wp2_with fail
          go_roundw
          case rel => exact ⟨i + 1, cur.set 0 x, by omega, by omega, by go_num, HLL.out, Lib.hid ⟨hso.out, HI.out.2⟩, HBK.out, SK.out⟩
          case measure => (simp [intOf] <;> omega)
    · have hys : ys = srt zs := srt_of HI.out.2 (HI.out.1.done (by rw [HYL.out]; omega))
      rw [hys] at hown
      clear hys
      go_wp2_with fail
      go_ret
      exact ⟨_, rfl, hown, hb⟩
end Go.Proofs.Ytfpojoabfdiadaa
