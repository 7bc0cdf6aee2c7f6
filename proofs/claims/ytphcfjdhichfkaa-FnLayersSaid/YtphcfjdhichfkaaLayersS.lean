/- The layers of a network: the reference's, and the law on the depth. -/
import Derived.Test.YtphcfjdhichfkaaLayers
import Derived.BigQuiet
import Derived.Deep.QuietTactic
namespace Go.Proofs.Ytphcfjdhichfkaa
open Go.RowKit
set_option linter.unusedVariables false
theorem l1Most_any (a b : Int) (w : World) : Calls Try.prog 54 #[.int .i64 a, .int .i64 b] w fun e w' => e = .returned (.int .i64 (max a b)) ∧ w' = w := by
  by_cases h : b < a
  · go_enter Try.func54, Try.ntmps54
    go_wp2
    go_ret
    exact ⟨reti (by omega), rfl⟩
  · go_enter Try.func54, Try.ntmps54
    go_wp2
    go_ret
    exact ⟨reti (by omega), rfl⟩
set_option maxRecDepth 100000 in
set_option maxHeartbeats 1600000 in
theorem l12Layers_any (W : Int) (A : Option Addr) (cs : List (Int × Int)) (c : Nat) (w : World) (hx : Reads w w.heap.size 2 A cs.length (cmps cs)) (hok : netOk W cs = true) :
    Calls Try.prog 52 #[.agg #[.int .i64 W, .slice A cs.length c]] w fun e w' => ∃ v, e = .returned v ∧ w'.ownsRow w.heap.size 3 1 v (layersL W cs).length (ints (layersL W cs)) ∧ Below w.heap.size w w' := by
  obtain ⟨hW1, hW2, hcl, hcs⟩ := netOk_iff hok
  clear hok
  have HC := Lib.hid hcs; clear hcs
  obtain ⟨n, rfl⟩ := Int.eq_ofNat_of_zero_le (show 0 ≤ W by omega)
  obtain ⟨i0, hi, hz0, hz1, hz2⟩ := info_parts info_int
  obtain ⟨hbx0, hbx1⟩ := (Blk.new w 41 #[.int .i64 n, .slice A cs.length c]).two
  have hmk : ∀ w0 : World, (Instr.makeSlice 24 (.int .i64 n) (.int .i64 n)).run Try.prog w0 = .ok (.slice (some ⟨w0.heap.size, 0, none⟩) n n) (w0.alloc (.cells (madeCells #[.int .i64 0] n) 3)) := by
    intro w0
    have := run_make (P := Try.prog) w0 24 3 i0 (.int .i64 0) Try.underlying24 hi hz0 .i64 .i64 n n (by omega) (by omega) (by rw [hz2]; omega) (by omega)
    simpa [Value.cells, hz1] using this
  have hat0 : (((w.alloc (.cells #[.int .i64 n, .slice A cs.length c] 41)).alloc (.cells (madeCells #[.int .i64 0] n) 3)).alloc (.cells #[] 3)).ownsRow w.heap.size 3 1 (.slice (some ⟨w.heap.size + 1, 0, none⟩) n n) n (ints (List.replicate n 0)) := by
    have := (own_full (base := w.heap.size) (size := 1) (e := 3) (w.alloc (.cells #[.int .i64 n, .slice A cs.length c] 41)) (madeCells #[.int .i64 0] n) n (by simp) (by unfold maxLen; omega) (by simp [madeCells])).alloc (.cells #[] 3)
    rw [toList_madeCells_one] at this
    simpa [ints] using this
  have hout0 : (((w.alloc (.cells #[.int .i64 n, .slice A cs.length c] 41)).alloc (.cells (madeCells #[.int .i64 0] n) 3)).alloc (.cells #[] 3)).ownsRow w.heap.size 3 1 (.slice (some ⟨w.heap.size + 1 + 1, 0, none⟩) 0 0) 0 [] := by
    have := World.ownsRow_made (base := w.heap.size) (size := 1) (e := 3) ((w.alloc (.cells #[.int .i64 n, .slice A cs.length c] 41)).alloc (.cells (madeCells #[.int .i64 0] n) 3)) #[] 0 (by simp; omega) (by simp) (by simp)
    simpa using this
  have hB0 : Below w.heap.size w (((w.alloc (.cells #[.int .i64 n, .slice A cs.length c] 41)).alloc (.cells (madeCells #[.int .i64 0] n) 3)).alloc (.cells #[] 3)) := by go_grown
  have hbxw : Blk (((w.alloc (.cells #[.int .i64 n, .slice A cs.length c] 41)).alloc (.cells (madeCells #[.int .i64 0] n) 3)).alloc (.cells #[] 3)) w.heap.size 41 #[.int .i64 n, .slice A cs.length c] := ((Blk.new w 41 #[.int .i64 n, .slice A cs.length c]).alloc _).alloc _
  go_enter Try.func52, Try.ntmps52
  go_wp2_with fail
  clear hmk hbx0 hbx1
  go_loopw [4, 5] (fun o i wr => ∃ (k : Nat) (ys zs : List Int), k ≤ cs.length ∧ i = .int .i64 k ∧ (zs, ys) = layFold n (cs.take k) ∧ Below w.heap.size w wr ∧ Blk wr w.heap.size 41 #[.int .i64 n, .slice A cs.length c] ∧
        wr.ownsRow w.heap.size 3 1 (.slice (some ⟨w.heap.size + 1, 0, none⟩) n n) n (ints zs) ∧ wr.ownsRow w.heap.size 3 1 o ys.length (ints ys) ∧ o.ownBlock ≠ some (w.heap.size + 1)) (fun _ i _ => cs.length - (intOf i).toNat)
  case atStart => exact ⟨0, [], List.replicate n 0, by omega, rfl, rfl, hB0, hbxw, hat0, hout0, by simp [Value.ownBlock]⟩
  case round =>
    clear hat0 hout0 hB0 hbxw
    obtain ⟨k, ys, zs, hk, rfl, hst, hb, hbx, hat, hout, hne⟩ := hrel
    have hinv := layFold_inv n cs k hk
    rw [← hst] at hinv
    obtain ⟨hl1, hl2, hl3, hl4⟩ := hinv
    have hyl : ys.length ≤ 200 := by simp only at hl3; omega
    clear hl3 hl4
    have HS := Lib.hid hst; clear hst
    have HL2 := Lib.hid hl2; clear hl2
    obtain ⟨x0, x1⟩ := hbx.two
    by_cases hlt : k < cs.length
    · obtain ⟨ad, rfl, had, hc0, hc1⟩ := (hx.below hb).cmp hlt
      obtain ⟨hcn, hlo0, hlo1, hhi0, hhi1⟩ := cmpOk_iff (HC.out cs[k] (List.getElem_mem hlt))
      obtain ⟨a, b, hck⟩ : ∃ a b : Nat, cs[k] = ((a : Int), (b : Int)) := ⟨cs[k].1.toNat, cs[k].2.toNat, by ext <;> simp <;> omega⟩
      have HK := Lib.hid (layFold_take n cs k hlt)
      rw [hck] at hcn hlo1 hhi1 hc0 hc1
      simp only at hlo1 hhi1 hcn
      have haz : a < zs.length := by simp only at hl1; omega
      have hbz : b < zs.length := by simp only at hl1; omega
      have hma := (own_lt hat _ rfl).2
      simp only at hma
      have CK := Lib.hid hck; clear hck
      clear hcn hlo0 hhi0
      have hsz := hb.size
      have ia : (0 : Int) ≤ (a : Int) := by omega
      have ib : (0 : Int) ≤ (b : Int) := by omega
      have z0 := HL2.out zs[a] (List.getElem_mem haz)
      have z1 := HL2.out zs[b] (List.getElem_mem hbz)
      have hat1 := hat.alloc (.cells #[.int .i64 a, .int .i64 b] 37)
      have hout1 := hout.alloc (.cells #[.int .i64 a, .int .i64 b] 37)
      have hbx1 := hbx.alloc (.cells #[.int .i64 a, .int .i64 b] 37)
      have hb1 := alloc_ hb (.cells #[.int .i64 a, .int .i64 b] 37)
      have hcb := Blk.new wr 37 #[.int .i64 a, .int .i64 b]
      have hws : wr.heap.size + 1 = (wr.alloc (.cells #[.int .i64 a, .int .i64 b] 37)).heap.size := by simp
      have d0 := hat1.cellAt a (by omega)
      have d1 := hat1.cellAt b (by omega)
      rw [ints_get haz] at d0
      rw [ints_get hbz] at d1
      obtain ⟨e0, e1⟩ := hcb.two
      go_wp2_with fail
      go_quiet (first | (go_at_call 54; refine Calls.quiet_of_same (l1Most_any _ _ _)))
      have hat1 : (World.drewN (wr.alloc (.cells #[.int .i64 a, .int .i64 b] 37)) nq).ownsRow _ _ _ _ _ _ := hat1
      have hout1 : (World.drewN (wr.alloc (.cells #[.int .i64 a, .int .i64 b] 37)) nq).ownsRow _ _ _ _ _ _ := hout1
      have hbx1 : Blk (World.drewN (wr.alloc (.cells #[.int .i64 a, .int .i64 b] 37)) nq) _ _ _ := hbx1
      have hcb : Blk (World.drewN (wr.alloc (.cells #[.int .i64 a, .int .i64 b] 37)) nq) _ _ _ := hcb
      have hb1 := below_drewN hb1 nq
      have hws : wr.heap.size + 1 = (World.drewN (wr.alloc (.cells #[.int .i64 a, .int .i64 b] 37)) nq).heap.size := hws
      clear d0 d1 e0 e1
      generalize World.drewN (wr.alloc (.cells #[.int .i64 a, .int .i64 b] 37)) nq = wa at hat1 hout1 hbx1 hcb hb1 hws ⊢
      obtain ⟨l, hl⟩ : ∃ l, l = 1 + max zs[a] zs[b] := ⟨_, rfl⟩
      rw [← hl]
      have HL := Lib.hid hl; clear hl
      have d0 := hat1.cellAt a (by omega)
      have f0 := hat1.frozenAt a
      have f1 := hat1.frozenAt b
      rw [ints_get haz] at d0
      have s1 := hat1.stored a (.int .i64 l)
      rw [ints_set] at s1
      have d1 := s1.1.cellAt b (by omega)
      rw [ints_get (by simpa using hbz)] at d1
      have s2 := s1.1.stored b (.int .i64 l)
      rw [ints_set] at s2
      have o1 := own_setCell hout1 (p := ⟨w.heap.size + 1, a, none⟩) hne (.int .i64 l)
      have o2 := own_setCell o1 (p := ⟨w.heap.size + 1, b, none⟩) hne (.int .i64 l)
      have b1 := (hbx1.far (p := ⟨w.heap.size + 1, a, none⟩) (by simp) (.int .i64 l)).far (p := ⟨w.heap.size + 1, b, none⟩) (by simp) (.int .i64 l)
      have hb2 := (hb1.setCell (p := ⟨w.heap.size + 1, a, none⟩) (by simp) (.int .i64 l)).setCell (p := ⟨w.heap.size + 1, b, none⟩) (by simp) (.int .i64 l)
      obtain ⟨e0, e1⟩ := hcb.two
      obtain ⟨-, e3⟩ := (hcb.far (p := ⟨w.heap.size + 1, a, none⟩) (by simp; omega) (.int .i64 l)).two
      have s2 := s2.1
      clear s1
      have S := Lib.hid (And.intro s2 (And.intro o2 (And.intro b1 hb2))); clear s2 o1 o2 b1 hb2
      go_upto_region 10 with fail
      obtain ⟨s2, o2, b1, hb2⟩ := S.out
      have hws2 : wr.heap.size + 1 = ((wa.setCell ⟨w.heap.size + 1, a, none⟩ (.int .i64 l)).setCell ⟨w.heap.size + 1, b, none⟩ (.int .i64 l)).heap.size := by simpa using hws
      clear S
      generalize (wa.setCell ⟨w.heap.size + 1, a, none⟩ (.int .i64 l)).setCell ⟨w.heap.size + 1, b, none⟩ (.int .i64 l) = wb at s2 o2 b1 hb2 hws2 ⊢
      have S2 := Lib.hid s2; clear s2
      have B1 := Lib.hid b1; clear b1
      go_wp2_with (at_builtin; refine wpList_push _ rfl _ _ 24 rfl w.heap.size 3 i0 _ 1 8 Try.underlying24 hi hz0 hz1 hz2 rfl (by decide) u4 _ _ rfl o2 #[.int .i64 l] rfl rfl (by simp [Value.oneCell']) (by omega) (by unfold maxLen; omega) hb2.size ?_; intro g1 k1 w1 hown1 hg1 hb3 hat3)
      go_roundw
      case rel =>
        refine ⟨k + 1, ys ++ [l], (zs.set a l).set b l, by omega, by go_num, ?_, hb2.trans hb3, B1.out.grown hg1 (fun h => own_blk_ne o2 B1.out (by decide) h.symm), own_kept S2.out hg1 (fun h => hne h.symm), ints_push hown1, ?_⟩
        · rw [HK.out, ← HS.out, CK.out, HL.out]
          simp [layStep, haz, hbz, Int.add_comm]
        · intro h
          simp only [Value.ownBlock, Option.some.injEq] at h
          rcases hat3 with h3 | h3
          · exact hne (by rw [h3, h])
          · omega
      case measure => simp [intOf]; omega
    · go_wp2_with fail
      go_ret
      refine ⟨_, rfl, ?_, hb⟩
      have hk' : cs.take k = cs := List.take_of_length_le (by omega)
      rw [hk'] at HS
      have : ys = layersL n cs := by rw [layersL, ← HS.out]
      rwa [this] at hout
def topL (l : List Int) : Int := l.foldl max 0
theorem top_from (l : List Int) : ∀ a : Int, 0 ≤ a → l.foldl max a = max a (topL l) := by
  unfold topL
  induction l with
  | nil => intro a h; simp; omega
  | cons x l ih => intro a h; simp only [List.foldl_cons]; rw [ih (max a x) (by omega), ih (max 0 x) (by omega)]; omega
theorem top_nonneg (l : List Int) : 0 ≤ topL l := by
  induction l with
  | nil => simp [topL]
  | cons x l ih => rw [topL, List.foldl_cons, top_from l _ (by omega)]; omega
theorem top_get (l : List Int) (h : 0 < l.length) : (l.foldl max l[0]) = max l[0] (l.foldl max l[0]) := by
  cases l with
  | nil => simp at h
  | cons x l =>
    have : ∀ (l : List Int) (a : Int), a ≤ l.foldl max a := by
      intro l; induction l with
      | nil => intro a; simp
      | cons y l ih => intro a; have := ih (max a y); simp only [List.foldl_cons]; omega
    have := this (x :: l) x
    simp only [List.getElem_cons_zero]; omega
theorem top_snoc0 (l : List Int) (h : 0 < (l ++ [0]).length) : (l ++ [0]).foldl max (l ++ [0])[0] = topL l := by
  cases l with
  | nil => rfl
  | cons x l =>
    simp only [List.cons_append, List.getElem_cons_zero, List.foldl_cons, List.foldl_append, List.foldl_nil, Int.max_self, topL]
    by_cases hx : 0 ≤ x
    · rw [show max 0 x = x from by omega, top_from l x hx]; have := top_nonneg l; omega
    · have key : ∀ (l : List Int) (a b : Int), max (l.foldl max a) b = l.foldl max (max a b) := by
        intro l; induction l with
        | nil => intro a b; rfl
        | cons y l ih => intro a b; simp only [List.foldl_cons]; rw [ih]; congr 1; omega
      rw [key]; congr 1; omega
theorem slicesMax_any (A : Option Addr) (zs : List Int) (c : Nat) (w : World) (hx : Reads w w.heap.size 1 A zs.length (ints zs)) (hp : 0 < zs.length) (hl : zs.length ≤ 1099511627776) :
    Calls Try.prog 53 #[.slice A zs.length c] w fun e w' => e = .returned (.int .i64 (zs.foldl max zs[0])) ∧ w' = w := by
  obtain ⟨ad0, hA, hadd, hc0⟩ := hx.int hp
  subst hA
  have e0 : (zs.take 1).foldl max zs[0] = zs[0] := by
    cases zs with
    | nil => simp at hp
    | cons x l => simp
  have hc0 : w.cell? ad0 = some (.int .i64 zs[0]) := by simpa [Addr.add] using hc0
  go_enter Try.func53, Try.ntmps53
  go_wp2_with fail
  go_loop [3, 4] (fun m i => ∃ (k : Nat) (mv : Int), 1 ≤ k ∧ k ≤ zs.length ∧ i = .int .i64 k ∧ m = .int .i64 mv ∧ mv = (zs.take k).foldl max zs[0]) (fun _ i => zs.length - (intOf i).toNat)
  case atStart => exact ⟨1, zs[0], by omega, by omega, rfl, rfl, e0.symm⟩
  case round =>
    obtain ⟨k, mv, h1, hk, rfl, rfl, hm⟩ := hrel
    have HM := Lib.hid hm; clear hm
    by_cases hlt : k < zs.length
    · obtain ⟨ad, ha, had, hc⟩ := hx.int hlt
      cases ha
      have hk1 : (zs.take (k + 1)).foldl max zs[0] = max mv zs[k] := by rw [HM.out, List.take_succ_eq_append_getElem hlt, List.foldl_append]; rfl
      have HK := Lib.hid hk1; clear hk1
      by_cases hlm : mv < zs[k]
      all_goals
        go_wp2_with fail
        go_round
        case rel => exact ⟨k + 1, _, by omega, by omega, by go_num, rfl, by rw [HK.out]; omega⟩
        case measure => simp [intOf]; omega
    · go_wp2_with fail
      go_ret
      exact ⟨reti (by rw [HM.out, List.take_of_length_le (by omega)]), rfl⟩
def depthV (W : Int) (cs : List (Int × Int)) : Int := if netOk W cs then topL (layersL W cs) else 0
theorem layersL_len (W : Int) (cs : List (Int × Int)) : (layersL W cs).length = cs.length := by
  have := (layFold_inv W cs cs.length (Nat.le_refl _)).2.2.1
  rwa [List.take_of_length_le (Nat.le_refl _)] at this
set_option maxRecDepth 100000 in
set_option maxHeartbeats 800000 in
theorem NetworkDepth_any (W : Int) (A : Option Addr) (cs : List (Int × Int)) (c : Nat) (w : World) (hx : Reads w w.heap.size 2 A cs.length (cmps cs)) (hl : cs.length ≤ 1099511627776) :
    Calls Try.prog 22 #[.agg #[.int .i64 W, .slice A cs.length c]] w fun e w' => e = .returned (.tuple #[.int .i64 (depthV W cs), .bool (netOk W cs)]) ∧ Below w.heap.size w w' := by
  have hb0 : Below w.heap.size w (w.alloc (.cells #[.int .i64 W, .slice A cs.length c] 41)) := by go_grown
  obtain ⟨i0, hi, hz0, hz1, hz2⟩ := info_parts info_int
  cases h : netOk W cs
  · have hd : depthV W cs = 0 := by simp [depthV, h]
    have HD := Lib.hid hd; clear hd
    go_enter Try.func22, Try.ntmps22
    go_wp2_with fail
    refine (IsValidNetwork_any W A cs c _ ((hx.below hb0).more hb0.size) hl).mono ?_
    rintro e w1 ⟨rfl, hb1⟩
    obtain ⟨B1, k1⟩ := step_box hb1
    go_wp2_with fail
    refine bodyPost_ret (v := .tuple #[.int .i64 0, .bool false]) (by simp [results, Try.results22, go_sem]) rfl ⟨by rw [HD.out], B1⟩
  · have hd : depthV W cs = topL (layersL W cs) := by simp [depthV, h]
    have HD := Lib.hid hd; clear hd
    have hcl := (netOk_iff h).2.2.1
    go_enter Try.func22, Try.ntmps22
    go_wp2_with fail
    refine (IsValidNetwork_any W A cs c _ ((hx.below hb0).more hb0.size) hl).mono ?_
    rintro e w1 ⟨rfl, hb1⟩
    obtain ⟨B1, k1⟩ := step_box hb1
    obtain ⟨x0, x1⟩ := k1.two
    have xl := k1.lt
    go_wp2_with fail
    refine (layers_any W A cs c _ ((hx.below B1).more B1.size) h).mono ?_
    rintro e w2 ⟨v, rfl, own2, hb2⟩
    have hll := layersL_len W cs
    generalize layersL W cs = ls at own2 hll HD
    have hll' : ls.length ≤ 200 := by omega
    clear hll
    have B2 := bthen B1 hb2
    have ho2 := own2
    go_wp2_with (at_builtin; refine wpList_push _ rfl _ _ 24 rfl w1.heap.size 3 i0 _ 1 8 Try.underlying24 hi hz0 hz1 hz2 rfl (by decide) v _ _ rfl own2 #[.int .i64 0] rfl rfl (by simp [Value.oneCell']) (by omega) (by unfold maxLen; omega) hb2.size ?_; intro g1 k1 w3 hown3 hg3 hb3 hat3)
    have hlen : (ls ++ [(0 : Int)]).length = ls.length + 1 := by simp
    have o3 : w3.ownsRow w1.heap.size 3 1 (.slice (some ⟨g1, 0, none⟩) (ls ++ [0]).length k1) (ls ++ [0]).length (ints (ls ++ [0])) := by simpa [ints] using hown3
    have hm := slicesMax_any (some ⟨g1, 0, none⟩) (ls ++ [0]) k1 w3 (Reads.of_own o3) (by omega) (by omega)
    rw [top_snoc0, hlen] at hm
    refine hm.mono ?_
    rintro e w4 ⟨rfl, rfl⟩
    go_wp2_with fail
    refine bodyPost_ret (v := .tuple #[.int .i64 (topL ls), .bool true]) (by simp [results, Try.results22, go_sem]) rfl ⟨by rw [HD.out], bthen B1 (hb2.trans hb3)⟩
set_option maxRecDepth 100000 in
set_option maxHeartbeats 800000 in
theorem sNetworkDepth_any (W : Int) (A : Option Addr) (cs : List (Int × Int)) (c : Nat) (w : World) (hx : Reads w w.heap.size 2 A cs.length (cmps cs)) (hl : cs.length ≤ 1099511627776) :
    Calls Try.prog 23 #[.agg #[.int .i64 W, .slice A cs.length c]] w fun e w' => e = .returned (.tuple #[.int .i64 (depthV W cs), .bool (netOk W cs)]) ∧ Below w.heap.size w w' := by
  have hb0 : Below w.heap.size w (w.alloc (.cells #[.int .i64 W, .slice A cs.length c] 41)) := by go_grown
  cases h : netOk W cs
  · have hd : depthV W cs = 0 := by simp [depthV, h]
    have HD := Lib.hid hd; clear hd
    go_enter Try.func23, Try.ntmps23
    go_wp2_with fail
    refine (l12Good_any W A cs c _ ((hx.below hb0).more hb0.size) hl).mono ?_
    rintro e w1 ⟨rfl, hb1⟩
    obtain ⟨B1, k1⟩ := step_box hb1
    go_wp2_with fail
    refine bodyPost_ret (v := .tuple #[.int .i64 0, .bool false]) (by simp [results, Try.results23, go_sem]) rfl ⟨by rw [HD.out], B1⟩
  · have hd : depthV W cs = topL (layersL W cs) := by simp [depthV, h]
    have HD := Lib.hid hd; clear hd
    have hcl := (netOk_iff h).2.2.1
    go_enter Try.func23, Try.ntmps23
    go_wp2_with fail
    refine (l12Good_any W A cs c _ ((hx.below hb0).more hb0.size) hl).mono ?_
    rintro e w1 ⟨rfl, hb1⟩
    obtain ⟨B1, k1⟩ := step_box hb1
    obtain ⟨x0, x1⟩ := k1.two
    have xl := k1.lt
    go_wp2_with fail
    refine (l12Layers_any W A cs c _ ((hx.below B1).more B1.size) h).mono ?_
    rintro e w2 ⟨v, rfl, own2, hb2⟩
    have hll := layersL_len W cs
    generalize layersL W cs = ls at own2 hll HD
    have hll' : ls.length ≤ 200 := by omega
    clear hll
    have B2 := bthen B1 hb2
    obtain ⟨B, d, rfl⟩ := own_slice own2
    have r2 := Reads.of_own own2
    go_wp2_with fail
    go_loop [4, 6] (fun m i => ∃ (k : Nat) (mv : Int), k ≤ ls.length ∧ i = .int .i64 k ∧ m = .int .i64 mv ∧ mv = topL (ls.take k)) (fun _ i => ls.length - (intOf i).toNat)
    case atStart => exact ⟨0, 0, by omega, rfl, rfl, rfl⟩
    case round =>
      obtain ⟨k, mv, hk, rfl, rfl, hm⟩ := hrel
      have HM := Lib.hid hm; clear hm
      by_cases hlt : k < ls.length
      · obtain ⟨ad, rfl, had, hc⟩ := r2.int hlt
        have hk1 : topL (ls.take (k + 1)) = max mv ls[k] := by rw [HM.out, List.take_succ_eq_append_getElem hlt, topL, List.foldl_append]; rfl
        have HK := Lib.hid hk1; clear hk1
        go_wp2_with (go_at_call 54; refine (l1Most_any _ _ _).mono ?_; rintro e w3 ⟨rfl, rfl⟩)
        go_round
        case rel => exact ⟨k + 1, _, by omega, by go_num, rfl, HK.out.symm⟩
        case measure => simp [intOf]; omega
      · go_wp2_with fail
        refine bodyPost_ret (v := .tuple #[.int .i64 mv, .bool true]) (by simp [results, Try.results23, go_sem]) rfl ⟨by rw [HD.out, HM.out, List.take_of_length_le (by omega)], B2⟩
end Go.Proofs.Ytphcfjdhichfkaa
