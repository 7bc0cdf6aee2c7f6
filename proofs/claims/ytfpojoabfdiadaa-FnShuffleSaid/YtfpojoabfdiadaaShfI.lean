/- ObliviousShuffle: the program's side. -/
import Derived.Test.YtfpojoabfdiadaaStbF
namespace Go.Proofs.Ytfpojoabfdiadaa
open Go.RowKit
set_option linter.unusedVariables false
def shOk (z : List Int) (s : Int) : Bool := vList z && inB s 0 2147483647
def shV (z : List Int) (s : Int) : List Int := if shOk z s then shL z s else []
theorem shL_len (z : List Int) (s : Int) : (shL z s).length = z.length := (SI_facts z s z.length (Nat.le_refl _)).2.1
theorem sh_len (z : List Int) (s : Int) : (shV z s).length ≤ 64 := by
  unfold shV
  split
  · rename_i h
    simp [shOk, vList] at h
    rw [shL_len]
    exact h.1.1
  · simp
set_option maxRecDepth 100000 in
set_option maxHeartbeats 1600000 in
theorem applyS_any (A : Option Addr) (D : List Int) (c : Nat) (B : Option Addr) (zs : List Int) (d n : Nat) (w : World) (hD : D.length = n) (hz : zs.length = n) (hlt : ∀ x ∈ D, 0 ≤ x ∧ x < (n : Int)) (hn : n ≤ 65536) (hx : Reads w w.heap.size 1 A n (ints D)) (hy : Reads w w.heap.size 1 B n (ints zs)) :
    Calls Try.prog 28 #[.slice A n c, .slice B n d] w fun e w' => ∃ E e', e = .returned (.slice E n e') ∧ w'.ownsRow w.heap.size 3 1 (.slice E n e') n (ints (D.map (gI zs))) ∧ Below w.heap.size w w' := by
  obtain ⟨i0, hi, hz0, hz1, hz2⟩ := info_parts (show (Try.prog.info? 3).map (fun i => (i.zero, i.size, i.bytes)) = some (some (.int .i64 0), 1, 8) by kernel_rfl)
  have HD := Lib.hid hD; have HZ := Lib.hid hz; have HLT := Lib.hid hlt; have HX := Lib.hid hx; have HY := Lib.hid hy
  have HO0 := Lib.hid (made_at (w := w) (base := w.heap.size) (g := w.heap.size) (size := 1) (e := 3) (Nat.le_refl _) rfl)
  have HB0 := Lib.hid (alloc_ (Below.refl w.heap.size w) (.cells #[] 3))
  clear hD hz hlt hx hy
  go_enter Try.func28, Try.ntmps28
  go_wp2_with fail
  go_loopw [5, 11] (fun v vi wr => ∃ (k : Nat) (E : Option Addr) (ce : Nat), k ≤ n ∧ vi = .int .i64 (k : Nat) ∧ v = .slice E k ce ∧ Hid (wr.ownsRow w.heap.size 3 1 (.slice E k ce) k (ints ((D.take k).map (gI zs)))) ∧ Hid (Below w.heap.size w wr)) (fun _ vi _ => n - (intOf vi).toNat)
  case atStart => exact ⟨0, _, _, by omega, rfl, rfl, HO0, HB0⟩
  case round =>
    clear HO0 HB0
    obtain ⟨k, E, ce, hk, rfl, rfl, HO, HB⟩ := hrel
    by_cases hkn : k < n
    · have kI : (k : Int) < (n : Int) := by omega
      have hkD : k < D.length := by rw [HD.out]; exact hkn
      obtain ⟨ad, u, rfl, -, hu, c1⟩ := (HX.out.below HB.out).at_ hkn
      rw [ints_get hkD] at hu
      cases hu
      have hxl := HLT.out _ (List.getElem_mem hkD)
      have hst : (D.take (k + 1)).map (gI zs) = (D.take k).map (gI zs) ++ [gI zs D[k]] := by
        rw [List.take_succ_eq_append_getElem hkD, List.map_append]; rfl
      obtain ⟨x, hxe⟩ : ∃ x : Nat, D[k] = (x : Int) := ⟨D[k].toNat, by omega⟩
      rw [hxe] at c1 hxl hst
      have hxn : x < n := by omega
      have xI : (x : Int) < (n : Int) := by omega
      obtain ⟨bd, u, rfl, -, hu, c2⟩ := (HY.out.below HB.out).at_ hxn
      have hxz : x < zs.length := by rw [HZ.out]; exact hxn
      rw [ints_get hxz] at hu
      cases hu
      have hg : gI zs (x : Int) = zs[x] := by simp [gI, hxz]
      rw [hg] at hst
      have HST := Lib.hid hst
      generalize zs[x] = y at *
      have ho1 := World.ownsRow.alloc HO.out (.cells #[.int .i64 y] 3)
      have hbs := HB.out.size
      clear hst hxl hxe hg hkD hxz
      go_wp2_with (at_builtin; go_loud (refine wpList_push' _ rfl _ _ 22 rfl w.heap.size 3 i0 _ 1 8 Try.underlying22 hi hz0 hz1 hz2 rfl (by decide) (.slice E k ce) _ (ints ((D.take k).map (gI zs))) rfl ho1 #[.int .i64 y] wr.heap.size rfl (Blk.new _ _ _) rfl (by simp [Value.oneCell']) (by omega) (by unfold maxLen; omega) (Nat.le_trans hbs (by simp)) ?_; intro g5 d5 w5 hown5 hg5 hb5 hat5))
      have HO5 : Hid (w5.ownsRow w.heap.size 3 1 (.slice (some ⟨g5, 0, none⟩) (k + 1) d5) (k + 1) (ints ((D.take (k + 1)).map (gI zs)))) := Lib.hid (by rw [HST.out]; have h9 := hown5; simpa [ints] using h9)
      have HB5 := Lib.hid ((alloc_ HB.out (.cells #[.int .i64 y] 3)).trans hb5)
      clear hown5 hg5 hb5 hat5 ho1
      go_wp2_with fail
      go_roundw
      case rel => exact ⟨k + 1, _, _, by omega, by go_num, rfl, HO5, HB5⟩
      case measure => simp [intOf]; omega
    · have kI : ¬ (k : Int) < (n : Int) := by omega
      obtain rfl : n = k := by omega
      have HE : Hid (wr.ownsRow w.heap.size 3 1 (.slice E n ce) n (ints (D.map (gI zs)))) := Lib.hid (by
        have := HO.out
        rw [List.take_of_length_le (by rw [HD.out]; exact Nat.le_refl _)] at this
        exact this)
      go_wp2_with fail
      go_ret
      exact ⟨E, ce, rfl, HE.out, HB.out⟩
structure OS (w0 w : World) (gB gK ck gP cp i : Nat) (K P : List Int) : Prop where
  b : Below w0.heap.size w0 w
  bx : Blk w gB 22 #[.slice (some ⟨gK, 0, none⟩) i ck]
  hb : w0.heap.size ≤ gB
  k : w.ownsRow w0.heap.size 3 1 (.slice (some ⟨gK, 0, none⟩) i ck) i (ints K)
  p : w.ownsRow w0.heap.size 3 1 (.slice (some ⟨gP, 0, none⟩) i cp) i (ints P)
  ne : gK ≠ gP
theorem lcg_rem {x y : Int} (hx : 0 ≤ x ∧ x < 2147483648) (h : y = 1103515245 * x + 12345) : y.tmod 2147483648 = lcg x ∧ y % 2147483648 = lcg x := by
  subst h
  unfold lcg
  rw [Int.tmod_eq_emod_of_nonneg (by omega)]
  exact ⟨rfl, rfl⟩
set_option maxRecDepth 100000 in
set_option maxHeartbeats 3200000 in
theorem ObliviousShuffle_any (A0 : Option Addr) (z0 : List Int) (c0 : Nat) (s : Int) (w : World) (hx0 : Reads w w.heap.size 1 A0 z0.length (ints z0)) (hl0 : z0.length ≤ 1048576) :
    Calls Try.prog 8 #[.slice A0 z0.length c0, .int .i64 s] w fun e w' => ∃ A c, e = .returned (.tuple #[.slice A (shV z0 s).length c, .bool (shOk z0 s)]) ∧
      w'.ownsRow w.heap.size 3 1 (.slice A (shV z0 s).length c) (shV z0 s).length (ints (shV z0 s)) ∧ Below w.heap.size w w' := by
  cases hv : vList z0
  · have ho : shOk z0 s = false := by simp [shOk, hv]
    rw [show shV z0 s = [] from by simp [shV, ho], ho]
    go_enter Try.func8, Try.ntmps8
    go_wp2_with (go_at_call 23; refine (IsValidList_any A0 z0 c0 _ hx0 (by omega)).mono ?_; rintro e w1 ⟨rfl, hb1⟩; rw [hv])
    exact bodyPost_ret (v := .tuple #[.slice none 0 0, .bool false]) (by simp [results, Try.results8, go_sem]) rfl ⟨none, 0, rfl, World.ownsRow_nil _ _ _ _, hb1⟩
  cases hs : inB s 0 2147483647
  · have ho : shOk z0 s = false := by simp [shOk, hs]
    rw [show shV z0 s = [] from by simp [shV, ho], ho]
    have HSB := Lib.hid hs
    clear hs
    go_enter Try.func8, Try.ntmps8
    go_wp2_with (first
      | (go_at_call 23; refine (IsValidList_any A0 z0 c0 _ hx0 (by omega)).mono ?_; rintro e w1 ⟨rfl, hb1⟩; rw [hv])
      | (go_at_call 24; refine (in_any _ _ _ _).mono ?_; rintro e w' ⟨rfl, rfl⟩; rw [HSB.out]))
    exact bodyPost_ret (v := .tuple #[.slice none 0 0, .bool false]) (by simp [results, Try.results8, go_sem]) rfl ⟨none, 0, rfl, World.ownsRow_nil _ _ _ _, hb1⟩
  have ho : shOk z0 s = true := by simp [shOk, hv, hs]
  have HSV : Hid (shV z0 s = shL z0 s) := Lib.hid (by simp [shV, ho])
  have HOK := Lib.hid ho
  have h64 : z0.length ≤ 64 := by simp [vList] at hv; exact hv.1
  have hsb := inB_iff.1 hs
  have HSR := Lib.hid (fun i => itL_bd (s := s) (by omega) i)
  have HV := Lib.hid hv
  have HSB := Lib.hid hs
  have HX := Lib.hid hx0
  obtain ⟨n, hn⟩ : ∃ n, z0.length = n := ⟨_, rfl⟩
  have HN := Lib.hid hn
  have HIV : Hid (Calls Try.prog 23 #[.slice A0 n c0] w fun e w' => e = .returned (.bool true) ∧ Below w.heap.size w w') := Lib.hid (by
    have := IsValidList_any A0 z0 c0 w hx0 (by omega)
    rw [hv, hn] at this
    exact this)
  rw [hn] at h64 HX ⊢
  clear hv hs ho hx0 hl0 hn
  obtain ⟨i0, hi, hz0, hz1, hz2⟩ := info_parts (show (Try.prog.info? 3).map (fun i => (i.zero, i.size, i.bytes)) = some (some (.int .i64 0), 1, 8) by kernel_rfl)
  go_enter Try.func8, Try.ntmps8
  go_wp2_with (first
    | (go_at_call 23; refine HIV.out.mono ?_; rintro e w1 ⟨rfl, hb1⟩)
    | (go_at_call 24; refine (in_any _ _ _ _).mono ?_; rintro e w' ⟨rfl, rfl⟩; rw [HSB.out]))
  have HS0 : Hid (OS w (((w1.alloc (.cells #[] 3)).alloc (.cells #[] 3)).alloc (.cells #[.slice (some ⟨w1.heap.size, 0, none⟩) 0 0] 22)) (w1.heap.size + 1 + 1) w1.heap.size 0 (w1.heap.size + 1) 0 0 [] []) := Lib.hid
    ⟨alloc_ (alloc_ (alloc_ hb1 _) _) _, blk_new_at (by simp), by have := hb1.size; omega, World.ownsRow.alloc (World.ownsRow.alloc (made_at hb1.size rfl) _) _, World.ownsRow.alloc (made_at (by have := hb1.size; simp; omega) (by simp)) _, by omega⟩
  clear hb1
  obtain ⟨gB, hgB⟩ : ∃ gB, w1.heap.size + 1 + 1 = gB := ⟨_, rfl⟩
  rw [hgB] at HS0 ⊢
  clear hgB
  go_loopw [1, 7, 21] (fun vx vp vi wr => ∃ (i gK ck gP cp : Nat) (x : Int), i ≤ n ∧ vx = .int .i64 x ∧ (0 ≤ x ∧ x < 2147483648) ∧ Hid (x = itL i s) ∧ vp = .slice (some ⟨gP, 0, none⟩) i cp ∧ vi = .int .i64 (i : Nat) ∧ Hid (OS w wr gB gK ck gP cp i (kL s i) (idxL i))) (fun _ _ vi _ => n - (intOf vi).toNat)
  case atStart => exact ⟨0, _, _, _, _, s, by omega, rfl, by omega, Lib.hid rfl, rfl, rfl, HS0⟩
  case round =>
    clear HS0
    obtain ⟨i, gK, ck, gP, cp, x, hin, rfl, hx, HXE, rfl, rfl, HO⟩ := hrel
    by_cases hlt : i < n
    · have iI : (i : Int) < (n : Int) := by omega
      obtain ⟨y, hy⟩ : ∃ y, y = 1103515245 * x + 12345 := ⟨_, rfl⟩
      obtain ⟨r1, r2⟩ := lcg_rem hx hy
      obtain ⟨x', hx'⟩ : ∃ x', lcg x = x' := ⟨_, rfl⟩
      rw [hx'] at r1 r2
      have HX2 : Hid (x' = itL (i + 1) s) := Lib.hid (by rw [← hx', HXE.out]; rfl)
      have hxb : 0 ≤ x' ∧ x' < 2147483648 := by rw [HX2.out]; exact HSR.out (i + 1)
      have ey : 1103515245 * x + 12345 = y := hy.symm
      have wx1 : IntKind.i64.wrap (1103515245 * x) = 1103515245 * x := IntWalk.i64_in _ ⟨by omega, by omega⟩
      have wx2 : IntKind.i64.wrap y = y := IntWalk.i64_in _ ⟨by omega, by omega⟩
      clear hx' hy
      go_upto_region 8 with fail
      clear ey wx1 wx2 r1 r2
      have cB := HO.out.bx.cell 0
      have hbs := HO.out.b.size
      have hk1 := World.ownsRow.alloc HO.out.k (.cells #[.int .i64 x'] 3)
      have hp1 := World.ownsRow.alloc HO.out.p (.cells #[.int .i64 x'] 3)
      have hB1 := HO.out.bx.alloc (.cells #[.int .i64 x'] 3)
      have hne := HO.out.ne
      go_wp2_with (first
        | (at_builtin; go_loud (refine wpList_push' _ rfl (.tmp 28) (.tmp 30) 22 rfl w.heap.size 3 i0 _ 1 8 Try.underlying22 hi hz0 hz1 hz2 rfl (by decide) (.slice (some ⟨gK, 0, none⟩) i ck) _ (ints (kL s i)) rfl hk1 #[.int .i64 x'] wr.heap.size rfl (Blk.new _ _ _) rfl (by simp [Value.oneCell']) (by omega) (by unfold maxLen; omega) (Nat.le_trans hbs (by simp)) ?_; intro g5 d5 w5 hown5 hg5 hb5 hat5; have hp5 := World.ownsRow.alloc (hp1.kept hg5 (.inr (fun e => hne (by cases e; rfl)))) (.cells #[.int .i64 (i : Nat)] 3); have hbw5 := (alloc_ HO.out.b (.cells #[.int .i64 x'] 3)).trans hb5; have hbs5 := hbw5.size))
        | (at_builtin; go_loud (refine wpList_push' _ rfl (.tmp 32) (.tmp 34) 22 rfl w.heap.size 3 i0 _ 1 8 Try.underlying22 hi hz0 hz1 hz2 rfl (by decide) (.slice (some ⟨gP, 0, none⟩) i cp) _ (ints (idxL i)) rfl hp5 #[.int .i64 (i : Nat)] w5.heap.size rfl (Blk.new _ _ _) rfl (by simp [Value.oneCell']) (by omega) (by unfold maxLen; omega) (Nat.le_trans hbs5 (by simp)) ?_; intro g6 d6 w6 hown6 hg6 hb6 hat6; have hB5 := (hB1.grown hg5 (fun e => own_blk_ne hk1 hB1 (by decide) (by rw [← e]))).alloc (.cells #[.int .i64 (i : Nat)] 3); have hB6 := hB5.grown hg6 (fun e => own_blk_ne hp5 hB5 (by decide) (by rw [← e])); have cB6 := hB6.cell 0; have fB6 := hB6.frozen 0)))
      have hne5 : g5 ≠ gP := by
        rcases hat5 with h | h
        · have : gK = g5 := Option.some.inj h
          omega
        · have h1 := (own_lt HO.out.p gP rfl).2
          simp at h
          omega
      have hK5 := World.ownsRow.alloc hown5 (.cells #[.int .i64 (i : Nat)] 3)
      have hK6 := hK5.kept hg6 (.inr (fun e => hne5 (by have := Option.some.inj e; exact this)))
      have hne6 : g5 ≠ g6 := by
        rcases hat6 with h | h
        · have : gP = g6 := Option.some.inj h
          omega
        · have h1 := (own_lt hown5 g5 rfl).2
          simp at h
          omega
      have eK : ints (kL s i) ++ (#[Value.int .i64 x'] : Array Value).toList = ints (kL s (i + 1)) := by rw [kL_succ, ← HX2.out]; simp [ints]
      have eP : ints (idxL i) ++ (#[Value.int .i64 (i : Nat)] : Array Value).toList = ints (idxL (i + 1)) := by rw [idxL_succ]; simp [ints]
      rw [eK] at hK6
      rw [eP] at hown6
      have HOS : Hid (OS w (w6.setCell ⟨gB, 0, none⟩ (.slice (some ⟨g5, 0, none⟩) (i + 1) d5)) gB g5 d5 g6 d6 (i + 1) (kL s (i + 1)) (idxL (i + 1))) := Lib.hid
        ⟨((alloc_ hbw5 _).trans hb6).setCell (p := ⟨gB, 0, none⟩) HO.out.hb _, by have h9 := hB6.set_ 0 (.slice (some ⟨g5, 0, none⟩) (i + 1) d5); simpa using h9, HO.out.hb, own_setCell hK6 (own_blk_ne hK6 hB6 (by decide)) _, own_setCell hown6 (own_blk_ne hown6 hB6 (by decide)) _, hne6⟩
      clear hown5 hown6 hg5 hg6 hb5 hb6 hat5 hat6 hk1 hp1 hB1 hB5 hB6 hp5 hbw5 hK5 hK6 cB cB6 fB6 eK eP
      go_wp2_with fail
      go_roundw
      case rel => exact ⟨i + 1, _, _, _, _, x', by omega, rfl, hxb, HX2, rfl, by go_num, HOS⟩
      case measure => simp [intOf]; omega
    · have iI : ¬ (i : Int) < (n : Int) := by omega
      obtain rfl : i = n := by omega
      have HSS : Hid (SS w.heap.size 3 gP i cp gB gK ck (kL s i) wr (idxL i)) := Lib.hid
        ⟨HO.out.p, by simp, HO.out.bx.cell 0, fun j hj => by rw [HO.out.k.cellAt j (by simp at hj; omega), ints_get hj], by simp,
          fun e => own_blk_ne HO.out.p HO.out.bx (by decide) (by rw [e]; rfl), HO.out.ne, fun y hy => by
            simp only [idxL, List.mem_map, List.mem_range] at hy
            obtain ⟨j, hj, rfl⟩ := hy
            omega, h64⟩
      have HB := Lib.hid HO.out.b
      have HGP := Lib.hid (own_lt HO.out.p gP rfl)
      have HST := Lib.hid (sortS_any HSS.out)
      clear HO
      go_wp2_with fail
      refine HST.out.mono ?_
      rintro e w2 ⟨rfl, g2, C, s2, p2, t2⟩
      have HB2 := Lib.hid (HB.out.trans (below_of_grown g2 HB.out.size (fun k hk => by cases hk; exact HGP.out.1)))
      have HC : Hid (C.map (gI z0) = shL z0 s) := Lib.hid (sh_of h64 p2 t2 HN.out)
      have HAP := Lib.hid (applyS_any (some ⟨gP, 0, none⟩) C cp A0 z0 c0 i w2 s2.dl HN.out s2.rg (by omega) (Reads.of_own s2.o) ((HX.out.below HB2.out).more HB2.out.size))
      rw [HC.out] at HAP
      have HLN : Hid ((shV z0 s).length = i) := Lib.hid (by rw [HSV.out, shL_len, HN.out])
      clear g2 s2 p2 t2 HST HSS
      go_wp2_with fail
      refine HAP.out.mono ?_
      rintro e w3 ⟨E, ce, rfl, o3, b3⟩
      have HO3 := Lib.hid (own_base o3 HB2.out.size)
      have HB3 := Lib.hid (HB2.out.trans (b3.mono HB2.out.size))
      clear o3 b3
      go_wp2_with fail
      exact bodyPost_ret (v := .tuple #[.slice E i ce, .bool true]) (by simp [results, Try.results8, go_sem]) rfl ⟨E, ce, by rw [HLN.out, HOK.out], by rw [HLN.out, HSV.out]; exact HO3.out, HB3.out⟩
end Go.Proofs.Ytfpojoabfdiadaa
