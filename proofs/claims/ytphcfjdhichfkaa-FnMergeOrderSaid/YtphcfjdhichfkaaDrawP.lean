/- The draws of the law on the merge order. -/
import Derived.Test.YtphcfjdhichfkaaDrawI
import Derived.Test.YtphcfjdhichfkaaVL
import Derived.Test.YtphcfjdhichfkaaPush
import Derived.Deep.DeepCutAuto
namespace Go.Proofs.Ytphcfjdhichfkaa
open Go.RowKit
set_option linter.unusedVariables false
def GotP (w : World) (e : Ending) (w' : World) : Prop := ∃ r y : Int, e = .returned (.tuple #[.int .i64 r, .int .i64 y]) ∧ (-1 ≤ r ∧ r ≤ 100001) ∧ (1 ≤ y ∧ y ≤ 17) ∧ Below w.heap.size w w'
theorem GotP.mk {w : World} {e : Ending} {w' : World} (h : ∃ r y : Int, e = .returned (.tuple #[.int .i64 r, .int .i64 y]) ∧ (-1 ≤ r ∧ r ≤ 100001) ∧ (1 ≤ y ∧ y ≤ 17) ∧ Below w.heap.size w w') : GotP w e w' := h
def GotM2 (tI : TypeId) (w : World) (e : Ending) (w' : World) : Prop := ∃ (D : Option Addr) (d : Nat) (zs : List Int) (y : Int), e = .returned (.tuple #[.slice D zs.length d, .int .i64 y]) ∧ w'.ownsRow w.heap.size tI 1 (.slice D zs.length d) zs.length (ints zs) ∧ zs.length ≤ 50 ∧ (1 ≤ y ∧ y ≤ 17) ∧ Below w.heap.size w w'
theorem GotM2.mk {tI : TypeId} {w : World} {e : Ending} {w' : World} (h : ∃ (D : Option Addr) (d : Nat) (zs : List Int) (y : Int), e = .returned (.tuple #[.slice D zs.length d, .int .i64 y]) ∧ w'.ownsRow w.heap.size tI 1 (.slice D zs.length d) zs.length (ints zs) ∧ zs.length ≤ 50 ∧ (1 ≤ y ∧ y ≤ 17) ∧ Below w.heap.size w w') : GotM2 tI w e w' := h
set_option maxRecDepth 100000 in
set_option maxHeartbeats 3200000 in
theorem DrawPassCount_any (A : Option Addr) (bs : List Nat) (c : Nat) (w : World) (hr : Reads w w.heap.size 1 A bs.length (byts bs)) (hb : ∀ b ∈ bs, b ≤ 255) (hl : bs.length ≤ 65536) :
    Calls Try.prog 33 #[.slice A bs.length c] w (GotP w) := by
  have HC0 := Lib.hid (cur_box (c := c) hr hb hl)
  have hG0 : w.grownBy (w.alloc (.cells #[.slice A bs.length c, .int .i64 0, .int .u64 0] 66)) (some w.heap.size) := World.grownBy_alloc _ _ _
  clear hr hb
  go_enter Try.func33, Try.ntmps33
  go_wp2_with fail
  refine (pick_any w.heap.size A bs c 0 40 _ HC0.out (by omega) (by omega) (by omega)).mono ?_
  rintro e w1 ⟨x1, hx1, rfl, hc1, hg1⟩
  have hG1 := near_step hG0 hg1 (fun k hk => .inl hk.symm)
  have HC1 := Lib.hid hc1
  clear hc1 hG0 hg1
  go_wp2_with fail
  refine (pick_any w.heap.size A bs c _ 40 _ HC1.out (by omega) (by omega) (by omega)).mono ?_
  rintro e w2 ⟨x2, hx2, rfl, hc2, hg2⟩
  have hG2 := near_step hG1 hg2 (fun k hk => .inl hk.symm)
  have HC2 := Lib.hid hc2
  clear hc2 hG1 hg2
  have hp4a := HC2.out.lt
  have HC5a := Lib.hid (HC2.out.alloc (.cells (ints [(x1 : Int), (x2 : Int), -1, 100000, 100001, 81]).toArray 3))
  have hG5a := near_step hG2 (World.grownBy_alloc w2 (.cells (ints [(x1 : Int), (x2 : Int), -1, 100000, 100001, 81]).toArray 3) (some w.heap.size)) (fun k hk => .inl hk.symm)
  have HDa := Lib.hid (fun w' hg => lit_hold (w := w2) (w' := w') (T := 3) (zs := [(x1 : Int), (x2 : Int), -1, 100000, 100001, 81]) hp4a hg)
  have HAA := Lib.hid (among_any w.heap.size A bs c _ (some ⟨w2.heap.size, 0, none⟩) [(x1 : Int), (x2 : Int), -1, 100000, 100001, 81] 6 _ HC5a.out (by omega) (HDa.out _ (near_refl _ _)) (by simp) (by simp) HDa.out)
  go_wp2_with fail
  refine HAA.out.mono ?_
  rintro e w3 ⟨r, hr, rfl, hc3, hg3⟩
  have hG3 := near_step hG5a hg3 (fun k hk => .inl hk.symm)
  have HC3 := Lib.hid hc3
  have hrb : -1 ≤ r ∧ r ≤ 100001 := by
    simp at hr
    rcases hr with rfl | rfl | rfl | rfl | rfl | rfl <;> omega
  clear hc3 hG5a hg3 hr hx1 hx2 hG2 hp4a
  have hp4y := HC3.out.lt
  have HC5y := Lib.hid (HC3.out.alloc (.cells (ints [2, 2, 3, 4, 16, 1, 17]).toArray 3))
  have hG5y := near_step hG3 (World.grownBy_alloc w3 (.cells (ints [2, 2, 3, 4, 16, 1, 17]).toArray 3) (some w.heap.size)) (fun k hk => .inl hk.symm)
  have HDy := Lib.hid (fun w' hg => lit_hold (w := w3) (w' := w') (T := 3) (zs := [2, 2, 3, 4, 16, 1, 17]) hp4y hg)
  go_wp2_with fail
  refine (pick_any w.heap.size A bs c _ 9 _ HC5y.out (by omega) (by omega) (by omega)).mono ?_
  rintro e wp ⟨xp, hxp, rfl, hcp, hgp⟩
  have HCP := Lib.hid hcp
  have hGP := near_step hG5y hgp (fun k hk => .inl hk.symm)
  obtain ⟨q, hq⟩ : ∃ q : Nat, (xp : Int) / 4 = (q : Int) := ⟨xp / 4, by omega⟩
  have hq2 : q ≤ 2 := by omega
  have HRY := Lib.hid (fun w' (hg : wp.grownBy w' (some w.heap.size)) => Reads.pre (m := 5 + q) ((HDy.out w' (near_step hgp hg (fun k hk => .inl hk.symm))).more (B' := wp.heap.size) hgp.size) (by show 5 + q ≤ 7; omega))
  have hlq : (([2, 2, 3, 4, 16, 1, 17] : List Int).take (5 + q)).length = 5 + q := by rw [List.length_take]; show min (5 + q) 7 = 5 + q; omega
  have HAY := Lib.hid (among_any w.heap.size A bs c _ (some ⟨w3.heap.size, 0, none⟩) (([2, 2, 3, 4, 16, 1, 17] : List Int).take (5 + q)) 7 _ HCP.out (by omega) (by rw [hlq]; have := HRY.out _ (near_refl _ _); rwa [show (ints [2, 2, 3, 4, 16, 1, 17]).take (5 + q) = ints (([2, 2, 3, 4, 16, 1, 17] : List Int).take (5 + q)) by simp [ints, List.map_take]] at this) (by omega) (by omega) (by
    intro w' hg
    rw [hlq]
    have := HRY.out w' hg
    rwa [show (ints [2, 2, 3, 4, 16, 1, 17]).take (5 + q) = ints (([2, 2, 3, 4, 16, 1, 17] : List Int).take (5 + q)) by simp [ints, List.map_take]] at this))
  rw [hlq] at HAY
  have e5 : ((5 : Int) + (q : Int)).toNat = 5 + q := by omega
  have e5a : (0 : Int) ≤ 5 + (q : Int) := by omega
  have e5b : (5 : Int) + (q : Int) ≤ 7 := by omega
  have e5c : ¬ (7 : Int) < 5 + (q : Int) := by omega
  have HHQ := Lib.hid hlq
  clear hcp hxp hlq HRY
  go_wp2_with fail
  refine HAY.out.mono ?_
  rintro e wz ⟨y, hy, rfl, hcz, hgz⟩
  have hyb : 1 ≤ y ∧ y ≤ 17 := by
    have := List.mem_of_mem_take hy
    simp at this
    rcases this with rfl | rfl | rfl | rfl | rfl | rfl <;> omega
  have hGZ := near_step hGP hgz (fun k hk => .inl hk.symm)
  clear hcz hgz hy
  go_wp2_with fail
  exact bodyPost_ret (v := .tuple #[.int .i64 r, .int .i64 y]) (by simp [results, Try.results33, go_sem]) rfl (GotP.mk ⟨r, y, rfl, hrb, hyb, below_near hGZ (Nat.le_refl _) (Nat.le_refl _)⟩)
set_option maxRecDepth 100000 in
set_option maxHeartbeats 6400000 in
theorem DrawMergeOrder_any (A : Option Addr) (bs : List Nat) (c : Nat) (w : World) (hr : Reads w w.heap.size 1 A bs.length (byts bs)) (hb : ∀ b ∈ bs, b ≤ 255) (hl : bs.length ≤ 65536) :
    Calls Try.prog 30 #[.slice A bs.length c] w (GotM2 3 w) := by
  obtain ⟨i0, hi, hz0, hz1, hz2⟩ := info_parts (show (Try.prog.info? 3).map (fun i => (i.zero, i.size, i.bytes)) = some (some (.int .i64 0), 1, 8) by kernel_rfl)
  have HC0 := Lib.hid (cur_box (c := c) hr hb hl)
  have hG0 : w.grownBy (w.alloc (.cells #[.slice A bs.length c, .int .i64 0, .int .u64 0] 66)) (some w.heap.size) := World.grownBy_alloc _ _ _
  clear hr hb
  have hO0 := made_at (w := w.alloc (.cells #[.slice A bs.length c, .int .i64 0, .int .u64 0] 66)) (base := w.heap.size + 1) (g := w.heap.size + 1) (size := 1) (e := 3) (by simp) (by simp)
  have HCa := Lib.hid (HC0.out.alloc (.cells #[] 3))
  have hGa := near_step hG0 (World.grownBy_alloc _ (.cells #[] 3) (some w.heap.size)) (fun k hk => .inl hk.symm)
  clear hG0 HC0
  go_enter Try.func30, Try.ntmps30
  go_wp2_with fail
  refine (pick_any w.heap.size A bs c 0 9 _ HCa.out (by omega) (by omega) (by omega)).mono ?_
  rintro e w1 ⟨n, hn, rfl, hc1, hg1⟩
  have hn8 : n ≤ 8 := by omega
  have hO1 := Cur.row HCa.out hO0 hg1 (by decide)
  have hG1 := near_step hGa hg1 (fun k hk => .inl hk.symm)
  have HC1 := Lib.hid hc1
  clear hc1 hGa hg1 hn hO0
  go_wp2_with fail
  go_loopw [5, 6] (fun v nv wr => ∃ (j : Nat) (zs : List Int), nv = .int .i64 (j : Nat) ∧ zs.length + j ≤ 8 ∧ wr.ownsRow (w.heap.size + 1) 3 1 v zs.length (ints zs) ∧ Hid (Cur wr w.heap.size A bs c (10 + 2 * zs.length)) ∧ w.grownBy wr (some w.heap.size)) (fun _ nv _ => (intOf nv).toNat)
  case atStart => exact ⟨n, [], rfl, by simpa using hn8, hO1, Lib.hid (HC1.out.more (by omega)), hG1⟩
  case round =>
    clear hO1 hG1 HC1
    obtain ⟨j, zs, rfl, hj, hO, HK, hG⟩ := hrel
    by_cases hj0 : 0 < j
    · have j1 : (j : Int) > 0 := by omega
      have j2 : (0 : Int) < (j : Int) := by omega
      go_wp2_with fail
      refine (pick_any w.heap.size A bs c _ 9 _ HK.out (by omega) (by omega) (by omega)).mono ?_
      rintro e w5 ⟨x, hx, rfl, hc6, hg6⟩
      have hO6 := Cur.row HK.out hO hg6 (by decide)
      have hG6 := near_step hG hg6 (fun k hk => .inl hk.symm)
      have HC6 := Lib.hid hc6
      have hxs : x ≤ 8 := by omega
      clear hc6 hO hG hg6 hx
      have HLT := Lib.hid HC6.out.lt
      have hwle := hG6.size
      go_wp2_with (at_builtin; refine wpList_push' _ rfl (.tmp 17) (.tmp 21) 24 rfl (w.heap.size + 1) 3 i0 _ 1 8 Try.underlying24 hi hz0 hz1 hz2 rfl (by decide) _ zs.length _ rfl (World.ownsRow.alloc hO6 _) #[.int .i64 (1 + (x : Int))] w5.heap.size rfl (Blk.new _ _ _) rfl (by simp [Value.oneCell']) (by omega) (by unfold maxLen; omega) (by rw [World.size_alloc]; have := HLT.out; omega) ?_; intro g7 c7 w7 o7 gr7 bl7 at7)
      have HC7 := Lib.hid (Cur.grown (HC6.out.alloc (.cells #[.int .i64 (1 + (x : Int))] 3)) gr7 (fun k hk => by have := (own_lt hO6 k hk).1; omega))
      have hG7 := near_step (near_step hG6 (World.grownBy_alloc w5 (.cells #[.int .i64 (1 + (x : Int))] 3) (some w.heap.size)) (fun k hk => .inl hk.symm)) gr7 (fun k hk => .inr (Nat.le_of_succ_le (own_lt hO6 k hk).1))
      rw [ints_snoc] at o7
      have hl7 : (zs ++ [(1 + (x : Int))]).length = zs.length + 1 := by simp
      rw [← hl7] at o7
      have HO7 := Lib.hid o7
      have HL7 := Lib.hid hl7
      clear o7 hl7 gr7 bl7 at7 hO6 hG6
      rw [HL7.out] at HO7
      go_wp2_with fail
      go_roundw
      case rel => exact ⟨j - 1, zs ++ [1 + (x : Int)], by rw [show ((j : Int) - 1) = ((j - 1 : Nat) : Int) by omega], by rw [HL7.out]; omega, by rw [HL7.out]; exact HO7.out, Lib.hid (HC7.out.more (by rw [HL7.out]; omega)), hG7⟩
      case measure => simp [intOf]; omega
    · obtain rfl : j = 0 := by omega
      have hz8 : zs.length ≤ 8 := by omega
      go_wp2_with fail
      refine (pick_any w.heap.size A bs c _ 20 _ HK.out (by omega) (by omega) (by omega)).mono ?_
      rintro e w2 ⟨x, hx, rfl, hc2, hg2⟩
      have hO2 := Cur.row HK.out hO hg2 (by decide)
      have hG2 := near_step hG hg2 (fun k hk => .inl hk.symm)
      have HC2 := Lib.hid (hc2.more (show 10 + 2 * zs.length + 2 ≤ 40 by omega))
      clear hc2 hO hG hg2 hx hj hj0
      by_cases hx0 : x = 0
      · subst hx0
        have e00 : (((0 : Nat) : Int) == 0) = true := rfl
        have hp4a := HC2.out.lt
        have HC5a := Lib.hid (HC2.out.alloc (.cells (ints [0, 100000, 100001]).toArray 3))
        have hO5a := World.ownsRow.alloc hO2 (.cells (ints [0, 100000, 100001]).toArray 3)
        have hG5a := near_step hG2 (World.grownBy_alloc w2 (.cells (ints [0, 100000, 100001]).toArray 3) (some w.heap.size)) (fun k hk => .inl hk.symm)
        have HDa := Lib.hid (fun w' hg => lit_hold (w := w2) (w' := w') (T := 3) (zs := [0, 100000, 100001]) hp4a hg)
        have HAA := Lib.hid (among_any w.heap.size A bs c _ (some ⟨w2.heap.size, 0, none⟩) [0, 100000, 100001] 3 _ HC5a.out (by omega) (HDa.out _ (near_refl _ _)) (by simp) (by simp) HDa.out)
        go_wp2_with fail
        refine HAA.out.mono ?_
        rintro e w3 ⟨z, hz, rfl, hc3, hg3⟩
        have hO3 := Cur.row HC5a.out hO5a hg3 (by decide)
        have hG3 := near_step hG5a hg3 (fun k hk => .inl hk.symm)
        have HC3 := Lib.hid hc3
        clear hc3 hG5a hg3 hz hG2 hp4a hO2 hO5a
        have HLT := Lib.hid HC3.out.lt
        have hwle := hG3.size
        go_wp2_with (at_builtin; refine wpList_push' _ rfl (.tmp 27) (.tmp 31) 24 rfl (w.heap.size + 1) 3 i0 _ 1 8 Try.underlying24 hi hz0 hz1 hz2 rfl (by decide) _ zs.length _ rfl (World.ownsRow.alloc hO3 _) #[.int .i64 z] w3.heap.size rfl (Blk.new _ _ _) rfl (by simp [Value.oneCell']) (by omega) (by unfold maxLen; omega) (by rw [World.size_alloc]; have := HLT.out; omega) ?_; intro g7 c7 w7 o7 gr7 bl7 at7)
        have HC7 := Lib.hid (Cur.grown (HC3.out.alloc (.cells #[.int .i64 z] 3)) gr7 (fun k hk => by have := (own_lt hO3 k hk).1; omega))
        have hG7 := near_step (near_step hG3 (World.grownBy_alloc w3 (.cells #[.int .i64 z] 3) (some w.heap.size)) (fun k hk => .inl hk.symm)) gr7 (fun k hk => .inr (Nat.le_of_succ_le (own_lt hO3 k hk).1))
        rw [ints_snoc] at o7
        have hl7 : (zs ++ [z]).length = zs.length + 1 := by simp
        rw [← hl7] at o7
        have HO7 := Lib.hid o7
        have HL7 := Lib.hid hl7
        clear o7 hl7 gr7 bl7 at7 hO3 hG3
        rw [HL7.out] at HO7
        have hO7 := HO7.out
        have hzl : (zs ++ [z]).length ≤ 50 := by rw [HL7.out]; omega
        clear HO7
        have hp4y := HC7.out.lt
        have HC5y := Lib.hid (HC7.out.alloc (.cells (ints [2, 2, 3, 4, 16, 1, 17]).toArray 3))
        have hO5y := World.ownsRow.alloc hO7 (.cells (ints [2, 2, 3, 4, 16, 1, 17]).toArray 3)
        have hG5y := near_step hG7 (World.grownBy_alloc w7 (.cells (ints [2, 2, 3, 4, 16, 1, 17]).toArray 3) (some w.heap.size)) (fun k hk => .inl hk.symm)
        have HDy := Lib.hid (fun w' hg => lit_hold (w := w7) (w' := w') (T := 3) (zs := [2, 2, 3, 4, 16, 1, 17]) hp4y hg)
        go_wp2_with fail
        refine (pick_any w.heap.size A bs c _ 9 _ HC5y.out (by omega) (by omega) (by omega)).mono ?_
        rintro e wp ⟨xp, hxp, rfl, hcp, hgp⟩
        have HCP := Lib.hid hcp
        have hGP := near_step hG5y hgp (fun k hk => .inl hk.symm)
        have hOP := Cur.row HC5y.out (World.ownsRow.alloc hO7 (.cells (ints [2, 2, 3, 4, 16, 1, 17]).toArray 3)) hgp (by decide)
        obtain ⟨q, hq⟩ : ∃ q : Nat, (xp : Int) / 4 = (q : Int) := ⟨xp / 4, by omega⟩
        have hq2 : q ≤ 2 := by omega
        have HRY := Lib.hid (fun w' (hg : wp.grownBy w' (some w.heap.size)) => Reads.pre (m := 5 + q) ((HDy.out w' (near_step hgp hg (fun k hk => .inl hk.symm))).more (B' := wp.heap.size) hgp.size) (by show 5 + q ≤ 7; omega))
        have hlq : (([2, 2, 3, 4, 16, 1, 17] : List Int).take (5 + q)).length = 5 + q := by rw [List.length_take]; show min (5 + q) 7 = 5 + q; omega
        have HAY := Lib.hid (among_any w.heap.size A bs c _ (some ⟨w7.heap.size, 0, none⟩) (([2, 2, 3, 4, 16, 1, 17] : List Int).take (5 + q)) 7 _ HCP.out (by omega) (by rw [hlq]; have := HRY.out _ (near_refl _ _); rwa [show (ints [2, 2, 3, 4, 16, 1, 17]).take (5 + q) = ints (([2, 2, 3, 4, 16, 1, 17] : List Int).take (5 + q)) by simp [ints, List.map_take]] at this) (by omega) (by omega) (by
          intro w' hg
          rw [hlq]
          have := HRY.out w' hg
          rwa [show (ints [2, 2, 3, 4, 16, 1, 17]).take (5 + q) = ints (([2, 2, 3, 4, 16, 1, 17] : List Int).take (5 + q)) by simp [ints, List.map_take]] at this))
        rw [hlq] at HAY
        have e5 : ((5 : Int) + (q : Int)).toNat = 5 + q := by omega
        have e5a : (0 : Int) ≤ 5 + (q : Int) := by omega
        have e5b : (5 : Int) + (q : Int) ≤ 7 := by omega
        have e5c : ¬ (7 : Int) < 5 + (q : Int) := by omega
        have HHQ := Lib.hid hlq
        clear hcp hxp hlq HRY
        go_wp2_with fail
        refine HAY.out.mono ?_
        rintro e wz ⟨y, hy, rfl, hcz, hgz⟩
        have hyb : 1 ≤ y ∧ y ≤ 17 := by
          have := List.mem_of_mem_take hy
          simp at this
          rcases this with rfl | rfl | rfl | rfl | rfl | rfl <;> omega
        have hGZ := near_step hGP hgz (fun k hk => .inl hk.symm)
        have hOZ := Cur.row HCP.out hOP hgz (by decide)
        clear hcz hgz hy
        go_wp2_with fail
        rw [← HL7.out] at hOZ
        exact bodyPost_ret (v := .tuple #[.slice (some ⟨g7, 0, none⟩) (zs.length + 1) c7, .int .i64 y]) (by simp [results, Try.results30, go_sem]) rfl (GotM2.mk ⟨some ⟨g7, 0, none⟩, c7, (zs ++ [z]), y, by rw [HL7.out], own_base hOZ (Nat.le_succ _), hzl, hyb, below_near hGZ (Nat.le_refl _) (Nat.le_refl _)⟩)
      · by_cases hx1 : x = 1
        · subst hx1
          have e01 : (((1 : Nat) : Int) == 0) = false := rfl
          have e11 : (((1 : Nat) : Int) == 1) = true := rfl
          go_wp2_with fail
          go_loopw [5] (fun v wr => ∃ (D : Option Addr) (d : Nat) (zs : List Int), v = .slice D zs.length d ∧ zs.length ≤ 41 ∧ wr.ownsRow (w.heap.size + 1) 3 1 (.slice D zs.length d) zs.length (ints zs) ∧ Hid (Cur wr w.heap.size A bs c (100 + 4 * zs.length)) ∧ w.grownBy wr (some w.heap.size)) (fun v _ => 64 - (match v with | .slice _ n _ => n | _ => 0))
          case atStart =>
            obtain ⟨D0, d0, e0⟩ := own_slice hO2
            cases e0
            exact ⟨D0, d0, zs, rfl, by omega, hO2, Lib.hid (HC2.out.more (by omega)), hG2⟩
          case round =>
            clear hO2 hG2 HC2 hz8
            obtain ⟨D, d, zs, rfl, hzl, hO, HK, hG⟩ := hrel
            go_wp2_with fail
            refine (pick_any w.heap.size A bs c _ 2 _ HK.out (by omega) (by omega) (by omega)).mono ?_
            rintro e w3 ⟨x, hx, rfl, hc3, hg3⟩
            have hx1 : x ≤ 1 := by omega
            have hO3 := Cur.row HK.out hO hg3 (by decide)
            have hG3 := near_step hG hg3 (fun k hk => .inl hk.symm)
            have HC3 := Lib.hid hc3
            clear hc3 hO hG hg3 hx
            by_cases hlt : zs.length < 40 + x
            · have hltI : (zs.length : Int) < 40 + (x : Int) := by omega
              go_wp2_with fail
              refine (pick_any w.heap.size A bs c _ 9 _ HC3.out (by omega) (by omega) (by omega)).mono ?_
              rintro e w5 ⟨x2, hx2, rfl, hc6, hg6⟩
              have hO6 := Cur.row HC3.out hO3 hg6 (by decide)
              have hG6 := near_step hG3 hg6 (fun k hk => .inl hk.symm)
              have HC6 := Lib.hid hc6
              have hxs : x2 ≤ 8 := by omega
              clear hc6 hO3 hG3 hg6 hx2
              have HLT := Lib.hid HC6.out.lt
              have hwle := hG6.size
              go_wp2_with (at_builtin; refine wpList_push' _ rfl (.tmp 41) (.tmp 45) 24 rfl (w.heap.size + 1) 3 i0 _ 1 8 Try.underlying24 hi hz0 hz1 hz2 rfl (by decide) _ zs.length _ rfl (World.ownsRow.alloc hO6 _) #[.int .i64 (1 + (x2 : Int))] w5.heap.size rfl (Blk.new _ _ _) rfl (by simp [Value.oneCell']) (by omega) (by unfold maxLen; omega) (by rw [World.size_alloc]; have := HLT.out; omega) ?_; intro g7 c7 w7 o7 gr7 bl7 at7)
              have HC7 := Lib.hid (Cur.grown (HC6.out.alloc (.cells #[.int .i64 (1 + (x2 : Int))] 3)) gr7 (fun k hk => by have := (own_lt hO6 k hk).1; omega))
              have hG7 := near_step (near_step hG6 (World.grownBy_alloc w5 (.cells #[.int .i64 (1 + (x2 : Int))] 3) (some w.heap.size)) (fun k hk => .inl hk.symm)) gr7 (fun k hk => .inr (Nat.le_of_succ_le (own_lt hO6 k hk).1))
              rw [ints_snoc] at o7
              have hl7 : (zs ++ [(1 + (x2 : Int))]).length = zs.length + 1 := by simp
              rw [← hl7] at o7
              have HO7 := Lib.hid o7
              have HL7 := Lib.hid hl7
              clear o7 hl7 gr7 bl7 at7 hO6 hG6
              rw [HL7.out] at HO7
              go_wp2_with fail
              go_roundw
              case rel => exact ⟨some ⟨g7, 0, none⟩, c7, zs ++ [1 + (x2 : Int)], by rw [HL7.out], by rw [HL7.out]; omega, by rw [HL7.out]; exact HO7.out, Lib.hid (HC7.out.more (by rw [HL7.out]; omega)), hG7⟩
              case measure => (simp <;> omega)
            · have hltI : ¬ (zs.length : Int) < 40 + (x : Int) := by omega
              have hp4y := HC3.out.lt
              have HC5y := Lib.hid (HC3.out.alloc (.cells (ints [2, 2, 3, 4, 16, 1, 17]).toArray 3))
              have hO5y := World.ownsRow.alloc hO3 (.cells (ints [2, 2, 3, 4, 16, 1, 17]).toArray 3)
              have hG5y := near_step hG3 (World.grownBy_alloc w3 (.cells (ints [2, 2, 3, 4, 16, 1, 17]).toArray 3) (some w.heap.size)) (fun k hk => .inl hk.symm)
              have HDy := Lib.hid (fun w' hg => lit_hold (w := w3) (w' := w') (T := 3) (zs := [2, 2, 3, 4, 16, 1, 17]) hp4y hg)
              go_wp2_with fail
              refine (pick_any w.heap.size A bs c _ 9 _ HC5y.out (by omega) (by omega) (by omega)).mono ?_
              rintro e wp ⟨xp, hxp, rfl, hcp, hgp⟩
              have HCP := Lib.hid hcp
              have hGP := near_step hG5y hgp (fun k hk => .inl hk.symm)
              have hOP := Cur.row HC5y.out (World.ownsRow.alloc hO3 (.cells (ints [2, 2, 3, 4, 16, 1, 17]).toArray 3)) hgp (by decide)
              obtain ⟨q, hq⟩ : ∃ q : Nat, (xp : Int) / 4 = (q : Int) := ⟨xp / 4, by omega⟩
              have hq2 : q ≤ 2 := by omega
              have HRY := Lib.hid (fun w' (hg : wp.grownBy w' (some w.heap.size)) => Reads.pre (m := 5 + q) ((HDy.out w' (near_step hgp hg (fun k hk => .inl hk.symm))).more (B' := wp.heap.size) hgp.size) (by show 5 + q ≤ 7; omega))
              have hlq : (([2, 2, 3, 4, 16, 1, 17] : List Int).take (5 + q)).length = 5 + q := by rw [List.length_take]; show min (5 + q) 7 = 5 + q; omega
              have HAY := Lib.hid (among_any w.heap.size A bs c _ (some ⟨w3.heap.size, 0, none⟩) (([2, 2, 3, 4, 16, 1, 17] : List Int).take (5 + q)) 7 _ HCP.out (by omega) (by rw [hlq]; have := HRY.out _ (near_refl _ _); rwa [show (ints [2, 2, 3, 4, 16, 1, 17]).take (5 + q) = ints (([2, 2, 3, 4, 16, 1, 17] : List Int).take (5 + q)) by simp [ints, List.map_take]] at this) (by omega) (by omega) (by
                intro w' hg
                rw [hlq]
                have := HRY.out w' hg
                rwa [show (ints [2, 2, 3, 4, 16, 1, 17]).take (5 + q) = ints (([2, 2, 3, 4, 16, 1, 17] : List Int).take (5 + q)) by simp [ints, List.map_take]] at this))
              rw [hlq] at HAY
              have e5 : ((5 : Int) + (q : Int)).toNat = 5 + q := by omega
              have e5a : (0 : Int) ≤ 5 + (q : Int) := by omega
              have e5b : (5 : Int) + (q : Int) ≤ 7 := by omega
              have e5c : ¬ (7 : Int) < 5 + (q : Int) := by omega
              have HHQ := Lib.hid hlq
              clear hcp hxp hlq HRY
              go_wp2_with fail
              refine HAY.out.mono ?_
              rintro e wz ⟨y, hy, rfl, hcz, hgz⟩
              have hyb : 1 ≤ y ∧ y ≤ 17 := by
                have := List.mem_of_mem_take hy
                simp at this
                rcases this with rfl | rfl | rfl | rfl | rfl | rfl <;> omega
              have hGZ := near_step hGP hgz (fun k hk => .inl hk.symm)
              have hOZ := Cur.row HCP.out hOP hgz (by decide)
              clear hcz hgz hy
              go_wp2_with fail
              exact bodyPost_ret (v := .tuple #[.slice D _ d, .int .i64 y]) (by simp [results, Try.results30, go_sem]) rfl (GotM2.mk ⟨D, d, zs, y, rfl, own_base hOZ (Nat.le_succ _), by omega, hyb, below_near hGZ (Nat.le_refl _) (Nat.le_refl _)⟩)
        · have e0 : ((x : Int) == 0) = false := by rw [beq_eq_false_iff_ne]; omega
          have e1 : ((x : Int) == 1) = false := by rw [beq_eq_false_iff_ne]; omega
          have hp4y := HC2.out.lt
          have HC5y := Lib.hid (HC2.out.alloc (.cells (ints [2, 2, 3, 4, 16, 1, 17]).toArray 3))
          have hO5y := World.ownsRow.alloc hO2 (.cells (ints [2, 2, 3, 4, 16, 1, 17]).toArray 3)
          have hG5y := near_step hG2 (World.grownBy_alloc w2 (.cells (ints [2, 2, 3, 4, 16, 1, 17]).toArray 3) (some w.heap.size)) (fun k hk => .inl hk.symm)
          have HDy := Lib.hid (fun w' hg => lit_hold (w := w2) (w' := w') (T := 3) (zs := [2, 2, 3, 4, 16, 1, 17]) hp4y hg)
          go_wp2_with fail
          refine (pick_any w.heap.size A bs c _ 9 _ HC5y.out (by omega) (by omega) (by omega)).mono ?_
          rintro e wp ⟨xp, hxp, rfl, hcp, hgp⟩
          have HCP := Lib.hid hcp
          have hGP := near_step hG5y hgp (fun k hk => .inl hk.symm)
          have hOP := Cur.row HC5y.out (World.ownsRow.alloc hO2 (.cells (ints [2, 2, 3, 4, 16, 1, 17]).toArray 3)) hgp (by decide)
          obtain ⟨q, hq⟩ : ∃ q : Nat, (xp : Int) / 4 = (q : Int) := ⟨xp / 4, by omega⟩
          have hq2 : q ≤ 2 := by omega
          have HRY := Lib.hid (fun w' (hg : wp.grownBy w' (some w.heap.size)) => Reads.pre (m := 5 + q) ((HDy.out w' (near_step hgp hg (fun k hk => .inl hk.symm))).more (B' := wp.heap.size) hgp.size) (by show 5 + q ≤ 7; omega))
          have hlq : (([2, 2, 3, 4, 16, 1, 17] : List Int).take (5 + q)).length = 5 + q := by rw [List.length_take]; show min (5 + q) 7 = 5 + q; omega
          have HAY := Lib.hid (among_any w.heap.size A bs c _ (some ⟨w2.heap.size, 0, none⟩) (([2, 2, 3, 4, 16, 1, 17] : List Int).take (5 + q)) 7 _ HCP.out (by omega) (by rw [hlq]; have := HRY.out _ (near_refl _ _); rwa [show (ints [2, 2, 3, 4, 16, 1, 17]).take (5 + q) = ints (([2, 2, 3, 4, 16, 1, 17] : List Int).take (5 + q)) by simp [ints, List.map_take]] at this) (by omega) (by omega) (by
            intro w' hg
            rw [hlq]
            have := HRY.out w' hg
            rwa [show (ints [2, 2, 3, 4, 16, 1, 17]).take (5 + q) = ints (([2, 2, 3, 4, 16, 1, 17] : List Int).take (5 + q)) by simp [ints, List.map_take]] at this))
          rw [hlq] at HAY
          have e5 : ((5 : Int) + (q : Int)).toNat = 5 + q := by omega
          have e5a : (0 : Int) ≤ 5 + (q : Int) := by omega
          have e5b : (5 : Int) + (q : Int) ≤ 7 := by omega
          have e5c : ¬ (7 : Int) < 5 + (q : Int) := by omega
          have HHQ := Lib.hid hlq
          clear hcp hxp hlq HRY
          go_wp2_with fail
          refine HAY.out.mono ?_
          rintro e wz ⟨y, hy, rfl, hcz, hgz⟩
          have hyb : 1 ≤ y ∧ y ≤ 17 := by
            have := List.mem_of_mem_take hy
            simp at this
            rcases this with rfl | rfl | rfl | rfl | rfl | rfl <;> omega
          have hGZ := near_step hGP hgz (fun k hk => .inl hk.symm)
          have hOZ := Cur.row HCP.out hOP hgz (by decide)
          clear hcz hgz hy
          obtain ⟨DZ, dz, eDZ⟩ := own_slice hOZ
          cases eDZ
          go_wp2_with fail
          exact bodyPost_ret (v := .tuple #[.slice DZ _ dz, .int .i64 y]) (by simp [results, Try.results30, go_sem]) rfl (GotM2.mk ⟨DZ, dz, zs, y, rfl, own_base hOZ (Nat.le_succ _), by omega, hyb, below_near hGZ (Nat.le_refl _) (Nat.le_refl _)⟩)
end Go.Proofs.Ytphcfjdhichfkaa
