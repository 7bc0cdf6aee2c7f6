/- The draw of a network and a list for it. -/
import Derived.Test.YteigceeghnphmaaDrawM
import Derived.Deep.DeepCutAuto
namespace Go.Proofs.Yteigceeghnphmaa
open Go.RowKit
set_option linter.unusedVariables false
def GotA (w : World) (e : Ending) (w' : World) : Prop := ∃ (W : Int) (D : Option Addr) (cs : List (Int × Int)) (d : Nat) (E : Option Addr) (zs : List Int) (f : Nat), e = .returned (.tuple #[.agg #[.int .i64 W, .slice D cs.length d], .slice E zs.length f]) ∧ w'.ownsRow w.heap.size 32 2 (.slice D cs.length d) cs.length (cmps cs) ∧
  w'.ownsRow w.heap.size 3 1 (.slice E zs.length f) zs.length (ints zs) ∧ (0 ≤ W ∧ W ≤ 17) ∧ cs.length ≤ 201 ∧ zs.length ≤ 20 ∧ Below w.heap.size w w'
theorem GotA.mk {w : World} {e : Ending} {w' : World} (h : ∃ (W : Int) (D : Option Addr) (cs : List (Int × Int)) (d : Nat) (E : Option Addr) (zs : List Int) (f : Nat), e = .returned (.tuple #[.agg #[.int .i64 W, .slice D cs.length d], .slice E zs.length f]) ∧ w'.ownsRow w.heap.size 32 2 (.slice D cs.length d) cs.length (cmps cs) ∧
  w'.ownsRow w.heap.size 3 1 (.slice E zs.length f) zs.length (ints zs) ∧ (0 ≤ W ∧ W ≤ 17) ∧ cs.length ≤ 201 ∧ zs.length ≤ 20 ∧ Below w.heap.size w w') : GotA w e w' := h
set_option maxRecDepth 100000 in
set_option maxHeartbeats 3200000 in
theorem DrawApplyNetwork_any (A : Option Addr) (bs : List Nat) (c : Nat) (w : World) (hr : Reads w w.heap.size 1 A bs.length (byts bs)) (hb : ∀ b ∈ bs, b ≤ 255) (hl : bs.length ≤ 65536) :
    Calls Try.prog 34 #[.slice A bs.length c] w (GotA w) := by
  obtain ⟨i0, hi, hz0, hz1, hz2⟩ := info_parts (show (Try.prog.info? 3).map (fun i => (i.zero, i.size, i.bytes)) = some (some (.int .i64 0), 1, 8) by kernel_rfl)
  have hB0 := alloc_ (Below.refl w.heap.size w) (.cells #[.int .i64 0, .slice none 0 0] 26)
  have HC0 := Lib.hid (cur_box (w := w.alloc (.cells #[.int .i64 0, .slice none 0 0] 26)) (c := c) ((hr.below hB0).more hB0.size) hb hl)
  have hB1 := alloc_ hB0 (.cells #[.slice A bs.length c, .int .i64 0, .int .u64 0] 73)
  have hR0 := (Blk.new w 26 #[.int .i64 0, .slice none 0 0]).alloc (.cells #[.slice A bs.length c, .int .i64 0, .int .u64 0] 73)
  have hsz0 : (w.alloc (.cells #[.int .i64 0, .slice none 0 0] 26)).heap.size = w.heap.size + 1 := by simp
  rw [hsz0] at HC0
  clear hr hb hB0 hsz0
  go_enter Try.func34, Try.ntmps34
  go_wp2_with fail
  refine (anyNetwork_any (w.heap.size + 1) A bs c 0 _ HC0.out (by omega)).mono ?_
  rintro e w1 ⟨W, D, cs, d, rfl, hO1, hW, hl1, hsm, hc1, hg1⟩
  have hR := Cur.blk_ HC0.out hR0 hg1 (by decide)
  have hB2 := hB1.trans (below_near hg1 (by omega) hB1.size)
  have hO := own_base hO1 hB1.size
  have HC1 := Lib.hid hc1
  clear hc1 hO1 hg1 hsm hR0 hB1 HC0
  obtain ⟨N, rfl⟩ := Int.eq_ofNat_of_zero_le hW.1
  have hN17 : N ≤ 17 := by omega
  have hR2 := hR.alloc (.cells #[.int .i64 (N : Nat), .slice D cs.length d] 26)
  have hO2 := hO.alloc (.cells #[.int .i64 (N : Nat), .slice D cs.length d] 26)
  have hB3 := alloc_ hB2 (.cells #[.int .i64 (N : Nat), .slice D cs.length d] 26)
  have hN2 := Blk.new w1 26 #[.int .i64 (N : Nat), .slice D cs.length d]
  have HC2 := Lib.hid (HC1.out.alloc (.cells #[.int .i64 (N : Nat), .slice D cs.length d] 26))
  have hwl : w.heap.size + 1 < w1.heap.size := HC1.out.lt
  clear hR hO hB2 HC1
  go_upto_region 4 with fail
  have hsz2 : (w1.alloc (.cells #[.int .i64 (N : Nat), .slice D cs.length d] 26)).heap.size = w1.heap.size + 1 := by simp
  generalize w1.alloc (.cells #[.int .i64 (N : Nat), .slice D cs.length d] 26) = w2 at *
  generalize w1.heap.size = g5 at *
  have hE0 := made_at (w := w2) (base := w2.heap.size) (g := g5 + 1) (size := 1) (e := 3) (Nat.le_refl _) hsz2
  have HSZ2 := Lib.hid hsz2
  clear hsz2
  have hG0 : w2.grownBy (w2.alloc (.cells #[] 3)) (some (w.heap.size + 1)) := World.grownBy_alloc _ _ _
  have HC3 := Lib.hid (HC2.out.alloc (.cells #[] 3))
  have hp2 := HC2.out.lt
  go_wp2_with fail
  go_loopw [6, 7] (fun v nv wr => ∃ (j : Nat) (zs : List Int), nv = .int .i64 (j : Nat) ∧ j ≤ N ∧ zs.length = j ∧ wr.ownsRow w2.heap.size 3 1 v zs.length (ints zs) ∧ Hid (Cur wr (w.heap.size + 1) A bs c (1500 + 4 * j)) ∧ w2.grownBy wr (some (w.heap.size + 1))) (fun _ nv _ => N - (intOf nv).toNat)
  case atStart => exact ⟨0, [], rfl, by omega, rfl, hE0, Lib.hid (HC3.out.more (by omega)), hG0⟩
  case round =>
    clear hE0 hG0 HC3
    obtain ⟨j, zs, rfl, hj, hzj, hE, HK, hG⟩ := hrel
    have HZ := Lib.hid hzj
    have hzj2 : zs.length ≤ j := by omega
    clear hzj
    have hNr := Cur.blk_ HC2.out hN2 hG (by decide)
    obtain ⟨q0, q1⟩ := hNr.two
    have ql := hNr.lt
    by_cases hjn : j < N
    · have j1 : (j : Int) < (N : Int) := by omega
      go_wp2_with fail
      refine (pick_any (w.heap.size + 1) A bs c _ 6 _ HK.out (by omega) (by omega) (by omega)).mono ?_
      rintro e w5 ⟨x, hx, rfl, hc6, hg6⟩
      have hO6 := Cur.row HK.out hE hg6 (by decide)
      have hG6 := near_step hG hg6 (fun k hk => .inl hk.symm)
      have HC6 := Lib.hid hc6
      clear hc6 hE hG hg6 hx q0 q1 ql hNr
      have hwle := hG6.size
      go_wp2_with (at_builtin; refine wpList_push' _ rfl (.tmp 20) (.tmp 23) 33 rfl w2.heap.size 3 i0 _ 1 8 Try.underlying33 hi hz0 hz1 hz2 rfl (by decide) _ zs.length _ rfl (World.ownsRow.alloc hO6 _) #[.int .i64 (x : Int)] w5.heap.size rfl (Blk.new _ _ _) rfl (by simp [Value.oneCell']) (by omega) (by unfold maxLen; omega) (by rw [World.size_alloc]; omega) ?_; intro g7 c7 w7 o7 gr7 bl7 at7)
      have HC7 := Lib.hid (Cur.grown (HC6.out.alloc (.cells #[.int .i64 (x : Int)] 3)) gr7 (fun k hk => by have := (own_lt hO6 k hk).1; omega))
      have hG7 := near_step (near_step hG6 (World.grownBy_alloc w5 (.cells #[.int .i64 (x : Int)] 3) (some (w.heap.size + 1))) (fun k hk => .inl hk.symm)) gr7 (fun k hk => .inr (own_lt hO6 k hk).1)
      rw [ints_snoc] at o7
      have hl7 : (zs ++ [(x : Int)]).length = zs.length + 1 := by simp
      rw [← hl7] at o7
      have HO7 := Lib.hid o7
      have HL7 := Lib.hid hl7
      clear o7 hl7 gr7 bl7 at7 hO6 hG6
      rw [HL7.out] at HO7
      go_wp2_with fail
      go_roundw
      case rel => exact ⟨j + 1, zs ++ [(x : Int)], by go_num, by omega, by rw [HL7.out, HZ.out], by rw [HL7.out]; exact HO7.out, Lib.hid (HC7.out.more (by omega)), hG7⟩
      case measure => simp [intOf]; omega
    · have j1 : ¬ (j : Int) < (N : Int) := by omega
      go_wp2_with fail
      refine (one_any (w.heap.size + 1) A bs c _ 16 _ HK.out (by omega) (by omega) (by omega)).mono ?_
      rintro e w4 ⟨b4, rfl, hc4, hg4⟩
      have hE4 := Cur.row HK.out hE hg4 (by decide)
      have hG4 := near_step hG hg4 (fun k hk => .inl hk.symm)
      have HC4 := Lib.hid hc4
      clear hc4 hE hG hg4 q0 q1 ql hNr
      cases b4
      case false =>
        have hNf := Cur.blk_ HC2.out hN2 hG4 (by decide)
        have hRf := Cur.blk_ HC2.out hR2 hG4 (by decide)
        have hOf := Cur.row HC2.out hO2 hG4 (by decide)
        have hBf := hB3.trans (below_near hG4 (by omega) hB3.size)
        have hf3 : Blk ((w4.setCell ⟨w.heap.size, 0, none⟩ (.int .i64 (N : Nat))).setCell ⟨w.heap.size, 1, none⟩ (.slice D cs.length d)) w.heap.size 26 #[.int .i64 (N : Nat), .slice D cs.length d] := by
          simpa using (hRf.set_ 0 (.int .i64 (N : Nat))).set_ 1 (.slice D cs.length d)
        obtain ⟨r0, r1⟩ := hf3.two
        have R0 := Lib.hid r0; have R1 := Lib.hid r1
        obtain ⟨z0, z1⟩ := hRf.two
        have f0 := hRf.frozen 0
        have f1 := hRf.frozen 1
        have hrl := hRf.lt
        have hgs := near_set (near_set (near_refl w4 (some w.heap.size)) 0 (.int .i64 (N : Nat))) 1 (.slice D cs.length d)
        have HOF := Lib.hid (hOf.kept hgs (.inr (own_blk_ne hOf hRf (by decide))))
        have HEF := Lib.hid (own_kept hE4 hgs (own_blk_ne hE4 hRf (by decide)))
        have HBF := Lib.hid (hBf.trans (below_near hgs (Nat.le_refl _) hBf.size))
        have HB3S := Lib.hid hB3.size
        obtain ⟨q0, q1⟩ := hNf.two
        have ql := hNf.lt
        clear hf3 r0 r1 hgs hOf hBf
        obtain ⟨EZ, fz, eE⟩ := own_slice hE4
        cases eE
        go_wp2_with fail
        exact bodyPost_ret (v := .tuple #[.agg #[.int .i64 (N : Nat), .slice D cs.length d], .slice (EZ) _ fz]) (by simp [results, Try.results34, go_sem, R0.out, R1.out]) rfl (GotA.mk ⟨(N : Int), D, cs, d, EZ, zs, fz, rfl, HOF.out, own_base HEF.out HB3S.out, hW, hl1, by omega, HBF.out⟩)
      case true =>
        have hp4 := HC4.out.lt
        have HC5 := Lib.hid (HC4.out.alloc (.cells (ints [3, 100001]).toArray 3))
        have hE5 := World.ownsRow.alloc hE4 (.cells (ints [3, 100001]).toArray 3)
        have hG5 := near_step hG4 (World.grownBy_alloc w4 (.cells (ints [3, 100001]).toArray 3) (some (w.heap.size + 1))) (fun k hk => .inl hk.symm)
        have HDa := Lib.hid (fun w' hg => lit_hold (w := w4) (w' := w') (T := 3) (zs := [3, 100001]) hp4 hg)
        have HAa := Lib.hid (among_any (w.heap.size + 1) A bs c _ (some ⟨w4.heap.size, 0, none⟩) [3, 100001] 2 _ HC5.out (by omega) (HDa.out _ (near_refl _ _)) (by decide) (by decide) HDa.out)
        go_wp2_with fail
        refine HAa.out.mono ?_
        rintro e w5 ⟨z, hz, rfl, hc6, hg6⟩
        have hO6 := Cur.row HC5.out hE5 hg6 (by decide)
        have hG6 := near_step hG5 hg6 (fun k hk => .inl hk.symm)
        have HC6 := Lib.hid hc6
        clear hc6 hE4 hG4 hE5 hG5 hg6 hz
        have hwle := hG6.size
        go_upto_region 10 with (at_builtin; refine wpList_push' _ rfl (.tmp 27) (.tmp 31) 33 rfl w2.heap.size 3 i0 _ 1 8 Try.underlying33 hi hz0 hz1 hz2 rfl (by decide) _ zs.length _ rfl (World.ownsRow.alloc hO6 _) #[.int .i64 z] w5.heap.size rfl (Blk.new _ _ _) rfl (by simp [Value.oneCell']) (by omega) (by unfold maxLen; omega) (by rw [World.size_alloc]; omega) ?_; intro g7 c7 w7 o7 gr7 bl7 at7)
        have hG7 := near_step (near_step hG6 (World.grownBy_alloc w5 (.cells #[.int .i64 z] 3) (some (w.heap.size + 1))) (fun k hk => .inl hk.symm)) gr7 (fun k hk => .inr (own_lt hO6 k hk).1)
        rw [ints_snoc] at o7
        have hl7 : (zs ++ [z]).length = zs.length + 1 := by simp
        have HL7 := Lib.hid hl7
        clear hl7 gr7 bl7 at7 hO6 hG6
        have hNf := Cur.blk_ HC2.out hN2 hG7 (by decide)
        have hRf := Cur.blk_ HC2.out hR2 hG7 (by decide)
        have hOf := Cur.row HC2.out hO2 hG7 (by decide)
        have hBf := hB3.trans (below_near hG7 (by omega) hB3.size)
        have hf3 : Blk ((w7.setCell ⟨w.heap.size, 0, none⟩ (.int .i64 (N : Nat))).setCell ⟨w.heap.size, 1, none⟩ (.slice D cs.length d)) w.heap.size 26 #[.int .i64 (N : Nat), .slice D cs.length d] := by
          simpa using (hRf.set_ 0 (.int .i64 (N : Nat))).set_ 1 (.slice D cs.length d)
        obtain ⟨r0, r1⟩ := hf3.two
        have R0 := Lib.hid r0; have R1 := Lib.hid r1
        obtain ⟨z0, z1⟩ := hRf.two
        have f0 := hRf.frozen 0
        have f1 := hRf.frozen 1
        have hrl := hRf.lt
        have hgs := near_set (near_set (near_refl w7 (some w.heap.size)) 0 (.int .i64 (N : Nat))) 1 (.slice D cs.length d)
        have HOF := Lib.hid (hOf.kept hgs (.inr (own_blk_ne hOf hRf (by decide))))
        have HEF := Lib.hid (own_kept o7 hgs (own_blk_ne o7 hRf (by decide)))
        have HBF := Lib.hid (hBf.trans (below_near hgs (Nat.le_refl _) hBf.size))
        have HB3S := Lib.hid hB3.size
        obtain ⟨q0, q1⟩ := hNf.two
        have ql := hNf.lt
        clear hf3 r0 r1 hgs hOf hBf
        go_wp2_with fail
        exact bodyPost_ret (v := .tuple #[.agg #[.int .i64 (N : Nat), .slice D cs.length d], .slice (some ⟨g7, 0, none⟩) (zs.length + 1) c7]) (by simp [results, Try.results34, go_sem, R0.out, R1.out]) rfl (GotA.mk ⟨(N : Int), D, cs, d, some ⟨g7, 0, none⟩, (zs ++ [z]), c7, by rw [HL7.out], HOF.out, by rw [HL7.out]; exact own_base HEF.out HB3S.out, hW, hl1, by rw [HL7.out]; omega, HBF.out⟩)
end Go.Proofs.Yteigceeghnphmaa
