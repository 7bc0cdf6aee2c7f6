/- The matches of a tree: the program's side. -/
import Derived.Test.YtifjihpnhmemgaaTree
namespace Go.Proofs.Ytifjihpnhmemgaa
open Go.RowKit
set_option linter.unusedVariables false
theorem grown_step {w w1 w2 : World} {row row2 : Option Nat} (h : w.grownBy w1 row) (h2 : w1.grownBy w2 row2) (hr : ∀ k, row2 = some k → some k = row ∨ w.heap.size ≤ k) : w.grownBy w2 row :=
  ⟨h2.os.trans h.os, h2.tape.trans h.tape, h2.output.trans h.output, Nat.le_trans h.size h2.size, fun k hk hne =>
    (h2.block k (Nat.lt_of_lt_of_le hk h.size) (fun e => by rcases hr k e.symm with h3 | h3; exact hne h3; omega)).trans (h.block k hk hne)⟩
theorem grown_set {w w1 : World} {p : Nat} (h : w.grownBy w1 (some p)) (i : Nat) (u : Value) : w.grownBy (w1.setCell ⟨p, i, none⟩ u) (some p) :=
  grown_step h (row2 := some p) ⟨rfl, rfl, rfl, by simp [World.setCell], fun k hk hne => Below.heap_setCell w1 _ u k (by rintro rfl; exact hne rfl)⟩ (fun k hk => .inl hk.symm)
theorem play_carry {w wr w6 : World} {n0 p B1 B2 k1 k2 : Nat} {T t : TypeId} {cs : Array Value} {v1 v2 : Value} {xs ys : List Value} {row : Option Nat} (h6 : ∃ n, w6 = (wr.drewN n0).drewN n) (hblk : Blk wr p T cs)
    (h1 : wr.ownsRow B1 t 1 v1 k1 xs) (h2 : wr.ownsRow B2 t 1 v2 k2 ys) (hg : w.grownBy wr row) : Blk w6 p T cs ∧ w6.ownsRow B1 t 1 v1 k1 xs ∧ w6.ownsRow B2 t 1 v2 k2 ys ∧ w.grownBy w6 row := by
  obtain ⟨n, rfl⟩ := h6
  exact ⟨hblk, h1, h2, ⟨hg.os, hg.tape, hg.output, hg.size, hg.block⟩⟩
set_option maxRecDepth 100000 in
set_option maxHeartbeats 6400000 in
theorem play_any (p : Nat) (AK AD : Option Addr) (ks : List Int) (ds : List Bool) (k cK cD : Nat) (VL : Value) (z : Int) (w : World) (hblk : Blk w p 54 #[.slice AK k cK, .slice AD k cD, VL, .int .i64 z])
    (hk : ks.length = k) (hd : ds.length = k) (hK : Reads w p 1 AK ks.length (ints ks)) (hD : Reads w p 1 AD ds.length (bools ds)) (h1 : 1 ≤ k) (hk20 : k ≤ 1048576) :
    Calls Try.prog 48 #[.pointer (some ⟨p, 0, none⟩)] w fun e w' => e = .returned (.tuple #[]) ∧ ∃ gL, Blk w' p 54 #[.slice AK k cK, .slice AD k cD, .slice (some ⟨gL, 0, none⟩) k k, .int .i64 (winnerV ks ds : Nat)] ∧
      w'.ownsRow w.heap.size 3 1 (.slice (some ⟨gL, 0, none⟩) k k) k (nats (loserV ks ds)) ∧ w.grownBy w' (some p) := by
  obtain ⟨i0, hi, hz0, hz1, hz2⟩ := info_parts (show (Try.prog.info? 3).map (fun i => (i.zero, i.size, i.bytes)) = some (some (.int .i64 0), 1, 8) by kernel_rfl)
  have hpl := hblk.lt
  have hmd : ∀ n : Nat, (madeCells (Value.int .i64 0).cells (n * 1)).toList = nats (List.replicate n 0) := by
    intro n; rw [Nat.mul_one]; simp [nats, ints, Value.cells, toList_madeCells_one]
  obtain ⟨w1, hmk, hown, hgr⟩ := run_make_full (P := Try.prog) w w.heap.size 51 3 i0 (.int .i64 0) 1 Try.underlying51 hi hz0 hz1 .i64 .i64 (2 * k) (by rw [hz2]; omega) (by unfold maxLen; omega) (Nat.le_refl _)
  have hcast : ((2 * k : Nat) : Int) = 2 * (k : Int) := by omega
  rw [hmd] at hown
  rw [hcast] at hmk
  have hb1 : w.grownBy w1 (some p) := ⟨hgr.os, hgr.tape, hgr.output, hgr.size, fun q hq _ => hgr.block q hq (by simp)⟩
  have c0 : w.cell? ⟨p, 0, none⟩ = some (.slice AK k cK) := hblk.cell 0
  have hblk1 : Blk w1 p 54 #[.slice AK k cK, .slice AD k cD, VL, .int .i64 z] := (hgr.block p hpl (by simp)).trans hblk
  have hI2 : (0 : Int) ≤ 2 * (k : Int) := by omega
  have HW0 : Hid ((List.replicate (2 * k) 0).take k = (List.replicate k 0 ++ List.range k).take k) := Lib.hid (by rw [List.take_left' (by simp)]; simp; omega)
  go_enter Try.func48, Try.ntmps48
  go_wp2_with fail
  clear hmk
  go_loopw [17] (fun i wr => ∃ (q : Nat) (ws : List Nat), q ≤ k ∧ i = .int .i64 q ∧ Hid (ws.length = 2 * k ∧ ws.take (k + q) = (List.replicate k 0 ++ List.range k).take (k + q)) ∧
      wr.ownsRow w.heap.size 3 1 (.slice (some ⟨w.heap.size, 0, none⟩) (2 * k) (2 * k)) (2 * k) (nats ws) ∧ Blk wr p 54 #[.slice AK k cK, .slice AD k cD, VL, .int .i64 z] ∧ w.grownBy wr (some p)) (fun i _ => k - (intOf i).toNat)
  case atStart => exact ⟨0, List.replicate (2 * k) 0, by omega, rfl, Lib.hid ⟨by simp, HW0.out⟩, hown, hblk1, hb1⟩
  case round =>
    clear hown hblk1 hb1 HW0 hblk c0
    obtain ⟨q, ws, hq, rfl, HW, hown, hblk, hg⟩ := hrel
    have hwl := HW.out.1
    by_cases hlt : q < k
    · have c2 := hown.cellAt (k + q) (by omega)
      obtain ⟨xq, hxq⟩ : ∃ xq, (nats ws)[k + q]? = some xq := ⟨_, nats_get (by omega)⟩
      rw [hxq] at c2
      have f2 := hown.frozenAt (k + q)
      have HWL := Lib.hid hwl; clear hwl hxq
      have i1 : (k : Int) + q < 2 * (k : Int) := by omega
      have i2 : ((k : Int) + q).toNat = k + q := by omega
      have i3 : (0 : Int) ≤ (k : Int) + q := by omega
      have hs := hown.stored (k + q) (.int .i64 (q : Nat))
      rw [nats_set] at hs
      have HS := Lib.hid hs; clear hs
      go_wp2_with fail
      go_roundw
      case rel =>
        refine ⟨q + 1, ws.set (k + q) q, by omega, by go_num, Lib.hid ⟨by simp [HWL.out], ?_⟩, HS.out.1, hblk.grown HS.out.2 (fun e => by have h1 : p = w.heap.size := Option.some.inj e; omega), grown_step hg HS.out.2 (fun j hj => .inr (by have h1 : w.heap.size = j := Option.some.inj hj; omega))⟩
        have e := set_take_succ (ys := ws) (zs := List.replicate k 0 ++ List.range k) (k := k + q) (by simp [HWL.out]; omega) HW.out.2 (by simp; omega)
        have e2 : (List.replicate k 0 ++ List.range k)[k + q]'(by simp; omega) = q := by
          rw [List.getElem_append_right (by simp)]; simp
        rw [e2] at e
        exact e
      case measure => simp [intOf]; omega
    · have hws : ws = (plK ks ds 0).1 := by
        have h := take_all_eq (ys := ws) (zs := List.replicate k 0 ++ List.range k) (by rw [hwl]; simp; omega) (k := k + q) (by simp; omega) HW.out.2
        rw [h]; simp [plK, hk]
      rw [hws] at hown
      clear hws hwl HW
      have hwk : ks.length = k := hk
      obtain ⟨w5, hmk5, hown5, hgr5⟩ := run_make_full (P := Try.prog) wr w.heap.size 51 3 i0 (.int .i64 0) 1 Try.underlying51 hi hz0 hz1 .i64 .i64 k (by rw [hz2]; omega) (by unfold maxLen; omega) hg.size
      rw [hmd] at hown5
      have hgs := hg.size
      have hg5 : w.grownBy w5 (some p) := grown_step hg hgr5 (by intro j hj; cases hj)
      have hownW := hown.kept hgr5 (.inr (by simp [Value.ownBlock]))
      have hblk5 := hblk.grown hgr5 (by simp)
      have x0 : w5.cell? ⟨p, 0, none⟩ = some (.slice AK k cK) := hblk5.cell 0
      have x2 : w5.cell? ⟨p, 2, none⟩ = some VL := hblk5.cell 2
      have y2 := hblk5.frozen 2
      have hp5 := hblk5.lt
      have hbS := hblk5.set_ 2 (.slice (some ⟨wr.heap.size, 0, none⟩) k k)
      have hnp : p ≠ wr.heap.size := by omega
      have hoW := own_setCell hownW (p := ⟨p, 2, none⟩) (by intro e; have h1 : w.heap.size = p := Option.some.inj e; omega) (.slice (some ⟨wr.heap.size, 0, none⟩) k k)
      have hoL := own_setCell hown5 (p := ⟨p, 2, none⟩) (by intro e; have h1 : wr.heap.size = p := Option.some.inj e; omega) (.slice (some ⟨wr.heap.size, 0, none⟩) k k)
      have hgS : w.grownBy (w5.setCell ⟨p, 2, none⟩ (.slice (some ⟨wr.heap.size, 0, none⟩) k k)) (some p) := grown_set hg5 _ _
      have HBS := Lib.hid hbS; have HOW := Lib.hid hoW; have HOL := Lib.hid hoL; have HGS := Lib.hid hgS
      clear hbS hoW hoL hgS
      have HGW : Hid (w.heap.size ≠ wr.heap.size ∧ p < wr.heap.size ∧ w.heap.size ≤ wr.heap.size) := Lib.hid ⟨fun e => by
        obtain ⟨_, hlt2⟩ := own_lt hown w.heap.size rfl
        omega, by omega, hgs⟩
      have hkj : (k : Int) - 1 = ((k - 1 : Nat) : Int) := by omega
      have HKJ := Lib.hid hkj; clear hkj
      go_wp2_with fail
      rw [HKJ.out]
      clear hmk5 hown5 hownW hblk5 hg5 hgr5 x0 x2 y2
      generalize wr.heap.size = gL at *
      go_loopw [5] (fun jv wv => ∃ t j : Nat, t + j = k - 1 ∧ jv = .int .i64 (j : Nat) ∧ Blk wv p 54 #[.slice AK k cK, .slice AD k cD, .slice (some ⟨gL, 0, none⟩) k k, .int .i64 z] ∧
          wv.ownsRow w.heap.size 3 1 (.slice (some ⟨w.heap.size, 0, none⟩) (2 * k) (2 * k)) (2 * k) (nats (plK ks ds t).1) ∧ wv.ownsRow w.heap.size 3 1 (.slice (some ⟨gL, 0, none⟩) k k) k (nats (plK ks ds t).2) ∧ w.grownBy wv (some p)) (fun jv _ => (intOf jv).toNat)
      case atStart => exact ⟨0, k - 1, by omega, rfl, HBS.out, HOW.out, by simpa [plK, hk] using HOL.out, HGS.out⟩
      case round =>
        clear HBS HOW HOL HGS hown hblk hg hgs
        obtain ⟨t, j, htj, rfl, hblk, hoW, hoL, hg⟩ := hrel
        obtain ⟨hl1, hl2⟩ := plK_len ks ds t
        by_cases hj : 1 ≤ j
        · have hbl := hblk
          have hKv := hK.grown hg (by omega) (fun q hq => by have h1 : p = q := Option.some.inj hq; omega)
          have hDv := hD.grown hg (by omega) (fun q hq => by have h1 : p = q := Option.some.inj hq; omega)
          have hps := plK_succ (ks := ks) (ds := ds) (t := t) (j := j) (by omega) (by omega)
          have ca := hoW.cellAt (2 * j) (by omega)
          have cb := hoW.cellAt (2 * j + 1) (by omega)
          rw [nats_get (by omega)] at ca cb
          have hal : (plK ks ds t).1[2 * j]'(by omega) < k := by
            have := plK_lt (ks := ks) (ds := ds) (by omega) t (2 * j)
            rwa [List.getElem?_eq_getElem (by omega), Option.getD_some, hk] at this
          have hbl2 : (plK ks ds t).1[2 * j + 1]'(by omega) < k := by
            have := plK_lt (ks := ks) (ds := ds) (by omega) t (2 * j + 1)
            rwa [List.getElem?_eq_getElem (by omega), Option.getD_some, hk] at this
          obtain ⟨xW, hxW⟩ : ∃ xW, (nats (plK ks ds t).1)[j]? = some xW := ⟨_, nats_get (by omega)⟩
          obtain ⟨xL, hxL⟩ : ∃ xL, (nats (plK ks ds t).2)[j]? = some xL := ⟨_, nats_get (by omega)⟩
          have HXW := Lib.hid hxW
          have HXL := Lib.hid hxL
          have HPS := Lib.hid hps
          clear hps hxW hxL
          generalize (plK ks ds t).1[2 * j]'(by omega) = a at *
          generalize (plK ks ds t).1[2 * j + 1]'(by omega) = b at *
          obtain ⟨hne1, hpl2, hgl3⟩ := HGW.out
          have hsz := hg.size
          have hKv := hKv.more (show p ≤ wr.heap.size by omega)
          have hDv := hDv.more (show p ≤ wr.heap.size by omega)
          have ew1 : IntKind.i64.wrap (2 * (j : Int)) = 2 * (j : Int) := IntWalk.i64_in _ (by omega)
          have ew2 : IntKind.i64.wrap (2 * (j : Int) + 1) = 2 * (j : Int) + 1 := IntWalk.i64_in _ (by omega)
          have i1 : (0 : Int) ≤ 2 * (j : Int) := by omega
          have i2 : 2 * (j : Int) < 2 * (k : Int) := by omega
          have i3 : (2 * (j : Int)).toNat = 2 * j := by omega
          have i4 : (0 : Int) ≤ 2 * (j : Int) + 1 := by omega
          have i5 : 2 * (j : Int) + 1 < 2 * (k : Int) := by omega
          have i6 : (2 * (j : Int) + 1).toNat = 2 * j + 1 := by omega
          have i7 : (1 : Int) ≤ (j : Int) := by omega
          have i8 : (j : Int) < 2 * (k : Int) := by omega
          have i9 : (j : Int) < (k : Int) := by omega
          clear hl1 hl2
          cases hbt : beatsB ks ds b a
          · have HBT := Lib.hid hbt
            have HW1 := Lib.hid (show winO ks ds a b = a by simp [winO, hbt])
            have HL1 := Lib.hid (show losO ks ds a b = b by simp [losO, hbt])
            clear hbt
            go_wp2_with fail
            go_quiet (fail)
            go_wp2_with (go_at_call 55; refine (beats_any p AK AD ks ds k cK cD _ _ b a (wr.drewN nq) (by exact hblk) hk hd (by exact hKv) (by exact hDv) hbl2 hal hk20).mono ?_; rintro e w6 ⟨rfl, h6⟩; rw [HBT.out]; obtain ⟨q0, q1, q2, q3⟩ := play_carry h6 hblk hoW hoL hg; have cW := (q1.cellAt j (by omega)).trans HXW.out; have cL := (q2.cellAt j (by omega)).trans HXL.out; have fW := q1.frozenAt j; have fL := q2.frozenAt j; have x2 : w6.cell? ⟨p, 2, none⟩ = some (.slice (some ⟨gL, 0, none⟩) k k) := q0.cell 2)
            have t1 := q1.stored j (.int .i64 (a : Nat))
            rw [nats_set] at t1
            have t2 := own_setCell t1.1 (p := ⟨gL, j, none⟩) (by intro e; have h1 : w.heap.size = gL := Option.some.inj e; exact hne1 h1) (.int .i64 (b : Nat))
            have t3 := own_setCell q2 (p := ⟨w.heap.size, j, none⟩) (by intro e; have h1 : gL = w.heap.size := Option.some.inj e; exact hne1 h1.symm) (.int .i64 (a : Nat))
            have t4 := t3.stored j (.int .i64 (b : Nat))
            rw [nats_set] at t4
            have T2 := Lib.hid t2; have T4 := Lib.hid t4.1
            have t5 := (q0.far (p := ⟨w.heap.size, j, none⟩) (by simp; omega) (.int .i64 (a : Nat))).far (p := ⟨gL, j, none⟩) (by simp; omega) (.int .i64 (b : Nat))
            have T5 := Lib.hid t5
            have T6 := Lib.hid (grown_step (grown_step q3 t1.2 (fun q hq => .inr (by have h1 : w.heap.size = q := Option.some.inj hq; omega))) t4.2 (fun q hq => .inr (by have h1 : gL = q := Option.some.inj hq; omega)))
            clear t1 t2 t3 t4 t5
            go_wp2_with fail
            go_roundw
            case rel => exact ⟨t + 1, j - 1, by omega, by rw [show ((j : Int) - 1) = ((j - 1 : Nat) : Int) by omega], T5.out, by rw [HPS.out, HW1.out, HL1.out]; exact T2.out, by rw [HPS.out, HW1.out, HL1.out]; exact T4.out, T6.out⟩
            case measure => simp [intOf]; omega
          · have HBT := Lib.hid hbt
            have HW1 := Lib.hid (show winO ks ds a b = b by simp [winO, hbt])
            have HL1 := Lib.hid (show losO ks ds a b = a by simp [losO, hbt])
            clear hbt
            go_wp2_with fail
            go_quiet (fail)
            go_wp2_with (go_at_call 55; refine (beats_any p AK AD ks ds k cK cD _ _ b a (wr.drewN nq) (by exact hblk) hk hd (by exact hKv) (by exact hDv) hbl2 hal hk20).mono ?_; rintro e w6 ⟨rfl, h6⟩; rw [HBT.out]; obtain ⟨q0, q1, q2, q3⟩ := play_carry h6 hblk hoW hoL hg; have cW := (q1.cellAt j (by omega)).trans HXW.out; have cL := (q2.cellAt j (by omega)).trans HXL.out; have fW := q1.frozenAt j; have fL := q2.frozenAt j; have x2 : w6.cell? ⟨p, 2, none⟩ = some (.slice (some ⟨gL, 0, none⟩) k k) := q0.cell 2)
            have t1 := q1.stored j (.int .i64 (b : Nat))
            rw [nats_set] at t1
            have t2 := own_setCell t1.1 (p := ⟨gL, j, none⟩) (by intro e; have h1 : w.heap.size = gL := Option.some.inj e; exact hne1 h1) (.int .i64 (a : Nat))
            have t3 := own_setCell q2 (p := ⟨w.heap.size, j, none⟩) (by intro e; have h1 : gL = w.heap.size := Option.some.inj e; exact hne1 h1.symm) (.int .i64 (b : Nat))
            have t4 := t3.stored j (.int .i64 (a : Nat))
            rw [nats_set] at t4
            have T2 := Lib.hid t2; have T4 := Lib.hid t4.1
            have t5 := (q0.far (p := ⟨w.heap.size, j, none⟩) (by simp; omega) (.int .i64 (b : Nat))).far (p := ⟨gL, j, none⟩) (by simp; omega) (.int .i64 (a : Nat))
            have T5 := Lib.hid t5
            have T6 := Lib.hid (grown_step (grown_step q3 t1.2 (fun q hq => .inr (by have h1 : w.heap.size = q := Option.some.inj hq; omega))) t4.2 (fun q hq => .inr (by have h1 : gL = q := Option.some.inj hq; omega)))
            clear t1 t2 t3 t4 t5
            go_wp2_with fail
            go_roundw
            case rel => exact ⟨t + 1, j - 1, by omega, by rw [show ((j : Int) - 1) = ((j - 1 : Nat) : Int) by omega], T5.out, by rw [HPS.out, HW1.out, HL1.out]; exact T2.out, by rw [HPS.out, HW1.out, HL1.out]; exact T4.out, T6.out⟩
            case measure => simp [intOf]; omega
        · have hj0 : j = 0 := by omega
          subst hj0
          obtain ⟨hne1, hpl2, hgl3⟩ := HGW.out
          have hT : t = ks.length - 1 := by omega
          have c1 := hoW.cellAt 1 (by omega)
          rw [nats_get (by omega)] at c1
          have x3 : wr.cell? ⟨p, 3, none⟩ = some (.int .i64 z) := hblk.cell 3
          have y3 := hblk.frozen 3
          have hwv : (plK ks ds t).1[1]'(by omega) = winnerV ks ds := by
            unfold winnerV; rw [← hT, List.getElem?_eq_getElem (by omega)]; rfl
          rw [hwv] at c1
          have hlv : (plK ks ds t).2 = loserV ks ds := by unfold loserV; rw [← hT]
          rw [hlv] at hoL
          have HLS := Lib.hid (own_setCell hoL (p := ⟨p, 3, none⟩) (by intro e; have h1 : gL = p := Option.some.inj e; omega) (.int .i64 (winnerV ks ds : Nat)))
          have HBS := Lib.hid (hblk.set_ 3 (.int .i64 (winnerV ks ds : Nat)))
          have HGS := Lib.hid (grown_set hg 3 (.int .i64 (winnerV ks ds : Nat)))
          have hI : (1 : Int) < 2 * (k : Int) := by omega
          have hpv := hblk.lt
          clear hT hwv hlv
          generalize hWE : winnerV ks ds = W at *
          have HWE := Lib.hid hWE; clear hWE
          go_wp2_with fail
          exact bodyPost_end (results_none rfl _ _ _) rfl ⟨rfl, gL, by rw [HWE.out]; exact HBS.out, HLS.out, HGS.out⟩
end Go.Proofs.Ytifjihpnhmemgaa
