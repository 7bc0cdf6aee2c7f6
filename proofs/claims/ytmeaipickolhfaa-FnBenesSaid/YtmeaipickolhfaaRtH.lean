/- The routing of a Benes network: the state in memory, the inverse of a permutation. -/
import Derived.Test.YtmeaipickolhfaaRtM
import Derived.Test.YtmeaipickolhfaaTreeS
import Derived.Test.YtmeaipickolhfaaHold
import Derived.Test.YtmeaipickolhfaaBenes
import Derived.Deep.DeepCutAuto
namespace Go.Proofs.Ytmeaipickolhfaa
open Go.RowKit
set_option linter.unusedVariables false
theorem own_mkB {w : World} {base g k : Nat} {e : TypeId} (hb : base ≤ w.heap.size) (hg : w.heap.size = g) (hm : k ≤ maxLen) :
    (w.alloc (.cells (madeCells #[.bool false] k) e)).ownsRow base e 1 (.slice (some ⟨g, 0, none⟩) k k) k (bools (List.replicate k false)) := by
  subst hg
  have h := own_full (base := base) (e := e) (size := 1) w (madeCells #[.bool false] k) k hb hm (by simp [size_madeCells])
  have e2 : (madeCells #[Value.bool false] k).toList = bools (List.replicate k false) := by simp [bools, toList_madeCells_one]
  rwa [e2] at h
/-- the state of the routing -/
structure RtW (w0 w : World) (A : Option Addr) (P : List Nat) (n h gQ gI gO gK : Nat) (ins outs kn : List Bool) : Prop where
  b : Below w0.heap.size w0 w
  p : Reads w w0.heap.size 1 A n (nats P)
  q : w.ownsRow w0.heap.size 3 1 (.slice (some ⟨gQ, 0, none⟩) n n) n (nats (invL P))
  i : w.ownsRow w0.heap.size 4 1 (.slice (some ⟨gI, 0, none⟩) h h) h (bools ins)
  o : w.ownsRow w0.heap.size 4 1 (.slice (some ⟨gO, 0, none⟩) h h) h (bools outs)
  k : w.ownsRow w0.heap.size 4 1 (.slice (some ⟨gK, 0, none⟩) h h) h (bools kn)
  io : gI ≠ gO
  ik : gI ≠ gK
  ok : gO ≠ gK
section
variable {w0 w : World} {A : Option Addr} {P : List Nat} {n h gQ gI gO gK : Nat} {ins outs kn : List Bool}
theorem RtW.setI (hR : RtW w0 w A P n h gQ gI gO gK ins outs kn) (k : Nat) (v : Bool) : RtW w0 (w.setCell ⟨gI, k, none⟩ (.bool v)) A P n h gQ gI gO gK (ins.set k v) outs kn :=
  ⟨hR.b.setCell (p := ⟨gI, k, none⟩) (hR.i.lt gI rfl).1 _, hR.p.setCell (p := ⟨gI, k, none⟩) (hR.i.lt gI rfl).1 _, own_setCell hR.q (p := ⟨gI, k, none⟩) (by rcases own_ne_type hR.q hR.i (by decide) with e | e; exact absurd e (by simp [Value.ownBlock]); exact e) _, (by have := (hR.i.stored k (.bool v)).1; rwa [bools_set] at this), (own_setCell hR.o (p := ⟨gI, k, none⟩) (fun e => (Ne.symm hR.io) (Option.some.inj e)) _), (own_setCell hR.k (p := ⟨gI, k, none⟩) (fun e => (Ne.symm hR.ik) (Option.some.inj e)) _), hR.io, hR.ik, hR.ok⟩
theorem RtW.setO (hR : RtW w0 w A P n h gQ gI gO gK ins outs kn) (k : Nat) (v : Bool) : RtW w0 (w.setCell ⟨gO, k, none⟩ (.bool v)) A P n h gQ gI gO gK ins (outs.set k v) kn :=
  ⟨hR.b.setCell (p := ⟨gO, k, none⟩) (hR.o.lt gO rfl).1 _, hR.p.setCell (p := ⟨gO, k, none⟩) (hR.o.lt gO rfl).1 _, own_setCell hR.q (p := ⟨gO, k, none⟩) (by rcases own_ne_type hR.q hR.o (by decide) with e | e; exact absurd e (by simp [Value.ownBlock]); exact e) _, (own_setCell hR.i (p := ⟨gO, k, none⟩) (fun e => hR.io (Option.some.inj e)) _), (by have := (hR.o.stored k (.bool v)).1; rwa [bools_set] at this), (own_setCell hR.k (p := ⟨gO, k, none⟩) (fun e => (Ne.symm hR.ok) (Option.some.inj e)) _), hR.io, hR.ik, hR.ok⟩
theorem RtW.setK (hR : RtW w0 w A P n h gQ gI gO gK ins outs kn) (k : Nat) (v : Bool) : RtW w0 (w.setCell ⟨gK, k, none⟩ (.bool v)) A P n h gQ gI gO gK ins outs (kn.set k v) :=
  ⟨hR.b.setCell (p := ⟨gK, k, none⟩) (hR.k.lt gK rfl).1 _, hR.p.setCell (p := ⟨gK, k, none⟩) (hR.k.lt gK rfl).1 _, own_setCell hR.q (p := ⟨gK, k, none⟩) (by rcases own_ne_type hR.q hR.k (by decide) with e | e; exact absurd e (by simp [Value.ownBlock]); exact e) _, (own_setCell hR.i (p := ⟨gK, k, none⟩) (fun e => hR.ik (Option.some.inj e)) _), (own_setCell hR.o (p := ⟨gK, k, none⟩) (fun e => hR.ok (Option.some.inj e)) _), (by have := (hR.k.stored k (.bool v)).1; rwa [bools_set] at this), hR.io, hR.ik, hR.ok⟩
end
theorem gb_mem {l : List Bool} {i : Nat} (h : i < l.length) : l[i] = gb l i := by unfold gb; rw [List.getElem?_eq_getElem h]; rfl
theorem half_fact (y : Nat) : ∃ y2 r : Nat, (y : Int) / 2 = (y2 : Nat) ∧ (y : Int).tmod 2 = (r : Nat) ∧ y2 = y / 2 ∧ r = y % 2 ∧ (((r : Nat) : Int) == 1) = (y % 2 == 1) := by
  refine ⟨y / 2, y % 2, by omega, by rw [Int.tmod_eq_emod_of_nonneg (by omega)]; omega, rfl, rfl, ?_⟩
  rcases Nat.mod_two_eq_zero_or_one y with h | h <;> rw [h] <;> rfl
theorem xor_fact {y : Nat} (h : y < 64) : bits .xor .i64 (y : Int) 1 = (nx y : Nat) := by
  have H : ∀ y : Fin 64, bits .xor .i64 ((y.val : Nat) : Int) 1 = ((nx y.val : Nat) : Int) := by decide +kernel
  exact H ⟨y, h⟩
set_option maxRecDepth 100000 in
set_option maxHeartbeats 1600000 in
theorem inverse_any (A : Option Addr) (P : List Nat) (n c : Nat) (w : World) (hP : PermN P n) (hn : n ≤ 1048576) (hx : Reads w w.heap.size 1 A n (nats P)) :
    Calls Try.prog 52 #[.slice A n c] w fun e w' => ∃ g, e = .returned (.slice (some ⟨g, 0, none⟩) n n) ∧ w'.ownsRow w.heap.size 3 1 (.slice (some ⟨g, 0, none⟩) n n) n (nats (invL P)) ∧ Below w.heap.size w w' := by
  obtain ⟨i0, hi, hz0, hz1, hz2⟩ := info_parts (show (Try.prog.info? 3).map (fun i => (i.zero, i.size, i.bytes)) = some (some (.int .i64 0), 1, 8) by kernel_rfl)
  have hz0' : (madeCells (Value.int .i64 0).cells (n * 1)).toList = nats (List.replicate n 0) := by
    rw [Nat.mul_one]; simp [nats, ints, Value.cells, toList_madeCells_one]
  obtain ⟨w1, hmk, hown, hgr⟩ := run_make_full (P := Try.prog) w w.heap.size 22 3 i0 (.int .i64 0) 1 Try.underlying22 hi hz0 hz1 .i64 .i64 n (by rw [hz2]; omega) (by unfold maxLen; omega) (Nat.le_refl _)
  have hb1 : Below w.heap.size w w1 := (Below.refl _ _).grown hgr (Nat.le_refl _) (by simp)
  rw [hz0'] at hown
  have HP := Lib.hid hP
  have HL := Lib.hid hP.len
  clear hP
  go_enter Try.func52, Try.ntmps52
  go_wp2_with fail
  clear hmk
  go_loopw [11] (fun i wr => ∃ (k : Nat) (ys : List Nat), k ≤ n ∧ i = .int .i64 (k : Nat) ∧ Hid (ys.length = n) ∧ Hid (∀ j, j < k → atN ys (atN P j) = j) ∧
      wr.ownsRow w.heap.size 3 1 (.slice (some ⟨w.heap.size, 0, none⟩) n n) n (nats ys) ∧ Below w.heap.size w wr) (fun i _ => n - (intOf i).toNat)
  case atStart => exact ⟨0, List.replicate n 0, by omega, rfl, Lib.hid (by simp), Lib.hid (fun j hj => by omega), hown, hb1⟩
  case round =>
    clear hown hb1 hgr
    obtain ⟨k, ys, hk, rfl, HY, HJ, hown, hb⟩ := hrel
    by_cases hlt : k < n
    · have hkI : (k : Int) < (n : Int) := by omega
      have hlp : k < P.length := by rw [HL.out]; exact hlt
      obtain ⟨ad, u, rfl, -, hu, hc⟩ := (hx.below hb).at_ hlt
      rw [nats_get hlp] at hu
      cases hu
      have hxn : P[k] < n := HP.out.lt _ (List.getElem_mem _)
      have HXK : Hid (atN P k = P[k]) := Lib.hid (atN_mem hlp)
      generalize P[k] = x at *
      have hxI : (x : Int) < (n : Int) := by omega
      have hc2 := hown.cellAt x (by omega)
      rw [nats_get (by rw [HY.out]; exact hxn)] at hc2
      have hf2 := hown.frozenAt x
      clear hlp
      go_wp2_with fail
      go_roundw
      case rel =>
        have hs := hown.stored x (.int .i64 (k : Nat))
        rw [nats_set] at hs
        have h2 := HP.out.two
        exact ⟨k + 1, ys.set x k, by omega, by go_num, Lib.hid (by rw [List.length_set]; exact HY.out), Lib.hid (fun j hj => by
          have hYl := HY.out
          by_cases e : j = k
          · subst e
            rw [HXK.out]; unfold atN; rw [List.getElem?_set_self (by omega)]; rfl
          · have hne : x ≠ atN P j := fun e2 => e (by rw [← h2.qp j (by omega), ← h2.qp k hlt, HXK.out, e2])
            have h9 := HJ.out j (by omega)
            unfold atN at h9 ⊢
            unfold atN at hne
            rw [List.getElem?_set_ne hne]
            exact h9), hs.1, hb.grown hs.2 hb.size (by simp)⟩
      case measure => simp [intOf]; omega
    · have hkI : ¬ (k : Int) < (n : Int) := by omega
      have he : ys = invL P := by
        obtain rfl : k = n := by omega
        have h2 := HP.out.two
        apply List.ext_getElem (by rw [HY.out]; simp [invL, HL.out])
        intro j h3 h4
        have hjn : j < k := by rw [HY.out] at h3; exact h3
        have h5 := HJ.out (atN (invL P) j) (h2.ql j hjn)
        rw [h2.pq j hjn] at h5
        rw [← atN_mem h3, ← atN_mem h4, h5]
      have HE := Lib.hid he
      clear he
      go_wp2_with fail
      go_ret
      exact ⟨w.heap.size, rfl, by rw [← HE.out]; exact hown, hb⟩
set_option maxRecDepth 100000 in
set_option maxHeartbeats 1600000 in
theorem l3Inverse_any (A : Option Addr) (P : List Nat) (n c : Nat) (w : World) (hP : PermN P n) (hn : n ≤ 1048576) (hx : Reads w w.heap.size 1 A n (nats P)) :
    Calls Try.prog 51 #[.slice A n c] w fun e w' => ∃ g, e = .returned (.slice (some ⟨g, 0, none⟩) n n) ∧ w'.ownsRow w.heap.size 3 1 (.slice (some ⟨g, 0, none⟩) n n) n (nats (invL P)) ∧ Below w.heap.size w w' := by
  obtain ⟨i0, hi, hz0, hz1, hz2⟩ := info_parts (show (Try.prog.info? 3).map (fun i => (i.zero, i.size, i.bytes)) = some (some (.int .i64 0), 1, 8) by kernel_rfl)
  have hz0' : (madeCells (Value.int .i64 0).cells (n * 1)).toList = nats (List.replicate n 0) := by
    rw [Nat.mul_one]; simp [nats, ints, Value.cells, toList_madeCells_one]
  obtain ⟨w1, hmk, hown, hgr⟩ := run_make_full (P := Try.prog) w w.heap.size 22 3 i0 (.int .i64 0) 1 Try.underlying22 hi hz0 hz1 .i64 .i64 n (by rw [hz2]; omega) (by unfold maxLen; omega) (Nat.le_refl _)
  have hb1 : Below w.heap.size w w1 := (Below.refl _ _).grown hgr (Nat.le_refl _) (by simp)
  rw [hz0'] at hown
  have HP := Lib.hid hP
  have HL := Lib.hid hP.len
  clear hP
  go_enter Try.func51, Try.ntmps51
  go_wp2_with fail
  clear hmk
  go_loopw [4] (fun i wr => ∃ (k : Nat) (ys : List Nat), k ≤ n ∧ i = .int .i64 (k : Nat) ∧ Hid (ys.length = n) ∧ Hid (∀ j, j < k → atN ys (atN P j) = j) ∧
      wr.ownsRow w.heap.size 3 1 (.slice (some ⟨w.heap.size, 0, none⟩) n n) n (nats ys) ∧ Below w.heap.size w wr) (fun i _ => n - (intOf i).toNat)
  case atStart => exact ⟨0, List.replicate n 0, by omega, rfl, Lib.hid (by simp), Lib.hid (fun j hj => by omega), hown, hb1⟩
  case round =>
    clear hown hb1 hgr
    obtain ⟨k, ys, hk, rfl, HY, HJ, hown, hb⟩ := hrel
    by_cases hlt : k < n
    · have hkI : (k : Int) < (n : Int) := by omega
      have hlp : k < P.length := by rw [HL.out]; exact hlt
      obtain ⟨ad, u, rfl, -, hu, hc⟩ := (hx.below hb).at_ hlt
      rw [nats_get hlp] at hu
      cases hu
      have hxn : P[k] < n := HP.out.lt _ (List.getElem_mem _)
      have HXK : Hid (atN P k = P[k]) := Lib.hid (atN_mem hlp)
      generalize P[k] = x at *
      have hxI : (x : Int) < (n : Int) := by omega
      have hc2 := hown.cellAt x (by omega)
      rw [nats_get (by rw [HY.out]; exact hxn)] at hc2
      have hf2 := hown.frozenAt x
      clear hlp
      go_wp2_with fail
      go_roundw
      case rel =>
        have hs := hown.stored x (.int .i64 (k : Nat))
        rw [nats_set] at hs
        have h2 := HP.out.two
        exact ⟨k + 1, ys.set x k, by omega, by go_num, Lib.hid (by rw [List.length_set]; exact HY.out), Lib.hid (fun j hj => by
          have hYl := HY.out
          by_cases e : j = k
          · subst e
            rw [HXK.out]; unfold atN; rw [List.getElem?_set_self (by omega)]; rfl
          · have hne : x ≠ atN P j := fun e2 => e (by rw [← h2.qp j (by omega), ← h2.qp k hlt, HXK.out, e2])
            have h9 := HJ.out j (by omega)
            unfold atN at h9 ⊢
            unfold atN at hne
            rw [List.getElem?_set_ne hne]
            exact h9), hs.1, hb.grown hs.2 hb.size (by simp)⟩
      case measure => simp [intOf]; omega
    · have hkI : ¬ (k : Int) < (n : Int) := by omega
      have he : ys = invL P := by
        obtain rfl : k = n := by omega
        have h2 := HP.out.two
        apply List.ext_getElem (by rw [HY.out]; simp [invL, HL.out])
        intro j h3 h4
        have hjn : j < k := by rw [HY.out] at h3; exact h3
        have h5 := HJ.out (atN (invL P) j) (h2.ql j hjn)
        rw [h2.pq j hjn] at h5
        rw [← atN_mem h3, ← atN_mem h4, h5]
      have HE := Lib.hid he
      clear he
      go_wp2_with fail
      go_ret
      exact ⟨w.heap.size, rfl, by rw [← HE.out]; exact hown, hb⟩
end Go.Proofs.Ytmeaipickolhfaa
