/- The reference's routing of a Benes network. -/
import Derived.Test.YtmeaipickolhfaaRtW
import Derived.Deep.DeepCutAuto
namespace Go.Proofs.Ytmeaipickolhfaa
open Go.RowKit
set_option linter.unusedVariables false
theorem one_b (z : List Bool) : ∀ u ∈ bools z, u.oneCell' = true := by
  intro u hu
  simp only [bools, List.mem_map] at hu
  obtain ⟨b, _, rfl⟩ := hu
  rfl
theorem blk_ge {v v' : Value} {N M : Nat} (h : ∀ k, v.ownBlock = some k → N ≤ k) (ha : v'.ownBlock = v.ownBlock ∨ v'.ownBlock = some M) (hM : N ≤ M) : ∀ k, v'.ownBlock = some k → N ≤ k := by
  intro k hk
  rcases ha with e | e
  · exact h k (e ▸ hk)
  · rw [e] at hk; cases hk; exact hM
theorem ne_of_ge {v : Value} {N g : Nat} (h : ∀ k, v.ownBlock = some k → N ≤ k) (hg : g < N) : v.ownBlock ≠ some g := fun e => by have := h g e; omega
theorem own_ofI {w : World} {base g h : Nat} {e : TypeId} (hb : Blk w g e (madeCells #[.int .i64 0] h)) (hg : base ≤ g) (hm : h ≤ maxLen) : w.ownsRow base e 1 (.slice (some ⟨g, 0, none⟩) h h) h (nats (List.replicate h 0)) := by
  have e2 : (madeCells #[Value.int .i64 0] h).toList = nats (List.replicate h 0) := by simp [nats, ints, toList_madeCells_one]
  refine ⟨by simp, .inr ⟨g, h, _, rfl, hg, hb, Nat.le_refl _, hm, by simp [size_madeCells], ?_⟩⟩
  rw [e2]
  exact List.take_of_length_le (by simp)
theorem rb_zero (p q : Nat → Nat) (h : Nat) : RB p q h (List.replicate h false) (List.replicate h false) (List.replicate h false) [] :=
  ⟨by simp, by simp, by simp, by simp, by simp, fun k => by simp [gb_rep], by simp, by simp, by simp, by simp, fun k _ => by simp [gb_rep], by simp⟩
theorem set_swap (l : List Bool) (k j : Nat) : (l.set j true).set k true = (l.set k true).set j true := by
  by_cases h : j = k
  · rw [h]
  · exact List.set_comm _ _ h
/-- the two lists of the next stage, as far as the cycles have come -/
structure UD (p q : Nat → Nat) (h : Nat) (X up dn : List Nat) : Prop where
  lu : up.length = h
  ld : dn.length = h
  v : ∀ x ∈ X, atN up (q x / 2) = x / 2 ∧ atN dn (q x / 2) = p (nx (q x)) / 2
theorem atN_set (l : List Nat) (k j v : Nat) (hk : k < l.length) : atN (l.set k v) j = if k = j then v else atN l j := by
  unfold atN
  by_cases h : k = j
  · subst h; rw [List.getElem?_set_self hk, if_pos rfl]; rfl
  · rw [List.getElem?_set_ne h, if_neg h]
theorem UD.step {p q : Nat → Nat} {h x y2 x2 u2 : Nat} {X up dn : List Nat} (hu : UD p q h X up dn) (hf : q x / 2 ∉ X.map (q · / 2)) (hy : q x / 2 = y2) (hx : x2 = x / 2) (hz : p (nx (q x)) / 2 = u2) (hl : y2 < h) : UD p q h (x :: X) (up.set y2 x2) (dn.set y2 u2) := by
  have lu := hu.lu
  have ld := hu.ld
  refine ⟨by simpa using lu, by simpa using ld, fun y hm => ?_⟩
  rw [atN_set _ _ _ _ (by omega), atN_set _ _ _ _ (by omega)]
  rcases List.mem_cons.1 hm with rfl | hm
  · rw [if_pos hy.symm, if_pos hy.symm, hx, hz]
    exact ⟨rfl, rfl⟩
  · have hne : ¬ y2 = q y / 2 := fun e => hf (by rw [hy, e]; exact List.mem_map_of_mem (f := (q · / 2)) hm)
    rw [if_neg hne, if_neg hne]
    exact hu.v y hm
theorem UD.done {P Q : List Nat} {h : Nat} {X up dn : List Nat} {ins outs kn : List Bool} (hu : UD (atN P) (atN Q) h X up dn) (hp : Perm2 (atN P) (atN Q) (2 * h)) (hr : RB (atN P) (atN Q) h ins outs kn X) (hk : ∀ j, j < h → gb kn j = true) : up = upP P outs h ∧ dn = loP P outs h := by
  have lu := hu.lu
  have ld := hu.ld
  constructor
  · apply List.ext_getElem (by simp [upP, lu])
    intro k h1 h2
    obtain ⟨x, hx, a1, a2, -⟩ := rb_all hp hr hk k (by omega)
    have := (hu.v x hx).1
    rw [a1, atN_mem h1] at this
    rw [this]
    simp [upP, a2]
  · apply List.ext_getElem (by simp [loP, ld])
    intro k h1 h2
    obtain ⟨x, hx, a1, -, a3⟩ := rb_all hp hr hk k (by omega)
    have := (hu.v x hx).2
    rw [a1, atN_mem h1] at this
    rw [this]
    have h9 : nx (sg (atN P) (atN Q) x) = atN P (nx (atN Q x)) := by unfold sg; rw [nx_nx]
    simp [loP, a3, h9]
/-- the reference's state -/
structure RtS (w0 w : World) (A : Option Addr) (P : List Nat) (n h gQ gI gO gK gU gD : Nat) (ins outs kn : List Bool) (up dn : List Nat) : Prop where
  r : RtW w0 w A P n h gQ gI gO gK ins outs kn
  u : w.ownsRow w0.heap.size 3 1 (.slice (some ⟨gU, 0, none⟩) h h) h (nats up)
  d : w.ownsRow w0.heap.size 3 1 (.slice (some ⟨gD, 0, none⟩) h h) h (nats dn)
  uq : gU ≠ gQ
  dq : gD ≠ gQ
  ud : gU ≠ gD
section
variable {w0 w w' : World} {A : Option Addr} {P : List Nat} {n h gQ gI gO gK gU gD : Nat} {ins outs kn : List Bool} {up dn : List Nat}
theorem RtW.drew_ (hR : RtW w0 w A P n h gQ gI gO gK ins outs kn) : RtW w0 w.drew A P n h gQ gI gO gK ins outs kn := ⟨bdrew hR.b, hR.p, hR.q, hR.i, hR.o, hR.k, hR.io, hR.ik, hR.ok⟩
theorem RtW.alloc (hR : RtW w0 w A P n h gQ gI gO gK ins outs kn) (o : Obj) : RtW w0 (w.alloc o) A P n h gQ gI gO gK ins outs kn := ⟨alloc_ hR.b o, hR.p.alloc hR.b.size o, hR.q.alloc o, hR.i.alloc o, hR.o.alloc o, hR.k.alloc o, hR.io, hR.ik, hR.ok⟩
theorem ne_tp {B B' g g' m m' c c' : Nat} {xs ys : List Value} {e e' : TypeId} (h : w.ownsRow B e 1 (.slice (some ⟨g, 0, none⟩) m c) m xs) (h' : w.ownsRow B' e' 1 (.slice (some ⟨g', 0, none⟩) m' c') m' ys) (he : e ≠ e') : (Value.slice (some ⟨g, 0, none⟩) m c).ownBlock ≠ some g' := by
  rcases own_ne_type h h' he with e | e
  · exact absurd e (by simp [Value.ownBlock])
  · exact e
theorem RtW.farI {g m c : Nat} {xs : List Value} (hR : RtW w0 w A P n h gQ gI gO gK ins outs kn) (ho : w.ownsRow w0.heap.size 3 1 (.slice (some ⟨g, 0, none⟩) m c) m xs) (hq : g ≠ gQ) (k : Nat) (v : Value) : RtW w0 (w.setCell ⟨g, k, none⟩ v) A P n h gQ gI gO gK ins outs kn :=
  ⟨hR.b.setCell (p := ⟨g, k, none⟩) (ho.lt g rfl).1 _, hR.p.setCell (p := ⟨g, k, none⟩) (ho.lt g rfl).1 _, own_setCell hR.q (p := ⟨g, k, none⟩) (fun e => hq (Option.some.inj e).symm) _, own_setCell hR.i (p := ⟨g, k, none⟩) (ne_tp hR.i ho (by decide)) _, own_setCell hR.o (p := ⟨g, k, none⟩) (ne_tp hR.o ho (by decide)) _, own_setCell hR.k (p := ⟨g, k, none⟩) (ne_tp hR.k ho (by decide)) _, hR.io, hR.ik, hR.ok⟩
theorem RtS.setI (hS : RtS w0 w A P n h gQ gI gO gK gU gD ins outs kn up dn) (k : Nat) (v : Bool) : RtS w0 (w.setCell ⟨gI, k, none⟩ (.bool v)) A P n h gQ gI gO gK gU gD (ins.set k v) outs kn up dn :=
  ⟨hS.r.setI k v, own_setCell hS.u (p := ⟨gI, k, none⟩) (ne_tp hS.u hS.r.i (by decide)) _, own_setCell hS.d (p := ⟨gI, k, none⟩) (ne_tp hS.d hS.r.i (by decide)) _, hS.uq, hS.dq, hS.ud⟩
theorem RtS.setO (hS : RtS w0 w A P n h gQ gI gO gK gU gD ins outs kn up dn) (k : Nat) (v : Bool) : RtS w0 (w.setCell ⟨gO, k, none⟩ (.bool v)) A P n h gQ gI gO gK gU gD ins (outs.set k v) kn up dn :=
  ⟨hS.r.setO k v, own_setCell hS.u (p := ⟨gO, k, none⟩) (ne_tp hS.u hS.r.o (by decide)) _, own_setCell hS.d (p := ⟨gO, k, none⟩) (ne_tp hS.d hS.r.o (by decide)) _, hS.uq, hS.dq, hS.ud⟩
theorem RtS.setK (hS : RtS w0 w A P n h gQ gI gO gK gU gD ins outs kn up dn) (k : Nat) (v : Bool) : RtS w0 (w.setCell ⟨gK, k, none⟩ (.bool v)) A P n h gQ gI gO gK gU gD ins outs (kn.set k v) up dn :=
  ⟨hS.r.setK k v, own_setCell hS.u (p := ⟨gK, k, none⟩) (ne_tp hS.u hS.r.k (by decide)) _, own_setCell hS.d (p := ⟨gK, k, none⟩) (ne_tp hS.d hS.r.k (by decide)) _, hS.uq, hS.dq, hS.ud⟩
theorem RtS.setU (hS : RtS w0 w A P n h gQ gI gO gK gU gD ins outs kn up dn) (k v : Nat) : RtS w0 (w.setCell ⟨gU, k, none⟩ (.int .i64 (v : Nat))) A P n h gQ gI gO gK gU gD ins outs kn (up.set k v) dn :=
  ⟨hS.r.farI hS.u hS.uq k _, by have := (hS.u.stored k (.int .i64 (v : Nat))).1; rwa [nats_set] at this, own_setCell hS.d (p := ⟨gU, k, none⟩) (fun e => hS.ud (Option.some.inj e).symm) _, hS.uq, hS.dq, hS.ud⟩
theorem RtS.setD (hS : RtS w0 w A P n h gQ gI gO gK gU gD ins outs kn up dn) (k v : Nat) : RtS w0 (w.setCell ⟨gD, k, none⟩ (.int .i64 (v : Nat))) A P n h gQ gI gO gK gU gD ins outs kn up (dn.set k v) :=
  ⟨hS.r.farI hS.d hS.dq k _, own_setCell hS.u (p := ⟨gD, k, none⟩) (fun e => hS.ud (Option.some.inj e)) _, by have := (hS.d.stored k (.int .i64 (v : Nat))).1; rwa [nats_set] at this, hS.uq, hS.dq, hS.ud⟩
end
/-- what the reference still needs of its state behind the cycles -/
structure RtX (w0 w : World) (h gI gO gU gD : Nat) (ins outs : List Bool) (up dn : List Nat) : Prop where
  b : Below w0.heap.size w0 w
  i : w.ownsRow w0.heap.size 4 1 (.slice (some ⟨gI, 0, none⟩) h h) h (bools ins)
  o : w.ownsRow w0.heap.size 4 1 (.slice (some ⟨gO, 0, none⟩) h h) h (bools outs)
  u : w.ownsRow w0.heap.size 3 1 (.slice (some ⟨gU, 0, none⟩) h h) h (nats up)
  d : w.ownsRow w0.heap.size 3 1 (.slice (some ⟨gD, 0, none⟩) h h) h (nats dn)
theorem RtS.x {w0 w : World} {A : Option Addr} {P : List Nat} {n h gQ gI gO gK gU gD : Nat} {ins outs kn : List Bool} {up dn : List Nat} (hS : RtS w0 w A P n h gQ gI gO gK gU gD ins outs kn up dn) : RtX w0 w h gI gO gU gD ins outs up dn := ⟨hS.r.b, hS.r.i, hS.r.o, hS.u, hS.d⟩
section
variable {w0 w w' : World} {h gI gO gU gD : Nat} {ins outs : List Bool} {up dn : List Nat}
theorem RtX.alloc (hS : RtX w0 w h gI gO gU gD ins outs up dn) (o : Obj) : RtX w0 (w.alloc o) h gI gO gU gD ins outs up dn := ⟨alloc_ hS.b o, hS.i.alloc o, hS.o.alloc o, hS.u.alloc o, hS.d.alloc o⟩
theorem RtX.below (hS : RtX w0 w h gI gO gU gD ins outs up dn) (hb : Below w.heap.size w w') : RtX w0 w' h gI gO gU gD ins outs up dn := ⟨bthen hS.b hb, own_below hS.i hb (Nat.le_refl _), own_below hS.o hb (Nat.le_refl _), own_below hS.u hb (Nat.le_refl _), own_below hS.d hb (Nat.le_refl _)⟩
/-- a row of flags of one's own that is none of these grows -/
theorem RtX.grown {x : Value} {m : Nat} {xs : List Value} (hS : RtX w0 w h gI gO gU gD ins outs up dn) (ho : w.ownsRow w0.heap.size 4 1 x m xs) (h1 : x.ownBlock ≠ some gI) (h2 : x.ownBlock ≠ some gO) (hg : w.grownBy w' x.ownBlock) : RtX w0 w' h gI gO gU gD ins outs up dn :=
  ⟨hS.b.trans (below_of_grown hg hS.b.size (fun q hq => (own_lt ho q hq).1)), hS.i.kept hg (.inr (fun e => h1 e.symm)), hS.o.kept hg (.inr (fun e => h2 e.symm)), hS.u.kept hg (own_ne_type hS.u ho (by decide)), hS.d.kept hg (own_ne_type hS.d ho (by decide))⟩
end
def RsReg5 (w1 : World) (w : World) (h : Nat) (L : Nat → Bool) (wr : World) (v0 v1 v2 v3 v4 v5 v6 v7 v8 v9 v10 v11 : Value) : Prop :=
  (w.heap.size ≤ wr.heap.size ∧ Below w1.heap.size w1 wr) ∧
  (L 1 = true → L 0 = true) ∧
  (L 2 = true → L 1 = true) ∧
  (L 4 = true → L 3 = true) ∧
  (L 5 = true → L 4 = true) ∧
  (L 7 = true → L 6 = true) ∧
  (L 8 = true → L 7 = true) ∧
  (L 9 = true → L 2 = true) ∧
  (L 10 = true → L 5 = true) ∧
  (L 11 = true → L 8 = true) ∧
  (L 0 = true → v0 = .int .i64 (2 * (h : Int))) ∧
  (L 1 = true → v1 = .int .i64 (h : Nat)) ∧
  (L 2 = true → ∃ g : Nat, v2 = .slice (some ⟨g, 0, none⟩) h h ∧ w.heap.size ≤ g ∧ Blk wr g 4 (madeCells #[.bool false] h)) ∧
  (L 3 = true → v3 = .int .i64 (2 * (h : Int))) ∧
  (L 4 = true → v4 = .int .i64 (h : Nat)) ∧
  (L 5 = true → ∃ g : Nat, v5 = .slice (some ⟨g, 0, none⟩) h h ∧ w.heap.size ≤ g ∧ Blk wr g 4 (madeCells #[.bool false] h)) ∧
  (L 6 = true → v6 = .int .i64 (2 * (h : Int))) ∧
  (L 7 = true → v7 = .int .i64 (h : Nat)) ∧
  (L 8 = true → ∃ g : Nat, v8 = .slice (some ⟨g, 0, none⟩) h h ∧ w.heap.size ≤ g ∧ Blk wr g 4 (madeCells #[.bool false] h)) ∧
  (L 9 = true → v9 = v2) ∧
  (L 10 = true → v10 = v5) ∧
  (L 11 = true → v11 = v8) ∧
  (L 2 = true → L 5 = true → v2 ≠ v5) ∧
  (L 2 = true → L 8 = true → v2 ≠ v8) ∧
  (L 5 = true → L 8 = true → v5 ≠ v8)
def RsReg6 (w : World) (ad : Addr) (P : List Nat) (h gQ gI gO gK : Nat) (L : Nat → Bool) (wr : World) (v0 v1 v2 v3 v4 v5 v6 v7 : Value) : Prop :=
  (Below w.heap.size w wr) ∧
  (L 1 = true → L 0 = true) ∧
  (L 2 = true → L 1 = true) ∧
  (L 4 = true → L 3 = true) ∧
  (L 5 = true → L 4 = true) ∧
  (L 6 = true → L 2 = true) ∧
  (L 7 = true → L 5 = true) ∧
  (L 0 = true → v0 = .int .i64 (2 * (h : Int))) ∧
  (L 1 = true → v1 = .int .i64 (h : Nat)) ∧
  (L 2 = true → ∃ g : Nat, v2 = .slice (some ⟨g, 0, none⟩) h h ∧ gQ < g ∧ w.heap.size ≤ g ∧ Blk wr g 3 (madeCells #[.int .i64 0] h)) ∧
  (L 3 = true → v3 = .int .i64 (2 * (h : Int))) ∧
  (L 4 = true → v4 = .int .i64 (h : Nat)) ∧
  (L 5 = true → ∃ g : Nat, v5 = .slice (some ⟨g, 0, none⟩) h h ∧ gQ < g ∧ w.heap.size ≤ g ∧ Blk wr g 3 (madeCells #[.int .i64 0] h)) ∧
  (L 6 = true → v6 = v2) ∧
  (L 7 = true → v7 = v5) ∧
  (L 2 = true → L 5 = true → v2 ≠ v5) ∧
  (RtW w wr (some ad) P (2 * h) h gQ gI gO gK (List.replicate h false) (List.replicate h false) (List.replicate h false))
set_option maxRecDepth 100000 in
set_option maxHeartbeats 6400000 in
theorem sroute_succ (f h z : Nat) (ad : Addr) (P : List Nat) (c : Nat) (w : World) (h1 : 2 ≤ h) (h2 : h ≤ 32) (hz : z ≤ 352) (hP : PermN P (2 * h)) (hx : Reads w w.heap.size 1 (some ad) (2 * h) (nats P))
    (HM : Hid (rtF (f + 1) P = (rtA P h).1 ++ rtF f (upP P (rtA P h).2.1 h) ++ rtF f (loP P (rtA P h).2.1 h) ++ (rtA P h).2.1))
    (HZ : Hid (∀ P, PermN P h → (rtF f P).length = z))
    (IH : Hid (∀ (A : Option Addr) (P : List Nat) (c : Nat) (w : World), PermN P h → Reads w w.heap.size 1 A h (nats P) →
      Calls Try.prog 33 #[.slice A h c] w fun e w' => ∃ v, e = .returned v ∧ w'.ownsRow w.heap.size 4 1 v z (bools (rtF f P)) ∧ Below w.heap.size w w')) :
    Calls Try.prog 33 #[.slice (some ad) (2 * h) c] w fun e w' => ∃ v, e = .returned v ∧ w'.ownsRow w.heap.size 4 1 v (2 * h + 2 * z) (bools (rtF (f + 1) P)) ∧ Below w.heap.size w w' := by
  have HX := Lib.hid hx; have HP := Lib.hid hP
  have HP2 := Lib.hid hP.two
  obtain ⟨i0, hi, hz0, hz1, hz2⟩ := info_parts (show (Try.prog.info? 3).map (fun i => (i.zero, i.size, i.bytes)) = some (some (.int .i64 0), 1, 8) by kernel_rfl)
  obtain ⟨i1, hj, hy0, hy1, hy2⟩ := info_parts (show (Try.prog.info? 4).map (fun i => (i.zero, i.size, i.bytes)) = some (some (.bool false), 1, 1) by kernel_rfl)
  have hmk := run_make_row (P := Try.prog) 23 4 i1 (.bool false) Try.underlying23 hj hy0 hy1 rfl .i64 .i64 h (by rw [hy2]; omega) (by omega)
  have hmi := run_make_row (P := Try.prog) 22 3 i0 (.int .i64 0) Try.underlying22 hi hz0 hz1 rfl .i64 .i64 h (by rw [hz2]; omega) (by omega)
  have hwh : IntKind.i64.wrap (h : Int) = (h : Int) := IntWalk.i64_in _ ⟨by omega, by omega⟩
  have hn2 : ((2 : Int) * (h : Int) == 2) = false := by rw [beq_eq_false_iff_ne]; omega
  clear hx hP
  go_enter Try.func33, Try.ntmps33
  go_wp2_with fail
  refine (l3Inverse_any (some ad) P (2 * h) c w HP.out (by omega) HX.out).mono ?_
  rintro e w1 ⟨gQ, rfl, oQ, hb1⟩
  have hle := hb1.size
  go_upto_region 5 with fail
  refine wp_region_inv' (fun a0 L a wr => St a0 a [26, 27, 28, 29, 30, 31, 32, 33, 34, 5, 6, 7] ∧ 34 < a.tmps.size ∧ a.eval (.tmp 3) = .int .i64 (2 * (h : Int)) ∧ RsReg5 w1 w h L wr (a.eval (.tmp 26)) (a.eval (.tmp 27)) (a.eval (.tmp 28)) (a.eval (.tmp 29)) (a.eval (.tmp 30)) (a.eval (.tmp 31)) (a.eval (.tmp 32)) (a.eval (.tmp 33)) (a.eval (.tmp 34)) (a.eval (.tmp 5)) (a.eval (.tmp 6)) (a.eval (.tmp 7))) (by kernel_rfl) (by kernel_rfl) ?start ?steps ?ends
  case start =>
    refine ⟨St.refl _ _, Nat.le_of_ble_eq_true rfl, rfl, ⟨hle, bdrew (Below.refl _ _)⟩, ?_, ?_, ?_, ?_, ?_, ?_, ?_, ?_, ?_, ?_, ?_, ?_, ?_, ?_, ?_, ?_, ?_, ?_, ?_, ?_, ?_, ?_, ?_, ?_⟩
    all_goals (intro e; first | (cases e; done) | rfl | assumption)
  case ends =>
    rintro L a wr ⟨hst, hsz, q3, b, h1, h2, h4, h5, h7, h8, h9, h10, h11, f0, f1, f2, f3, f4, f5, f6, f7, f8, f9, f10, f11, n25, n28, n58⟩ hall
    obtain ⟨gI, e3, hgI, bI⟩ := f2 (hall 2 (by decide))
    obtain ⟨gO, e5, hgO, bO⟩ := f5 (hall 5 (by decide))
    obtain ⟨gK, e7, hgK, bK⟩ := f8 (hall 8 (by decide))
    have e9 := f9 (hall 9 (by decide))
    have e10 := f10 (hall 10 (by decide))
    have e11 := f11 (hall 11 (by decide))
    have m1 := n25 (hall 2 (by decide)) (hall 5 (by decide))
    have m2 := n28 (hall 2 (by decide)) (hall 8 (by decide))
    have m3 := n58 (hall 5 (by decide)) (hall 8 (by decide))
    rw [e3] at e9 m1 m2
    rw [e5] at e10 m1 m3
    rw [e7] at e11 m2 m3
    have hR0 : RtW w wr (some ad) P (2 * h) h gQ gI gO gK (List.replicate h false) (List.replicate h false) (List.replicate h false) :=
      ⟨bthen hb1 b.2, HX.out.below (bthen hb1 b.2), own_below oQ b.2 (Nat.le_refl _), own_ofB bI hgI (by unfold maxLen; omega), own_ofB bO hgO (by unfold maxLen; omega), own_ofB bK hgK (by unfold maxLen; omega), fun e => m1 (by rw [e]), fun e => m2 (by rw [e]), fun e => m3 (by rw [e])⟩
    have heq := hst.eq
    simp only [List.foldl_cons, List.foldl_nil] at heq
    rw [e9, e10, e11, e3, e5, e7] at heq
    clear hst hall hsz q3 b h1 h2 h4 h5 h7 h8 h9 h10 h11 f0 f1 f2 f3 f4 f5 f6 f7 f8 f9 f10 f11 n25 n28 n58 e3 e5 e7 e9 e10 e11 m1 m2 m3 bI bO bK hgI hgO hgK oQ hb1 hle
    generalize a.eval (.tmp 26) = u26 at *
    generalize a.eval (.tmp 27) = u27 at *
    generalize a.eval (.tmp 29) = u29 at *
    generalize a.eval (.tmp 30) = u30 at *
    generalize a.eval (.tmp 32) = u32 at *
    generalize a.eval (.tmp 33) = u33 at *
    simp only [Act.put, List.setIfInBounds_toArray, List.set_cons_zero, List.set_cons_succ] at heq
    subst heq
    go_upto_region 6 with fail
    refine wp_region_inv' (fun a0 L a wr => St a0 a [35, 36, 37, 38, 39, 40, 8, 9] ∧ 40 < a.tmps.size ∧ a.eval (.tmp 3) = .int .i64 (2 * (h : Int)) ∧ RsReg6 w ad P h gQ gI gO gK L wr (a.eval (.tmp 35)) (a.eval (.tmp 36)) (a.eval (.tmp 37)) (a.eval (.tmp 38)) (a.eval (.tmp 39)) (a.eval (.tmp 40)) (a.eval (.tmp 8)) (a.eval (.tmp 9))) (by kernel_rfl) (by kernel_rfl) ?start6 ?steps6 ?ends6
    case start6 =>
      refine ⟨St.refl _ _, Nat.le_of_ble_eq_true rfl, rfl, bdrew hR0.b, ?_, ?_, ?_, ?_, ?_, ?_, ?_, ?_, ?_, ?_, ?_, ?_, ?_, ?_, ?_, hR0.drew_⟩
      all_goals (intro e; first | (cases e; done) | rfl | assumption)
    case ends6 =>
      rintro L a wr ⟨hst, hsz, q3, b, h1, h2, h4, h5, h6, h7, f0, f1, f2, f3, f4, f5, f6, f7, n25, rw_⟩ hall
      obtain ⟨gU, e3, hQU, hgU, bU⟩ := f2 (hall 2 (by decide))
      obtain ⟨gD, e5, hQD, hgD, bD⟩ := f5 (hall 5 (by decide))
      have e9 := f6 (hall 6 (by decide))
      have e10 := f7 (hall 7 (by decide))
      have m1 := n25 (hall 2 (by decide)) (hall 5 (by decide))
      rw [e3] at e9 m1
      rw [e5] at e10 m1
      have hS0 : RtS w wr (some ad) P (2 * h) h gQ gI gO gK gU gD (List.replicate h false) (List.replicate h false) (List.replicate h false) (List.replicate h 0) (List.replicate h 0) :=
        ⟨rw_, own_ofI bU hgU (by unfold maxLen; omega), own_ofI bD hgD (by unfold maxLen; omega), by omega, by omega, fun e => m1 (by rw [e])⟩
      have heq := hst.eq
      simp only [List.foldl_cons, List.foldl_nil] at heq
      rw [e9, e10, e3, e5] at heq
      clear hst hall hsz q3 b h1 h2 h4 h5 h6 h7 f0 f1 f2 f3 f4 f5 f6 f7 n25 rw_ e3 e5 e9 e10 m1 bU bD hgU hgD hQU hQD hR0
      generalize a.eval (.tmp 35) = u35 at *
      generalize a.eval (.tmp 36) = u36 at *
      generalize a.eval (.tmp 38) = u38 at *
      generalize a.eval (.tmp 39) = u39 at *
      simp only [Act.put, List.setIfInBounds_toArray, List.set_cons_zero, List.set_cons_succ] at heq
      subst heq
      clear hmk hmi
      go_wp2_with fail
      have HRB0 : Hid (RB (atN P) (atN (invL P)) h (List.replicate h false) (List.replicate h false) (List.replicate h false) []) := Lib.hid (rb_zero _ _ _)
      go_loopw [10] (fun vi wr => ∃ (k : Nat) (ins outs kn : List Bool) (X up dn : List Nat), k ≤ h ∧ vi = .int .i64 (k : Nat) ∧ Hid (rtI (atN P) (atN (invL P)) h k = (ins, outs, kn)) ∧ Hid (RB (atN P) (atN (invL P)) h ins outs kn X) ∧ Hid (UD (atN P) (atN (invL P)) h X up dn) ∧ RtS w wr (some ad) P (2 * h) h gQ gI gO gK gU gD ins outs kn up dn) (fun vi _ => h - (intOf vi).toNat)
      case atStart => exact ⟨0, _, _, _, [], _, _, by omega, rfl, Lib.hid rfl, HRB0, Lib.hid ⟨by simp, by simp, by simp⟩, hS0⟩
      case round =>
        clear hS0 HRB0
        obtain ⟨k, ins, outs, kn, X, up, dn, hk, rfl, HRT, HRB, HUD, hR⟩ := hrel
        by_cases hkh : k < h
        · have kI : (k : Int) < (h : Int) := by omega
          have hlk : kn.length = h := HRB.out.lk
          have ck := hR.r.k.cellAt k (by omega)
          rw [bools_get (by omega), gb_mem (by omega)] at ck
          have HR := Lib.hid hR
          clear hlk hR
          cases hkk : gb kn k
          case true =>
            have HKK := Lib.hid hkk
            rw [hkk] at ck
            clear hkk
            go_wp2_with fail
            go_roundw
            case rel => exact ⟨k + 1, ins, outs, kn, X, up, dn, by omega, by go_num, Lib.hid (by rw [rtI, HRT.out]; exact if_pos HKK.out), HRB, HUD, HR.out⟩
            case measure => simp [intOf]; omega
          case false =>
            have HKK := Lib.hid hkk
            rw [hkk] at ck
            clear hkk
            have HT : Hid (rtI (atN P) (atN (invL P)) h (k + 1) = cyc (atN P) (atN (invL P)) (2 * k) h ins outs (kn.set k true) (2 * k)) := Lib.hid (by rw [rtI, HRT.out]; exact if_neg (by rw [HKK.out]; decide))
            have HS := Lib.hid (HRB.out.start hkh HKK.out)
            have ew1 : IntKind.i64.wrap (2 * (k : Int)) = 2 * (k : Int) := IntWalk.i64_in _ (by omega)
            go_wp2_with fail
            clear ck
            go_loopg [11] h (fun F vx wr => ∃ (ins outs kn ks : List Bool) (X up dn : List Nat) (x : Nat), vx = .int .i64 (x : Nat) ∧ x < 2 * h ∧ Hid (RC (atN P) (atN (invL P)) h (2 * k) ins outs kn X x) ∧
              Hid (cyc (atN P) (atN (invL P)) (2 * k) F ins outs kn x = rtI (atN P) (atN (invL P)) h (k + 1)) ∧ Hid (h ≤ X.length + F) ∧ Hid (ks.set k true = kn) ∧ Hid (UD (atN P) (atN (invL P)) h X up dn) ∧ Hid (RtS w wr (some ad) P (2 * h) h gQ gI gO gK gU gD ins outs ks up dn))
            case atStart => exact ⟨ins, outs, kn.set k true, kn, X, up, dn, 2 * k, by go_num, by omega, HS, Lib.hid HT.out.symm, Lib.hid (by omega), Lib.hid rfl, HUD, HR⟩
            case round =>
              clear HS HT HR HRB HUD HRT HKK
              obtain ⟨ins, outs, kn, ks, X, up, dn, x, rfl, hx2, HC, HCY, HF, HKS, HUD, HR⟩ := hrel
              obtain ⟨F, rfl⟩ : ∃ F, gk = F + 1 := ⟨gk - 1, by have := HC.out.len; have := HF.out; omega⟩
              have cq := HR.out.r.q.cellAt x (by omega)
              have hil : x < (invL P).length := by unfold invL; rw [List.length_map, List.length_range, HP.out.len]; exact hx2
              rw [nats_get hil, ← atN_mem hil] at cq
              have hy2 := HP2.out.ql x hx2
              obtain ⟨y, hY⟩ : ∃ y, atN (invL P) x = y := ⟨_, rfl⟩
              rw [hY] at cq hy2
              have HY := Lib.hid hY
              have xI : (x : Int) < 2 * (h : Int) := by omega
              clear hY hil
              go_upto_region 13 with fail
              obtain ⟨y2, r, z1, z2, z3, z4, z5⟩ := half_fact y
              have HY2 := Lib.hid z3
              have hy3 : y2 < h := by omega
              have yI : (y2 : Int) < (h : Int) := by omega
              obtain ⟨ny, hNY⟩ : ∃ ny, nx y = ny := ⟨_, rfl⟩
              have hny : ny < 2 * h := by rw [← hNY]; exact nx_lt hy2
              have E1 : (y2 : Int) * 2 + 1 - (r : Int) = (ny : Int) := by rw [← hNY]; unfold nx; omega
              have HNY := Lib.hid hNY
              have rI : (r : Int) < 2 := by omega
              clear z3 z4 hNY
              obtain ⟨b, hb⟩ : ∃ b, (y % 2 == 1) = b := ⟨_, rfl⟩
              have HBB := Lib.hid hb
              rw [hb] at z5
              clear hb
              have co := HR.out.r.o.cellAt y2 (by omega)
              have fo := HR.out.r.o.frozenAt y2
              rw [bools_get (by rw [HC.out.lo]; exact hy3)] at co
              generalize outs[y2]'(by rw [HC.out.lo]; exact hy3) = ob at *
              go_upto_region 14 with fail
              have HR2 := Lib.hid (HR.out.setO y2 b)
              generalize wr.setCell ⟨gO, y2, none⟩ (.bool b) = w4 at *
              clear co fo HR cq z5
              obtain ⟨x2, -, s1, -, s3, -⟩ := half_fact x
              have HX2 := Lib.hid s3
              have sI : (x2 : Int) < (h : Int) := by omega
              clear s3
              have cu := HR2.out.u.cellAt y2 (by omega)
              have fu := HR2.out.u.frozenAt y2
              rw [nats_get (by rw [HUD.out.lu]; exact hy3)] at cu
              generalize up[y2]'(by rw [HUD.out.lu]; exact hy3) = ub at *
              go_upto_region 15 with fail
              have HR3 := Lib.hid (HR2.out.setU y2 x2)
              generalize w4.setCell ⟨gU, y2, none⟩ (.int .i64 (x2 : Nat)) = w5 at *
              clear cu fu HR2 s1
              have hpl : ny < P.length := by rw [HP.out.len]; exact hny
              obtain ⟨ad9, u0, hA, -, hu, cp⟩ := HR3.out.r.p.at_ hny
              rw [nats_get hpl, ← atN_mem hpl] at hu
              cases hu
              cases hA
              have hu2 := HP2.out.pl _ hny
              obtain ⟨u, hU⟩ : ∃ u, atN P ny = u := ⟨_, rfl⟩
              rw [hU] at cp hu2
              have HU := Lib.hid hU
              clear hU hpl
              have nyI : (ny : Int) < 2 * (h : Int) := by omega
              go_upto_region 16 with fail
              clear cp E1 z2
              obtain ⟨u2, r2, t1, t2, t3, t4, -⟩ := half_fact u
              have HU2 := Lib.hid t3
              have hu3 : u2 < h := by omega
              have uI : (u2 : Int) < (h : Int) := by omega
              obtain ⟨v, hV⟩ : ∃ v, nx u = v := ⟨_, rfl⟩
              have hv2 : v < 2 * h := by rw [← hV]; exact nx_lt hu2
              have E2 : (u2 : Int) * 2 + 1 - (r2 : Int) = (v : Int) := by rw [← hV]; unfold nx; omega
              have HVU : Hid (v / 2 = u2) := Lib.hid (by rw [← hV, nx_div, t3])
              have HV := Lib.hid hV
              have r2I : (r2 : Int) < 2 := by omega
              clear hV t3 t4
              have cd := HR3.out.d.cellAt y2 (by omega)
              have fd := HR3.out.d.frozenAt y2
              rw [nats_get (by rw [HUD.out.ld]; exact hy3)] at cd
              generalize dn[y2]'(by rw [HUD.out.ld]; exact hy3) = db at *
              go_upto_region 17 with fail
              have HR4 := Lib.hid (HR3.out.setD y2 u2)
              generalize w5.setCell ⟨gD, y2, none⟩ (.int .i64 (u2 : Nat)) = w6 at *
              clear cd fd HR3 z1
              have hks : ks.length = h := by have := HC.out.lk; rw [← HKS.out, List.length_set] at this; exact this
              have HKL := Lib.hid hks
              clear hks
              have ck := HR4.out.r.k.cellAt u2 (by omega)
              have fk := HR4.out.r.k.frozenAt u2
              rw [bools_get (by rw [HKL.out]; exact hu3)] at ck
              generalize ks[u2]'(by rw [HKL.out]; exact hu3) = kb at *
              go_upto_region 18 with fail
              have HR5 := Lib.hid (HR4.out.setK u2 true)
              generalize w6.setCell ⟨gK, u2, none⟩ (.bool true) = w7 at *
              clear ck fk HR4
              go_upto_region 19 with fail
              clear E2 t2
              obtain ⟨v2, r3, q1, q2, -, q4, q5⟩ := half_fact v
              obtain ⟨d, hd⟩ : ∃ d, (v % 2 == 1) = d := ⟨_, rfl⟩
              have HDD := Lib.hid hd
              rw [hd] at q5
              clear hd q1 q4 v2
              have ci := HR5.out.r.i.cellAt u2 (by omega)
              have fi := HR5.out.r.i.frozenAt u2
              rw [bools_get (by rw [HC.out.li]; exact hu3)] at ci
              generalize ins[u2]'(by rw [HC.out.li]; exact hu3) = ib at *
              go_upto_region 20 with fail
              have HR6 := Lib.hid (HR5.out.setI u2 d)
              generalize w7.setCell ⟨gI, u2, none⟩ (.bool d) = w8 at *
              clear ci fi HR5 q2 q5 t1
              have HSG : Hid (sg (atN P) (atN (invL P)) x = v) := Lib.hid (by unfold sg; rw [HY.out, HNY.out, HU.out]; exact HV.out)
              have HST := Lib.hid (HC.out.step HP2.out)
              have HCY2 : Hid (cyc (atN P) (atN (invL P)) (2 * k) (F + 1) ins outs kn x = if v = 2 * k then (ins.set u2 d, outs.set y2 b, kn.set u2 true) else cyc (atN P) (atN (invL P)) (2 * k) F (ins.set u2 d) (outs.set y2 b) (kn.set u2 true) v) := Lib.hid (by
                rw [cyc, HSG.out, HY.out, HDD.out, HBB.out, HVU.out, ← HY2.out])
              have HUD2 : Hid (UD (atN P) (atN (invL P)) h (x :: X) (up.set y2 x2) (dn.set y2 u2)) := Lib.hid (HUD.out.step (HC.out.fresh HP2.out) (by rw [HY.out, HY2.out]) HX2.out (by rw [HY.out, HNY.out, HU.out, HU2.out]) hy3)
              by_cases hvk : v = 2 * k
              · have e1 : ((v : Int) == 2 * (k : Int)) = true := by rw [beq_iff_eq]; omega
                have HE := Lib.hid hvk
                clear hvk
                go_wp2_with fail
                go_roundw
                case rel =>
                  have h9 := HST.out.1
                  rw [HSG.out, HY.out, HDD.out, HBB.out, HVU.out, ← HY2.out] at h9
                  have h10 : kn.set u2 true = ks.set u2 true := by
                    have : u2 = k := by have := HVU.out; have := HE.out; omega
                    rw [← HKS.out, this, List.set_set]
                  rw [h10] at h9
                  exact ⟨k + 1, _, _, _, _, _, _, by omega, by go_num, Lib.hid (by rw [← HCY.out, HCY2.out, if_pos HE.out, h10]), Lib.hid (h9 HE.out), HUD2, HR6.out⟩
                case measure => simp [intOf]; omega
              · have e1 : ((v : Int) == 2 * (k : Int)) = false := by rw [beq_eq_false_iff_ne]; omega
                have HE := Lib.hid hvk
                clear hvk
                go_wp2_with fail
                go_roundg F
                case measure => omega
                case rel =>
                  have h9 := HST.out.2
                  rw [HSG.out, HY.out, HDD.out, HBB.out, HVU.out, ← HY2.out] at h9
                  exact ⟨_, _, _, ks.set u2 true, _, _, _, v, rfl, hv2, Lib.hid (h9 HE.out), Lib.hid (by rw [← HCY.out, HCY2.out]; exact (if_neg HE.out).symm), Lib.hid (by have := HF.out; simp; omega), Lib.hid (by rw [← HKS.out]; exact set_swap _ _ _), HUD2, HR6⟩
        · have kI : ¬ (k : Int) < (h : Int) := by omega
          obtain rfl : h = k := by omega
          have hall : ∀ j, j < h → gb kn j = true := by
            obtain ⟨X9, -, h9⟩ := rtI_rb HP2.out h (Nat.le_refl _)
            rw [HRT.out] at h9
            exact h9
          have hRO := routed_of HP2.out
          rw [HRT.out] at hRO
          have hud := HUD.out.done HP2.out HRB.out hall
          have HU := Lib.hid hud.1
          have HD := Lib.hid hud.2
          have HPU := Lib.hid (routed_perm hRO).1
          have HPL := Lib.hid (routed_perm hRO).2
          have HLI := Lib.hid hRO.li
          have HLO := Lib.hid hRO.lo
          have HM2 : Hid (rtF (f + 1) P = ins ++ rtF f (upP P outs h) ++ rtF f (loP P outs h) ++ outs) := Lib.hid (by rw [HM.out, rtA, HRT.out])
          have hbs := hR.r.b.size
          have hNI := (hR.r.i.lt gI rfl).2
          have hNO := (hR.r.o.lt gO rfl).2
          have hE := made_at (w := wr) (base := w.heap.size) (g := wr.heap.size) (size := 1) (e := 4) hbs rfl
          have hS0 := hR.x
          rw [hud.1, hud.2] at hS0
          have hS := hS0.alloc (.cells #[] 4)
          clear hR hRO hud hall HRT HRB HUD HM hS0
          have g0 : ∀ q, (Value.slice (some ⟨wr.heap.size, 0, none⟩) 0 0).ownBlock = some q → wr.heap.size ≤ q := fun q hq => by cases hq; exact Nat.le_refl _
          go_wp2_with (at_builtin; refine wpList_append_any _ rfl _ _ 23 rfl w.heap.size 4 i1 _ 1 1 Try.underlying23 hj hy0 hy1 hy2 rfl (by decide) _ _ _ rfl hE _ _ h h (bools ins) rfl (Reads.of_own hS.i) (one_b ins) (by unfold maxLen; omega) (by omega) hS.b.size ?_; intro v1 w2 o1 gr1 at1)
          have hS1 := hS.grown hE (ne_of_ge g0 hNI) (ne_of_ge g0 hNO) gr1
          have g1 := blk_ge g0 at1 (by rw [World.size_alloc]; omega)
          have s1 : wr.heap.size ≤ w2.heap.size := Nat.le_trans (by rw [World.size_alloc]; omega) gr1.size
          simp only [Nat.zero_add, List.nil_append] at o1
          generalize wr.heap.size = N at *
          clear hS hE gr1 at1 g0 hbs
          refine (IH.out _ (upP P outs h) h w2 HPU.out (Reads.of_own hS1.u)).mono ?_
          rintro e w3 ⟨U, rfl, oU, b3⟩
          obtain ⟨UA, UC, rfl⟩ := own_slice oU
          have hS2 := hS1.below b3
          have o1b := own_below o1 b3 (Nat.le_refl _)
          have s2 := Nat.le_trans s1 b3.size
          have HZU := Lib.hid (HZ.out _ HPU.out)
          have HZL := Lib.hid (HZ.out _ HPL.out)
          generalize rtF f (upP P outs h) = r1 at *
          clear hS1 o1 b3 s1
          go_wp2_with (at_builtin; refine wpList_append_any _ rfl _ _ 23 rfl w.heap.size 4 i1 _ 1 1 Try.underlying23 hj hy0 hy1 hy2 rfl (by decide) _ _ _ rfl o1b _ UA z UC (bools r1) rfl (Reads.of_own oU) (one_b r1) (by unfold maxLen; omega) (by omega) hS2.b.size ?_; intro v2 w4 o2 gr2 at2)
          have hS3 := hS2.grown o1b (ne_of_ge g1 hNI) (ne_of_ge g1 hNO) gr2
          have g2 := blk_ge g1 at2 s2
          have s3 := Nat.le_trans s2 gr2.size
          clear hS2 o1b gr2 at2 g1 s2 oU
          refine (IH.out _ (loP P outs h) h w4 HPL.out (Reads.of_own hS3.d)).mono ?_
          rintro e w5 ⟨V, rfl, oV, b5⟩
          obtain ⟨VA, VC, rfl⟩ := own_slice oV
          have hS4 := hS3.below b5
          have o2b := own_below o2 b5 (Nat.le_refl _)
          have s4 := Nat.le_trans s3 b5.size
          generalize rtF f (loP P outs h) = r2 at *
          clear hS3 o2 b5 s3
          go_wp2_with (first
            | (at_builtin; refine wpList_append_any _ rfl (.tmp 115) _ 23 rfl w.heap.size 4 i1 _ 1 1 Try.underlying23 hj hy0 hy1 hy2 rfl (by decide) _ _ _ rfl o2b _ VA z VC (bools r2) rfl (Reads.of_own oV) (one_b r2) (by unfold maxLen; omega) (by omega) hS4.b.size ?_; intro v3 w6 o3 gr3 at3; have hS5 := hS4.grown o2b (ne_of_ge g2 hNI) (ne_of_ge g2 hNO) gr3)
            | (at_builtin; refine wpList_append_any _ rfl (.tmp 119) _ 23 rfl w.heap.size 4 i1 _ 1 1 Try.underlying23 hj hy0 hy1 hy2 rfl (by decide) _ _ _ rfl o3 _ _ h h (bools outs) rfl (Reads.of_own hS5.o) (one_b outs) (by unfold maxLen; omega) (by omega) hS5.b.size ?_; intro v4 w7 o4 gr4 at4))
          go_ret
          refine ⟨_, rfl, ?_, hS5.b.trans (below_of_grown gr4 hS5.b.size (fun q hq => (own_lt o3 q hq).1))⟩
          have hfl : bools ins ++ bools r1 ++ bools r2 ++ bools outs = bools (ins ++ r1 ++ r2 ++ outs) := by simp [bools]
          have hle : h + z + z + h = 2 * h + 2 * z := by omega
          rw [hfl, hle] at o4
          rw [HM2.out]
          exact o4
    case steps6 =>
      refine ⟨?t0, ?t1, ?t2, ?t3, ?t4, ?t5, ?t6, ?t7, trivial⟩
      case t0 =>
        rintro L a wr ⟨hst, hsz, q3, hF⟩ hL hdp K hK
        have ev := fun (d t : Nat) (v : Value) (hd : d < 41) => eval_put a d t v (by omega)
        obtain ⟨b, h1, h2, h4, h5, h6, h7, f0, f1, f2, f3, f4, f5, f6, f7, n25, rw_⟩ := hF
        have t3 := q3
        rw [eval_tmp, Array.getD_eq_getD_getElem?] at t3
        refine step_value (v := .int .i64 (2 * (h : Int))) (w' := wr) rfl (by go_simp) ?_
        refine hK _ _ ⟨hst.put 35 _ (by decide), by simpa [Act.put] using hsz, (ev 35 3 _ (by decide)).trans q3, ?_⟩
        simp only [ev 35 _ _ (by decide)]
        exact ⟨b, fun e => absurd ((h1 e).symm.trans hL) (by decide), h2, h4, h5, h6, h7, fun _ => rfl, f1, f2, f3, f4, f5, f6, f7, n25, rw_⟩
      case t1 =>
        rintro L a wr ⟨hst, hsz, q3, hF⟩ hL hdp K hK
        have ev := fun (d t : Nat) (v : Value) (hd : d < 41) => eval_put a d t v (by omega)
        have d0 : L 0 = true := hdp ⟨0, .data⟩ (by simp) rfl
        obtain ⟨b, h1, h2, h4, h5, h6, h7, f0, f1, f2, f3, f4, f5, f6, f7, n25, rw_⟩ := hF
        have t35 := f0 d0
        rw [eval_tmp, Array.getD_eq_getD_getElem?] at t35
        refine step_value (v := .int .i64 (h : Nat)) (w' := wr) rfl (by go_simp) ?_
        refine hK _ _ ⟨hst.put 36 _ (by decide), by simpa [Act.put] using hsz, (ev 36 3 _ (by decide)).trans q3, ?_⟩
        simp only [ev 36 _ _ (by decide)]
        exact ⟨b, fun _ => d0, fun e => absurd ((h2 e).symm.trans hL) (by decide), h4, h5, h6, h7, f0, fun _ => rfl, f2, f3, f4, f5, f6, f7, n25, rw_⟩
      case t2 =>
        rintro L a wr ⟨hst, hsz, q3, hF⟩ hL hdp K hK
        have ev := fun (d t : Nat) (v : Value) (hd : d < 41) => eval_put a d t v (by omega)
        have d1 : L 1 = true := hdp ⟨1, .data⟩ (by simp) rfl
        obtain ⟨b, h1, h2, h4, h5, h6, h7, f0, f1, f2, f3, f4, f5, f6, f7, n25, rw_⟩ := hF
        have t36 := f1 d1
        have t36 := f1 d1
        have hsz1 := b.size
        have hq1 := (rw_.q.lt gQ rfl).2
        refine step_value (v := .slice (some ⟨wr.heap.size, 0, none⟩) h h) (w' := wr.alloc (.cells (madeCells #[.int .i64 0] h) 3)) rfl (by simp only [execOp, t36]; simp only [Sem.run_bind, hmi]; go_simp) ?_
        refine hK _ _ ⟨hst.put 37 _ (by decide), by simpa [Act.put] using hsz, (ev 37 3 _ (by decide)).trans q3, ?_⟩
        simp only [ev 37 _ _ (by decide)]
        exact ⟨alloc_ b _, h1, fun _ => d1, h4, h5, fun e => absurd ((h6 e).symm.trans hL) (by decide), h7, f0, f1, fun _ => ⟨wr.heap.size, rfl, hq1, hsz1, Blk.new _ _ _⟩, f3, f4, fun e => by obtain ⟨g, e2, h7⟩ := f5 e; exact ⟨g, e2, h7.1, h7.2.1, h7.2.2.alloc _⟩, fun e => absurd ((h6 e).symm.trans hL) (by decide), f7, fun _ e => by obtain ⟨g, e2, h7⟩ := f5 e; have h8 := h7.2.2.lt; rw [e2]; intro e3; injection e3 with e4; have h9 := congrArg (fun x : Option Addr => (x.map (·.block)).getD 0) e4; simp at h9; omega, rw_.alloc _⟩
      case t3 =>
        rintro L a wr ⟨hst, hsz, q3, hF⟩ hL hdp K hK
        have ev := fun (d t : Nat) (v : Value) (hd : d < 41) => eval_put a d t v (by omega)
        obtain ⟨b, h1, h2, h4, h5, h6, h7, f0, f1, f2, f3, f4, f5, f6, f7, n25, rw_⟩ := hF
        have t3 := q3
        rw [eval_tmp, Array.getD_eq_getD_getElem?] at t3
        refine step_value (v := .int .i64 (2 * (h : Int))) (w' := wr) rfl (by go_simp) ?_
        refine hK _ _ ⟨hst.put 38 _ (by decide), by simpa [Act.put] using hsz, (ev 38 3 _ (by decide)).trans q3, ?_⟩
        simp only [ev 38 _ _ (by decide)]
        exact ⟨b, h1, h2, fun e => absurd ((h4 e).symm.trans hL) (by decide), h5, h6, h7, f0, f1, f2, fun _ => rfl, f4, f5, f6, f7, n25, rw_⟩
      case t4 =>
        rintro L a wr ⟨hst, hsz, q3, hF⟩ hL hdp K hK
        have ev := fun (d t : Nat) (v : Value) (hd : d < 41) => eval_put a d t v (by omega)
        have d3 : L 3 = true := hdp ⟨3, .data⟩ (by simp) rfl
        obtain ⟨b, h1, h2, h4, h5, h6, h7, f0, f1, f2, f3, f4, f5, f6, f7, n25, rw_⟩ := hF
        have t38 := f3 d3
        rw [eval_tmp, Array.getD_eq_getD_getElem?] at t38
        refine step_value (v := .int .i64 (h : Nat)) (w' := wr) rfl (by go_simp) ?_
        refine hK _ _ ⟨hst.put 39 _ (by decide), by simpa [Act.put] using hsz, (ev 39 3 _ (by decide)).trans q3, ?_⟩
        simp only [ev 39 _ _ (by decide)]
        exact ⟨b, h1, h2, fun _ => d3, fun e => absurd ((h5 e).symm.trans hL) (by decide), h6, h7, f0, f1, f2, f3, fun _ => rfl, f5, f6, f7, n25, rw_⟩
      case t5 =>
        rintro L a wr ⟨hst, hsz, q3, hF⟩ hL hdp K hK
        have ev := fun (d t : Nat) (v : Value) (hd : d < 41) => eval_put a d t v (by omega)
        have d4 : L 4 = true := hdp ⟨4, .data⟩ (by simp) rfl
        obtain ⟨b, h1, h2, h4, h5, h6, h7, f0, f1, f2, f3, f4, f5, f6, f7, n25, rw_⟩ := hF
        have t39 := f4 d4
        have t39 := f4 d4
        have hsz1 := b.size
        have hq1 := (rw_.q.lt gQ rfl).2
        refine step_value (v := .slice (some ⟨wr.heap.size, 0, none⟩) h h) (w' := wr.alloc (.cells (madeCells #[.int .i64 0] h) 3)) rfl (by simp only [execOp, t39]; simp only [Sem.run_bind, hmi]; go_simp) ?_
        refine hK _ _ ⟨hst.put 40 _ (by decide), by simpa [Act.put] using hsz, (ev 40 3 _ (by decide)).trans q3, ?_⟩
        simp only [ev 40 _ _ (by decide)]
        exact ⟨alloc_ b _, h1, h2, h4, fun _ => d4, h6, fun e => absurd ((h7 e).symm.trans hL) (by decide), f0, f1, fun e => by obtain ⟨g, e2, h7⟩ := f2 e; exact ⟨g, e2, h7.1, h7.2.1, h7.2.2.alloc _⟩, f3, f4, fun _ => ⟨wr.heap.size, rfl, hq1, hsz1, Blk.new _ _ _⟩, f6, fun e => absurd ((h7 e).symm.trans hL) (by decide), fun e _ => by obtain ⟨g, e2, h7⟩ := f2 e; have h8 := h7.2.2.lt; rw [e2]; intro e3; injection e3 with e4; have h9 := congrArg (fun x : Option Addr => (x.map (·.block)).getD 0) e4; simp at h9; omega, rw_.alloc _⟩
      case t6 =>
        rintro L a wr ⟨hst, hsz, q3, hF⟩ hL hdp K hK
        have ev := fun (d t : Nat) (v : Value) (hd : d < 41) => eval_put a d t v (by omega)
        have d2 : L 2 = true := hdp ⟨2, .data⟩ (by simp) rfl
        obtain ⟨b, h1, h2, h4, h5, h6, h7, f0, f1, f2, f3, f4, f5, f6, f7, n25, rw_⟩ := hF
        refine step_value (v := a.eval (.tmp 37)) (w' := wr) rfl (by go_simp) ?_
        refine hK _ _ ⟨hst.put 8 _ (by decide), by simpa [Act.put] using hsz, (ev 8 3 _ (by decide)).trans q3, ?_⟩
        simp only [ev 8 _ _ (by decide)]
        exact ⟨b, h1, h2, h4, h5, fun _ => d2, h7, f0, f1, f2, f3, f4, f5, fun _ => rfl, f7, n25, rw_⟩
      case t7 =>
        rintro L a wr ⟨hst, hsz, q3, hF⟩ hL hdp K hK
        have ev := fun (d t : Nat) (v : Value) (hd : d < 41) => eval_put a d t v (by omega)
        have d5 : L 5 = true := hdp ⟨5, .data⟩ (by simp) rfl
        obtain ⟨b, h1, h2, h4, h5, h6, h7, f0, f1, f2, f3, f4, f5, f6, f7, n25, rw_⟩ := hF
        refine step_value (v := a.eval (.tmp 40)) (w' := wr) rfl (by go_simp) ?_
        refine hK _ _ ⟨hst.put 9 _ (by decide), by simpa [Act.put] using hsz, (ev 9 3 _ (by decide)).trans q3, ?_⟩
        simp only [ev 9 _ _ (by decide)]
        exact ⟨b, h1, h2, h4, h5, h6, fun _ => d5, f0, f1, f2, f3, f4, f5, f6, fun _ => rfl, n25, rw_⟩
  case steps =>
    refine ⟨?s0, ?s1, ?s2, ?s3, ?s4, ?s5, ?s6, ?s7, ?s8, ?s9, ?s10, ?s11, trivial⟩
    case s0 =>
      rintro L a wr ⟨hst, hsz, q3, hF⟩ hL hdp K hK
      have ev := fun (d t : Nat) (v : Value) (hd : d < 35) => eval_put a d t v (by omega)
      obtain ⟨b, h1, h2, h4, h5, h7, h8, h9, h10, h11, f0, f1, f2, f3, f4, f5, f6, f7, f8, f9, f10, f11, n25, n28, n58⟩ := hF
      have t3 := q3
      rw [eval_tmp, Array.getD_eq_getD_getElem?] at t3
      refine step_value (v := .int .i64 (2 * (h : Int))) (w' := wr) rfl (by go_simp) ?_
      refine hK _ _ ⟨hst.put 26 _ (by decide), by simpa [Act.put] using hsz, (ev 26 3 _ (by decide)).trans q3, ?_⟩
      simp only [ev 26 _ _ (by decide)]
      exact ⟨b, fun e => absurd ((h1 e).symm.trans hL) (by decide), h2, h4, h5, h7, h8, h9, h10, h11, fun _ => rfl, f1, f2, f3, f4, f5, f6, f7, f8, f9, f10, f11, n25, n28, n58⟩
    case s1 =>
      rintro L a wr ⟨hst, hsz, q3, hF⟩ hL hdp K hK
      have ev := fun (d t : Nat) (v : Value) (hd : d < 35) => eval_put a d t v (by omega)
      have d0 : L 0 = true := hdp ⟨0, .data⟩ (by simp) rfl
      obtain ⟨b, h1, h2, h4, h5, h7, h8, h9, h10, h11, f0, f1, f2, f3, f4, f5, f6, f7, f8, f9, f10, f11, n25, n28, n58⟩ := hF
      have t26 := f0 d0
      rw [eval_tmp, Array.getD_eq_getD_getElem?] at t26
      refine step_value (v := .int .i64 (h : Nat)) (w' := wr) rfl (by go_simp) ?_
      refine hK _ _ ⟨hst.put 27 _ (by decide), by simpa [Act.put] using hsz, (ev 27 3 _ (by decide)).trans q3, ?_⟩
      simp only [ev 27 _ _ (by decide)]
      exact ⟨b, fun _ => d0, fun e => absurd ((h2 e).symm.trans hL) (by decide), h4, h5, h7, h8, h9, h10, h11, f0, fun _ => rfl, f2, f3, f4, f5, f6, f7, f8, f9, f10, f11, n25, n28, n58⟩
    case s2 =>
      rintro L a wr ⟨hst, hsz, q3, hF⟩ hL hdp K hK
      have ev := fun (d t : Nat) (v : Value) (hd : d < 35) => eval_put a d t v (by omega)
      have d1 : L 1 = true := hdp ⟨1, .data⟩ (by simp) rfl
      obtain ⟨b, h1, h2, h4, h5, h7, h8, h9, h10, h11, f0, f1, f2, f3, f4, f5, f6, f7, f8, f9, f10, f11, n25, n28, n58⟩ := hF
      have t27 := f1 d1
      have t27 := f1 d1
      have hsz1 := b.1
      refine step_value (v := .slice (some ⟨wr.heap.size, 0, none⟩) h h) (w' := wr.alloc (.cells (madeCells #[.bool false] h) 4)) rfl (by simp only [execOp, t27]; simp only [Sem.run_bind, hmk]; go_simp) ?_
      refine hK _ _ ⟨hst.put 28 _ (by decide), by simpa [Act.put] using hsz, (ev 28 3 _ (by decide)).trans q3, ?_⟩
      simp only [ev 28 _ _ (by decide)]
      exact ⟨⟨Nat.le_trans b.1 (by simp), alloc_ b.2 _⟩, h1, fun _ => d1, h4, h5, h7, h8, fun e => absurd ((h9 e).symm.trans hL) (by decide), h10, h11, f0, f1, fun _ => ⟨wr.heap.size, rfl, hsz1, Blk.new _ _ _⟩, f3, f4, fun e => by obtain ⟨g, e2, h7⟩ := f5 e; exact ⟨g, e2, h7.1, h7.2.alloc _⟩, f6, f7, fun e => by obtain ⟨g, e2, h7⟩ := f8 e; exact ⟨g, e2, h7.1, h7.2.alloc _⟩, fun e => absurd ((h9 e).symm.trans hL) (by decide), f10, f11, fun _ e => by obtain ⟨g, e2, h7⟩ := f5 e; have h8 := h7.2.lt; rw [e2]; intro e3; injection e3 with e4; have h9 := congrArg (fun x : Option Addr => (x.map (·.block)).getD 0) e4; simp at h9; omega, fun _ e => by obtain ⟨g, e2, h7⟩ := f8 e; have h8 := h7.2.lt; rw [e2]; intro e3; injection e3 with e4; have h9 := congrArg (fun x : Option Addr => (x.map (·.block)).getD 0) e4; simp at h9; omega, n58⟩
    case s3 =>
      rintro L a wr ⟨hst, hsz, q3, hF⟩ hL hdp K hK
      have ev := fun (d t : Nat) (v : Value) (hd : d < 35) => eval_put a d t v (by omega)
      obtain ⟨b, h1, h2, h4, h5, h7, h8, h9, h10, h11, f0, f1, f2, f3, f4, f5, f6, f7, f8, f9, f10, f11, n25, n28, n58⟩ := hF
      have t3 := q3
      rw [eval_tmp, Array.getD_eq_getD_getElem?] at t3
      refine step_value (v := .int .i64 (2 * (h : Int))) (w' := wr) rfl (by go_simp) ?_
      refine hK _ _ ⟨hst.put 29 _ (by decide), by simpa [Act.put] using hsz, (ev 29 3 _ (by decide)).trans q3, ?_⟩
      simp only [ev 29 _ _ (by decide)]
      exact ⟨b, h1, h2, fun e => absurd ((h4 e).symm.trans hL) (by decide), h5, h7, h8, h9, h10, h11, f0, f1, f2, fun _ => rfl, f4, f5, f6, f7, f8, f9, f10, f11, n25, n28, n58⟩
    case s4 =>
      rintro L a wr ⟨hst, hsz, q3, hF⟩ hL hdp K hK
      have ev := fun (d t : Nat) (v : Value) (hd : d < 35) => eval_put a d t v (by omega)
      have d3 : L 3 = true := hdp ⟨3, .data⟩ (by simp) rfl
      obtain ⟨b, h1, h2, h4, h5, h7, h8, h9, h10, h11, f0, f1, f2, f3, f4, f5, f6, f7, f8, f9, f10, f11, n25, n28, n58⟩ := hF
      have t29 := f3 d3
      rw [eval_tmp, Array.getD_eq_getD_getElem?] at t29
      refine step_value (v := .int .i64 (h : Nat)) (w' := wr) rfl (by go_simp) ?_
      refine hK _ _ ⟨hst.put 30 _ (by decide), by simpa [Act.put] using hsz, (ev 30 3 _ (by decide)).trans q3, ?_⟩
      simp only [ev 30 _ _ (by decide)]
      exact ⟨b, h1, h2, fun _ => d3, fun e => absurd ((h5 e).symm.trans hL) (by decide), h7, h8, h9, h10, h11, f0, f1, f2, f3, fun _ => rfl, f5, f6, f7, f8, f9, f10, f11, n25, n28, n58⟩
    case s5 =>
      rintro L a wr ⟨hst, hsz, q3, hF⟩ hL hdp K hK
      have ev := fun (d t : Nat) (v : Value) (hd : d < 35) => eval_put a d t v (by omega)
      have d4 : L 4 = true := hdp ⟨4, .data⟩ (by simp) rfl
      obtain ⟨b, h1, h2, h4, h5, h7, h8, h9, h10, h11, f0, f1, f2, f3, f4, f5, f6, f7, f8, f9, f10, f11, n25, n28, n58⟩ := hF
      have t30 := f4 d4
      have t30 := f4 d4
      have hsz1 := b.1
      refine step_value (v := .slice (some ⟨wr.heap.size, 0, none⟩) h h) (w' := wr.alloc (.cells (madeCells #[.bool false] h) 4)) rfl (by simp only [execOp, t30]; simp only [Sem.run_bind, hmk]; go_simp) ?_
      refine hK _ _ ⟨hst.put 31 _ (by decide), by simpa [Act.put] using hsz, (ev 31 3 _ (by decide)).trans q3, ?_⟩
      simp only [ev 31 _ _ (by decide)]
      exact ⟨⟨Nat.le_trans b.1 (by simp), alloc_ b.2 _⟩, h1, h2, h4, fun _ => d4, h7, h8, h9, fun e => absurd ((h10 e).symm.trans hL) (by decide), h11, f0, f1, fun e => by obtain ⟨g, e2, h7⟩ := f2 e; exact ⟨g, e2, h7.1, h7.2.alloc _⟩, f3, f4, fun _ => ⟨wr.heap.size, rfl, hsz1, Blk.new _ _ _⟩, f6, f7, fun e => by obtain ⟨g, e2, h7⟩ := f8 e; exact ⟨g, e2, h7.1, h7.2.alloc _⟩, f9, fun e => absurd ((h10 e).symm.trans hL) (by decide), f11, fun e _ => by obtain ⟨g, e2, h7⟩ := f2 e; have h8 := h7.2.lt; rw [e2]; intro e3; injection e3 with e4; have h9 := congrArg (fun x : Option Addr => (x.map (·.block)).getD 0) e4; simp at h9; omega, n28, fun _ e => by obtain ⟨g, e2, h7⟩ := f8 e; have h8 := h7.2.lt; rw [e2]; intro e3; injection e3 with e4; have h9 := congrArg (fun x : Option Addr => (x.map (·.block)).getD 0) e4; simp at h9; omega⟩
    case s6 =>
      rintro L a wr ⟨hst, hsz, q3, hF⟩ hL hdp K hK
      have ev := fun (d t : Nat) (v : Value) (hd : d < 35) => eval_put a d t v (by omega)
      obtain ⟨b, h1, h2, h4, h5, h7, h8, h9, h10, h11, f0, f1, f2, f3, f4, f5, f6, f7, f8, f9, f10, f11, n25, n28, n58⟩ := hF
      have t3 := q3
      rw [eval_tmp, Array.getD_eq_getD_getElem?] at t3
      refine step_value (v := .int .i64 (2 * (h : Int))) (w' := wr) rfl (by go_simp) ?_
      refine hK _ _ ⟨hst.put 32 _ (by decide), by simpa [Act.put] using hsz, (ev 32 3 _ (by decide)).trans q3, ?_⟩
      simp only [ev 32 _ _ (by decide)]
      exact ⟨b, h1, h2, h4, h5, fun e => absurd ((h7 e).symm.trans hL) (by decide), h8, h9, h10, h11, f0, f1, f2, f3, f4, f5, fun _ => rfl, f7, f8, f9, f10, f11, n25, n28, n58⟩
    case s7 =>
      rintro L a wr ⟨hst, hsz, q3, hF⟩ hL hdp K hK
      have ev := fun (d t : Nat) (v : Value) (hd : d < 35) => eval_put a d t v (by omega)
      have d6 : L 6 = true := hdp ⟨6, .data⟩ (by simp) rfl
      obtain ⟨b, h1, h2, h4, h5, h7, h8, h9, h10, h11, f0, f1, f2, f3, f4, f5, f6, f7, f8, f9, f10, f11, n25, n28, n58⟩ := hF
      have t32 := f6 d6
      rw [eval_tmp, Array.getD_eq_getD_getElem?] at t32
      refine step_value (v := .int .i64 (h : Nat)) (w' := wr) rfl (by go_simp) ?_
      refine hK _ _ ⟨hst.put 33 _ (by decide), by simpa [Act.put] using hsz, (ev 33 3 _ (by decide)).trans q3, ?_⟩
      simp only [ev 33 _ _ (by decide)]
      exact ⟨b, h1, h2, h4, h5, fun _ => d6, fun e => absurd ((h8 e).symm.trans hL) (by decide), h9, h10, h11, f0, f1, f2, f3, f4, f5, f6, fun _ => rfl, f8, f9, f10, f11, n25, n28, n58⟩
    case s8 =>
      rintro L a wr ⟨hst, hsz, q3, hF⟩ hL hdp K hK
      have ev := fun (d t : Nat) (v : Value) (hd : d < 35) => eval_put a d t v (by omega)
      have d7 : L 7 = true := hdp ⟨7, .data⟩ (by simp) rfl
      obtain ⟨b, h1, h2, h4, h5, h7, h8, h9, h10, h11, f0, f1, f2, f3, f4, f5, f6, f7, f8, f9, f10, f11, n25, n28, n58⟩ := hF
      have t33 := f7 d7
      have t33 := f7 d7
      have hsz1 := b.1
      refine step_value (v := .slice (some ⟨wr.heap.size, 0, none⟩) h h) (w' := wr.alloc (.cells (madeCells #[.bool false] h) 4)) rfl (by simp only [execOp, t33]; simp only [Sem.run_bind, hmk]; go_simp) ?_
      refine hK _ _ ⟨hst.put 34 _ (by decide), by simpa [Act.put] using hsz, (ev 34 3 _ (by decide)).trans q3, ?_⟩
      simp only [ev 34 _ _ (by decide)]
      exact ⟨⟨Nat.le_trans b.1 (by simp), alloc_ b.2 _⟩, h1, h2, h4, h5, h7, fun _ => d7, h9, h10, fun e => absurd ((h11 e).symm.trans hL) (by decide), f0, f1, fun e => by obtain ⟨g, e2, h7⟩ := f2 e; exact ⟨g, e2, h7.1, h7.2.alloc _⟩, f3, f4, fun e => by obtain ⟨g, e2, h7⟩ := f5 e; exact ⟨g, e2, h7.1, h7.2.alloc _⟩, f6, f7, fun _ => ⟨wr.heap.size, rfl, hsz1, Blk.new _ _ _⟩, f9, f10, fun e => absurd ((h11 e).symm.trans hL) (by decide), n25, fun e _ => by obtain ⟨g, e2, h7⟩ := f2 e; have h8 := h7.2.lt; rw [e2]; intro e3; injection e3 with e4; have h9 := congrArg (fun x : Option Addr => (x.map (·.block)).getD 0) e4; simp at h9; omega, fun e _ => by obtain ⟨g, e2, h7⟩ := f5 e; have h8 := h7.2.lt; rw [e2]; intro e3; injection e3 with e4; have h9 := congrArg (fun x : Option Addr => (x.map (·.block)).getD 0) e4; simp at h9; omega⟩
    case s9 =>
      rintro L a wr ⟨hst, hsz, q3, hF⟩ hL hdp K hK
      have ev := fun (d t : Nat) (v : Value) (hd : d < 35) => eval_put a d t v (by omega)
      have d2 : L 2 = true := hdp ⟨2, .data⟩ (by simp) rfl
      obtain ⟨b, h1, h2, h4, h5, h7, h8, h9, h10, h11, f0, f1, f2, f3, f4, f5, f6, f7, f8, f9, f10, f11, n25, n28, n58⟩ := hF
      refine step_value (v := a.eval (.tmp 28)) (w' := wr) rfl (by go_simp) ?_
      refine hK _ _ ⟨hst.put 5 _ (by decide), by simpa [Act.put] using hsz, (ev 5 3 _ (by decide)).trans q3, ?_⟩
      simp only [ev 5 _ _ (by decide)]
      exact ⟨b, h1, h2, h4, h5, h7, h8, fun _ => d2, h10, h11, f0, f1, f2, f3, f4, f5, f6, f7, f8, fun _ => rfl, f10, f11, n25, n28, n58⟩
    case s10 =>
      rintro L a wr ⟨hst, hsz, q3, hF⟩ hL hdp K hK
      have ev := fun (d t : Nat) (v : Value) (hd : d < 35) => eval_put a d t v (by omega)
      have d5 : L 5 = true := hdp ⟨5, .data⟩ (by simp) rfl
      obtain ⟨b, h1, h2, h4, h5, h7, h8, h9, h10, h11, f0, f1, f2, f3, f4, f5, f6, f7, f8, f9, f10, f11, n25, n28, n58⟩ := hF
      refine step_value (v := a.eval (.tmp 31)) (w' := wr) rfl (by go_simp) ?_
      refine hK _ _ ⟨hst.put 6 _ (by decide), by simpa [Act.put] using hsz, (ev 6 3 _ (by decide)).trans q3, ?_⟩
      simp only [ev 6 _ _ (by decide)]
      exact ⟨b, h1, h2, h4, h5, h7, h8, h9, fun _ => d5, h11, f0, f1, f2, f3, f4, f5, f6, f7, f8, f9, fun _ => rfl, f11, n25, n28, n58⟩
    case s11 =>
      rintro L a wr ⟨hst, hsz, q3, hF⟩ hL hdp K hK
      have ev := fun (d t : Nat) (v : Value) (hd : d < 35) => eval_put a d t v (by omega)
      have d8 : L 8 = true := hdp ⟨8, .data⟩ (by simp) rfl
      obtain ⟨b, h1, h2, h4, h5, h7, h8, h9, h10, h11, f0, f1, f2, f3, f4, f5, f6, f7, f8, f9, f10, f11, n25, n28, n58⟩ := hF
      refine step_value (v := a.eval (.tmp 34)) (w' := wr) rfl (by go_simp) ?_
      refine hK _ _ ⟨hst.put 7 _ (by decide), by simpa [Act.put] using hsz, (ev 7 3 _ (by decide)).trans q3, ?_⟩
      simp only [ev 7 _ _ (by decide)]
      exact ⟨b, h1, h2, h4, h5, h7, h8, h9, h10, fun _ => d8, f0, f1, f2, f3, f4, f5, f6, f7, f8, f9, f10, fun _ => rfl, n25, n28, n58⟩
theorem sroute_zero (A : Option Addr) (P : List Nat) (c : Nat) (w : World) (hP : PermN P 2) (hx : Reads w w.heap.size 1 A 2 (nats P)) :
    Calls Try.prog 33 #[.slice A 2 c] w fun e w' => ∃ v, e = .returned v ∧ w'.ownsRow w.heap.size 4 1 v 1 (bools (rtF 0 P)) ∧ Below w.heap.size w w' := by
  have hl := hP.len
  obtain ⟨ad, u, rfl, -, hu, hc⟩ := hx.at_ (k := 0) (by omega)
  rw [nats_get (by omega), ← atN_mem (by omega)] at hu
  cases hu
  have hadd : ad.add 0 = ad := by simp [Addr.add]
  rw [hadd] at hc
  have HR : Hid (rtF 0 P = [atN P 0 == 1]) := Lib.hid rfl
  obtain ⟨b, hb⟩ : ∃ b, (((atN P 0 : Nat) : Int) == 1) = b := ⟨_, rfl⟩
  have HBB : Hid ((atN P 0 == 1) = b) := Lib.hid (by rw [← hb]; simp [Bool.beq_eq_decide_eq]; omega)
  generalize atN P 0 = x at *
  have HX := Lib.hid hx
  clear hP hl hx hadd
  go_enter Try.func33, Try.ntmps33
  go_wp2_with fail
  go_ret
  have ho := own_full (base := w.heap.size) (e := 4) (size := 1) w #[.bool b] 1 (Nat.le_refl _) (by decide) rfl
  exact ⟨_, rfl, by rw [HR.out, HBB.out]; exact ho, alloc_ (Below.refl _ _) _⟩
theorem sroute_all : ∀ (f : Nat), f ≤ 5 → ∀ (A : Option Addr) (P : List Nat) (c : Nat) (w : World), PermN P (2 ^ (f + 1)) → Reads w w.heap.size 1 A (2 ^ (f + 1)) (nats P) →
    Calls Try.prog 33 #[.slice A (2 ^ (f + 1)) c] w fun e w' => ∃ v, e = .returned v ∧ w'.ownsRow w.heap.size 4 1 v (bsz f) (bools (rtF f P)) ∧ Below w.heap.size w w'
  | 0, _, A, P, c, w, hP, hx => sroute_zero A P c w hP hx
  | f + 1, hf, A, P, c, w, hP, hx => by
    have hpow : 2 ^ (f + 1 + 1) = 2 * 2 ^ (f + 1) := by rw [Nat.pow_succ 2 (f + 1)]; omega
    have hb := bsz_bd ⟨f, by omega⟩
    have hb5 := bsz_bd ⟨f + 1, by omega⟩
    simp only at hb hb5
    have hz : bsz (f + 1) = 2 * 2 ^ (f + 1) + 2 * bsz f := by rw [← hpow]; rfl
    have h2p : 2 ≤ 2 ^ (f + 1) := by have := Nat.one_le_two_pow (n := f); rw [Nat.pow_succ]; omega
    obtain ⟨ad, u, rfl, -⟩ := hx.at_ (k := 0) (by omega)
    rw [hpow] at hP hx ⊢
    rw [hz]
    exact sroute_succ f (2 ^ (f + 1)) (bsz f) ad P c w h2p hb5.2 hb.1 hP hx (Lib.hid rfl) (Lib.hid (rtF_len f)) (Lib.hid fun A P c w h3 h4 => sroute_all f (by omega) A P c w h3 h4)
end Go.Proofs.Ytmeaipickolhfaa
