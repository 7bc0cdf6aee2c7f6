/- The tree of leaves: the reference's side. -/
import Derived.Test.YtifjihpnhmemgaaTreeOf
import Derived.Test.YtifjihpnhmemgaaInv
import Derived.Test.YtifjihpnhmemgaaSort
import Derived.Deep.RegionLaw
import Derived.Deep.RegionHeld3
import Derived.Deep.DeepCutAuto
import Derived.Deep.OwnRows
namespace Go.Proofs.Ytifjihpnhmemgaa
open Go.RowKit
set_option linter.unusedVariables false
set_option maxRecDepth 100000 in
set_option maxHeartbeats 3200000 in
theorem sBeats_any (AK AD : Option Addr) (ks : List Int) (ds : List Bool) (k cK cD : Nat) (i m : Nat) (w : World)
    (hk : ks.length = k) (hd : ds.length = k) (hK : Reads w w.heap.size 1 AK ks.length (ints ks)) (hD : Reads w w.heap.size 1 AD ds.length (bools ds)) (hi : i < k) (hm : m < k) (hk20 : k ≤ 1048576) :
    Calls Try.prog 43 #[.slice AK k cK, .slice AD k cD, .int .i64 i, .int .i64 m] w fun e w' => e = .returned (.bool (beatsB ks ds i m)) ∧ ∃ n, w' = w.drewN n := by
  obtain ⟨ak, rfl, -, k1⟩ := hK.int (k := i) (by omega)
  obtain ⟨bk, hbk, -, k2⟩ := hK.int (k := m) (by omega)
  cases hbk
  obtain ⟨ad, rfl, -, d1⟩ := hD.tv (k := i) (by omega)
  obtain ⟨bd, hbd, -, d2⟩ := hD.tv (k := m) (by omega)
  cases hbd
  have HB := Lib.hid (show beatsB ks ds i m = if ds[i] = ds[m] then (if ks[i] = ks[m] then decide (i < m) else decide (ks[i] < ks[m])) else ds[m] by
    unfold beatsB
    rw [List.getElem?_eq_getElem (by omega), List.getElem?_eq_getElem (show m < ds.length by omega), List.getElem?_eq_getElem (show i < ks.length by omega), List.getElem?_eq_getElem (show m < ks.length by omega)]
    rfl)
  clear hK hD
  generalize ks[i] = a at *
  generalize ks[m] = b at *
  generalize ds[i] = x at *
  generalize ds[m] = y at *
  have ik : (i : Int) < k := by omega
  have mk : (m : Int) < k := by omega
  clear hk hd
  cases x <;> cases y
  case false.true =>
    go_enter Try.func43, Try.ntmps43
    go_wp2_with fail
    go_quiet (fail)
    go_wp2_with fail
    go_ret
    exact ⟨retb (by rw [HB.out]; rfl), _, rfl⟩
  case true.false =>
    go_enter Try.func43, Try.ntmps43
    go_wp2_with fail
    go_quiet (fail)
    go_wp2_with fail
    go_ret
    exact ⟨retb (by rw [HB.out]; rfl), _, rfl⟩
  all_goals
    rcases Int.lt_trichotomy a b with hab | hab | hab
    · have e1 : decide (a < b) = true := by simpa using hab
      have e2 : (a != b) = true := by rw [bne_iff_ne]; omega
      have HBT := Lib.hid (show beatsB ks ds i m = true by rw [HB.out, if_pos rfl, if_neg (by omega), e1])
      go_enter Try.func43, Try.ntmps43
      go_wp2_with fail
      go_quiet (fail)
      go_wp2_with fail
      go_quiet (fail)
      go_wp2_with fail
      go_quiet (fail)
      go_wp2_with fail
      go_ret
      exact ⟨retb HBT.out.symm, _, by first | rfl | (rw [World.drewN_drewN, World.drewN_drewN]) | (rw [World.drewN_drewN])⟩
    · subst hab
      have e1 : decide (a < a) = false := by simp
      have e2 : (a != a) = false := by simp
      have HBT := Lib.hid (show beatsB ks ds i m = decide (i < m) by rw [HB.out, if_pos rfl, if_pos rfl])
      go_enter Try.func43, Try.ntmps43
      go_wp2_with fail
      go_quiet (fail)
      go_wp2_with fail
      go_quiet (fail)
      go_wp2_with fail
      go_ret
      exact ⟨retb HBT.out.symm, _, by first | rfl | (rw [World.drewN_drewN])⟩
    · have e1 : decide (a < b) = false := decide_eq_false (by omega)
      have e2 : (a != b) = true := by rw [bne_iff_ne]; omega
      have HBT := Lib.hid (show beatsB ks ds i m = false by rw [HB.out, if_pos rfl, if_neg (by omega), e1])
      go_enter Try.func43, Try.ntmps43
      go_wp2_with fail
      go_quiet (fail)
      go_wp2_with fail
      go_quiet (fail)
      go_wp2_with fail
      go_quiet (fail)
      go_wp2_with fail
      go_ret
      exact ⟨retb HBT.out.symm, _, by first | rfl | (rw [World.drewN_drewN, World.drewN_drewN]) | (rw [World.drewN_drewN])⟩
theorem copyS_any (A : Option Addr) (zs : List Int) (k c : Nat) (w : World) (hk : zs.length = k) (hx : Reads w w.heap.size 1 A zs.length (ints zs)) (hl : k ≤ 1048576) :
    Calls Try.prog 42 #[.slice A k c] w fun e w' => ∃ v, e = .returned v ∧ w'.ownsRow w.heap.size 3 1 v k (ints zs) ∧ Below w.heap.size w w' := by
  subst hk
  exact l1OwnS_any A zs c w hx hl
theorem own_mk {w : World} {base g k : Nat} {e : TypeId} (hb : base ≤ w.heap.size) (hg : w.heap.size = g) (hm : k ≤ maxLen) :
    (w.alloc (.cells (madeCells #[.int .i64 0] k) e)).ownsRow base e 1 (.slice (some ⟨g, 0, none⟩) k k) k (nats (List.replicate k 0)) := by
  subst hg
  have h := own_full (base := base) (e := e) (size := 1) w (madeCells #[.int .i64 0] k) k hb hm (by simp [size_madeCells])
  have e2 : (madeCells #[Value.int .i64 0] k).toList = nats (List.replicate k 0) := by simp [nats, ints, toList_madeCells_one]
  rwa [e2] at h
theorem Blk.set4 {w : World} {g : Nat} {T : TypeId} {a b c d a' b' c' d' : Value} (h : Blk w g T #[a, b, c, d]) :
    Blk ((((w.setCell ⟨g, 0, none⟩ a').setCell ⟨g, 1, none⟩ b').setCell ⟨g, 2, none⟩ c').setCell ⟨g, 3, none⟩ d') g T #[a', b', c', d'] := by
  have := (((h.set_ 0 a').set_ 1 b').set_ 2 c').set_ 3 d'
  simpa using this
/-- the reference's state ahead of node p -/
def StS (ks : List Int) (ds : List Bool) (k p : Nat) (ws ls : List Nat) : Prop :=
  ws.length = 2 * k ∧ ls.length = k ∧ (k ≤ p + 1 → ws = List.replicate (p + 1) 0 ++ (List.range k).drop (p + 1 - k) ∧ ls = List.replicate k 0) ∧ (p < k → ws = (plK ks ds (k - 1 - p)).1 ∧ ls = (plK ks ds (k - 1 - p)).2)
theorem stS_start {ks : List Int} {ds : List Bool} {k : Nat} (h1 : 1 ≤ k) : StS ks ds k (2 * k - 1) (List.replicate (2 * k) 0) (List.replicate k 0) := by
  refine ⟨by simp, by simp, fun _ => ⟨?_, rfl⟩, fun h => by omega⟩
  rw [show 2 * k - 1 + 1 = 2 * k by omega, List.drop_eq_nil_of_le (by simp; omega), List.append_nil]
theorem stS_leaf {ks : List Int} {ds : List Bool} {k p : Nat} {ws ls : List Nat} (h : StS ks ds k p ws ls) (hk : ks.length = k) (hp : k ≤ p) (h1 : 1 ≤ p) : StS ks ds k (p - 1) (ws.set p (p - k)) ls := by
  obtain ⟨hl1, hl2, h3, _⟩ := h
  obtain ⟨hw, hls⟩ := h3 (by omega)
  have hpk : p < 2 * k := by
    rw [hw] at hl1
    simp at hl1
    omega
  have e : ws.set p (p - k) = List.replicate p 0 ++ (List.range k).drop (p - k) := by
    rw [hw, List.replicate_succ', List.append_assoc, List.set_append, if_neg (by simp)]
    simp only [List.length_replicate, Nat.sub_self, List.singleton_append, List.set_cons_zero]
    congr 1
    rw [List.drop_eq_getElem_cons (by simp; omega : p - k < (List.range k).length)]
    simp
    congr 1
    omega
  refine ⟨by simpa using hl1, hl2, fun _ => ⟨?_, hls⟩, fun hlt => ?_⟩
  · rw [e, show p - 1 + 1 = p by omega]
  · have hpe : p = k := by omega
    subst hpe
    rw [e, hls, show p - 1 - (p - 1) = 0 by omega]
    simp [plK, hk]
theorem stS_lt {ks : List Int} {ds : List Bool} {k p : Nat} {ws ls : List Nat} (h : StS ks ds k p ws ls) (hp : p < k) (hk : ks.length = k) (hp0 : 1 ≤ p) (h1 : 1 ≤ k) :
    (ws[2 * p]'(by rw [h.1]; omega)) < k ∧ (ws[2 * p + 1]'(by rw [h.1]; omega)) < k := by
  obtain ⟨hl1, _, _, h4⟩ := h
  obtain ⟨hw, _⟩ := h4 hp
  have g1 := plK_lt (ks := ks) (ds := ds) (by omega) (k - 1 - p) (2 * p)
  have g2 := plK_lt (ks := ks) (ds := ds) (by omega) (k - 1 - p) (2 * p + 1)
  rw [← hw, List.getElem?_eq_getElem (by omega), Option.getD_some, hk] at g1
  rw [← hw, List.getElem?_eq_getElem (by omega), Option.getD_some, hk] at g2
  exact ⟨g1, g2⟩
theorem stS_node {ks : List Int} {ds : List Bool} {k p : Nat} {ws ls : List Nat} (h : StS ks ds k p ws ls) (hp : p < k) (hk : ks.length = k) (hp0 : 1 ≤ p) :
    StS ks ds k (p - 1) (ws.set p (winO ks ds (ws[2 * p]'(by rw [h.1]; omega)) (ws[2 * p + 1]'(by rw [h.1]; omega)))) (ls.set p (losO ks ds (ws[2 * p]'(by rw [h.1]; omega)) (ws[2 * p + 1]'(by rw [h.1]; omega)))) := by
  obtain ⟨hl1, hl2, _, h4⟩ := h
  obtain ⟨hw, hls⟩ := h4 hp
  refine ⟨by simpa using hl1, by simpa using hl2, fun _ => by omega, fun _ => ?_⟩
  have hs := plK_succ (ks := ks) (ds := ds) (t := k - 1 - p) (j := p) (by omega) (by omega)
  rw [show k - 1 - (p - 1) = k - 1 - p + 1 by omega, hs]
  subst hw hls
  exact ⟨rfl, rfl⟩
theorem stS_end {ks : List Int} {ds : List Bool} {k : Nat} {ws ls : List Nat} (h : StS ks ds k 0 ws ls) (h1 : 1 ≤ k) (hk : ks.length = k) : ls = loserV ks ds ∧ ws[1]?.getD 0 = winnerV ks ds := by
  obtain ⟨_, _, _, h4⟩ := h
  obtain ⟨hw, hls⟩ := h4 (by omega)
  rw [Nat.sub_zero] at hw hls
  exact ⟨by rw [hls, loserV, hk], by rw [hw, winnerV, hk]⟩
theorem make_carry {w wr w6 : World} {n0 p B1 B2 k1 k2 : Nat} {T t : TypeId} {cs : Array Value} {v1 v2 : Value} {xs ys : List Value} (h6 : ∃ n, w6 = (wr.drewN n0).drewN n) (hblk : Blk wr p T cs)
    (h1 : wr.ownsRow B1 t 1 v1 k1 xs) (h2 : wr.ownsRow B2 t 1 v2 k2 ys) (hb : Below w.heap.size w wr) : Blk w6 p T cs ∧ w6.ownsRow B1 t 1 v1 k1 xs ∧ w6.ownsRow B2 t 1 v2 k2 ys ∧ Below w.heap.size w w6 := by
  obtain ⟨n, rfl⟩ := h6
  exact ⟨hblk, h1, h2, below_drewN (below_drewN hb _) _⟩
theorem drew2 {wr w6 : World} {n0 p : Nat} {T : TypeId} {cs : Array Value} (h6 : ∃ n, w6 = (wr.drewN n0).drewN n) (hblk : Blk wr p T cs) : Blk w6 p T cs := by
  obtain ⟨n, rfl⟩ := h6; exact hblk
theorem odrew2 {wr w6 : World} {n0 B k : Nat} {t : TypeId} {v : Value} {xs : List Value} (h6 : ∃ n, w6 = (wr.drewN n0).drewN n) (h : wr.ownsRow B t 1 v k xs) : w6.ownsRow B t 1 v k xs := by
  obtain ⟨n, rfl⟩ := h6; exact h
theorem own_ne_blk {w : World} {w2 : World} {B k g gg : Nat} {t T : TypeId} {A : Option Addr} {c : Nat} {xs : List Value} {cs : Array Value} (h : w.ownsRow B t 1 (.slice (some ⟨g, 0, none⟩) k c) k xs) (hb : Blk w2 gg T cs) (hne : gg ≠ g := by assumption) : some gg ≠ (Value.slice (some ⟨g, 0, none⟩) k c).ownBlock := fun e => hne (Option.some.inj e)
theorem grown_set4 {w : World} (g : Nat) (a b c d : Value) : w.grownBy ((((w.setCell ⟨g, 0, none⟩ a).setCell ⟨g, 1, none⟩ b).setCell ⟨g, 2, none⟩ c).setCell ⟨g, 3, none⟩ d) (some g) :=
  ⟨rfl, rfl, rfl, by simp, fun k _ hk => by
    have hne : k ≠ g := fun e => hk (by rw [e])
    rw [Below.heap_setCell _ _ _ _ (by simpa using hne), Below.heap_setCell _ _ _ _ (by simpa using hne), Below.heap_setCell _ _ _ _ (by simpa using hne), Below.heap_setCell _ _ _ _ (by simpa using hne)]⟩
/-- the state within the region that makes the tree -/
def MakeF (w0 : World) (A : Option Addr) (c : Nat) (A' : Option Addr) (c' k : Nat) (ks : List Int) (ds : List Bool) (L : Nat → Bool) (wr : World) (v0 v1 v2 v3 v4 v5 v6 v7 v8 : Value) : Prop :=
  Below w0.heap.size w0 wr ∧ Blk wr w0.heap.size 54 #[.slice none 0 0, .slice none 0 0, .slice none 0 0, .int .i64 0] ∧
  (L 0 = true → v0 = .slice A k c) ∧ (L 3 = true → v3 = .slice A' k c') ∧ (L 5 = true → v5 = .int .i64 k) ∧
  (L 1 = true → ∃ AK cK, v1 = .slice AK k cK ∧ wr.ownsRow w0.heap.size 3 1 v1 k (ints ks)) ∧
  (L 2 = true → ∃ g, v2 = .slice (some ⟨g, 0, none⟩) 0 0 ∧ (L 4 = false → wr.ownsRow w0.heap.size 4 1 v2 0 [])) ∧
  (L 4 = true → ∃ AD cD, v4 = .slice AD k cD ∧ wr.ownsRow w0.heap.size 4 1 v4 k (bools ds)) ∧
  (L 6 = true → ∃ gL, v6 = .slice (some ⟨gL, 0, none⟩) k k ∧ wr.ownsRow w0.heap.size 3 1 v6 k (nats (List.replicate k 0))) ∧
  (L 7 = true → (L 1 = true ∧ L 4 = true ∧ L 6 = true) ∧ v7 = .agg #[v1, v4, v6, .int .i64 0]) ∧
  (L 9 = true → L 8 = true) ∧ (L 8 = true → ∃ pz, v8 = .pointer (some ⟨pz, 0, none⟩) ∧ w0.heap.size < pz ∧ (L 9 = false → Blk wr pz 54 #[.slice none 0 0, .slice none 0 0, .slice none 0 0, .int .i64 0]) ∧ (L 9 = true → L 7 = true ∧ Blk wr pz 54 #[v1, v4, v6, .int .i64 0])) ∧
  (L 1 = true → L 6 = true → v1.ownBlock = none ∨ v1.ownBlock ≠ v6.ownBlock)
theorem MakeF.below {w0 : World} {A : Option Addr} {c : Nat} {A' : Option Addr} {c' k : Nat} {ks : List Int} {ds : List Bool} {L : Nat → Bool} {wr w2 : World} {v0 v1 v2 v3 v4 v5 v6 v7 v8 : Value}
    (h : MakeF w0 A c A' c' k ks ds L wr v0 v1 v2 v3 v4 v5 v6 v7 v8) (hb : Below wr.heap.size wr w2) : MakeF w0 A c A' c' k ks ds L w2 v0 v1 v2 v3 v4 v5 v6 v7 v8 := by
  obtain ⟨hbw, hr, f0, f3, f5, f1, f2, f4, f6, f7, f98, f8, fn⟩ := h
  refine ⟨bthen hbw hb, hr.below_ hb, f0, f3, f5, fun e => ?_, fun e => ?_, fun e => ?_, fun e => ?_, f7, f98, fun e => ?_, fn⟩
  · obtain ⟨AK, cK, e1, h⟩ := f1 e; exact ⟨AK, cK, e1, own_below h hb (Nat.le_refl _)⟩
  · obtain ⟨g, e1, h⟩ := f2 e; exact ⟨g, e1, fun e2 => own_below (h e2) hb (Nat.le_refl _)⟩
  · obtain ⟨AK, cK, e1, h⟩ := f4 e; exact ⟨AK, cK, e1, own_below h hb (Nat.le_refl _)⟩
  · obtain ⟨g, e1, h⟩ := f6 e; exact ⟨g, e1, own_below h hb (Nat.le_refl _)⟩
  · obtain ⟨pz, e1, hp, h, h'⟩ := f8 e; exact ⟨pz, e1, hp, fun e2 => (h e2).below_ hb, fun e2 => ⟨(h' e2).1, (h' e2).2.below_ hb⟩⟩
set_option maxRecDepth 100000 in
set_option maxHeartbeats 12800000 in
theorem sMake_any (A : Option Addr) (ks : List Int) (c : Nat) (A' : Option Addr) (ds : List Bool) (c' k : Nat) (w : World) (hk : ks.length = k) (hd : ds.length = k) (hx : Reads w w.heap.size 1 A ks.length (ints ks)) (hy : Reads w w.heap.size 1 A' ds.length (bools ds)) (h1 : 1 ≤ k) (hl : k ≤ 1048576) :
    Calls Try.prog 31 #[.slice A k c, .slice A' k c'] w fun e w' => ∃ AK cK AD cD gL, e = .returned (.agg #[.slice AK k cK, .slice AD k cD, .slice (some ⟨gL, 0, none⟩) k k, .int .i64 (winnerV ks ds : Nat)]) ∧
      TreeOwn w' w.heap.size 3 4 k AK cK AD cD (some ⟨gL, 0, none⟩) k ks ds (loserI ks ds) ∧ Below w.heap.size w w' := by
  obtain ⟨i0, hi, hz0, hz1, hz2⟩ := info_parts (show (Try.prog.info? 3).map (fun i => (i.zero, i.size, i.bytes)) = some (some (.int .i64 0), 1, 8) by kernel_rfl)
  obtain ⟨i1, hj, hy0, hy1, hy2⟩ := info_parts (show (Try.prog.info? 4).map (fun i => (i.zero, i.size, i.bytes)) = some (some (.bool false), 1, 1) by kernel_rfl)
  have hmk := run_make_row (P := Try.prog) 51 3 i0 (.int .i64 0) Try.underlying51 hi hz0 hz1 rfl .i64 .i64 k (by rw [hz2]; omega) (by omega)
  have hbA := alloc_ (Below.refl w.heap.size w) (.cells #[.slice none 0 0, .slice none 0 0, .slice none 0 0, .int .i64 0] 54)
  have hblkA := Blk.new w 54 #[.slice none 0 0, .slice none 0 0, .slice none 0 0, .int .i64 0]
  have hwAs : (w.alloc (.cells #[.slice none 0 0, .slice none 0 0, .slice none 0 0, .int .i64 0] 54)).heap.size = w.heap.size + 1 := by simp
  generalize hwA : w.alloc (.cells #[.slice none 0 0, .slice none 0 0, .slice none 0 0, .int .i64 0] 54) = wA at *
  have hB1 : ∀ u ∈ bools ds, u.oneCell' = true := by intro u hu; simp [bools] at hu; rcases hu with ⟨_, rfl⟩ | ⟨_, rfl⟩ <;> rfl
  have HB1 := Lib.hid hB1; clear hB1
  have hlm : k ≤ maxLen := by unfold maxLen; omega
  go_enter Try.func31, Try.ntmps31
  go_upto_region 2 with fail
  go_cut [6, 19] (fun pv lv wc => ∃ (AK : Option Addr) (cK : Nat) (AD : Option Addr) (cD gL pz : Nat), pv = .pointer (some ⟨pz, 0, none⟩) ∧ lv = .slice (some ⟨gL, 0, none⟩) k k ∧ Blk wc pz 54 #[.slice AK k cK, .slice AD k cD, .slice (some ⟨gL, 0, none⟩) k k, .int .i64 0] ∧ w.heap.size < pz ∧ Below w.heap.size w wc ∧ Blk wc w.heap.size 54 #[.slice none 0 0, .slice none 0 0, .slice none 0 0, .int .i64 0] ∧
    wc.ownsRow w.heap.size 3 1 (.slice AK k cK) k (ints ks) ∧ wc.ownsRow w.heap.size 4 1 (.slice AD k cD) k (bools ds) ∧ wc.ownsRow w.heap.size 3 1 (.slice (some ⟨gL, 0, none⟩) k k) k (nats (List.replicate k 0)) ∧
    ((Value.slice AK k cK).ownBlock = none ∨ (Value.slice AK k cK).ownBlock ≠ some gL))
  case first =>
    refine wp_region_inv' (fun a0 L a wr => St a0 a [13, 14, 15, 16, 17, 18, 19, 20, 6] ∧ 30 < a.tmps.size ∧ a.eval (.tmp 0) = .slice A k c ∧ a.eval (.tmp 1) = .slice A' k c' ∧ a.eval (.tmp 5) = .int .i64 k ∧ MakeF w A c A' c' k ks ds L wr (a.eval (.tmp 13)) (a.eval (.tmp 14)) (a.eval (.tmp 15)) (a.eval (.tmp 16)) (a.eval (.tmp 17)) (a.eval (.tmp 18)) (a.eval (.tmp 19)) (a.eval (.tmp 20)) (a.eval (.tmp 6))) (by kernel_rfl) (by kernel_rfl) ?start ?steps ?ends
    case start =>
      refine ⟨St.refl _ _, Nat.le_of_ble_eq_true rfl, rfl, rfl, rfl, bdrew hbA, hblkA.drew, ?_, ?_, ?_, ?_, ?_, ?_, ?_, ?_, ?_, ?_, ?_⟩
      all_goals (intro e; cases e)
    case ends =>
      rintro L a wr ⟨hst, hsz, q0, q1, q5, hb, hr, f0, f3, f5, f1, f2, f4, f6, f7, f98, f8, fn⟩ hall
      obtain ⟨AK, cK, e14, hoK⟩ := f1 (hall 1 (by decide))
      obtain ⟨AD, cD, e17, hoD⟩ := f4 (hall 4 (by decide))
      obtain ⟨gL, e19, hoL⟩ := f6 (hall 6 (by decide))
      obtain ⟨pz, e6, hp, -, h99⟩ := f8 (hall 8 (by decide))
      have h9 := (h99 (hall 9 (by decide))).2
      clear h99
      have hne := fn (hall 1 (by decide)) (hall 6 (by decide))
      rw [e14] at hoK hne
      rw [e17] at hoD
      rw [e19] at hoL hne
      rw [e14, e17, e19] at h9
      have heq := hst.eq
      simp only [List.foldl_cons, List.foldl_nil, e6, e19] at heq
      clear hst f0 f3 f5 f1 f2 f4 f6 f7 f98 f8 fn hall e14 e17 e6 e19 q0 q1 q5 hsz
      generalize a.eval (.tmp 13) = u0 at heq
      generalize a.eval (.tmp 14) = u1 at heq
      generalize a.eval (.tmp 15) = u2 at heq
      generalize a.eval (.tmp 16) = u3 at heq
      generalize a.eval (.tmp 17) = u4 at heq
      generalize a.eval (.tmp 18) = u5 at heq
      generalize a.eval (.tmp 20) = u7 at heq
      simp only [Act.put, List.setIfInBounds_toArray, List.set_cons_zero, List.set_cons_succ] at heq
      subst heq
      go_wp2_with fail
      go_meet
      exact ⟨AK, cK, AD, cD, gL, pz, rfl, rfl, h9, hp, hb, hr, hoK, hoD, hoL, hne.imp_right fun h e => h (e.trans rfl)⟩
    case steps =>
      refine ⟨?s0, ?s1, ?s2, ?s3, ?s4, ?s5, ?s6, ?s7, ?s8, ?s9, trivial⟩
      case s0 =>
        rintro L a wr ⟨hst, hsz, q0, q1, q5, hF⟩ hL hdp K hK
        have ev := fun (d t : Nat) (v : Value) (hd : d < 31) => eval_put a d t v (by omega)
        refine step_value rfl rfl ?_
        refine hK _ _ ⟨hst.put 13 _ (by decide), by simpa [Act.put] using hsz, (ev 13 0 _ (by decide)).trans q0, (ev 13 1 _ (by decide)).trans q1, (ev 13 5 _ (by decide)).trans q5, ?_⟩
        simp only [ev 13 _ _ (by decide)]
        obtain ⟨hb, hr, f0, f3, f5, f1, f2, f4, f6, f7, f98, f8, fn⟩ := hF
        exact ⟨hb, hr, fun _ => q0, f3, f5, f1, f2, f4, f6, f7, f98, f8, fn⟩
      case s1 =>
        rintro L a wr ⟨hst, hsz, q0, q1, q5, hF⟩ hL hdp K hK
        have ev := fun (d t : Nat) (v : Value) (hd : d < 31) => eval_put a d t v (by omega)
        have d0 : L 0 = true := hdp ⟨0, .data⟩ (by simp) rfl
        have t13 := hF.2.2.1 d0
        refine step_enter (f := 42) (args := #[a.eval (.tmp 13)]) (w' := wr) rfl (by go_simp) ?_
        rw [t13]
        refine (copyS_any A ks k c wr hk (by have := hF.1; exact (hx.below this).more this.size) hl).mono ?_
        rintro e wK ⟨vK, rfl, oK, bK⟩
        refine ⟨vK, rfl, ?_⟩
        refine hK _ _ ⟨hst.put 14 _ (by decide), by simpa [Act.put] using hsz, (ev 14 0 _ (by decide)).trans q0, (ev 14 1 _ (by decide)).trans q1, (ev 14 5 _ (by decide)).trans q5, ?_⟩
        simp only [ev 14 _ _ (by decide)]
        obtain ⟨AK, cK, eK⟩ := own_slice oK
        have hb0 := hF.1.size
        have f6o := hF.2.2.2.2.2.2.2.2.1
        obtain ⟨hb, hr, f0, f3, f5, f1, f2, f4, f6, f7, f98, f8, fn⟩ := (hF.below bK)
        exact ⟨hb, hr, f0, f3, f5, fun _ => ⟨AK, cK, eK, own_base oK hb0⟩, f2, f4, f6, fun e => absurd ((f7 e).1.1.symm.trans hL) (by decide), f98, fun e => (f8 e).imp fun pz h => ⟨h.1, h.2.1, h.2.2.1, fun e => absurd ((f7 (h.2.2.2 e).1).1.1.symm.trans hL) (by decide)⟩, fun _ e => .inr (fun e2 => by obtain ⟨gL, e3, h6⟩ := f6o e; have h7 := own_lt h6 gL (by rw [e3]; rfl); rw [e3] at e2; have h8 := own_lt oK gL (e2.trans rfl); omega)⟩
      case s2 =>
        rintro L a wr ⟨hst, hsz, q0, q1, q5, hF⟩ hL hdp K hK
        have ev := fun (d t : Nat) (v : Value) (hd : d < 31) => eval_put a d t v (by omega)
        refine step_value (v := .slice (some ⟨wr.heap.size, 0, none⟩) 0 0) (w' := wr.alloc (.cells #[] 4)) rfl (by go_simp) ?_
        refine hK _ _ ⟨hst.put 15 _ (by decide), by simpa [Act.put] using hsz, (ev 15 0 _ (by decide)).trans q0, (ev 15 1 _ (by decide)).trans q1, (ev 15 5 _ (by decide)).trans q5, ?_⟩
        simp only [ev 15 _ _ (by decide)]
        have hb0 := hF.1.size
        obtain ⟨hb, hr, f0, f3, f5, f1, f2, f4, f6, f7, f98, f8, fn⟩ := (hF.below (Below.alloc (Below.refl _ _) (Nat.le_refl _) _))
        exact ⟨hb, hr, f0, f3, f5, f1, fun _ => ⟨wr.heap.size, rfl, fun _ => made_at hb0 rfl⟩, f4, f6, f7, f98, f8, fn⟩
      case s3 =>
        rintro L a wr ⟨hst, hsz, q0, q1, q5, hF⟩ hL hdp K hK
        have ev := fun (d t : Nat) (v : Value) (hd : d < 31) => eval_put a d t v (by omega)
        refine step_value rfl rfl ?_
        refine hK _ _ ⟨hst.put 16 _ (by decide), by simpa [Act.put] using hsz, (ev 16 0 _ (by decide)).trans q0, (ev 16 1 _ (by decide)).trans q1, (ev 16 5 _ (by decide)).trans q5, ?_⟩
        simp only [ev 16 _ _ (by decide)]
        obtain ⟨hb, hr, f0, f3, f5, f1, f2, f4, f6, f7, f98, f8, fn⟩ := hF
        exact ⟨hb, hr, f0, fun _ => q1, f5, f1, f2, f4, f6, f7, f98, f8, fn⟩
      case s4 =>
        rintro L a wr ⟨hst, hsz, q0, q1, q5, hF⟩ hL hdp K hK
        have ev := fun (d t : Nat) (v : Value) (hd : d < 31) => eval_put a d t v (by omega)
        have d2 : L 2 = true := hdp ⟨2, .data⟩ (by simp) rfl
        have d3 : L 3 = true := hdp ⟨3, .data⟩ (by simp) rfl
        obtain ⟨hb, hr, f0, f3, f5, f1, f2, f4, f6, f7, f98, f8, fn⟩ := hF
        obtain ⟨g2, e2, h2⟩ := f2 d2
        have h2 := h2 hL
        rw [e2] at h2
        refine step_append_any _ rfl (.tmp 15) (.tmp 16) 52 rfl w.heap.size 4 i1 _ 1 1 Try.underlying52 hj hy0 hy1 hy2 rfl (by decide) (.slice (some ⟨g2, 0, none⟩) 0 0) 0 [] e2 h2 w.heap.size A' k c' (bools ds) (f3 d3) (by rw [← hd]; exact hy.below hb) HB1.out (by unfold maxLen; omega) (by omega) hb.size ?_
        intro vD wD oD gD hatD
        simp only [Nat.zero_add, List.nil_append] at oD
        obtain ⟨AD, cD, eD⟩ := own_slice oD
        refine hK _ _ ⟨hst.put 17 _ (by decide), by simpa [Act.put] using hsz, (ev 17 0 _ (by decide)).trans q0, (ev 17 1 _ (by decide)).trans q1, (ev 17 5 _ (by decide)).trans q5, ?_⟩
        simp only [ev 17 _ _ (by decide)]
        exact ⟨hb.trans (below_of_grown gD hb.size fun q hq => (own_lt h2 q hq).1), hr.grown gD (own_blk_ne h2 hr (by decide)).symm, f0, f3, f5, fun e => by obtain ⟨x, y, e3, h⟩ := f1 e; exact ⟨x, y, e3, h.kept gD (own_ne_type h h2 (by decide))⟩, fun _ => ⟨g2, e2, fun h => absurd ((upd_self L 4).symm.trans h) (by decide)⟩, fun _ => ⟨AD, cD, eD, oD⟩, fun e => by obtain ⟨x, e3, h⟩ := f6 e; exact ⟨x, e3, h.kept gD (own_ne_type h h2 (by decide))⟩, fun e => absurd ((f7 e).1.2.1.symm.trans hL) (by decide), f98, fun e => by obtain ⟨pz, e3, hp, h, h'⟩ := f8 e; exact ⟨pz, e3, hp, fun e4 => (h e4).grown gD (own_blk_ne h2 (h e4) (by decide)).symm, fun e4 => absurd ((f7 (h' e4).1).1.2.1.symm.trans hL) (by decide)⟩, fn⟩
      case s5 =>
        rintro L a wr ⟨hst, hsz, q0, q1, q5, hF⟩ hL hdp K hK
        have ev := fun (d t : Nat) (v : Value) (hd : d < 31) => eval_put a d t v (by omega)
        refine step_value rfl rfl ?_
        refine hK _ _ ⟨hst.put 18 _ (by decide), by simpa [Act.put] using hsz, (ev 18 0 _ (by decide)).trans q0, (ev 18 1 _ (by decide)).trans q1, (ev 18 5 _ (by decide)).trans q5, ?_⟩
        simp only [ev 18 _ _ (by decide)]
        obtain ⟨hb, hr, f0, f3, f5, f1, f2, f4, f6, f7, f98, f8, fn⟩ := hF
        exact ⟨hb, hr, f0, f3, fun _ => q5, f1, f2, f4, f6, f7, f98, f8, fn⟩
      case s6 =>
        rintro L a wr ⟨hst, hsz, q0, q1, q5, hF⟩ hL hdp K hK
        have ev := fun (d t : Nat) (v : Value) (hd : d < 31) => eval_put a d t v (by omega)
        have d5 : L 5 = true := hdp ⟨5, .data⟩ (by simp) rfl
        have t18 := hF.2.2.2.2.1 d5
        refine step_value (v := .slice (some ⟨wr.heap.size, 0, none⟩) k k) (w' := wr.alloc (.cells (madeCells #[.int .i64 0] k) 3)) rfl (by simp only [execOp, t18]; simp only [Sem.run_bind, hmk]; go_simp) ?_
        refine hK _ _ ⟨hst.put 19 _ (by decide), by simpa [Act.put] using hsz, (ev 19 0 _ (by decide)).trans q0, (ev 19 1 _ (by decide)).trans q1, (ev 19 5 _ (by decide)).trans q5, ?_⟩
        simp only [ev 19 _ _ (by decide)]
        have hb0 := hF.1.size
        have f1o := hF.2.2.2.2.2.1
        obtain ⟨hb, hr, f0, f3, f5, f1, f2, f4, f6, f7, f98, f8, fn⟩ := (hF.below (Below.alloc (Below.refl _ _) (Nat.le_refl _) _))
        exact ⟨hb, hr, f0, f3, f5, f1, f2, f4, fun _ => ⟨wr.heap.size, rfl, own_mk hb0 rfl hlm⟩, fun e => absurd ((f7 e).1.2.2.symm.trans hL) (by decide), f98, fun e => (f8 e).imp fun pz h => ⟨h.1, h.2.1, h.2.2.1, fun e => absurd ((f7 (h.2.2.2 e).1).1.2.2.symm.trans hL) (by decide)⟩, fun e _ => .inr (fun e2 => by obtain ⟨x, y, e3, h6⟩ := f1o e; have h7 := own_lt h6 wr.heap.size (e2.trans rfl); omega)⟩
      case s7 =>
        rintro L a wr ⟨hst, hsz, q0, q1, q5, hF⟩ hL hdp K hK
        have ev := fun (d t : Nat) (v : Value) (hd : d < 31) => eval_put a d t v (by omega)
        have d1 : L 1 = true := hdp ⟨1, .data⟩ (by simp) rfl
        have d4 : L 4 = true := hdp ⟨4, .data⟩ (by simp) rfl
        have d6 : L 6 = true := hdp ⟨6, .data⟩ (by simp) rfl
        obtain ⟨AK, cK, e14, -⟩ := hF.2.2.2.2.2.1 d1
        obtain ⟨AD, cD, e17, -⟩ := hF.2.2.2.2.2.2.2.1 d4
        obtain ⟨gL, e19, -⟩ := hF.2.2.2.2.2.2.2.2.1 d6
        have t14 := e14; have t17 := e17; have t19 := e19
        rw [eval_tmp, Array.getD_eq_getD_getElem?] at t14 t17 t19
        refine step_value (v := .agg #[.slice AK k cK, .slice AD k cD, .slice (some ⟨gL, 0, none⟩) k k, .int .i64 0]) (w' := wr) rfl (by go_simp) ?_
        refine hK _ _ ⟨hst.put 20 _ (by decide), by simpa [Act.put] using hsz, (ev 20 0 _ (by decide)).trans q0, (ev 20 1 _ (by decide)).trans q1, (ev 20 5 _ (by decide)).trans q5, ?_⟩
        simp only [ev 20 _ _ (by decide)]
        obtain ⟨hb, hr, f0, f3, f5, f1, f2, f4, f6, f7, f98, f8, fn⟩ := hF
        exact ⟨hb, hr, f0, f3, f5, f1, f2, f4, f6, fun _ => ⟨⟨d1, d4, d6⟩, by rw [e14, e17, e19]; rfl⟩, f98, fun e => (f8 e).imp fun pz h => ⟨h.1, h.2.1, h.2.2.1, fun e => absurd ((h.2.2.2 e).1.symm.trans hL) (by decide)⟩, fn⟩
      case s8 =>
        rintro L a wr ⟨hst, hsz, q0, q1, q5, hF⟩ hL hdp K hK
        have ev := fun (d t : Nat) (v : Value) (hd : d < 31) => eval_put a d t v (by omega)
        refine step_value (v := .pointer (some ⟨wr.heap.size, 0, none⟩)) (w' := wr.alloc (.cells #[.slice none 0 0, .slice none 0 0, .slice none 0 0, .int .i64 0] 54)) rfl (by go_simp) ?_
        refine hK _ _ ⟨hst.put 6 _ (by decide), by simpa [Act.put] using hsz, (ev 6 0 _ (by decide)).trans q0, (ev 6 1 _ (by decide)).trans q1, (ev 6 5 _ (by decide)).trans q5, ?_⟩
        simp only [ev 6 _ _ (by decide)]
        have hr0 := hF.2.1.lt
        obtain ⟨hb, hr, f0, f3, f5, f1, f2, f4, f6, f7, f98, f8, fn⟩ := (hF.below (Below.alloc (Below.refl _ _) (Nat.le_refl _) _))
        exact ⟨hb, hr, f0, f3, f5, f1, f2, f4, f6, f7, fun _ => upd_self L 8, fun _ => ⟨wr.heap.size, rfl, hr0, fun _ => Blk.new _ _ _, fun e => absurd ((f98 e).symm.trans hL) (by decide)⟩, fn⟩
      case s9 =>
        rintro L a wr ⟨hst, hsz, q0, q1, q5, hF⟩ hL hdp K hK
        have ev := fun (d t : Nat) (v : Value) (hd : d < 31) => eval_put a d t v (by omega)
        have d8 : L 8 = true := hdp ⟨8, .data⟩ (by simp) rfl
        have d7 : L 7 = true := hdp ⟨7, .data⟩ (by simp) rfl
        obtain ⟨hb, hr, f0, f3, f5, f1, f2, f4, f6, f7, f98, f8, fn⟩ := hF
        obtain ⟨pz, e6, hp, h8, -⟩ := f8 d8
        have h8 := h8 hL
        obtain ⟨⟨d1, d4, d6⟩, e20⟩ := f7 d7
        obtain ⟨AK, cK, e14, -⟩ := f1 d1
        obtain ⟨AD, cD, e17, -⟩ := f4 d4
        obtain ⟨gL, e19, -⟩ := f6 d6
        have t14 := e14; have t17 := e17; have t19 := e19
        rw [eval_tmp, Array.getD_eq_getD_getElem?] at t14 t17 t19
        have t6 := e6
        rw [eval_tmp, Array.getD_eq_getD_getElem?] at t6
        rw [e14, e17, e19] at e20
        rw [eval_tmp, Array.getD_eq_getD_getElem?] at e20
        obtain ⟨c0, c1, c2, c3⟩ := h8.four
        obtain ⟨i0, i1, i2, i3⟩ := h8.ice
        refine step_skip (w' := (((wr.setCell ⟨pz, 0, none⟩ (.slice AK k cK)).setCell ⟨pz, 1, none⟩ (.slice AD k cD)).setCell ⟨pz, 2, none⟩ (.slice (some ⟨gL, 0, none⟩) k k)).setCell ⟨pz, 3, none⟩ (.int .i64 0)) rfl (by go_simp) ?_
        have gw := grown_set4 (w := wr) pz (.slice AK k cK) (.slice AD k cD) (.slice (some ⟨gL, 0, none⟩) k k) (.int .i64 0)
        have b4 := h8.set4 (a' := .slice AK k cK) (b' := .slice AD k cD) (c' := .slice (some ⟨gL, 0, none⟩) k k) (d' := .int .i64 0)
        refine hK _ _ ⟨hst.put_none _, hsz, q0, q1, q5, ?_⟩
        show MakeF w A c A' c' k ks ds _ _ (a.eval (.tmp 13)) (a.eval (.tmp 14)) (a.eval (.tmp 15)) (a.eval (.tmp 16)) (a.eval (.tmp 17)) (a.eval (.tmp 18)) (a.eval (.tmp 19)) (a.eval (.tmp 20)) (a.eval (.tmp 6))
        refine ⟨hb.trans (below_of_grown gw hb.size fun q hq => by have h9 : pz = q := Option.some.inj hq; omega), hr.grown gw (fun e => by have h9 : w.heap.size = pz := Option.some.inj e; omega), f0, f3, f5, fun e => by obtain ⟨x, y, e3, h⟩ := f1 e; exact ⟨x, y, e3, h.kept gw (.inr (own_blk_ne h h8 (by decide)))⟩, fun e => by obtain ⟨x, e3, h⟩ := f2 e; exact ⟨x, e3, fun e4 => (h e4).kept gw (.inr (own_blk_ne (h e4) h8 (by decide)))⟩, fun e => by obtain ⟨x, y, e3, h⟩ := f4 e; exact ⟨x, y, e3, h.kept gw (.inr (own_blk_ne h h8 (by decide)))⟩, fun e => by obtain ⟨x, e3, h⟩ := f6 e; exact ⟨x, e3, h.kept gw (.inr (own_blk_ne h h8 (by decide)))⟩, f7, fun _ => d8, fun _ => ⟨pz, e6, hp, fun e4 => absurd ((upd_self L 9).symm.trans e4) (by decide), fun _ => ⟨d7, by rw [e14, e17, e19]; exact b4⟩⟩, fn⟩
  case rest =>
    obtain ⟨AK, cK, AD, cD, gL, pz, rfl, rfl, hbp, hpz, hb, hres, hoK, hoD, hoL, hneK⟩ := hcut
    have hmd : ∀ n : Nat, (madeCells (Value.int .i64 0).cells (n * 1)).toList = nats (List.replicate n 0) := by
      intro n; rw [Nat.mul_one]; simp [nats, ints, Value.cells, toList_madeCells_one]
    obtain ⟨w5, hmk5, hown5, hgr5⟩ := run_make_full (P := Try.prog) wc w.heap.size 51 3 i0 (.int .i64 0) 1 Try.underlying51 hi hz0 hz1 .i64 .i64 (2 * k) (by rw [hz2]; omega) (by unfold maxLen; omega) hb.size
    have hcast : ((2 * k : Nat) : Int) = 2 * (k : Int) := by omega
    rw [hcast] at hmk5
    rw [hmd] at hown5
    have hB5 : Below wc.heap.size wc w5 := below_of_grown hgr5 (Nat.le_refl _) (by simp)
    have hbp5 := hbp.below_ hB5
    have hres5 := hres.below_ hB5
    have hoK5 := own_below hoK hB5 (Nat.le_refl _)
    have hoD5 := own_below hoD hB5 (Nat.le_refl _)
    have hoL5 := own_below hoL hB5 (Nat.le_refl _)
    have hb5 := hb.trans (hB5.mono hb.size)
    have HGW : Hid (gL ≠ wc.heap.size ∧ pz ≠ wc.heap.size ∧ w.heap.size < wc.heap.size ∧ w.heap.size ≤ gL ∧ ((Value.slice AK k cK).ownBlock ≠ some wc.heap.size)) := Lib.hid ⟨fun e => by have := (own_lt hoL gL rfl).2; omega, fun e => by have := hbp.lt; omega, hres.lt, (own_lt hoL gL rfl).1, fun e => by have := (own_lt hoK _ e).2; omega⟩
    have hkj : 2 * (k : Int) - 1 = ((2 * k - 1 : Nat) : Int) := by omega
    have HKJ := Lib.hid hkj; clear hkj
    clear hmk hwA HB1
    go_wp2_with fail
    rw [HKJ.out]
    have hst0 : StS ks ds k (2 * k - 1) (List.replicate (2 * k) 0) (List.replicate k 0) := stS_start h1
    have HS0 := Lib.hid hst0; clear hst0
    clear hmk5 hgr5 hB5 hoK hoD hoL hb hbp hres hmd
    generalize wc.heap.size = gW at *
    go_loopw [8] (fun pv wv => ∃ (p : Nat) (ws ls : List Nat), p ≤ 2 * k - 1 ∧ pv = .int .i64 (p : Nat) ∧ Hid (StS ks ds k p ws ls) ∧ wv.ownsRow w.heap.size 3 1 (.slice (some ⟨gW, 0, none⟩) (2 * k) (2 * k)) (2 * k) (nats ws) ∧
        wv.ownsRow w.heap.size 3 1 (.slice (some ⟨gL, 0, none⟩) k k) k (nats ls) ∧ Blk wv pz 54 #[.slice AK k cK, .slice AD k cD, .slice (some ⟨gL, 0, none⟩) k k, .int .i64 0] ∧ Blk wv w.heap.size 54 #[.slice none 0 0, .slice none 0 0, .slice none 0 0, .int .i64 0] ∧
        wv.ownsRow w.heap.size 3 1 (.slice AK k cK) k (ints ks) ∧ wv.ownsRow w.heap.size 4 1 (.slice AD k cD) k (bools ds) ∧ Below w.heap.size w wv) (fun pv _ => (intOf pv).toNat)
    case atStart => exact ⟨2 * k - 1, _, _, Nat.le_refl _, rfl, HS0, hown5, hoL5, hbp5, hres5, hoK5, hoD5, hb5⟩
    case round =>
      clear hown5 hoL5 hbp5 hres5 hoK5 hoD5 hb5 HS0
      obtain ⟨p, ws, ls, hp2, rfl, HS, hoW, hoL, hbp, hres, hoK, hoD, hb⟩ := hrel
      obtain ⟨hn1, hn2, hn3, hn4, hn5⟩ := HGW.out
      by_cases hp0 : 1 ≤ p
      · have hpI : (0 : Int) < (p : Int) := by omega
        have cW := hoW.cellAt p (by omega)
        obtain ⟨xW, hxW⟩ : ∃ xW, (nats ws)[p]? = some xW := ⟨_, nats_get (by rw [HS.out.1]; omega)⟩
        rw [hxW] at cW
        have fW := hoW.frozenAt p
        have HXW := Lib.hid hxW; clear hxW
        have i8 : (p : Int) < 2 * (k : Int) := by omega
        by_cases hpk : k ≤ p
        · have hpkI : (p : Int) ≥ k := by omega
          have hsub : (p : Int) - k = ((p - k : Nat) : Int) := by omega
          have HN := Lib.hid (stS_leaf HS.out hk hpk hp0)
          have t1 := hoW.stored p (.int .i64 ((p : Int) - k))
          rw [hsub, nats_set] at t1
          rw [← hsub] at t1
          have T1 := Lib.hid t1.1
          have TL := Lib.hid (hoL.kept t1.2 (.inr (by intro e; have h1 : gL = gW := Option.some.inj e; exact hn1 h1)))
          have TP := Lib.hid (hbp.grown t1.2 (by intro e; have h1 : pz = gW := Option.some.inj e; exact hn2 h1))
          have TR := Lib.hid (hres.grown t1.2 (by intro e; have h1 : w.heap.size = gW := Option.some.inj e; omega))
          have TK := Lib.hid (hoK.kept t1.2 (.inr (by intro e; exact hn5 e)))
          have TD := Lib.hid (hoD.kept t1.2 (own_ne_type hoD hoW (by decide)))
          have TB := Lib.hid (hb.trans (below_of_grown (B := w.heap.size) t1.2 hb.size (by intro q hq; have h1 : gW = q := Option.some.inj hq; omega)))
          clear t1 hsub
          go_wp2_with fail
          go_roundw
          case rel => exact ⟨p - 1, ws.set p (p - k), ls, by omega, by rw [show ((p : Int) - 1) = ((p - 1 : Nat) : Int) by omega], HN, T1.out, TL.out, TP.out, TR.out, TK.out, TD.out, TB.out⟩
          case measure => simp [intOf]; omega
        · have hpkI : ¬ (p : Int) ≥ k := by omega
          have hwl := HS.out.1
          have ca := hoW.cellAt (2 * p) (by omega)
          have cb := hoW.cellAt (2 * p + 1) (by omega)
          rw [nats_get (by omega)] at ca cb
          obtain ⟨hal, hbl2⟩ := stS_lt HS.out (by omega) hk hp0 h1
          have HN := Lib.hid (stS_node HS.out (by omega) hk hp0)
          have cL := hoL.cellAt p (by omega)
          obtain ⟨xL, hxL⟩ : ∃ xL, (nats ls)[p]? = some xL := ⟨_, nats_get (by rw [HS.out.2.1]; omega)⟩
          rw [hxL] at cL
          have fL := hoL.frozenAt p
          have HXL := Lib.hid hxL; clear hxL
          have HCA : Hid ((nats ws)[2 * p]? = some (.int .i64 ((ws[2 * p]'(by omega) : Nat) : Int))) := Lib.hid (nats_get (by omega))
          generalize ws[2 * p]'(by omega) = a at *
          generalize ws[2 * p + 1]'(by omega) = b at *
          have HWLn := Lib.hid hwl; clear hwl
          have x2 : wr.cell? ⟨pz, 2, none⟩ = some (.slice (some ⟨gL, 0, none⟩) k k) := hbp.cell 2
          have hxv := (hx.below hb).more hb.size
          have hyv := (hy.below hb).more hb.size
          have ew1 : IntKind.i64.wrap (2 * (p : Int)) = 2 * (p : Int) := IntWalk.i64_in _ (by omega)
          have ew2 : IntKind.i64.wrap (2 * (p : Int) + 1) = 2 * (p : Int) + 1 := IntWalk.i64_in _ (by omega)
          have i1 : (0 : Int) ≤ 2 * (p : Int) := by omega
          have i2 : 2 * (p : Int) < 2 * (k : Int) := by omega
          have i3 : (2 * (p : Int)).toNat = 2 * p := by omega
          have i4 : (0 : Int) ≤ 2 * (p : Int) + 1 := by omega
          have i5 : 2 * (p : Int) + 1 < 2 * (k : Int) := by omega
          have i6 : (2 * (p : Int) + 1).toNat = 2 * p + 1 := by omega
          have i9 : (p : Int) < (k : Int) := by omega
          obtain ⟨hws1, hws2⟩ := win_spec ks ds a b
          cases hbt : beatsB ks ds a b
          · have HBT := Lib.hid hbt
            have HW1 := Lib.hid (show winO ks ds a b = b by rw [← hws1, hbt]; rfl)
            have HL1 := Lib.hid (show losO ks ds a b = a by rw [← hws2, hbt]; rfl)
            clear hbt hws1 hws2
            go_wp2_with fail
            go_quiet (fail)
            go_wp2_with (go_at_call 43; refine (sBeats_any A A' ks ds k c c' a b (wr.drewN nq) hk hd (by exact hxv) (by exact hyv) hal hbl2 hl).mono ?_; rintro e w6 ⟨rfl, h6⟩; rw [HBT.out]; obtain ⟨q0, q1, q2, q3⟩ := make_carry h6 hbp hoW hoL hb; have ca6 := (q1.cellAt (2 * p) (by omega)).trans HCA.out; have cW := (q1.cellAt p (by omega)).trans HXW.out; have cL := (q2.cellAt p (by omega)).trans HXL.out; have fW := q1.frozenAt p; have fL := q2.frozenAt p; have x2 : w6.cell? ⟨pz, 2, none⟩ = some (.slice (some ⟨gL, 0, none⟩) k k) := q0.cell 2; have q4 := drew2 h6 hres; have q5 := odrew2 h6 hoK; have q6 := odrew2 h6 hoD)
            have t1 := q1.stored p (.int .i64 (b : Nat))
            rw [nats_set] at t1
            have hne1 : (Value.slice (some ⟨gL, 0, none⟩) k k).ownBlock ≠ some gW := by intro e; have h1 : gL = gW := Option.some.inj e; exact hn1 h1
            have t3 := q2.kept t1.2 (.inr hne1)
            have t4 := t3.stored p (.int .i64 (a : Nat))
            rw [nats_set] at t4
            have T2 := Lib.hid (t1.1.kept t4.2 (.inr (by intro e; have h1 : gW = gL := Option.some.inj e; exact hn1 h1.symm)))
            have T4 := Lib.hid t4.1
            have u0 := q0.grown t1.2 (by intro e; have h1 : pz = gW := Option.some.inj e; exact hn2 h1)
            have u4 := q4.grown t1.2 (by intro e; have h1 : w.heap.size = gW := Option.some.inj e; omega)
            have T5 := Lib.hid (u0.grown t4.2 (fun e => own_blk_ne t3 u0 (by decide) e.symm))
            have T7 := Lib.hid (u4.grown t4.2 (fun e => own_blk_ne t3 u4 (by decide) e.symm))
            have T8 := Lib.hid ((q5.kept t1.2 (.inr hn5)).kept t4.2 hneK)
            have T9 := Lib.hid ((q6.kept t1.2 (own_ne_type q6 q1 (by decide))).kept t4.2 (own_ne_type q6 q2 (by decide)))
            have T6 := Lib.hid ((q3.trans (below_of_grown (B := w.heap.size) t1.2 q3.size (by intro q hq; have h1 : gW = q := Option.some.inj hq; omega))).trans (below_of_grown (B := w.heap.size) t4.2 (Nat.le_trans q3.size t1.2.size) (by intro q hq; have h1 : gL = q := Option.some.inj hq; omega)))
            clear t1 t3 t4
            go_wp2_with fail
            go_roundw
            case rel => exact ⟨p - 1, ws.set p b, ls.set p a, by omega, by rw [show ((p : Int) - 1) = ((p - 1 : Nat) : Int) by omega], by have h := HN; rw [HW1.out, HL1.out] at h; exact h, T2.out, T4.out, T5.out, T7.out, T8.out, T9.out, T6.out⟩
            case measure => simp [intOf]; omega
          · have HBT := Lib.hid hbt
            have HW1 := Lib.hid (show winO ks ds a b = a by rw [← hws1, hbt]; rfl)
            have HL1 := Lib.hid (show losO ks ds a b = b by rw [← hws2, hbt]; rfl)
            clear hbt hws1 hws2
            go_wp2_with fail
            go_quiet (fail)
            go_wp2_with (go_at_call 43; refine (sBeats_any A A' ks ds k c c' a b (wr.drewN nq) hk hd (by exact hxv) (by exact hyv) hal hbl2 hl).mono ?_; rintro e w6 ⟨rfl, h6⟩; rw [HBT.out]; obtain ⟨q0, q1, q2, q3⟩ := make_carry h6 hbp hoW hoL hb; have ca6 := (q1.cellAt (2 * p) (by omega)).trans HCA.out; have cW := (q1.cellAt p (by omega)).trans HXW.out; have cL := (q2.cellAt p (by omega)).trans HXL.out; have fW := q1.frozenAt p; have fL := q2.frozenAt p; have x2 : w6.cell? ⟨pz, 2, none⟩ = some (.slice (some ⟨gL, 0, none⟩) k k) := q0.cell 2; have q4 := drew2 h6 hres; have q5 := odrew2 h6 hoK; have q6 := odrew2 h6 hoD)
            have t1 := q1.stored p (.int .i64 (a : Nat))
            rw [nats_set] at t1
            have hne1 : (Value.slice (some ⟨gL, 0, none⟩) k k).ownBlock ≠ some gW := by intro e; have h1 : gL = gW := Option.some.inj e; exact hn1 h1
            have t3 := q2.kept t1.2 (.inr hne1)
            have t4 := t3.stored p (.int .i64 (b : Nat))
            rw [nats_set] at t4
            have T2 := Lib.hid (t1.1.kept t4.2 (.inr (by intro e; have h1 : gW = gL := Option.some.inj e; exact hn1 h1.symm)))
            have T4 := Lib.hid t4.1
            have u0 := q0.grown t1.2 (by intro e; have h1 : pz = gW := Option.some.inj e; exact hn2 h1)
            have u4 := q4.grown t1.2 (by intro e; have h1 : w.heap.size = gW := Option.some.inj e; omega)
            have T5 := Lib.hid (u0.grown t4.2 (fun e => own_blk_ne t3 u0 (by decide) e.symm))
            have T7 := Lib.hid (u4.grown t4.2 (fun e => own_blk_ne t3 u4 (by decide) e.symm))
            have T8 := Lib.hid ((q5.kept t1.2 (.inr hn5)).kept t4.2 hneK)
            have T9 := Lib.hid ((q6.kept t1.2 (own_ne_type q6 q1 (by decide))).kept t4.2 (own_ne_type q6 q2 (by decide)))
            have T6 := Lib.hid ((q3.trans (below_of_grown (B := w.heap.size) t1.2 q3.size (by intro q hq; have h1 : gW = q := Option.some.inj hq; omega))).trans (below_of_grown (B := w.heap.size) t4.2 (Nat.le_trans q3.size t1.2.size) (by intro q hq; have h1 : gL = q := Option.some.inj hq; omega)))
            clear t1 t3 t4
            go_wp2_with fail
            go_roundw
            case rel => exact ⟨p - 1, ws.set p a, ls.set p b, by omega, by rw [show ((p : Int) - 1) = ((p - 1 : Nat) : Int) by omega], by have h := HN; rw [HW1.out, HL1.out] at h; exact h, T2.out, T4.out, T5.out, T7.out, T8.out, T9.out, T6.out⟩
            case measure => simp [intOf]; omega
      · obtain rfl : p = 0 := by omega
        have hfin := stS_end HS.out h1 hk
        obtain ⟨p0, p1, p2, p3⟩ := hbp.four
        obtain ⟨y0, y1, y2, y3⟩ := hbp.ice
        obtain ⟨z0, z1, z2, z3⟩ := hres.four
        obtain ⟨f0, f1, f2, f3⟩ := hres.ice
        have hpzl := hbp.lt
        have hrl := hres.lt
        have HLS := Lib.hid hfin.1
        by_cases hk1 : 1 < k
        · have hk1I : (1 : Int) < k := by omega
          have i2 : (1 : Int) < 2 * (k : Int) := by omega
          have hwl := HS.out.1
          have c1 := hoW.cellAt 1 (by omega)
          rw [nats_get (by omega)] at c1
          have hx1 := hfin.2
          rw [List.getElem?_eq_getElem (by omega), Option.getD_some] at hx1
          generalize ws[1]'(by omega) = x1 at *
          have HWV := Lib.hid hx1
          clear hx1 hfin hwl
          have hne6 : pz ≠ w.heap.size := by omega
          have hres6 := hres.far (p := ⟨pz, 3, none⟩) (by simp; omega) (.int .i64 (x1 : Nat))
          have hb6 := hb.setCell (p := ⟨pz, 3, none⟩) (by simp; omega) (.int .i64 (x1 : Nat))
          have hoK6 := own_setCell hoK (p := ⟨pz, 3, none⟩) (own_blk_ne hoK hbp (by decide)) (.int .i64 (x1 : Nat))
          have hoD6 := own_setCell hoD (p := ⟨pz, 3, none⟩) (own_blk_ne hoD hbp (by decide)) (.int .i64 (x1 : Nat))
          have hoL6 := own_setCell hoL (p := ⟨pz, 3, none⟩) (own_blk_ne hoL hbp (by decide)) (.int .i64 (x1 : Nat))
          have hb5 := (((hres6.set_ 0 (.slice AK k cK)).set_ 1 (.slice AD k cD)).set_ 2 (.slice (some ⟨gL, 0, none⟩) k k)).set_ 3 (.int .i64 (x1 : Nat))
          obtain ⟨r0, r1, r2, r3⟩ := Blk.four (a := .slice AK k cK) (b := .slice AD k cD) (c := .slice (some ⟨gL, 0, none⟩) k k) (d := .int .i64 (x1 : Nat)) (by simpa using hb5)
          have R0 := Lib.hid r0; have R1 := Lib.hid r1; have R2 := Lib.hid r2; have R3 := Lib.hid r3
          have four : ∀ {B : Nat} {t : TypeId} {n : Nat} {v : Value} {xs : List Value}, (wr.setCell ⟨pz, 3, none⟩ (.int .i64 (x1 : Nat))).ownsRow B t 1 v n xs → t ≠ 54 → (((((wr.setCell ⟨pz, 3, none⟩ (.int .i64 (x1 : Nat))).setCell ⟨w.heap.size, 0, none⟩ (.slice AK k cK)).setCell ⟨w.heap.size, 1, none⟩ (.slice AD k cD)).setCell ⟨w.heap.size, 2, none⟩ (.slice (some ⟨gL, 0, none⟩) k k)).setCell ⟨w.heap.size, 3, none⟩ (.int .i64 (x1 : Nat))).ownsRow B t 1 v n xs := by
            intro B t n v xs h ht
            have hn := own_blk_ne h hres6 ht
            exact own_setCell (own_setCell (own_setCell (own_setCell h (p := ⟨w.heap.size, 0, none⟩) hn _) (p := ⟨w.heap.size, 1, none⟩) hn _) (p := ⟨w.heap.size, 2, none⟩) hn _) (p := ⟨w.heap.size, 3, none⟩) hn _
          have HBF := Lib.hid (Below.setCell (Below.setCell (Below.setCell (Below.setCell hb6 (p := ⟨w.heap.size, 0, none⟩) (Nat.le_refl _) (.slice AK k cK)) (p := ⟨w.heap.size, 1, none⟩) (Nat.le_refl _) (.slice AD k cD)) (p := ⟨w.heap.size, 2, none⟩) (Nat.le_refl _) (.slice (some ⟨gL, 0, none⟩) k k)) (p := ⟨w.heap.size, 3, none⟩) (Nat.le_refl _) (.int .i64 (x1 : Nat)))
          have HF1 := Lib.hid (four hoK6 (by decide)); have HF2 := Lib.hid (four hoD6 (by decide)); have HF3 := Lib.hid (four hoL6 (by decide))
          clear four hb5 r0 r1 r2 r3
          go_wp2_with fail
          exact bodyPost_ret (v := .agg #[.slice AK k cK, .slice AD k cD, .slice (some ⟨gL, 0, none⟩) k k, .int .i64 (x1 : Nat)]) (by simp [results, Try.results31, go_sem, R0.out, R1.out, R2.out, R3.out]) rfl ⟨AK, cK, AD, cD, gL, by rw [HWV.out], ⟨HF1.out, HF2.out, by rw [← nats_loser, ← HLS.out]; exact HF3.out, hneK⟩, HBF.out⟩
        · have hk1I : ¬ (1 : Int) < k := by omega
          have HWV : Hid ((0 : Int) = ((winnerV ks ds : Nat) : Int)) := Lib.hid (by
            have hkk : ks.length = 1 := by omega
            simp [winnerV, hkk, plK])
          clear hfin
          have hb5 := (((hres.set_ 0 (.slice AK k cK)).set_ 1 (.slice AD k cD)).set_ 2 (.slice (some ⟨gL, 0, none⟩) k k)).set_ 3 (.int .i64 0)
          obtain ⟨r0, r1, r2, r3⟩ := Blk.four (a := .slice AK k cK) (b := .slice AD k cD) (c := .slice (some ⟨gL, 0, none⟩) k k) (d := .int .i64 0) (by simpa using hb5)
          have R0 := Lib.hid r0; have R1 := Lib.hid r1; have R2 := Lib.hid r2; have R3 := Lib.hid r3
          have four : ∀ {B : Nat} {t : TypeId} {n : Nat} {v : Value} {xs : List Value}, (wr).ownsRow B t 1 v n xs → t ≠ 54 → (((((wr).setCell ⟨w.heap.size, 0, none⟩ (.slice AK k cK)).setCell ⟨w.heap.size, 1, none⟩ (.slice AD k cD)).setCell ⟨w.heap.size, 2, none⟩ (.slice (some ⟨gL, 0, none⟩) k k)).setCell ⟨w.heap.size, 3, none⟩ (.int .i64 0)).ownsRow B t 1 v n xs := by
            intro B t n v xs h ht
            have hn := own_blk_ne h hres ht
            exact own_setCell (own_setCell (own_setCell (own_setCell h (p := ⟨w.heap.size, 0, none⟩) hn _) (p := ⟨w.heap.size, 1, none⟩) hn _) (p := ⟨w.heap.size, 2, none⟩) hn _) (p := ⟨w.heap.size, 3, none⟩) hn _
          have HBF := Lib.hid (Below.setCell (Below.setCell (Below.setCell (Below.setCell hb (p := ⟨w.heap.size, 0, none⟩) (Nat.le_refl _) (.slice AK k cK)) (p := ⟨w.heap.size, 1, none⟩) (Nat.le_refl _) (.slice AD k cD)) (p := ⟨w.heap.size, 2, none⟩) (Nat.le_refl _) (.slice (some ⟨gL, 0, none⟩) k k)) (p := ⟨w.heap.size, 3, none⟩) (Nat.le_refl _) (.int .i64 0))
          have HF1 := Lib.hid (four hoK (by decide)); have HF2 := Lib.hid (four hoD (by decide)); have HF3 := Lib.hid (four hoL (by decide))
          clear four hb5 r0 r1 r2 r3
          go_wp2_with fail
          exact bodyPost_ret (v := .agg #[.slice AK k cK, .slice AD k cD, .slice (some ⟨gL, 0, none⟩) k k, .int .i64 0]) (by simp [results, Try.results31, go_sem, R0.out, R1.out, R2.out, R3.out]) rfl ⟨AK, cK, AD, cD, gL, by rw [HWV.out], ⟨HF1.out, HF2.out, by rw [← nats_loser, ← HLS.out]; exact HF3.out, hneK⟩, HBF.out⟩
