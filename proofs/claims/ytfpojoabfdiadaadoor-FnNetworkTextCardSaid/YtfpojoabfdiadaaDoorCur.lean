/- The cursor that draws choices from bytes. -/
import Derived.Test.YtfpojoabfdiadaaDoorCore
import Derived.Test.YtfpojoabfdiadaaDoorPush
import Derived.IntWalk
import Derived.BigQuiet
import Derived.Deep.QuietTactic
import Derived.Laws.Bits64
namespace Go.Proofs.YtfpojoabfdiadaaDoor
open Go.RowKit
set_option linter.unusedVariables false
/-- bytes in memory -/
def byts (bs : List Nat) : List Value := bs.map fun b : Nat => Value.int .u8 (b : Nat)
theorem byts_len (bs : List Nat) : (byts bs).length = bs.length := by simp [byts]
theorem byts_get {bs : List Nat} {k : Nat} (h : k < bs.length) : (byts bs)[k]? = some (.int .u8 (bs[k] : Nat)) := by simp [byts, h]
theorem Reads.byte {w : World} {B : Nat} {A : Option Addr} {bs : List Nat} {k : Nat} (h : Reads w B 1 A bs.length (byts bs)) (hk : k < bs.length) :
    ∃ ad, A = some ad ∧ ad.block < B ∧ w.cell? (ad.add k) = some (.int .u8 (bs[k] : Nat)) := by
  obtain ⟨ad, u, rfl, hb, hx, hc⟩ := h.at_ hk
  rw [byts_get hk] at hx; cases hx
  exact ⟨ad, rfl, hb, hc⟩
theorem near_step {w w1 w2 : World} {row row2 : Option Nat} (h : w.grownBy w1 row) (h2 : w1.grownBy w2 row2) (hr : ∀ k, row2 = some k → some k = row ∨ w.heap.size ≤ k) : w.grownBy w2 row :=
  ⟨h2.os.trans h.os, h2.tape.trans h.tape, h2.output.trans h.output, Nat.le_trans h.size h2.size, fun k hk hne => (h2.block k (Nat.lt_of_lt_of_le hk h.size) (fun e => by
    rcases hr k e.symm with h3 | h3
    · exact hne h3
    · omega)).trans (h.block k hk hne)⟩
theorem near_refl (w : World) (row : Option Nat) : w.grownBy w row := ⟨rfl, rfl, rfl, Nat.le_refl _, fun _ _ _ => rfl⟩
theorem near_drewN {w w1 : World} {row : Option Nat} (h : w.grownBy w1 row) (n : Nat) : w.grownBy (w1.drewN n) row := ⟨h.os, h.tape, h.output, h.size, h.block⟩
theorem near_set {w w1 : World} {p : Nat} (h : w.grownBy w1 (some p)) (i : Nat) (u : Value) : w.grownBy (w1.setCell ⟨p, i, none⟩ u) (some p) :=
  near_step h ⟨rfl, rfl, rfl, by simp, fun k _ hk => Below.heap_setCell _ _ _ _ (fun e => hk (by rw [e]))⟩ (fun k hk => .inl hk.symm)
theorem near_below {w w1 w2 : World} {row : Option Nat} {B : Nat} (h : w.grownBy w1 row) (h2 : Below B w1 w2) (hB : w.heap.size ≤ B) : w.grownBy w2 row :=
  ⟨h2.os.trans h.os, h2.tape.trans h.tape, h2.output.trans h.output, Nat.le_trans h.size h2.size, fun k hk hne => (h2.block k (by omega)).trans (h.block k hk hne)⟩
theorem below_near {w w1 : World} {p B : Nat} (h : w.grownBy w1 (some p)) (hp : B ≤ p) (hB : B ≤ w.heap.size) : Below B w w1 := below_of_grown h hB (fun k e => by cases e; exact hp)
/-- the cursor at block p over the bytes bs -/
structure Cur (w : World) (p : Nat) (A : Option Addr) (bs : List Nat) (c M : Nat) : Prop where
  blk : ∃ (a : Nat) (s : Int), Blk w p 61 #[.slice A bs.length c, .int .i64 a, .int .u64 s] ∧ a ≤ M ∧ 0 ≤ s ∧ s ≤ 18446744073709551615
  code : Reads w p 1 A bs.length (byts bs)
  byte : ∀ b ∈ bs, b ≤ 255
  len : bs.length ≤ 65536
theorem Cur.lt {w : World} {p : Nat} {A : Option Addr} {bs : List Nat} {c M : Nat} (h : Cur w p A bs c M) : p < w.heap.size := by
  obtain ⟨a, s, hb, _⟩ := h.blk
  exact hb.lt
theorem Cur.more {w : World} {p : Nat} {A : Option Addr} {bs : List Nat} {c M N : Nat} (h : Cur w p A bs c M) (hM : M ≤ N) : Cur w p A bs c N := by
  obtain ⟨a, s, hb, h1, h2⟩ := h.blk
  exact ⟨⟨a, s, hb, by omega, h2⟩, h.code, h.byte, h.len⟩
theorem Cur.grown {w w' : World} {p : Nat} {A : Option Addr} {bs : List Nat} {c M : Nat} {row : Option Nat} (h : Cur w p A bs c M) (hg : w.grownBy w' row) (hr : ∀ k, row = some k → p < k) : Cur w' p A bs c M := by
  obtain ⟨a, s, hb, h1⟩ := h.blk
  exact ⟨⟨a, s, hb.grown hg (fun e => by have := hr p e.symm; omega), h1⟩, h.code.grown hg (by have := hb.lt; omega) (fun k e => by have := hr k e; omega), h.byte, h.len⟩
theorem Cur.below {w w' : World} {p B : Nat} {A : Option Addr} {bs : List Nat} {c M : Nat} (h : Cur w p A bs c M) (hb : Below B w w') (hp : p < B) : Cur w' p A bs c M := by
  obtain ⟨a, s, hk, h1⟩ := h.blk
  exact ⟨⟨a, s, hk.below hb hp, h1⟩, h.code.below (hb.mono (by omega)), h.byte, h.len⟩
theorem Cur.alloc {w : World} {p : Nat} {A : Option Addr} {bs : List Nat} {c M : Nat} (h : Cur w p A bs c M) (o : Obj) : Cur (w.alloc o) p A bs c M := h.below (Below.alloc (Below.refl _ _) (Nat.le_refl _) o) h.lt
theorem Cur.drew {w : World} {p : Nat} {A : Option Addr} {bs : List Nat} {c M : Nat} (h : Cur w p A bs c M) (n : Nat) : Cur (w.drewN n) p A bs c M := ⟨h.blk, h.code, h.byte, h.len⟩
theorem Cur.three {w : World} {g : Nat} {T : TypeId} {a b c : Value} (h : Blk w g T #[a, b, c]) : w.cell? ⟨g, 0, none⟩ = some a ∧ w.cell? ⟨g, 1, none⟩ = some b ∧ w.cell? ⟨g, 2, none⟩ = some c := ⟨h.cell 0, h.cell 1, h.cell 2⟩
theorem Cur.row {w w' : World} {p : Nat} {A : Option Addr} {bs : List Nat} {c M base size n : Nat} {e : TypeId} {v : Value} {xs : List Value} (h : Cur w p A bs c M) (ho : w.ownsRow base e size v n xs) (hg : w.grownBy w' (some p)) (he : e ≠ 61) : w'.ownsRow base e size v n xs := by
  obtain ⟨a, s, hb, _⟩ := h.blk
  exact ho.kept hg (.inr (own_blk_ne ho hb he))
theorem wrapU_bd (n : Int) : 0 ≤ IntKind.u64.wrap n ∧ IntKind.u64.wrap n ≤ 18446744073709551615 := by
  rw [IntKind.wrap_u64]; omega
theorem and255 (z : Int) : ∃ y : Nat, y ≤ 255 ∧ wrap64 (bits .and .u64 z 255) = (y : Int) := by
  have h : (BitVec.ofInt 64 z &&& BitVec.ofInt 64 255).toNat ≤ 255 := by
    rw [BitVec.toNat_and]
    exact Nat.le_trans Nat.and_le_right (by decide)
  refine ⟨_, h, ?_⟩
  show wrap64 (IntKind.u64.wrap ((BitVec.ofInt 64 z &&& BitVec.ofInt 64 255).toNat : Nat)) = _
  rw [IntWalk.u64_in _ ⟨by omega, by omega⟩]
  exact IntWalk.wrap64_in _ ⟨by omega, by omega⟩
set_option maxRecDepth 100000 in
set_option maxHeartbeats 1600000 in
theorem next_any (p : Nat) (A : Option Addr) (bs : List Nat) (c M : Nat) (w : World) (hc : Cur w p A bs c M) (hM : M ≤ 1099511627776) :
    Calls Tryd.prog 61 #[.pointer (some ⟨p, 0, none⟩)] w fun e w' => ∃ x : Nat, x ≤ 255 ∧ e = .returned (.int .i64 (x : Nat)) ∧ Cur w' p A bs c (M + 1) ∧ w.grownBy w' (some p) := by
  obtain ⟨⟨a, s, hblk, ha, hs0, hs1⟩, hcode, hbyte, hlen⟩ := hc
  obtain ⟨c0, c1, c2⟩ := Cur.three hblk
  have hlt := hblk.lt
  have hm : bs.length ≤ 65536 := hlen
  by_cases hal : a < bs.length
  · obtain ⟨ad, rfl, hadp, hb0⟩ := hcode.byte hal
    have hx := hbyte _ (List.getElem_mem hal)
    generalize bs[a] = x at *
    have i1 : (a : Int) < bs.length := by omega
    have i2 : (0 : Int) ≤ a := by omega
    have i3 : (0 : Int) ≤ (x : Int) := by omega
    have i4 : (x : Int) ≤ 255 := by omega
    have HC := Lib.hid hcode; have HB := Lib.hid hblk; have HBY := Lib.hid hbyte
    clear hcode hbyte
    go_enter Tryd.func61, Tryd.ntmps61
    go_wp2_with fail
    go_quiet (fail)
    have hn1 := near_drewN (near_refl w (some p)) nq
    have hk1 : Blk (w.drewN nq) p 61 #[.slice (some ad) bs.length c, .int .i64 a, .int .u64 s] := HB.out
    have hb1 : (w.drewN nq).cell? (ad.add a) = some (.int .u8 (x : Nat)) := hb0
    generalize w.drewN nq = w1 at *
    clear c0 c1 c2 hlt hb0
    obtain ⟨c0, c1, c2⟩ := Cur.three hk1
    have hlt := hk1.lt
    go_wp2_with fail
    go_quiet (fail)
    have hn0 := near_drewN hn1 nq
    have hk0 : Blk (w1.drewN nq) p 61 #[.slice (some ad) bs.length c, .int .i64 a, .int .u64 s] := hk1
    generalize w1.drewN nq = w2 at *
    clear c0 c1 c2 hlt hb1
    obtain ⟨c0, c1, c2⟩ := Cur.three hk0
    have f0 := hk0.frozen 0
    have f1 := hk0.frozen 1
    have f2 := hk0.frozen 2
    have hlt := hk0.lt
    go_upto_region 6 with fail
    obtain ⟨q0, q1⟩ := wrapU_bd (IntKind.u64.wrap (IntKind.u64.wrap (s * 6364136223846793005) + (x : Int)) + 907907)
    generalize IntKind.u64.wrap (IntKind.u64.wrap (IntKind.u64.wrap (s * 6364136223846793005) + (x : Int)) + 907907) = s2 at *
    have hk3 : Blk ((w2.setCell ⟨p, 1, none⟩ (.int .i64 ((a : Int) + 1))).setCell ⟨p, 2, none⟩ (.int .u64 s2)) p 61 #[.slice (some ad) bs.length c, .int .i64 ((a : Int) + 1), .int .u64 s2] := by
      have := (hk0.set_ 1 (.int .i64 ((a : Int) + 1))).set_ 2 (.int .u64 s2)
      simpa using this
    have hn3 := near_set (near_set hn0 1 (.int .i64 ((a : Int) + 1))) 2 (.int .u64 s2)
    generalize (w2.setCell ⟨p, 1, none⟩ (.int .i64 ((a : Int) + 1))).setCell ⟨p, 2, none⟩ (.int .u64 s2) = w3 at *
    clear c0 c1 c2 f0 f1 f2 hlt hk0 hn0
    obtain ⟨c0, c1, c2⟩ := Cur.three hk3
    have hlt := hk3.lt
    go_quiet (fail)
    go_wp2_with fail
    go_ret
    exact ⟨x, hx, rfl, ⟨⟨a + 1, s2, hk3, by omega, q0, q1⟩, (HC.out.grown (near_drewN hn3 nq) (by have := HB.out.lt; omega) (fun k e => by cases e; exact Nat.le_refl _)), HBY.out, hlen⟩, near_drewN hn3 nq⟩
  · have i1 : ¬ (a : Int) < bs.length := by omega
    have HC := Lib.hid hcode; have HB := Lib.hid hblk; have HBY := Lib.hid hbyte
    clear hcode hbyte
    go_enter Tryd.func61, Tryd.ntmps61
    go_wp2_with fail
    go_quiet (fail)
    have hn0 := near_drewN (near_refl w (some p)) nq
    have hk0 : Blk (w.drewN nq) p 61 #[.slice A bs.length c, .int .i64 a, .int .u64 s] := HB.out
    generalize w.drewN nq = w2 at *
    clear c0 c1 c2 hlt
    obtain ⟨c0, c1, c2⟩ := Cur.three hk0
    have f0 := hk0.frozen 0
    have f1 := hk0.frozen 1
    have f2 := hk0.frozen 2
    have hlt := hk0.lt
    go_upto_region 6 with fail
    obtain ⟨q0, q1⟩ := wrapU_bd (IntKind.u64.wrap (IntKind.u64.wrap (s * 6364136223846793005)) + 907907)
    generalize IntKind.u64.wrap (IntKind.u64.wrap (IntKind.u64.wrap (s * 6364136223846793005)) + 907907) = s2 at *
    have hk3 : Blk ((w2.setCell ⟨p, 1, none⟩ (.int .i64 ((a : Int) + 1))).setCell ⟨p, 2, none⟩ (.int .u64 s2)) p 61 #[.slice A bs.length c, .int .i64 ((a : Int) + 1), .int .u64 s2] := by
      have := (hk0.set_ 1 (.int .i64 ((a : Int) + 1))).set_ 2 (.int .u64 s2)
      simpa using this
    have hn3 := near_set (near_set hn0 1 (.int .i64 ((a : Int) + 1))) 2 (.int .u64 s2)
    generalize (w2.setCell ⟨p, 1, none⟩ (.int .i64 ((a : Int) + 1))).setCell ⟨p, 2, none⟩ (.int .u64 s2) = w3 at *
    clear c0 c1 c2 f0 f1 f2 hlt hk0 hn0
    obtain ⟨c0, c1, c2⟩ := Cur.three hk3
    have hlt := hk3.lt
    go_quiet (fail)
    go_wp2_with fail
    go_ret
    obtain ⟨y, hy, hye⟩ := and255 (s2 / 1099511627776)
    exact ⟨y, hy, by rw [hye]; rfl, ⟨⟨a + 1, s2, hk3, by omega, q0, q1⟩, (HC.out.grown (near_drewN hn3 nq) (by have := HB.out.lt; omega) (fun k e => by cases e; exact Nat.le_refl _)), HBY.out, hlen⟩, near_drewN hn3 nq⟩
theorem pick_any (p : Nat) (A : Option Addr) (bs : List Nat) (c M : Nat) (n : Int) (w : World) (hc : Cur w p A bs c M) (hM : M ≤ 549755813888) (hn : n ≤ 65536) (hn0 : -65536 ≤ n) :
    Calls Tryd.prog 50 #[.pointer (some ⟨p, 0, none⟩), .int .i64 n] w fun e w' => ∃ x : Nat, ((x : Int) < n ∨ x = 0) ∧ e = .returned (.int .i64 (x : Nat)) ∧ Cur w' p A bs c (M + 2) ∧ w.grownBy w' (some p) := by
  have HC := Lib.hid hc
  clear hc
  by_cases h1 : n ≤ 1
  · go_enter Tryd.func50, Tryd.ntmps50
    go_wp2_with fail
    go_ret
    exact ⟨0, .inr rfl, rfl, HC.out.more (by omega), near_refl _ _⟩
  · by_cases h2 : n ≤ 200
    · have h2' : ¬ n > 200 := by omega
      go_enter Tryd.func50, Tryd.ntmps50
      go_wp2_with fail
      refine (next_any p A bs c M w HC.out (by omega)).mono ?_
      rintro e w1 ⟨x, hx, rfl, hc1, hg1⟩
      have HC1 := Lib.hid hc1
      clear hc1
      go_wp2_with fail
      go_ret
      obtain ⟨y, hy⟩ := Int.eq_ofNat_of_zero_le (Int.emod_nonneg (x : Int) (show n ≠ 0 by omega))
      have hlt := Int.emod_lt_of_pos (x : Int) (show 0 < n by omega)
      exact ⟨y, .inl (by omega), by rw [hy]; rfl, HC1.out.more (by omega), hg1⟩
    · have h2' : n > 200 := by omega
      have h3 : (200 : Int) < n := by omega
      go_enter Tryd.func50, Tryd.ntmps50
      go_wp2_with fail
      refine (next_any p A bs c M w HC.out (by omega)).mono ?_
      rintro e w1 ⟨x, hx, rfl, hc1, hg1⟩
      have HC1 := Lib.hid hc1
      clear hc1
      go_wp2_with fail
      refine (next_any p A bs c (M + 1) w1 HC1.out (by omega)).mono ?_
      rintro e w2 ⟨x2, hx2, rfl, hc2, hg2⟩
      have HC2 := Lib.hid hc2
      clear hc2
      go_wp2_with fail
      go_ret
      obtain ⟨y, hy⟩ := Int.eq_ofNat_of_zero_le (Int.emod_nonneg ((x : Int) * 256 + x2) (show n ≠ 0 by omega))
      have hlt := Int.emod_lt_of_pos ((x : Int) * 256 + x2) (show 0 < n by omega)
      exact ⟨y, .inl (by omega), by rw [hy]; rfl, HC2.out, near_step hg1 hg2 (fun k hk => .inl hk.symm)⟩
theorem one_any (p : Nat) (A : Option Addr) (bs : List Nat) (c M : Nat) (n : Int) (w : World) (hc : Cur w p A bs c M) (hM : M ≤ 549755813888) (hn : n ≤ 65536) (hn0 : -65536 ≤ n) :
    Calls Tryd.prog 35 #[.pointer (some ⟨p, 0, none⟩), .int .i64 n] w fun e w' => ∃ b : Bool, e = .returned (.bool b) ∧ Cur w' p A bs c (M + 2) ∧ w.grownBy w' (some p) := by
  have HC := Lib.hid hc
  clear hc
  go_enter Tryd.func35, Tryd.ntmps35
  go_wp2_with fail
  refine (pick_any p A bs c M n w HC.out hM hn hn0).mono ?_
  rintro e w1 ⟨x, hx, rfl, hc1, hg1⟩
  have HC1 := Lib.hid hc1
  clear hc1
  go_wp2_with fail
  go_ret
  exact ⟨_, rfl, HC1.out, hg1⟩
theorem among_any (p : Nat) (A : Option Addr) (bs : List Nat) (c M : Nat) (D : Option Addr) (zs : List Int) (d : Nat) (w : World) (hc : Cur w p A bs c M) (hM : M ≤ 549755813888) (hz : Reads w w.heap.size 1 D zs.length (ints zs)) (h1 : 1 ≤ zs.length) (hl : zs.length ≤ 64)
    (hD : ∀ w', w.grownBy w' (some p) → Reads w' w.heap.size 1 D zs.length (ints zs)) :
    Calls Tryd.prog 60 #[.pointer (some ⟨p, 0, none⟩), .slice D zs.length d] w fun e w' => ∃ z, z ∈ zs ∧ e = .returned (.int .i64 z) ∧ Cur w' p A bs c (M + 2) ∧ w.grownBy w' (some p) := by
  have HC := Lib.hid hc; have HD := Lib.hid hD
  clear hc hz hD
  have hn1 : (zs.length : Int) ≤ 65536 := by omega
  go_enter Tryd.func60, Tryd.ntmps60
  go_wp2_with fail
  refine (pick_any p A bs c M (zs.length : Int) w HC.out hM hn1 (by omega)).mono ?_
  rintro e w1 ⟨x, hx, rfl, hc1, hg1⟩
  have hxl : x < zs.length := by omega
  obtain ⟨ad, rfl, -, hc⟩ := (HD.out w1 hg1).int hxl
  have HC1 := Lib.hid hc1
  have hm := List.getElem_mem hxl
  generalize zs[x] = z at *
  have i1 : (x : Int) < zs.length := by omega
  clear hc1 hx
  go_wp2_with fail
  go_ret
  exact ⟨z, hm, rfl, HC1.out, hg1⟩
end Go.Proofs.YtfpojoabfdiadaaDoor
