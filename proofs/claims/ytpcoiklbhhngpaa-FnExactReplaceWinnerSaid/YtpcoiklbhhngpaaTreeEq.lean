/- Trees as the laws use them: compared, marked, held, counted, copied. -/
import Derived.Test.YtpcoiklbhhngpaaTreeOf
import Derived.Test.YtpcoiklbhhngpaaNest
namespace Go.Proofs.Ytpcoiklbhhngpaa
open Go.RowKit
set_option linter.unusedVariables false
/-- the three rows of a tree of one's own, all blocks from base to C -/
structure TreeRC (w : World) (base C : Nat) (tI tB : TypeId) (AK : Option Addr) (nK cK : Nat) (AD : Option Addr) (nD cD : Nat) (AL : Option Addr) (nL cL : Nat) (ks : List Int) (ds : List Bool) (ls : List Int) : Prop where
  k : w.ownsRow base tI 1 (.slice AK nK cK) nK (ints ks)
  d : w.ownsRow base tB 1 (.slice AD nD cD) nD (bools ds)
  l : w.ownsRow base tI 1 (.slice AL nL cL) nL (ints ls)
  ne : (Value.slice AK nK cK).ownBlock = none ∨ (Value.slice AK nK cK).ownBlock ≠ (Value.slice AL nL cL).ownBlock
  kC : ∀ q, (Value.slice AK nK cK).ownBlock = some q → q < C
  dC : ∀ q, (Value.slice AD nD cD).ownBlock = some q → q < C
  lC : ∀ q, (Value.slice AL nL cL).ownBlock = some q → q < C
/-- a tree that reads -/
def ReadsT (w : World) (B : Nat) (AK : Option Addr) (nK : Nat) (AD : Option Addr) (nD : Nat) (AL : Option Addr) (nL : Nat) (ks : List Int) (ds : List Bool) (ls : List Int) : Prop :=
  Reads w B 1 AK nK (ints ks) ∧ Reads w B 1 AD nD (bools ds) ∧ Reads w B 1 AL nL (ints ls)
section
variable {w w' w1 : World} {base base' B C D : Nat} {tI tB e : TypeId} {AK AD AL : Option Addr} {nK cK nD cD nL cL : Nat} {ks ls : List Int} {ds : List Bool}
theorem TreeRC.below (h : TreeRC w base C tI tB AK nK cK AD nD cD AL nL cL ks ds ls) (hb : Below B w w') (hB : w.heap.size ≤ B) : TreeRC w' base C tI tB AK nK cK AD nD cD AL nL cL ks ds ls :=
  ⟨own_below h.k hb hB, own_below h.d hb hB, own_below h.l hb hB, h.ne, h.kC, h.dC, h.lC⟩
theorem TreeRC.kept {row : Option Nat} (h : TreeRC w base C tI tB AK nK cK AD nD cD AL nL cL ks ds ls) (hg : w.grownBy w' row) (hr : ∀ k, row = some k → k < base ∨ C ≤ k) : TreeRC w' base C tI tB AK nK cK AD nD cD AL nL cL ks ds ls := by
  have key : ∀ x : Value, (∀ k, x.ownBlock = some k → base ≤ k ∧ k < C) → x.ownBlock = none ∨ x.ownBlock ≠ row := by
    intro x hx
    cases hk : x.ownBlock with
    | none => exact .inl rfl
    | some k => exact .inr fun e => by have := hr k e.symm; have := hx k hk; omega
  exact ⟨h.k.kept hg (key _ fun q hq => ⟨(own_lt h.k q hq).1, h.kC q hq⟩), h.d.kept hg (key _ fun q hq => ⟨(own_lt h.d q hq).1, h.dC q hq⟩), h.l.kept hg (key _ fun q hq => ⟨(own_lt h.l q hq).1, h.lC q hq⟩), h.ne, h.kC, h.dC, h.lC⟩
theorem TreeRC.kept_old {size n base1 : Nat} {x : Value} {xs : List Value} (h : TreeRC w base C tI tB AK nK cK AD nD cD AL nL cL ks ds ls) (h1 : w1.ownsRow base1 e size x n xs) (hg : w.grownBy w' x.ownBlock) (hb : w1.heap.size ≤ base) :
    TreeRC w' base C tI tB AK nK cK AD nD cD AL nL cL ks ds ls := h.kept hg fun k hk => .inl (Nat.lt_of_lt_of_le (own_lt h1 k hk).2 hb)
theorem TreeRC.kept_new {size n base1 : Nat} {x : Value} {xs : List Value} (h : TreeRC w base C tI tB AK nK cK AD nD cD AL nL cL ks ds ls) (h1 : w1.ownsRow base1 e size x n xs) (hg : w.grownBy w' x.ownBlock) (hb : C ≤ base1) :
    TreeRC w' base C tI tB AK nK cK AD nD cD AL nL cL ks ds ls := h.kept hg fun k hk => .inr (Nat.le_trans hb (own_lt h1 k hk).1)
theorem TreeRC.mid (h : TreeRC w base C tI tB AK nK cK AD nD cD AL nL cL ks ds ls) (hm : Mid B D w w') (hv : C ≤ B ∨ D ≤ base) : TreeRC w' base C tI tB AK nK cK AD nD cD AL nL cL ks ds ls := by
  have key : ∀ k, base ≤ k → k < C → k < B ∨ D ≤ k := fun k h5 h6 => by omega
  exact ⟨hm.own h.k fun q hq => key q (own_lt h.k q hq).1 (h.kC q hq), hm.own h.d fun q hq => key q (own_lt h.d q hq).1 (h.dC q hq), hm.own h.l fun q hq => key q (own_lt h.l q hq).1 (h.lC q hq), h.ne, h.kC, h.dC, h.lC⟩
theorem ReadsT.of_rc (h : TreeRC w base C tI tB AK nK cK AD nD cD AL nL cL ks ds ls) : ReadsT w w.heap.size AK nK AD nD AL nL ks ds ls := ⟨Reads.of_own h.k, Reads.of_own h.d, Reads.of_own h.l⟩
theorem ReadsT.below (h : ReadsT w B AK nK AD nD AL nL ks ds ls) (hb : Below B w w') : ReadsT w' B AK nK AD nD AL nL ks ds ls := ⟨h.1.below hb, h.2.1.below hb, h.2.2.below hb⟩
theorem ReadsT.more (h : ReadsT w B AK nK AD nD AL nL ks ds ls) (hB : B ≤ C) : ReadsT w C AK nK AD nD AL nL ks ds ls := ⟨h.1.more hB, h.2.1.more hB, h.2.2.more hB⟩
theorem TreeRC.born {k : Nat} {gL : Option Addr} {cLL : Nat} (h : TreeOwn w base tI tB k AK cK AD cD gL cLL ks ds ls) (hb : base' ≤ base) : TreeRC w base' w.heap.size tI tB AK k cK AD k cD gL k cLL ks ds ls :=
  ⟨own_base h.1 hb, own_base h.2.1 hb, own_base h.2.2.1 hb, h.2.2.2, fun q hq => (own_lt h.1 q hq).2, fun q hq => (own_lt h.2.1 q hq).2, fun q hq => (own_lt h.2.2.1 q hq).2⟩
end
set_option maxHeartbeats 800000 in
theorem eqLoserTree_any (AK BK : Option Addr) (ks ks' : List Int) (cK dK : Nat) (AD BD : Option Addr) (ds ds' : List Bool) (cD dD : Nat) (AL BL : Option Addr) (ls ls' : List Int) (cL dL : Nat) (W V : Int) (w : World)
    (hx : ReadsT w w.heap.size AK ks.length AD ds.length AL ls.length ks ds ls) (hy : ReadsT w w.heap.size BK ks'.length BD ds'.length BL ls'.length ks' ds' ls')
    (hl : ks.length + ds.length + ls.length ≤ 1099511627776) (hl' : ks'.length + ds'.length + ls'.length ≤ 1099511627776) :
    Calls Try.prog 12 #[.agg #[.slice AK ks.length cK, .slice AD ds.length cD, .slice AL ls.length cL, .int .i64 W], .agg #[.slice BK ks'.length dK, .slice BD ds'.length dD, .slice BL ls'.length dL, .int .i64 V]] w
      fun e w' => e = .returned (.bool (((decide (ks = ks') && decide (ds = ds')) && decide (ls = ls')) && decide (W = V))) ∧ Below w.heap.size w w' := by
  have hb0 : Below w.heap.size w ((w.alloc (.cells #[.slice AK ks.length cK, .slice AD ds.length cD, .slice AL ls.length cL, .int .i64 W] 25)).alloc (.cells #[.slice BK ks'.length dK, .slice BD ds'.length dD, .slice BL ls'.length dL, .int .i64 V] 25)) := by go_grown
  have hx' := (hx.below hb0).more hb0.size
  have hy' := (hy.below hb0).more hb0.size
  have HX := Lib.hid hx'; have HY := Lib.hid hy'
  clear hx hy hx' hy'
  go_enter Try.func12, Try.ntmps12
  go_wp2_with fail
  refine (eqIntS_b AK BK ks ks' cK dK _ HX.out.1 HY.out.1 (by omega) (by omega)).mono ?_
  rintro e w1 ⟨rfl, b1⟩
  obtain ⟨B1, x0, y0⟩ := step_box2 b1
  obtain ⟨p0, p1, p2, p3⟩ := x0.four
  obtain ⟨q0, q1, q2, q3⟩ := y0.four
  have lx := x0.lt
  have ly := y0.lt
  have HX1 := Lib.hid ((HX.out.below b1).more b1.size)
  have HY1 := Lib.hid ((HY.out.below b1).more b1.size)
  cases h1 : decide (ks = ks')
  · go_wp2_with fail
    go_ret
    exact ⟨retb (by simp [h1]), B1⟩
  go_wp2_with fail
  refine (eqBoolS_b AD BD ds ds' cD dD _ HX1.out.2.1 HY1.out.2.1 (by omega) (by omega)).mono ?_
  rintro e w2 ⟨rfl, b2⟩
  obtain ⟨p0, p1, p2, p3⟩ := (x0.below_ b2).four
  obtain ⟨q0, q1, q2, q3⟩ := (y0.below_ b2).four
  have lx := (x0.below_ b2).lt
  have ly := (y0.below_ b2).lt
  have B2 := bthen B1 b2
  have HX2 := Lib.hid ((HX1.out.below b2).more b2.size)
  have HY2 := Lib.hid ((HY1.out.below b2).more b2.size)
  cases h2 : decide (ds = ds')
  · go_wp2_with fail
    go_ret
    exact ⟨retb (by simp [h2]), B2⟩
  go_wp2_with fail
  refine (eqIntS_b AL BL ls ls' cL dL _ HX2.out.2.2 HY2.out.2.2 (by omega) (by omega)).mono ?_
  rintro e w3 ⟨rfl, b3⟩
  obtain ⟨p0, p1, p2, p3⟩ := ((x0.below_ b2).below_ b3).four
  obtain ⟨q0, q1, q2, q3⟩ := ((y0.below_ b2).below_ b3).four
  have lx := ((x0.below_ b2).below_ b3).lt
  have ly := ((y0.below_ b2).below_ b3).lt
  have B3 := bthen B2 b3
  cases h3 : decide (ls = ls')
  · go_wp2_with fail
    go_ret
    exact ⟨retb (by simp [h3]), B3⟩
  by_cases h4 : W = V
  · subst h4
    have hd' : (W != W) = false := by simp
    go_wp2_with fail
    go_ret
    exact ⟨retb (by simp), B3⟩
  · have hd' : (W != V) = true := by simpa using h4
    go_wp2_with fail
    go_ret
    exact ⟨retb (by simp [h4]), B3⟩
set_option maxHeartbeats 800000 in
theorem markLoserTree_b (B C : Nat) (AK : Option Addr) (ks : List Int) (cK : Nat) (AD : Option Addr) (ds : List Bool) (cD : Nat) (AL : Option Addr) (ls : List Int) (cL : Nat) (W k0 : Int) (w : World)
    (hl : ks.length + ds.length + ls.length ≤ 1048576) (h0 : 0 ≤ k0) (h1 : k0 ≤ 1099500000000) (hown : TreeRC w B C 3 4 AK ks.length cK AD ds.length cD AL ls.length cL ks ds ls) :
    Calls Try.prog 15 #[.agg #[.slice AK ks.length cK, .slice AD ds.length cD, .slice AL ls.length cL, .int .i64 W], .int .i64 k0] w fun e w' => e = .returned (.int .i64 (k0 + ((ks.length + ds.length + ls.length : Nat)))) ∧
      TreeRC w' B C 3 4 AK ks.length cK AD ds.length cD AL ls.length cL (imarks k0 ks.length) (bmarks (k0 + ks.length) ds.length) (imarks (k0 + ks.length + ds.length) ls.length) ∧ Mid B C w w' := by
  have hblk := Blk.new w 25 #[.slice AK ks.length cK, .slice AD ds.length cD, .slice AL ls.length cL, .int .i64 W]
  have oK := World.ownsRow.alloc hown.k (.cells #[.slice AK ks.length cK, .slice AD ds.length cD, .slice AL ls.length cL, .int .i64 W] 25)
  have oD := World.ownsRow.alloc hown.d (.cells #[.slice AK ks.length cK, .slice AD ds.length cD, .slice AL ls.length cL, .int .i64 W] 25)
  have oL := World.ownsRow.alloc hown.l (.cells #[.slice AK ks.length cK, .slice AD ds.length cD, .slice AL ls.length cL, .int .i64 W] 25)
  have hm0 : Mid B C w (w.alloc (.cells #[.slice AK ks.length cK, .slice AD ds.length cD, .slice AL ls.length cL, .int .i64 W] 25)) := ⟨rfl, rfl, rfl, by simp, fun k hk _ => Below.heap_alloc w _ k hk⟩
  go_enter Try.func15, Try.ntmps15
  go_wp2_with fail
  refine (markIntS_b B AK ks cK k0 _ (by omega) (by omega) (by omega) oK).mono ?_
  rintro e w1 ⟨rfl, oK1, g1⟩
  have oD1 := oD.kept g1 (own_ne_type oD oK (by decide))
  have oL1 := oL.kept g1 (by
    rcases hown.ne with h | h
    · cases hk : (Value.slice AL ls.length cL).ownBlock with
      | none => exact .inl rfl
      | some q => exact .inr (by rw [h]; simp)
    · exact .inr fun e => h e.symm)
  have x1 := hblk.grown g1 (fun e => own_blk_ne oK hblk (by decide) e.symm)
  have m1 := hm0.grown g1 (fun q hq => ⟨(own_lt hown.k q hq).1, hown.kC q hq⟩)
  obtain ⟨p0, p1, p2, p3⟩ := x1.four
  have lx := x1.lt
  go_wp2_with fail
  refine (markBoolS_b B AD ds cD (k0 + ks.length) _ (by omega) (by omega) (by omega) oD1).mono ?_
  rintro e w2 ⟨rfl, oD2, g2⟩
  have oK2 := oK1.kept g2 (own_ne_type oK1 oD1 (by decide))
  have oL2 := oL1.kept g2 (own_ne_type oL1 oD1 (by decide))
  have x2 := x1.grown g2 (fun e => own_blk_ne oD1 x1 (by decide) e.symm)
  have m2 := m1.grown g2 (fun q hq => ⟨(own_lt hown.d q hq).1, hown.dC q hq⟩)
  obtain ⟨p0, p1, p2, p3⟩ := x2.four
  have lx := x2.lt
  go_wp2_with fail
  refine (markIntS_b B AL ls cL (k0 + ks.length + ds.length) _ (by omega) (by omega) (by omega) oL2).mono ?_
  rintro e w3 ⟨rfl, oL3, g3⟩
  have oK3 := oK2.kept g3 hown.ne
  have oD3 := oD2.kept g3 (own_ne_type oD2 oL2 (by decide))
  have m3 := m2.grown g3 (fun q hq => ⟨(own_lt hown.l q hq).1, hown.lC q hq⟩)
  go_wp2_with fail
  go_ret
  exact ⟨reti (by omega), ⟨oK3, oD3, oL3, hown.ne, hown.kC, hown.dC, hown.lC⟩, m3⟩
set_option maxHeartbeats 800000 in
theorem heldLoserTree_b (AK : Option Addr) (nK cK : Nat) (AD : Option Addr) (nD cD : Nat) (AL : Option Addr) (nL cL : Nat) (W k0 : Int) (w : World)
    (hl : nK + nD + nL ≤ 1048576) (h0 : 0 ≤ k0) (h1 : k0 ≤ 1099500000000) (hx : ReadsT w w.heap.size AK nK AD nD AL nL (imarks k0 nK) (bmarks (k0 + nK) nD) (imarks (k0 + nK + nD) nL)) :
    Calls Try.prog 16 #[.agg #[.slice AK nK cK, .slice AD nD cD, .slice AL nL cL, .int .i64 W], .int .i64 k0] w fun e w' => e = .returned (.int .i64 (k0 + ((nK + nD + nL : Nat)))) ∧ Below w.heap.size w w' := by
  have hb0 := alloc_ (Below.refl w.heap.size w) (.cells #[.slice AK nK cK, .slice AD nD cD, .slice AL nL cL, .int .i64 W] 25)
  have HX := Lib.hid ((hx.below hb0).more hb0.size)
  clear hx
  go_enter Try.func16, Try.ntmps16
  go_wp2_with fail
  refine (heldIntS_b AK nK cK k0 _ (by omega) (by omega) (by omega) HX.out.1).mono ?_
  rintro e w1 ⟨rfl, b1⟩
  obtain ⟨B1, x0⟩ := step_box b1
  obtain ⟨p0, p1, p2, p3⟩ := x0.four
  have lx := x0.lt
  have HX1 := Lib.hid ((HX.out.below b1).more b1.size)
  have e1 : ¬ (k0 + (nK : Int)) < 0 := by omega
  go_wp2_with fail
  refine (heldBoolS_b AD nD cD (k0 + nK) _ (by omega) (by omega) (by omega) HX1.out.2.1).mono ?_
  rintro e w2 ⟨rfl, b2⟩
  obtain ⟨p0, p1, p2, p3⟩ := (x0.below_ b2).four
  have lx := (x0.below_ b2).lt
  have HX2 := Lib.hid ((HX1.out.below b2).more b2.size)
  have e2 : ¬ (k0 + (nK : Int) + nD) < 0 := by omega
  go_wp2_with fail
  refine (heldIntS_b AL nL cL (k0 + nK + nD) _ (by omega) (by omega) (by omega) HX2.out.2.2).mono ?_
  rintro e w3 ⟨rfl, b3⟩
  have e3 : ¬ (k0 + (nK : Int) + nD + nL) < 0 := by omega
  go_wp2_with fail
  go_ret
  exact ⟨reti (by omega), bthen (bthen B1 b2) b3⟩
set_option maxRecDepth 100000 in
set_option maxHeartbeats 1600000 in
theorem toLoserTree_any (AK : Option Addr) (ks : List Int) (cK : Nat) (AD : Option Addr) (ds : List Bool) (cD : Nat) (AL : Option Addr) (ls : List Int) (cL : Nat) (W : Int) (w : World)
    (hx : ReadsT w w.heap.size AK ks.length AD ds.length AL ls.length ks ds ls) (hl : ks.length + ds.length + ls.length ≤ 1048576) :
    Calls Try.prog 19 #[.agg #[.slice AK ks.length cK, .slice AD ds.length cD, .slice AL ls.length cL, .int .i64 W]] w fun e w' => ∃ gK gD gL, e = .returned (.agg #[(.slice (some ⟨gK, 0, none⟩) ks.length ks.length), (.slice (some ⟨gD, 0, none⟩) ds.length ds.length), (.slice (some ⟨gL, 0, none⟩) ls.length ls.length), .int .i64 W]) ∧
      TreeRC w' w.heap.size w'.heap.size 3 4 (some ⟨gK, 0, none⟩) ks.length ks.length (some ⟨gD, 0, none⟩) ds.length ds.length (some ⟨gL, 0, none⟩) ls.length ls.length ks ds ls ∧ Below w.heap.size w w' := by
  have hb0 : Below w.heap.size w (((w.alloc (.cells #[.slice AK ks.length cK, .slice AD ds.length cD, .slice AL ls.length cL, .int .i64 W] 34)).alloc (.cells #[.slice none 0 0, .slice none 0 0, .slice none 0 0, .int .i64 0] 25)).alloc (.cells #[.slice none 0 0, .slice none 0 0, .slice none 0 0, .int .i64 0] 25)) := by go_grown
  have k1 := ((Blk.new w 34 #[.slice AK ks.length cK, .slice AD ds.length cD, .slice AL ls.length cL, .int .i64 W]).alloc (.cells #[.slice none 0 0, .slice none 0 0, .slice none 0 0, .int .i64 0] 25)).alloc (.cells #[.slice none 0 0, .slice none 0 0, .slice none 0 0, .int .i64 0] 25)
  have k2 := (Blk.new (w.alloc (.cells #[.slice AK ks.length cK, .slice AD ds.length cD, .slice AL ls.length cL, .int .i64 W] 34)) 25 #[.slice none 0 0, .slice none 0 0, .slice none 0 0, .int .i64 0]).alloc (.cells #[.slice none 0 0, .slice none 0 0, .slice none 0 0, .int .i64 0] 25)
  have k3 := Blk.new ((w.alloc (.cells #[.slice AK ks.length cK, .slice AD ds.length cD, .slice AL ls.length cL, .int .i64 W] 34)).alloc (.cells #[.slice none 0 0, .slice none 0 0, .slice none 0 0, .int .i64 0] 25)) 25 #[.slice none 0 0, .slice none 0 0, .slice none 0 0, .int .i64 0]
  simp only [World.size_alloc] at k2 k3
  have HX := Lib.hid ((hx.below hb0).more hb0.size)
  have hx0 := hx
  clear hx
  go_enter Try.func19, Try.ntmps19
  go_wp2_with fail
  refine (toIntS_any AK ks cK _ HX.out.1 (by omega)).mono ?_
  rintro e w1 ⟨gK, rfl, oK, b1⟩
  have B1 := bthen hb0 b1
  have HX1 := Lib.hid ((HX.out.below b1).more b1.size)
  have oK' := own_base (base' := w.heap.size) oK hb0.size
  have x1 := k1.below_ b1; have x2 := k2.below_ b1; have x3 := k3.below_ b1
  have y3 := x3.set_ 0 (.slice (some ⟨gK, 0, none⟩) ks.length ks.length)
  have y1 := x1.far (p := ⟨w.heap.size + 1 + 1, 0, none⟩) (by simp; omega) (.slice (some ⟨gK, 0, none⟩) ks.length ks.length)
  have y2 := x2.far (p := ⟨w.heap.size + 1 + 1, 0, none⟩) (by simp) (.slice (some ⟨gK, 0, none⟩) ks.length ks.length)
  have oK2 := own_setCell oK' (p := ⟨w.heap.size + 1 + 1, 0, none⟩) (own_blk_ne oK' x3 (by decide)) (.slice (some ⟨gK, 0, none⟩) ks.length ks.length)
  have B2 := B1.setCell (p := ⟨w.heap.size + 1 + 1, 0, none⟩) (by simp; omega) (.slice (some ⟨gK, 0, none⟩) ks.length ks.length)
  have HX2 := Lib.hid (show ReadsT (w1.setCell ⟨w.heap.size + 1 + 1, 0, none⟩ (.slice (some ⟨gK, 0, none⟩) ks.length ks.length)) (w1.setCell ⟨w.heap.size + 1 + 1, 0, none⟩ (.slice (some ⟨gK, 0, none⟩) ks.length ks.length)).heap.size AK ks.length AD ds.length AL ls.length ks ds ls from (hx0.below B2).more B2.size)
  have Y1 := Lib.hid y1; have Y2 := Lib.hid y2; have Y3 := Lib.hid y3
  obtain ⟨p0, p1, p2, p3⟩ := x3.four
  obtain ⟨f0, f1, f2, f3⟩ := x3.ice
  obtain ⟨a0, a1, a2, a3⟩ := x1.four
  have l1 := x1.lt; have l3 := x3.lt
  have ne1 : w.heap.size ≠ w.heap.size + 1 + 1 := by omega
  clear k1 k2 k3 x1 x2 x3 y1 y2 y3 HX HX1
  go_wp2_with fail
  clear p0 p1 p2 p3 f0 f1 f2 f3 a0 a1 a2 a3 l1 l3
  have C1 := B2; clear B2
  generalize w1.setCell ⟨w.heap.size + 1 + 1, 0, none⟩ (.slice (some ⟨gK, 0, none⟩) ks.length ks.length) = W2 at *
  refine (toBoolS_any AD ds cD W2 HX2.out.2.1 (by omega)).mono ?_
  rintro e w3 ⟨gD, rfl, oD, b2⟩
  have B2 := bthen C1 b2
  have oD' := own_base (base' := w.heap.size) oD C1.size
  have x1 := Y1.out.below_ b2; have x2 := Y2.out.below_ b2; have x3 := Y3.out.below_ b2
  have y3 := x3.set_ 1 (.slice (some ⟨gD, 0, none⟩) ds.length ds.length)
  have y1 := x1.far (p := ⟨w.heap.size + 1 + 1, 1, none⟩) (by simp; omega) (.slice (some ⟨gD, 0, none⟩) ds.length ds.length)
  have y2 := x2.far (p := ⟨w.heap.size + 1 + 1, 1, none⟩) (by simp) (.slice (some ⟨gD, 0, none⟩) ds.length ds.length)
  have oD2 := own_setCell oD' (p := ⟨w.heap.size + 1 + 1, 1, none⟩) (own_blk_ne oD' x3 (by decide)) (.slice (some ⟨gD, 0, none⟩) ds.length ds.length)
  have oKn := own_below oK2 b2 (Nat.le_refl _)
  have oK2 := own_setCell oKn (p := ⟨w.heap.size + 1 + 1, 1, none⟩) (own_blk_ne oKn x3 (by decide)) (.slice (some ⟨gD, 0, none⟩) ds.length ds.length)
  have C2 := B2.setCell (p := ⟨w.heap.size + 1 + 1, 1, none⟩) (by simp; omega) (.slice (some ⟨gD, 0, none⟩) ds.length ds.length)
  have HX2 := Lib.hid (show ReadsT (w3.setCell ⟨w.heap.size + 1 + 1, 1, none⟩ (.slice (some ⟨gD, 0, none⟩) ds.length ds.length)) (w3.setCell ⟨w.heap.size + 1 + 1, 1, none⟩ (.slice (some ⟨gD, 0, none⟩) ds.length ds.length)).heap.size AK ks.length AD ds.length AL ls.length ks ds ls from (hx0.below C2).more C2.size)
  have Y1 := Lib.hid y1; have Y2 := Lib.hid y2; have Y3 := Lib.hid y3
  obtain ⟨p0, p1, p2, p3⟩ := x3.four
  obtain ⟨f0, f1, f2, f3⟩ := x3.ice
  obtain ⟨a0, a1, a2, a3⟩ := x1.four
  have l1 := x1.lt; have l3 := x3.lt
  clear x1 x2 x3 y1 y2 y3
  go_wp2_with fail
  clear p0 p1 p2 p3 f0 f1 f2 f3 a0 a1 a2 a3 l1 l3
  generalize w3.setCell ⟨w.heap.size + 1 + 1, 1, none⟩ (.slice (some ⟨gD, 0, none⟩) ds.length ds.length) = W3 at *
  refine (toIntS_any AL ls cL W3 HX2.out.2.2 (by omega)).mono ?_
  rintro e w4 ⟨gL, rfl, oL, b3⟩
  have B3 := bthen C2 b3
  have oL' := own_base (base' := w.heap.size) oL C2.size
  have oK' := own_below oK2 b3 (Nat.le_refl _)
  have oD' := own_below oD2 b3 (Nat.le_refl _)
  have hne := own_ne_new oK2 oL (Nat.le_refl _)
  have x1 := Y1.out.below_ b3; have x2 := Y2.out.below_ b3; have x3 := Y3.out.below_ b3
  have six : ∀ {B : Nat} {t : TypeId} {n : Nat} {v : Value} {xs : List Value}, w4.ownsRow B t 1 v n xs → t ≠ 25 → ((((((w4.setCell ⟨w.heap.size + 1 + 1, 2, none⟩ (.slice (some ⟨gL, 0, none⟩) ls.length ls.length)).setCell ⟨w.heap.size + 1 + 1, 3, none⟩ (.int .i64 W)).setCell ⟨w.heap.size + 1, 0, none⟩ (.slice (some ⟨gK, 0, none⟩) ks.length ks.length)).setCell ⟨w.heap.size + 1, 1, none⟩ (.slice (some ⟨gD, 0, none⟩) ds.length ds.length)).setCell ⟨w.heap.size + 1, 2, none⟩ (.slice (some ⟨gL, 0, none⟩) ls.length ls.length)).setCell ⟨w.heap.size + 1, 3, none⟩ (.int .i64 W)).ownsRow B t 1 v n xs := by
    intro B t n v xs h ht
    have hn := own_blk_ne h x3 ht
    have hm := own_blk_ne h x2 ht
    exact own_setCell (own_setCell (own_setCell (own_setCell (own_setCell (own_setCell h (p := ⟨w.heap.size + 1 + 1, 2, none⟩) hn _) (p := ⟨w.heap.size + 1 + 1, 3, none⟩) hn _) (p := ⟨w.heap.size + 1, 0, none⟩) hm _) (p := ⟨w.heap.size + 1, 1, none⟩) hm _) (p := ⟨w.heap.size + 1, 2, none⟩) hm _) (p := ⟨w.heap.size + 1, 3, none⟩) hm _
  have O1 := Lib.hid (six oK' (by decide)); have O2 := Lib.hid (six oD' (by decide)); have O3 := Lib.hid (six oL' (by decide))
  have BF := Lib.hid ((((((B3.setCell (p := ⟨w.heap.size + 1 + 1, 2, none⟩) (by simp; omega) (.slice (some ⟨gL, 0, none⟩) ls.length ls.length)).setCell (p := ⟨w.heap.size + 1 + 1, 3, none⟩) (by simp; omega) (.int .i64 W)).setCell (p := ⟨w.heap.size + 1, 0, none⟩) (by simp) (.slice (some ⟨gK, 0, none⟩) ks.length ks.length)).setCell (p := ⟨w.heap.size + 1, 1, none⟩) (by simp) (.slice (some ⟨gD, 0, none⟩) ds.length ds.length)).setCell (p := ⟨w.heap.size + 1, 2, none⟩) (by simp) (.slice (some ⟨gL, 0, none⟩) ls.length ls.length)).setCell (p := ⟨w.heap.size + 1, 3, none⟩) (by simp) (.int .i64 W))
  have kf := (((((x2.far (p := ⟨w.heap.size + 1 + 1, 2, none⟩) (by simp) (.slice (some ⟨gL, 0, none⟩) ls.length ls.length)).far (p := ⟨w.heap.size + 1 + 1, 3, none⟩) (by simp) (.int .i64 W)).set_ 0 (.slice (some ⟨gK, 0, none⟩) ks.length ks.length)).set_ 1 (.slice (some ⟨gD, 0, none⟩) ds.length ds.length)).set_ 2 (.slice (some ⟨gL, 0, none⟩) ls.length ls.length)).set_ 3 (.int .i64 W)
  obtain ⟨r0, r1, r2, r3⟩ := Blk.four (a := (.slice (some ⟨gK, 0, none⟩) ks.length ks.length)) (b := (.slice (some ⟨gD, 0, none⟩) ds.length ds.length)) (c := (.slice (some ⟨gL, 0, none⟩) ls.length ls.length)) (d := (.int .i64 W)) (by simpa using kf)
  have R0 := Lib.hid r0; have R1 := Lib.hid r1; have R2 := Lib.hid r2; have R3 := Lib.hid r3
  obtain ⟨p0, p1, p2, p3⟩ := x3.four
  obtain ⟨f0, f1, f2, f3⟩ := x3.ice
  obtain ⟨q0, q1, q2, q3⟩ := x2.four
  obtain ⟨e0, e1, e2, e3⟩ := x2.ice
  obtain ⟨a0, a1, a2, a3⟩ := x1.four
  have l1 := x1.lt; have l2 := x2.lt; have l3 := x3.lt
  clear x1 x2 x3 six kf r0 r1 r2 r3
  go_wp2_with fail
  exact bodyPost_ret (v := .agg #[(.slice (some ⟨gK, 0, none⟩) ks.length ks.length), (.slice (some ⟨gD, 0, none⟩) ds.length ds.length), (.slice (some ⟨gL, 0, none⟩) ls.length ls.length), .int .i64 W]) (by simp [results, Try.results19, go_sem, R0.out, R1.out, R2.out, R3.out]) rfl ⟨gK, gD, gL, rfl, ⟨O1.out, O2.out, O3.out, hne, fun q hq => (own_lt O1.out q hq).2, fun q hq => (own_lt O2.out q hq).2, fun q hq => (own_lt O3.out q hq).2⟩, BF.out⟩
end Go.Proofs.Ytpcoiklbhhngpaa
