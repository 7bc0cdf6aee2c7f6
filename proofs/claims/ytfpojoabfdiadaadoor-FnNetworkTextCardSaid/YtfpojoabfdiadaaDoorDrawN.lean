/- Networks out of the cursor. -/
import Derived.Test.YtfpojoabfdiadaaDoorDrawI
import Derived.Test.YtfpojoabfdiadaaDoorCmp
import Derived.Deep.RegionHeld3
import Derived.Test.YtfpojoabfdiadaaDoorInv
import Derived.Deep.DeepCutAuto
namespace Go.Proofs.YtfpojoabfdiadaaDoor
open Go.RowKit
set_option linter.unusedVariables false
def smallC (cs : List (Int × Int)) : Prop := ∀ c ∈ cs, (-1048576 ≤ c.1 ∧ c.1 ≤ 1048576) ∧ (-1048576 ≤ c.2 ∧ c.2 ≤ 1048576)
theorem smallC_nil : smallC [] := by intro z hz; cases hz
theorem smallC_push {cs : List (Int × Int)} {a b : Int} (h : smallC cs) (ha : -1048576 ≤ a ∧ a ≤ 1048576) (hb : -1048576 ≤ b ∧ b ≤ 1048576) : smallC (cs ++ [(a, b)]) := by
  intro y hy
  rcases List.mem_append.1 hy with h1 | h1
  · exact h y h1
  · rw [List.mem_singleton.1 h1]; exact ⟨ha, hb⟩
theorem cmps_snoc (cs : List (Int × Int)) (a b : Int) : cmps cs ++ (#[Value.int .i64 a, Value.int .i64 b] : Array Value).toList = cmps (cs ++ [(a, b)]) := by simp [cmps]
theorem cn_drew {w : World} {a : Addr} {x : Option Value} (h : w.cell? a = x) : w.drew.cell? a = x := h
theorem cn_alloc {w : World} {a : Addr} {v : Value} (h : w.cell? a = some v) (o : Obj) : (w.alloc o).cell? a = some v := by
  rw [World.cell?_alloc_lt w o a (World.block_lt_of_cell? w _ h)]; exact h
/-- a network under way in the box g -/
def NetS (w : World) (base g : Nat) (W : Int) (cs : List (Int × Int)) : Prop := ∃ v, Blk w g 30 #[.int .i64 W, v] ∧ w.ownsRow base 48 2 v cs.length (cmps cs)
theorem Cur.blk_ {w w' : World} {p r : Nat} {A : Option Addr} {bs : List Nat} {c M : Nat} {T : TypeId} {cs : Array Value} (h : Cur w p A bs c M) (hb : Blk w r T cs) (hg : w.grownBy w' (some p)) (hT : T ≠ 61) : Blk w' r T cs := by
  obtain ⟨a, s, hk, _⟩ := h.blk
  exact hb.grown hg (fun e => hb.ne_ hk hT (Option.some.inj e))
theorem Cur.net {w w' : World} {p base g : Nat} {A : Option Addr} {bs : List Nat} {c M : Nat} {W : Int} {cs : List (Int × Int)} (h : Cur w p A bs c M) (hn : NetS w base g W cs) (hg : w.grownBy w' (some p)) : NetS w' base g W cs := by
  obtain ⟨v, h1, h2⟩ := hn
  exact ⟨v, h.blk_ h1 hg (by decide), h.row h2 hg (by decide)⟩
theorem NetS.alloc {w : World} {base g : Nat} {W : Int} {cs : List (Int × Int)} (h : NetS w base g W cs) (o : Obj) : NetS (w.alloc o) base g W cs := by
  obtain ⟨v, h1, h2⟩ := h
  exact ⟨v, h1.alloc o, h2.alloc o⟩
theorem NetS.lt {w : World} {base g : Nat} {W : Int} {cs : List (Int × Int)} (h : NetS w base g W cs) : g < w.heap.size := by
  obtain ⟨v, h1, _⟩ := h
  exact h1.lt
theorem own_lit {w : World} {base g size n : Nat} {e : TypeId} {cur : Array Value} {xs : List Value} (hb : base ≤ w.heap.size) (hg : w.heap.size = g) (hs : cur.size = n * size) (hn : n ≤ maxLen) (hx : cur.toList = xs) : (w.alloc (.cells cur e)).ownsRow base e size (.slice (some ⟨g, 0, none⟩) n n) n xs := by
  subst hg hx
  refine ⟨by rw [Array.length_toList]; exact hs, .inr ⟨w.heap.size, n, cur, rfl, hb, Array.getElem?_push_size, Nat.le_refl _, hn, hs, ?_⟩⟩
  rw [List.take_of_length_le (by rw [Array.length_toList, hs]; exact Nat.le_refl _)]
def lenAt (w : World) (g : Nat) : Nat := match w.cell? ⟨g, 1, none⟩ with
  | some (.slice _ n _) => n
  | _ => 0
theorem NetS.lenAt {w : World} {base g : Nat} {W : Int} {cs : List (Int × Int)} (h : NetS w base g W cs) : lenAt w g = cs.length := by
  obtain ⟨v, hk, ho⟩ := h
  obtain ⟨D, d, rfl⟩ := own_slice ho
  have q1 := hk.two.2
  unfold Go.Proofs.YtfpojoabfdiadaaDoor.lenAt
  rw [q1]
set_option maxRecDepth 100000 in
set_option maxHeartbeats 3200000 in
theorem network_any (p : Nat) (A : Option Addr) (bs : List Nat) (c M : Nat) (w : World) (hc : Cur w p A bs c M) (hM : M ≤ 274877906000) :
    Calls Tryd.prog 34 #[.pointer (some ⟨p, 0, none⟩)] w fun e w' => ∃ (W : Int) (D : Option Addr) (cs : List (Int × Int)) (d : Nat), e = .returned (.agg #[.int .i64 W, .slice D cs.length d]) ∧ w'.ownsRow w.heap.size 48 2 (.slice D cs.length d) cs.length (cmps cs) ∧
      (2 ≤ W ∧ W ≤ 5) ∧ cs.length ≤ 12 ∧ smallC cs ∧ Cur w' p A bs c (M + 200) ∧ w.grownBy w' (some p) := by
  obtain ⟨i0, hi, hz0, hz1, hz2⟩ := info_parts info_cmp
  have HC0 := Lib.hid (hc.alloc (.cells #[.int .i64 0, .slice none 0 0] 30))
  have hplt := hc.lt
  have hR0 := Blk.new w 30 #[.int .i64 0, .slice none 0 0]
  have hG0 : w.grownBy (w.alloc (.cells #[.int .i64 0, .slice none 0 0] 30)) (some p) := World.grownBy_alloc _ _ _
  clear hc
  go_enter Tryd.func34, Tryd.ntmps34
  go_wp2_with fail
  refine (pick_any p A bs c M 4 _ HC0.out (by omega) (by omega) (by omega)).mono ?_
  rintro e w1 ⟨x1, hx1, rfl, hc1, hg1⟩
  have hR1 := Cur.blk_ HC0.out hR0 hg1 (by decide)
  have hG1 := near_step hG0 hg1 (fun k hk => .inl hk.symm)
  have hx1b : (x1 : Int) ≤ 3 := by omega
  obtain ⟨W, hW⟩ : ∃ W : Int, (2 : Int) + (x1 : Int) = W := ⟨_, rfl⟩
  have hW2 : 2 ≤ W := by omega
  have hW5 : W ≤ 5 := by omega
  have HC2 := Lib.hid (hc1.alloc (.cells #[.int .i64 W, .slice none 0 0] 30))
  have hR2 := hR1.alloc (.cells #[.int .i64 W, .slice none 0 0] 30)
  have hN2 : NetS (w1.alloc (.cells #[.int .i64 W, .slice none 0 0] 30)) w.heap.size w1.heap.size W [] := ⟨_, Blk.new _ _ _, World.ownsRow_nil _ _ _ _⟩
  have hG2 := near_step hG1 (World.grownBy_alloc w1 (.cells #[.int .i64 W, .slice none 0 0] 30) (some p)) (fun k hk => .inl hk.symm)
  have hgle : w.heap.size < w1.heap.size := by have := hR1.lt; omega
  have hpg : p < w1.heap.size := by omega
  have HW := Lib.hid hW
  clear hW hc1 hR0 hR1 hG0 hG1 hg1 hx1
  go_wp2_with fail
  rw [HW.out]
  refine (pick_any p A bs c (M + 2) 12 _ HC2.out (by omega) (by omega) (by omega)).mono ?_
  rintro e w3 ⟨x3, hx3, rfl, hc3, hg3⟩
  have hR3 := Cur.blk_ HC2.out hR2 hg3 (by decide)
  have hN3 := Cur.net HC2.out hN2 hg3
  have hG3 := near_step hG2 hg3 (fun k hk => .inl hk.symm)
  have HC3 := Lib.hid hc3
  clear hc3 hR2 hN2 hG2 hg3
  generalize w1.heap.size = g at *
  go_wp2_with fail
  go_loopw [4] (fun kv wr => ∃ (j : Nat) (cs : List (Int × Int)), kv = .int .i64 (j : Nat) ∧ cs.length + j ≤ 12 ∧ Hid (smallC cs) ∧ NetS wr w.heap.size g W cs ∧ Blk wr w.heap.size 30 #[.int .i64 0, .slice none 0 0] ∧ Hid (Cur wr p A bs c (M + 6 + 10 * (12 - j))) ∧ w.grownBy wr (some p)) (fun kv _ => (intOf kv).toNat)
  case atStart => exact ⟨x3, [], rfl, by simp; omega, Lib.hid smallC_nil, hN3, hR3, Lib.hid (HC3.out.more (by omega)), hG3⟩
  case round =>
    clear hN3 hR3 hG3 HC3
    obtain ⟨j, cs, rfl, hj, HS, hN, hR, HK, hG⟩ := hrel
    by_cases hj0 : 0 < j
    · have j1 : (j : Int) > 0 := by omega
      have j2 : (0 : Int) < (j : Int) := by omega
      have ⟨v0, hk0, _⟩ := hN
      have q0 := hk0.cell 0
      have ql := hk0.lt
      go_wp2_with fail
      refine (pick_any p A bs c _ W _ HK.out (by omega) (by omega) (by omega)).mono ?_
      rintro e w4 ⟨a, ha, rfl, hc4, hg4⟩
      have hR4 := Cur.blk_ HK.out hR hg4 (by decide)
      have hN4 := Cur.net HK.out hN hg4
      have hG4 := near_step hG hg4 (fun k hk => .inl hk.symm)
      have HC4 := Lib.hid hc4
      clear hc4 hR hN hG hg4 hk0 q0 ql
      have ⟨v0, hk0, _⟩ := hN4
      have q0 := hk0.cell 0
      have ql := hk0.lt
      go_wp2_with fail
      refine (pick_any p A bs c _ W _ HC4.out (by omega) (by omega) (by omega)).mono ?_
      rintro e w5 ⟨b, hb, rfl, hc5, hg5⟩
      have hR5 := Cur.blk_ HC4.out hR4 hg5 (by decide)
      have hN5 := Cur.net HC4.out hN4 hg5
      have hG5 := near_step hG4 hg5 (fun k hk => .inl hk.symm)
      have HC5 := Lib.hid hc5
      clear hc5 hR4 hN4 hG4 hg5 hk0 q0 ql
      have ⟨v0, hk0, _⟩ := hN5
      have q0 := hk0.cell 0
      have ql := hk0.lt
      go_upto_if 28 with (fail)
      go_cut [6] (fun bv wc => ∃ b2 : Nat, bv = .int .i64 (b2 : Nat) ∧ b2 ≤ 5 ∧ Hid (Cur wc p A bs c (M + 6 + 10 * (12 - j) + 4)) ∧ NetS wc w.heap.size g W cs ∧ Blk wc w.heap.size 30 #[.int .i64 0, .slice none 0 0] ∧ w.grownBy wc (some p))
      case first =>
        by_cases hab : a = b
        · have e1 : ((a : Int) == (b : Int)) = true := by rw [beq_iff_eq]; omega
          clear hab
          obtain ⟨y, hy⟩ := Int.eq_ofNat_of_zero_le (Int.emod_nonneg ((a : Int) + 1) (show W ≠ 0 by omega))
          have hylt := Int.emod_lt_of_pos ((a : Int) + 1) (show 0 < W by omega)
          have HY := Lib.hid hy
          have hy5 : y ≤ 5 := by omega
          clear hy hylt
          go_wp2_with fail
          go_meet
          exact ⟨y, by rw [HY.out], hy5, HC5, hN5, hR5, hG5⟩
        · have e1 : ((a : Int) == (b : Int)) = false := by rw [beq_eq_false_iff_ne]; omega
          go_wp2_with fail
          go_meet
          exact ⟨b, rfl, by omega, HC5, hN5, hR5, hG5⟩
      case rest =>
        clear HC5 hN5 hR5 hG5 hk0 q0 ql hb
        obtain ⟨b2, rfl, hb2, HC6, hN6, hR6, hG6⟩ := hcut
        have ha5 : a ≤ 5 := by omega
        by_cases hgt : b2 < a
        · have g1 : (a : Int) > (b2 : Int) := by omega
          have g2 : (b2 : Int) < (a : Int) := by omega
          go_upto_if 41 with (go_at_call 35; refine (one_any p A bs c _ 4 _ HC6.out (by omega) (by omega) (by omega)).mono ?_; rintro e w7 ⟨sw, rfl, hc7, hg7⟩)
          have hR7 := Cur.blk_ HC6.out hR6 hg7 (by decide)
          have hN7 := Cur.net HC6.out hN6 hg7
          have hG7 := near_step hG6 hg7 (fun k hk => .inl hk.symm)
          have HC7 := Lib.hid hc7
          clear hc7 hR6 hN6 hG6 hg7 hgt
          cases sw
          case false =>
            have ⟨v0, hk0, ho0⟩ := hN7
            have q0 := hk0.cell 0
            have q1 := hk0.cell 1
            have qf := hk0.frozen 1
            have ql := hk0.lt
            have hgw := hG7.size
            have HSP := Lib.hid (smallC_push (a := ((b2 : Nat) : Int)) (b := ((a : Nat) : Int)) HS.out (by omega) (by omega))
            go_wp2_with (at_builtin; refine wpList_push' _ rfl (.tmp 46) (.tmp 50) 28 rfl w.heap.size 48 i0 _ 2 16 Tryd.underlying28 hi hz0 hz1 hz2 rfl (by decide) v0 cs.length _ rfl (World.ownsRow.alloc ho0 _) #[.int .i64 (b2 : Nat), .int .i64 (a : Nat)] w7.heap.size rfl (Blk.new _ _ _) rfl (by simp [Value.oneCell']) (by omega) (by unfold maxLen; omega) (by rw [World.size_alloc]; omega) ?_; intro q8 d8 w8 o8 gr8 bl8 at8; have hk8 := Blk.grown (Blk.alloc hk0 (.cells #[.int .i64 (b2 : Nat), .int .i64 (a : Nat)] 48)) gr8 (fun e => own_blk_ne ho0 hk0 (by decide) e.symm); have z1 : w8.cell? ⟨g, 1, none⟩ = some v0 := hk8.cell 1; have zf := hk8.frozen 1; have zl := hk8.lt)
            have hb8 := near_step (near_step hG7 (World.grownBy_alloc w7 (.cells #[.int .i64 (b2 : Nat), .int .i64 (a : Nat)] 48) (some p)) (fun k hk => .inl hk.symm)) gr8 (fun k hk => .inr (own_lt ho0 k hk).1)
            have hgs := near_set (near_refl w8 (some g)) 1 (.slice (some ⟨q8, 0, none⟩) (cs.length + 1) d8)
            have hG9 := near_step hb8 hgs (fun k hk => .inr (by cases hk; omega))
            have HC9 := Lib.hid (Cur.grown (Cur.grown (HC7.out.alloc (.cells #[.int .i64 (b2 : Nat), .int .i64 (a : Nat)] 48)) gr8 (fun k hk => by have := (own_lt ho0 k hk).1; omega)) hgs (fun k hk => by cases hk; omega))
            have hR9 := ((hR7.alloc (.cells #[.int .i64 (b2 : Nat), .int .i64 (a : Nat)] 48)).grown gr8 (fun e => own_blk_ne ho0 hR7 (by decide) e.symm)).far (p := ⟨g, 1, none⟩) (by simp; omega) (.slice (some ⟨q8, 0, none⟩) (cs.length + 1) d8)
            have hk9 : Blk (w8.setCell ⟨g, 1, none⟩ (.slice (some ⟨q8, 0, none⟩) (cs.length + 1) d8)) g 30 #[.int .i64 W, .slice (some ⟨q8, 0, none⟩) (cs.length + 1) d8] := by
              simpa using hk8.set_ 1 (.slice (some ⟨q8, 0, none⟩) (cs.length + 1) d8)
            rw [cmps_snoc] at o8
            have ho9 := own_setCell o8 (p := ⟨g, 1, none⟩) (own_blk_ne o8 hk8 (by decide)) (.slice (some ⟨q8, 0, none⟩) (cs.length + 1) d8)
            have HN9 : Hid (NetS (w8.setCell ⟨g, 1, none⟩ (.slice (some ⟨q8, 0, none⟩) (cs.length + 1) d8)) w.heap.size g W (cs ++ [(((b2 : Nat) : Int), ((a : Nat) : Int))])) := Lib.hid ⟨_, hk9, by rw [List.length_append]; exact ho9⟩
            have HR9 := Lib.hid hR9; have HG9 := Lib.hid hG9
            clear hk0 ho0 q0 q1 qf ql o8 gr8 bl8 at8 hk8 z1 zf ho9 hk9 hR9 hG9 hb8 hgs hN7 hR7 hG7
            go_roundw
            case rel => exact ⟨j - 1, cs ++ [(((b2 : Nat) : Int), ((a : Nat) : Int))], by rw [show ((j : Int) - 1) = ((j - 1 : Nat) : Int) by omega], by rw [List.length_append]; simp; omega, HSP, HN9.out, HR9.out, Lib.hid (HC9.out.more (by omega)), HG9.out⟩
            case measure => simp [intOf]; omega
          case true =>
            have ⟨v0, hk0, ho0⟩ := hN7
            have q0 := hk0.cell 0
            have q1 := hk0.cell 1
            have qf := hk0.frozen 1
            have ql := hk0.lt
            have hgw := hG7.size
            have HSP := Lib.hid (smallC_push (a := ((a : Nat) : Int)) (b := ((b2 : Nat) : Int)) HS.out (by omega) (by omega))
            go_wp2_with (at_builtin; refine wpList_push' _ rfl (.tmp 46) (.tmp 50) 28 rfl w.heap.size 48 i0 _ 2 16 Tryd.underlying28 hi hz0 hz1 hz2 rfl (by decide) v0 cs.length _ rfl (World.ownsRow.alloc ho0 _) #[.int .i64 (a : Nat), .int .i64 (b2 : Nat)] w7.heap.size rfl (Blk.new _ _ _) rfl (by simp [Value.oneCell']) (by omega) (by unfold maxLen; omega) (by rw [World.size_alloc]; omega) ?_; intro q8 d8 w8 o8 gr8 bl8 at8; have hk8 := Blk.grown (Blk.alloc hk0 (.cells #[.int .i64 (a : Nat), .int .i64 (b2 : Nat)] 48)) gr8 (fun e => own_blk_ne ho0 hk0 (by decide) e.symm); have z1 : w8.cell? ⟨g, 1, none⟩ = some v0 := hk8.cell 1; have zf := hk8.frozen 1; have zl := hk8.lt)
            have hb8 := near_step (near_step hG7 (World.grownBy_alloc w7 (.cells #[.int .i64 (a : Nat), .int .i64 (b2 : Nat)] 48) (some p)) (fun k hk => .inl hk.symm)) gr8 (fun k hk => .inr (own_lt ho0 k hk).1)
            have hgs := near_set (near_refl w8 (some g)) 1 (.slice (some ⟨q8, 0, none⟩) (cs.length + 1) d8)
            have hG9 := near_step hb8 hgs (fun k hk => .inr (by cases hk; omega))
            have HC9 := Lib.hid (Cur.grown (Cur.grown (HC7.out.alloc (.cells #[.int .i64 (a : Nat), .int .i64 (b2 : Nat)] 48)) gr8 (fun k hk => by have := (own_lt ho0 k hk).1; omega)) hgs (fun k hk => by cases hk; omega))
            have hR9 := ((hR7.alloc (.cells #[.int .i64 (a : Nat), .int .i64 (b2 : Nat)] 48)).grown gr8 (fun e => own_blk_ne ho0 hR7 (by decide) e.symm)).far (p := ⟨g, 1, none⟩) (by simp; omega) (.slice (some ⟨q8, 0, none⟩) (cs.length + 1) d8)
            have hk9 : Blk (w8.setCell ⟨g, 1, none⟩ (.slice (some ⟨q8, 0, none⟩) (cs.length + 1) d8)) g 30 #[.int .i64 W, .slice (some ⟨q8, 0, none⟩) (cs.length + 1) d8] := by
              simpa using hk8.set_ 1 (.slice (some ⟨q8, 0, none⟩) (cs.length + 1) d8)
            rw [cmps_snoc] at o8
            have ho9 := own_setCell o8 (p := ⟨g, 1, none⟩) (own_blk_ne o8 hk8 (by decide)) (.slice (some ⟨q8, 0, none⟩) (cs.length + 1) d8)
            have HN9 : Hid (NetS (w8.setCell ⟨g, 1, none⟩ (.slice (some ⟨q8, 0, none⟩) (cs.length + 1) d8)) w.heap.size g W (cs ++ [(((a : Nat) : Int), ((b2 : Nat) : Int))])) := Lib.hid ⟨_, hk9, by rw [List.length_append]; exact ho9⟩
            have HR9 := Lib.hid hR9; have HG9 := Lib.hid hG9
            clear hk0 ho0 q0 q1 qf ql o8 gr8 bl8 at8 hk8 z1 zf ho9 hk9 hR9 hG9 hb8 hgs hN7 hR7 hG7
            go_roundw
            case rel => exact ⟨j - 1, cs ++ [(((a : Nat) : Int), ((b2 : Nat) : Int))], by rw [show ((j : Int) - 1) = ((j - 1 : Nat) : Int) by omega], by rw [List.length_append]; simp; omega, HSP, HN9.out, HR9.out, Lib.hid (HC9.out.more (by omega)), HG9.out⟩
            case measure => simp [intOf]; omega
        · have g1 : ¬ (a : Int) > (b2 : Int) := by omega
          have g2 : ¬ (b2 : Int) < (a : Int) := by omega
          obtain ⟨w7, hw7⟩ : ∃ w7, wc = w7 := ⟨_, rfl⟩
          subst hw7
          have hR7 := hR6; have hN7 := hN6; have hG7 := hG6
          have HC7 := Lib.hid (HC6.out.more (show M + 6 + 10 * (12 - j) + 4 ≤ M + 6 + 10 * (12 - j) + 4 + 2 by omega))
          clear hR6 hN6 hG6 hgt
          have ⟨v0, hk0, ho0⟩ := hN7
          have q0 := hk0.cell 0
          have q1 := hk0.cell 1
          have qf := hk0.frozen 1
          have ql := hk0.lt
          have hgw := hG7.size
          have HSP := Lib.hid (smallC_push (a := ((a : Nat) : Int)) (b := ((b2 : Nat) : Int)) HS.out (by omega) (by omega))
          go_wp2_with (at_builtin; refine wpList_push' _ rfl (.tmp 46) (.tmp 50) 28 rfl w.heap.size 48 i0 _ 2 16 Tryd.underlying28 hi hz0 hz1 hz2 rfl (by decide) v0 cs.length _ rfl (World.ownsRow.alloc ho0 _) #[.int .i64 (a : Nat), .int .i64 (b2 : Nat)] wc.heap.size rfl (Blk.new _ _ _) rfl (by simp [Value.oneCell']) (by omega) (by unfold maxLen; omega) (by rw [World.size_alloc]; omega) ?_; intro q8 d8 w8 o8 gr8 bl8 at8; have hk8 := Blk.grown (Blk.alloc hk0 (.cells #[.int .i64 (a : Nat), .int .i64 (b2 : Nat)] 48)) gr8 (fun e => own_blk_ne ho0 hk0 (by decide) e.symm); have z1 : w8.cell? ⟨g, 1, none⟩ = some v0 := hk8.cell 1; have zf := hk8.frozen 1; have zl := hk8.lt)
          have hb8 := near_step (near_step hG7 (World.grownBy_alloc wc (.cells #[.int .i64 (a : Nat), .int .i64 (b2 : Nat)] 48) (some p)) (fun k hk => .inl hk.symm)) gr8 (fun k hk => .inr (own_lt ho0 k hk).1)
          have hgs := near_set (near_refl w8 (some g)) 1 (.slice (some ⟨q8, 0, none⟩) (cs.length + 1) d8)
          have hG9 := near_step hb8 hgs (fun k hk => .inr (by cases hk; omega))
          have HC9 := Lib.hid (Cur.grown (Cur.grown (HC7.out.alloc (.cells #[.int .i64 (a : Nat), .int .i64 (b2 : Nat)] 48)) gr8 (fun k hk => by have := (own_lt ho0 k hk).1; omega)) hgs (fun k hk => by cases hk; omega))
          have hR9 := ((hR7.alloc (.cells #[.int .i64 (a : Nat), .int .i64 (b2 : Nat)] 48)).grown gr8 (fun e => own_blk_ne ho0 hR7 (by decide) e.symm)).far (p := ⟨g, 1, none⟩) (by simp; omega) (.slice (some ⟨q8, 0, none⟩) (cs.length + 1) d8)
          have hk9 : Blk (w8.setCell ⟨g, 1, none⟩ (.slice (some ⟨q8, 0, none⟩) (cs.length + 1) d8)) g 30 #[.int .i64 W, .slice (some ⟨q8, 0, none⟩) (cs.length + 1) d8] := by
            simpa using hk8.set_ 1 (.slice (some ⟨q8, 0, none⟩) (cs.length + 1) d8)
          rw [cmps_snoc] at o8
          have ho9 := own_setCell o8 (p := ⟨g, 1, none⟩) (own_blk_ne o8 hk8 (by decide)) (.slice (some ⟨q8, 0, none⟩) (cs.length + 1) d8)
          have HN9 : Hid (NetS (w8.setCell ⟨g, 1, none⟩ (.slice (some ⟨q8, 0, none⟩) (cs.length + 1) d8)) w.heap.size g W (cs ++ [(((a : Nat) : Int), ((b2 : Nat) : Int))])) := Lib.hid ⟨_, hk9, by rw [List.length_append]; exact ho9⟩
          have HR9 := Lib.hid hR9; have HG9 := Lib.hid hG9
          clear hk0 ho0 q0 q1 qf ql o8 gr8 bl8 at8 hk8 z1 zf ho9 hk9 hR9 hG9 hb8 hgs hN7 hR7 hG7
          go_roundw
          case rel => exact ⟨j - 1, cs ++ [(((a : Nat) : Int), ((b2 : Nat) : Int))], by rw [show ((j : Int) - 1) = ((j - 1 : Nat) : Int) by omega], by rw [List.length_append]; simp; omega, HSP, HN9.out, HR9.out, Lib.hid (HC9.out.more (by omega)), HG9.out⟩
          case measure => simp [intOf]; omega
    · obtain rfl : j = 0 := by omega
      have ⟨v0, hk0, ho0⟩ := hN
      obtain ⟨D, d, rfl⟩ := own_slice ho0
      obtain ⟨q0, q1⟩ := hk0.two
      have ql := hk0.lt
      have hf := hR.set_ 0 (.int .i64 W)
      have hf2 := hf.set_ 1 (.slice D cs.length d)
      have hf3 : Blk ((wr.setCell ⟨w.heap.size, 0, none⟩ (.int .i64 W)).setCell ⟨w.heap.size, 1, none⟩ (.slice D cs.length d)) w.heap.size 30 #[.int .i64 W, .slice D cs.length d] := by simpa using hf2
      obtain ⟨r0, r1⟩ := hf3.two
      have R0 := Lib.hid r0; have R1 := Lib.hid r1
      obtain ⟨z0, z1⟩ := hR.two
      have f0 := hR.frozen 0
      have f1 := hR.frozen 1
      have hrl := hR.lt
      have hnew : ∀ (u : Value) (i : Nat) (wx : World), wr.grownBy wx (some w.heap.size) → wr.grownBy (wx.setCell ⟨w.heap.size, i, none⟩ u) (some w.heap.size) := fun u i wx h => near_set h i u
      have hgs := hnew (.slice D cs.length d) 1 _ (hnew (.int .i64 W) 0 wr (near_refl _ _))
      have HOF := Lib.hid (ho0.kept hgs (.inr (own_blk_ne ho0 hR (by decide))))
      have HCF := Lib.hid (HK.out.grown hgs (fun k hk => by cases hk; exact hplt))
      have HGF := Lib.hid (near_step hG hgs (fun k hk => .inr (by cases hk; exact Nat.le_refl _)))
      clear hf hf2 hf3 r0 r1 hnew hgs
      go_wp2_with fail
      exact bodyPost_ret (v := .agg #[.int .i64 W, .slice D cs.length d]) (by simp [results, Tryd.results34, go_sem, R0.out, R1.out]) rfl ⟨W, D, cs, d, rfl, HOF.out, ⟨hW2, hW5⟩, by omega, HS.out, HCF.out.more (by omega), HGF.out⟩
/-- a call has returned a network of its own -/
def GotN (w : World) (p : Nat) (A : Option Addr) (bs : List Nat) (c M : Nat) (e : Ending) (w' : World) : Prop := ∃ (W : Int) (D : Option Addr) (cs : List (Int × Int)) (d : Nat), e = .returned (.agg #[.int .i64 W, .slice D cs.length d]) ∧ w'.ownsRow w.heap.size 48 2 (.slice D cs.length d) cs.length (cmps cs) ∧
  (0 ≤ W ∧ W ≤ 17) ∧ cs.length ≤ 201 ∧ smallC cs ∧ Cur w' p A bs c M ∧ w.grownBy w' (some p)
theorem GotN.mk {w : World} {p : Nat} {A : Option Addr} {bs : List Nat} {c M : Nat} {e : Ending} {w' : World} (h : ∃ (W : Int) (D : Option Addr) (cs : List (Int × Int)) (d : Nat), e = .returned (.agg #[.int .i64 W, .slice D cs.length d]) ∧ w'.ownsRow w.heap.size 48 2 (.slice D cs.length d) cs.length (cmps cs) ∧
  (0 ≤ W ∧ W ≤ 17) ∧ cs.length ≤ 201 ∧ smallC cs ∧ Cur w' p A bs c M ∧ w.grownBy w' (some p)) : GotN w p A bs c M e w' := h
/-- the state within the region that adds a comparator -/
def AnyF (w0 : World) (p g : Nat) (A : Option Addr) (bs : List Nat) (c M : Nat) (W : Int) (cs : List (Int × Int)) (u0 : Value) (L : Nat → Bool) (wr : World) (v0 v1 v2 v3 v4 v5 v6 v7 v8 v9 v10 v11 : Value) : Prop :=
  (L 12 = true → L 1 = true) ∧
  (L 0 = true → v0 = .pointer (some ⟨g, 1, none⟩)) ∧
  (L 1 = true → v1 = u0) ∧
  (L 2 = true → v2 = .pointer (some ⟨p, 0, none⟩)) ∧
  (L 3 = true → ∃ x : Nat, x ≤ 17 ∧ v3 = .int .i64 (x : Nat)) ∧
  (L 4 = true → ∃ y : Int, (-1 ≤ y ∧ y ≤ 16) ∧ v4 = .int .i64 y) ∧
  (L 5 = true → v5 = .pointer (some ⟨p, 0, none⟩)) ∧
  (L 6 = true → ∃ x : Nat, x ≤ 17 ∧ v6 = .int .i64 (x : Nat)) ∧
  (L 7 = true → ∃ y : Int, (-1 ≤ y ∧ y ≤ 16) ∧ v7 = .int .i64 y) ∧
  (L 8 = true → ∃ y z : Int, (-1 ≤ y ∧ y ≤ 16) ∧ (-1 ≤ z ∧ z ≤ 16) ∧ v8 = .agg #[.int .i64 y, .int .i64 z]) ∧
  (L 9 = true → ∃ (q : Nat) (y z : Int), (-1 ≤ y ∧ y ≤ 16) ∧ (-1 ≤ z ∧ z ≤ 16) ∧ v9 = .slice (some ⟨q, 0, none⟩) 1 1 ∧ (L 10 = false → Blk wr q 48 #[.int .i64 y, .int .i64 z])) ∧
  (L 10 = true → ∃ y z : Int, (-1 ≤ y ∧ y ≤ 16) ∧ (-1 ≤ z ∧ z ≤ 16) ∧ (∃ D d, v10 = .slice D (cs.length + 1) d) ∧ wr.ownsRow w0.heap.size 48 2 v10 (cs.length + 1) (cmps (cs ++ [(y, z)]))) ∧
  (L 11 = true → v11 = .pointer (some ⟨g, 1, none⟩)) ∧
  (L 10 = false → wr.ownsRow w0.heap.size 48 2 u0 cs.length (cmps cs)) ∧
  (L 12 = false → Blk wr g 30 #[.int .i64 W, u0]) ∧
  (L 12 = true → L 10 = true ∧ Blk wr g 30 #[.int .i64 W, v10]) ∧
  (L 3 = false → Cur wr p A bs c M) ∧
  (L 6 = false → Cur wr p A bs c (M + 2)) ∧
  (Cur wr p A bs c (M + 2 + 2)) ∧
  (Blk wr w0.heap.size 30 #[.int .i64 0, .slice none 0 0]) ∧
  (w0.grownBy wr (some p))
set_option maxRecDepth 100000 in
set_option maxHeartbeats 6400000 in
theorem anyNetwork_any (p : Nat) (A : Option Addr) (bs : List Nat) (c M : Nat) (w : World) (hc : Cur w p A bs c M) (hM : M ≤ 274877900000) :
    Calls Tryd.prog 49 #[.pointer (some ⟨p, 0, none⟩)] w (GotN w p A bs c (M + 1500)) := by
  obtain ⟨i0, hi, hz0, hz1, hz2⟩ := info_parts info_cmp
  have HC0 := Lib.hid (hc.alloc (.cells #[.int .i64 0, .slice none 0 0] 30))
  have hplt := hc.lt
  have hR0 := Blk.new w 30 #[.int .i64 0, .slice none 0 0]
  have hG0 : w.grownBy (w.alloc (.cells #[.int .i64 0, .slice none 0 0] 30)) (some p) := World.grownBy_alloc _ _ _
  have hsz0 : (w.alloc (.cells #[.int .i64 0, .slice none 0 0] 30)).heap.size = w.heap.size + 1 := by simp
  clear hc
  go_enter Tryd.func49, Tryd.ntmps49
  go_wp2_with fail
  refine (network_any p A bs c M _ HC0.out (by omega)).mono ?_
  rintro e w1 ⟨W, D, cs, d, rfl, hO1, hW, hl, hsm, hc1, hg1⟩
  have hR1 := Cur.blk_ HC0.out hR0 hg1 (by decide)
  have hG1 := near_step hG0 hg1 (fun k hk => .inl hk.symm)
  have hgle : w.heap.size < w1.heap.size := hR1.lt
  have hO1' := own_base (base' := w.heap.size) hO1 (by omega)
  have HC2 := Lib.hid (hc1.alloc (.cells #[.int .i64 W, .slice D cs.length d] 30))
  have hR2 := hR1.alloc (.cells #[.int .i64 W, .slice D cs.length d] 30)
  have hN2 : NetS (w1.alloc (.cells #[.int .i64 W, .slice D cs.length d] 30)) w.heap.size w1.heap.size W cs := ⟨_, Blk.new _ _ _, hO1'.alloc _⟩
  have hG2 := near_step hG1 (World.grownBy_alloc w1 (.cells #[.int .i64 W, .slice D cs.length d] 30) (some p)) (fun k hk => .inl hk.symm)
  have hpg : p < w1.heap.size := by omega
  have HS := Lib.hid hsm
  clear hc1 hR0 hR1 hG0 hG1 hg1 hO1 hO1' hsm hsz0
  go_wp2_with fail
  refine (pick_any p A bs c (M + 200) 20 _ HC2.out (by omega) (by omega) (by omega)).mono ?_
  rintro e w3 ⟨x, hx, rfl, hc3, hg3⟩
  have hR := Cur.blk_ HC2.out hR2 hg3 (by decide)
  have hN := Cur.net HC2.out hN2 hg3
  have hG := near_step hG2 hg3 (fun k hk => .inl hk.symm)
  have HK := Lib.hid hc3
  clear hc3 hR2 hN2 hG2 hg3
  generalize w1.heap.size = g at *
  by_cases x0 : x = 0
  case pos =>
    subst x0
    have e00 : ((0 : Int) == 0) = true := rfl
    have hp4 := HK.out.lt
    have HC5 := Lib.hid (HK.out.alloc (.cells (ints [0, 16, 17, 1, 12, 13]).toArray 3))
    have hN5 := hN.alloc (.cells (ints [0, 16, 17, 1, 12, 13]).toArray 3)
    have hR5 := hR.alloc (.cells (ints [0, 16, 17, 1, 12, 13]).toArray 3)
    have hG5 := near_step hG (World.grownBy_alloc w3 (.cells (ints [0, 16, 17, 1, 12, 13]).toArray 3) (some p)) (fun k hk => .inl hk.symm)
    have HD := Lib.hid (fun w' hg => lit_hold (w := w3) (w' := w') (T := 3) (zs := [0, 16, 17, 1, 12, 13]) hp4 hg)
    have HA := Lib.hid (among_any p A bs c _ (some ⟨w3.heap.size, 0, none⟩) [0, 16, 17, 1, 12, 13] 6 _ HC5.out (by omega) (HD.out _ (near_refl _ _)) (by decide) (by decide) HD.out)
    clear hN hG hR
    go_wp2_with fail
    refine HA.out.mono ?_
    rintro e w5 ⟨z, hz, rfl, hc6, hg6⟩
    have hN6 := Cur.net HC5.out hN5 hg6
    have hR6 := Cur.blk_ HC5.out hR5 hg6 (by decide)
    have hG6 := near_step hG5 hg6 (fun k hk => .inl hk.symm)
    have HC6 := Lib.hid hc6
    have hzb : 0 ≤ z ∧ z ≤ 17 := by
      simp at hz
      rcases hz with rfl | rfl | rfl | rfl | rfl | rfl <;> omega
    clear hc6 hN5 hG5 hg6 hz hR5
    have ⟨v0, hk0, ho0⟩ := hN6
    have q0 := hk0.cell 0
    have qf := hk0.frozen 0
    have ql := hk0.lt
    have hgs := near_set (near_refl w5 (some g)) 0 (.int .i64 z)
    have hG := near_step hG6 hgs (fun k hk => .inr (by cases hk; omega))
    have HK := Lib.hid (HC6.out.grown hgs (fun k hk => by cases hk; omega))
    have hR := hR6.far (p := ⟨g, 0, none⟩) (by simp; omega) (.int .i64 z)
    have hN : NetS (w5.setCell ⟨g, 0, none⟩ (.int .i64 z)) w.heap.size g z cs := ⟨v0, by simpa using hk0.set_ 0 (.int .i64 z), own_setCell ho0 (p := ⟨g, 0, none⟩) (own_blk_ne ho0 hk0 (by decide)) _⟩
    have HN := Lib.hid hN; have HR := Lib.hid hR; have HG := Lib.hid hG
    clear hN hR hG hk0 ho0 hgs
    go_upto_region 12 with fail
    clear q0 qf ql hN6 hR6 hG6
    generalize w5.setCell ⟨g, 0, none⟩ (.int .i64 z) = w6 at *
    have hN := HN.out; have hR := HR.out; have hG := HG.out
    have ⟨v0, hk0, ho0⟩ := hN
    obtain ⟨D, d, rfl⟩ := own_slice ho0
    obtain ⟨q0, q1⟩ := hk0.two
    have ql := hk0.lt
    have hf3 : Blk ((w6.setCell ⟨w.heap.size, 0, none⟩ (.int .i64 z)).setCell ⟨w.heap.size, 1, none⟩ (.slice D cs.length d)) w.heap.size 30 #[.int .i64 z, .slice D cs.length d] := by
      simpa using (hR.set_ 0 (.int .i64 z)).set_ 1 (.slice D cs.length d)
    obtain ⟨r0, r1⟩ := hf3.two
    have R0 := Lib.hid r0; have R1 := Lib.hid r1
    obtain ⟨z0, z1⟩ := hR.two
    have f0 := hR.frozen 0
    have f1 := hR.frozen 1
    have hrl := hR.lt
    have hgs := near_set (near_set (near_refl w6 (some w.heap.size)) 0 (.int .i64 z)) 1 (.slice D cs.length d)
    have HOF := Lib.hid (ho0.kept hgs (.inr (own_blk_ne ho0 hR (by decide))))
    have HCF := Lib.hid (HK.out.grown hgs (fun k hk => by cases hk; exact hplt))
    have HGF := Lib.hid (near_step hG hgs (fun k hk => .inr (by cases hk; exact Nat.le_refl _)))
    clear hf3 r0 r1 hgs
    go_wp2_with fail
    exact bodyPost_ret (v := .agg #[.int .i64 z, .slice D cs.length d]) (by simp [results, Tryd.results49, go_sem, R0.out, R1.out]) rfl (GotN.mk ⟨z, D, cs, d, rfl, HOF.out, by omega, by omega, HS.out, HCF.out.more (by omega), HGF.out⟩)
  have e00 : ((x : Int) == 0) = false := by rw [beq_eq_false_iff_ne]; omega
  by_cases x1 : x = 1
  case pos =>
    subst x1
    have e01 : ((1 : Int) == 1) = true := rfl
    clear e00 x0
    have e02 : ((1 : Int) == 0) = false := by decide
    have ⟨v0, hk0, ho0⟩ := hN
    have hi' := Lib.hid (And.intro hi (And.intro hz0 (And.intro hz1 hz2)))
    go_upto_region 6 with fail
    have HKd : Cur w3.drew p A bs c (M + 200 + 2) := ⟨HK.out.blk, HK.out.code, HK.out.byte, HK.out.len⟩
    have hGd : w.grownBy w3.drew (some p) := ⟨hG.os, hG.tape, hG.output, hG.size, hG.block⟩
    refine wp_region_inv' (fun a0 L a wr => St a0 a [16, 17, 18, 19, 20, 21, 22, 23, 24, 25, 26, 27] ∧ 30 < a.tmps.size ∧ a.eval (.tmp 0) = .pointer (some ⟨p, 0, none⟩) ∧ a.eval (.tmp 3) = .pointer (some ⟨g, 0, none⟩) ∧ AnyF w p g A bs c (M + 200 + 2) W cs v0 L wr (a.eval (.tmp 16)) (a.eval (.tmp 17)) (a.eval (.tmp 18)) (a.eval (.tmp 19)) (a.eval (.tmp 20)) (a.eval (.tmp 21)) (a.eval (.tmp 22)) (a.eval (.tmp 23)) (a.eval (.tmp 24)) (a.eval (.tmp 25)) (a.eval (.tmp 26)) (a.eval (.tmp 27))) (by kernel_rfl) (by kernel_rfl) ?start ?steps ?ends
    case start =>
      refine ⟨St.refl _ _, Nat.le_of_ble_eq_true rfl, rfl, rfl, ?_, ?_, ?_, ?_, ?_, ?_, ?_, ?_, ?_, ?_, ?_, ?_, ?_, fun _ => ho0, fun _ => hk0, ?_, fun _ => HKd, fun _ => HKd.more (by omega), HKd.more (by omega), hR, hGd⟩
      all_goals (intro e; cases e)
    case ends =>
      rintro L a wr ⟨hst, hsz, q0, q3, hd12, f0, f1, f2, f3, f4, f5, f6, f7, f8, f9, f10, f11, o0, b0, b1, c0, c1, c2, hr, hg⟩ hall
      obtain ⟨y, z, hy, hz, ⟨D, d, e26⟩, h10⟩ := f10 (hall 10 (by decide))
      have hbk := (b1 (hall 12 (by decide))).2
      rw [e26] at h10 hbk
      have hsm2 := smallC_push HS.out (show -1048576 ≤ y ∧ y ≤ 1048576 by omega) (show -1048576 ≤ z ∧ z ≤ 1048576 by omega)
      have hl2 : cs.length + 1 = (cs ++ [(y, z)]).length := by simp
      rw [hl2] at hbk h10
      generalize cs ++ [(y, z)] = cs2 at *
      have heq := hst.eq
      simp only [List.foldl_cons, List.foldl_nil] at heq
      clear hst hd12 f0 f1 f2 f3 f4 f5 f6 f7 f8 f9 f10 f11 o0 b0 b1 c0 c1 hall e26 q0 q3 hsz
      generalize a.eval (.tmp 16) = u16 at heq
      generalize a.eval (.tmp 17) = u17 at heq
      generalize a.eval (.tmp 18) = u18 at heq
      generalize a.eval (.tmp 19) = u19 at heq
      generalize a.eval (.tmp 20) = u20 at heq
      generalize a.eval (.tmp 21) = u21 at heq
      generalize a.eval (.tmp 22) = u22 at heq
      generalize a.eval (.tmp 23) = u23 at heq
      generalize a.eval (.tmp 24) = u24 at heq
      generalize a.eval (.tmp 25) = u25 at heq
      generalize a.eval (.tmp 26) = u26 at heq
      generalize a.eval (.tmp 27) = u27 at heq
      simp only [Act.put, List.setIfInBounds_toArray, List.set_cons_zero, List.set_cons_succ] at heq
      subst heq
      have hN : NetS wr w.heap.size g W cs2 := ⟨_, hbk, h10⟩
      have hR := hr
      have HK := Lib.hid c2
      have hG := hg
      have HS2 := Lib.hid hsm2
      clear hr c2 hg hbk h10 hk0 ho0 hsm2
      go_upto_region 12 with fail
      have ⟨v0, hk0, ho0⟩ := hN
      obtain ⟨D, d, rfl⟩ := own_slice ho0
      obtain ⟨q0, q1⟩ := hk0.two
      have ql := hk0.lt
      have hf3 : Blk ((wr.setCell ⟨w.heap.size, 0, none⟩ (.int .i64 W)).setCell ⟨w.heap.size, 1, none⟩ (.slice D cs2.length d)) w.heap.size 30 #[.int .i64 W, .slice D cs2.length d] := by
        simpa using (hR.set_ 0 (.int .i64 W)).set_ 1 (.slice D cs2.length d)
      obtain ⟨r0, r1⟩ := hf3.two
      have R0 := Lib.hid r0; have R1 := Lib.hid r1
      obtain ⟨z0, z1⟩ := hR.two
      have f0 := hR.frozen 0
      have f1 := hR.frozen 1
      have hrl := hR.lt
      have hgs := near_set (near_set (near_refl wr (some w.heap.size)) 0 (.int .i64 W)) 1 (.slice D cs2.length d)
      have HOF := Lib.hid (ho0.kept hgs (.inr (own_blk_ne ho0 hR (by decide))))
      have HCF := Lib.hid (HK.out.grown hgs (fun k hk => by cases hk; exact hplt))
      have HGF := Lib.hid (near_step hG hgs (fun k hk => .inr (by cases hk; exact Nat.le_refl _)))
      clear hf3 r0 r1 hgs
      go_wp2_with fail
      exact bodyPost_ret (v := .agg #[.int .i64 W, .slice D cs2.length d]) (by simp [results, Tryd.results49, go_sem, R0.out, R1.out]) rfl (GotN.mk ⟨W, D, cs2, d, rfl, HOF.out, by omega, by omega, HS2.out, HCF.out.more (by omega), HGF.out⟩)
    case steps =>
      refine ⟨?s0, ?s1, ?s2, ?s3, ?s4, ?s5, ?s6, ?s7, ?s8, ?s9, ?s10, ?s11, ?s12, trivial⟩
      case s0 =>
        rintro L a wr ⟨hst, hsz, q0, q3, hF⟩ hL hdp K hK
        have ev := fun (d t : Nat) (v : Value) (hd : d < 31) => eval_put a d t v (by omega)
        obtain ⟨hd12, f0, f1, f2, f3, f4, f5, f6, f7, f8, f9, f10, f11, o0, b0, b1, c0, c1, c2, hr, hg⟩ := hF
        refine step_value (v := .pointer (some ⟨g, 1, none⟩)) (w' := wr) rfl (by have t0 := q0; have t3 := q3; rw [eval_tmp, Array.getD_eq_getD_getElem?] at t0 t3; go_simp) ?_
        refine hK _ _ ⟨hst.put 16 _ (by decide), by simpa [Act.put] using hsz, (ev 16 0 _ (by decide)).trans q0, (ev 16 3 _ (by decide)).trans q3, ?_⟩
        simp only [ev 16 _ _ (by decide)]
        exact ⟨hd12, fun _ => rfl, f1, f2, f3, f4, f5, f6, f7, f8, f9, f10, f11, o0, b0, b1, c0, c1, c2, hr, hg⟩
      case s1 =>
        rintro L a wr ⟨hst, hsz, q0, q3, hF⟩ hL hdp K hK
        have ev := fun (d t : Nat) (v : Value) (hd : d < 31) => eval_put a d t v (by omega)
        have d0 : L 0 = true := hdp ⟨0, .data⟩ (by simp) rfl
        obtain ⟨hd12, f0, f1, f2, f3, f4, f5, f6, f7, f8, f9, f10, f11, o0, b0, b1, c0, c1, c2, hr, hg⟩ := hF
        have t16 := f0 d0
        rw [eval_tmp, Array.getD_eq_getD_getElem?] at t16
        have hL12 : L 12 = false := by
          cases h : L 12
          · rfl
          · exact absurd ((hd12 h).symm.trans hL) (by decide)
        have q1 := (b0 hL12).two.2
        refine step_value (v := v0) (w' := wr) rfl (by go_simp) ?_
        refine hK _ _ ⟨hst.put 17 _ (by decide), by simpa [Act.put] using hsz, (ev 17 0 _ (by decide)).trans q0, (ev 17 3 _ (by decide)).trans q3, ?_⟩
        simp only [ev 17 _ _ (by decide)]
        exact ⟨fun _ => upd_self L 1, f0, fun _ => rfl, f2, f3, f4, f5, f6, f7, f8, f9, f10, f11, o0, b0, b1, c0, c1, c2, hr, hg⟩
      case s2 =>
        rintro L a wr ⟨hst, hsz, q0, q3, hF⟩ hL hdp K hK
        have ev := fun (d t : Nat) (v : Value) (hd : d < 31) => eval_put a d t v (by omega)
        obtain ⟨hd12, f0, f1, f2, f3, f4, f5, f6, f7, f8, f9, f10, f11, o0, b0, b1, c0, c1, c2, hr, hg⟩ := hF
        refine step_value (v := .pointer (some ⟨p, 0, none⟩)) (w' := wr) rfl (by have t0 := q0; have t3 := q3; rw [eval_tmp, Array.getD_eq_getD_getElem?] at t0 t3; go_simp) ?_
        refine hK _ _ ⟨hst.put 18 _ (by decide), by simpa [Act.put] using hsz, (ev 18 0 _ (by decide)).trans q0, (ev 18 3 _ (by decide)).trans q3, ?_⟩
        simp only [ev 18 _ _ (by decide)]
        exact ⟨hd12, f0, f1, fun _ => rfl, f3, f4, f5, f6, f7, f8, f9, f10, f11, o0, b0, b1, c0, c1, c2, hr, hg⟩
      case s3 =>
        rintro L a wr ⟨hst, hsz, q0, q3, hF⟩ hL hdp K hK
        have ev := fun (d t : Nat) (v : Value) (hd : d < 31) => eval_put a d t v (by omega)
        have d2 : L 2 = true := hdp ⟨2, .data⟩ (by simp) rfl
        obtain ⟨hd12, f0, f1, f2, f3, f4, f5, f6, f7, f8, f9, f10, f11, o0, b0, b1, c0, c1, c2, hr, hg⟩ := hF
        refine step_enter (f := 50) (args := #[a.eval (.tmp 18), .int .i64 18]) (w' := wr) rfl (by go_simp) ?_
        rw [f2 d2]
        have hcur := c0 hL
        refine (pick_any p A bs c _ 18 wr hcur (by omega) (by omega) (by omega)).mono ?_
        rintro e wK ⟨x, hx, rfl, hcK, hgK⟩
        refine ⟨_, rfl, ?_⟩
        refine hK _ _ ⟨hst.put 19 _ (by decide), by simpa [Act.put] using hsz, (ev 19 0 _ (by decide)).trans q0, (ev 19 3 _ (by decide)).trans q3, ?_⟩
        simp only [ev 19 _ _ (by decide)]
        exact ⟨hd12, f0, f1, f2, fun _ => ⟨x, by omega, rfl⟩, f4, f5, f6, f7, f8, fun e => (f9 e).imp fun q h => h.imp fun y h => h.imp fun z h => ⟨h.1, h.2.1, h.2.2.1, fun e2 => hcur.blk_ (h.2.2.2 e2) hgK (by decide)⟩, fun e => (f10 e).imp fun y h => h.imp fun z h => ⟨h.1, h.2.1, h.2.2.1, hcur.row h.2.2.2 hgK (by decide)⟩, f11, fun e => hcur.row (o0 e) hgK (by decide), fun e => hcur.blk_ (b0 e) hgK (by decide), fun e => ⟨(b1 e).1, hcur.blk_ (b1 e).2 hgK (by decide)⟩, fun e => absurd ((upd_self L 3).symm.trans e) (by decide), fun _ => hcK, hcK.more (by omega), hcur.blk_ hr hgK (by decide), near_step hg hgK (fun k hk => .inl hk.symm)⟩
      case s4 =>
        rintro L a wr ⟨hst, hsz, q0, q3, hF⟩ hL hdp K hK
        have ev := fun (d t : Nat) (v : Value) (hd : d < 31) => eval_put a d t v (by omega)
        have d3 : L 3 = true := hdp ⟨3, .data⟩ (by simp) rfl
        obtain ⟨hd12, f0, f1, f2, f3, f4, f5, f6, f7, f8, f9, f10, f11, o0, b0, b1, c0, c1, c2, hr, hg⟩ := hF
        obtain ⟨x, hx, e19⟩ := f3 d3
        have t19 := e19
        rw [eval_tmp, Array.getD_eq_getD_getElem?] at t19
        have hxw : IntKind.i64.wrap ((x : Int) - 1) = (x : Int) - 1 := IntWalk.i64_in _ (by omega)
        refine step_value (v := .int .i64 ((x : Int) - 1)) (w' := wr) rfl (by go_simp) ?_
        refine hK _ _ ⟨hst.put 20 _ (by decide), by simpa [Act.put] using hsz, (ev 20 0 _ (by decide)).trans q0, (ev 20 3 _ (by decide)).trans q3, ?_⟩
        simp only [ev 20 _ _ (by decide)]
        exact ⟨hd12, f0, f1, f2, f3, fun _ => ⟨_, by omega, rfl⟩, f5, f6, f7, f8, f9, f10, f11, o0, b0, b1, c0, c1, c2, hr, hg⟩
      case s5 =>
        rintro L a wr ⟨hst, hsz, q0, q3, hF⟩ hL hdp K hK
        have ev := fun (d t : Nat) (v : Value) (hd : d < 31) => eval_put a d t v (by omega)
        obtain ⟨hd12, f0, f1, f2, f3, f4, f5, f6, f7, f8, f9, f10, f11, o0, b0, b1, c0, c1, c2, hr, hg⟩ := hF
        refine step_value (v := .pointer (some ⟨p, 0, none⟩)) (w' := wr) rfl (by have t0 := q0; have t3 := q3; rw [eval_tmp, Array.getD_eq_getD_getElem?] at t0 t3; go_simp) ?_
        refine hK _ _ ⟨hst.put 21 _ (by decide), by simpa [Act.put] using hsz, (ev 21 0 _ (by decide)).trans q0, (ev 21 3 _ (by decide)).trans q3, ?_⟩
        simp only [ev 21 _ _ (by decide)]
        exact ⟨hd12, f0, f1, f2, f3, f4, fun _ => rfl, f6, f7, f8, f9, f10, f11, o0, b0, b1, c0, c1, c2, hr, hg⟩
      case s6 =>
        rintro L a wr ⟨hst, hsz, q0, q3, hF⟩ hL hdp K hK
        have ev := fun (d t : Nat) (v : Value) (hd : d < 31) => eval_put a d t v (by omega)
        have d5 : L 5 = true := hdp ⟨5, .data⟩ (by simp) rfl
        obtain ⟨hd12, f0, f1, f2, f3, f4, f5, f6, f7, f8, f9, f10, f11, o0, b0, b1, c0, c1, c2, hr, hg⟩ := hF
        refine step_enter (f := 50) (args := #[a.eval (.tmp 21), .int .i64 18]) (w' := wr) rfl (by go_simp) ?_
        rw [f5 d5]
        have hcur := c1 hL
        refine (pick_any p A bs c _ 18 wr hcur (by omega) (by omega) (by omega)).mono ?_
        rintro e wK ⟨x, hx, rfl, hcK, hgK⟩
        refine ⟨_, rfl, ?_⟩
        refine hK _ _ ⟨hst.put 22 _ (by decide), by simpa [Act.put] using hsz, (ev 22 0 _ (by decide)).trans q0, (ev 22 3 _ (by decide)).trans q3, ?_⟩
        simp only [ev 22 _ _ (by decide)]
        exact ⟨hd12, f0, f1, f2, f3, f4, f5, fun _ => ⟨x, by omega, rfl⟩, f7, f8, fun e => (f9 e).imp fun q h => h.imp fun y h => h.imp fun z h => ⟨h.1, h.2.1, h.2.2.1, fun e2 => hcur.blk_ (h.2.2.2 e2) hgK (by decide)⟩, fun e => (f10 e).imp fun y h => h.imp fun z h => ⟨h.1, h.2.1, h.2.2.1, hcur.row h.2.2.2 hgK (by decide)⟩, f11, fun e => hcur.row (o0 e) hgK (by decide), fun e => hcur.blk_ (b0 e) hgK (by decide), fun e => ⟨(b1 e).1, hcur.blk_ (b1 e).2 hgK (by decide)⟩, fun e => absurd ((hdp ⟨3, .chain⟩ (by simp) rfl).symm.trans e) (by decide), fun e => absurd ((upd_self L 6).symm.trans e) (by decide), hcK, hcur.blk_ hr hgK (by decide), near_step hg hgK (fun k hk => .inl hk.symm)⟩
      case s7 =>
        rintro L a wr ⟨hst, hsz, q0, q3, hF⟩ hL hdp K hK
        have ev := fun (d t : Nat) (v : Value) (hd : d < 31) => eval_put a d t v (by omega)
        have d6 : L 6 = true := hdp ⟨6, .data⟩ (by simp) rfl
        obtain ⟨hd12, f0, f1, f2, f3, f4, f5, f6, f7, f8, f9, f10, f11, o0, b0, b1, c0, c1, c2, hr, hg⟩ := hF
        obtain ⟨x, hx, e22⟩ := f6 d6
        have t22 := e22
        rw [eval_tmp, Array.getD_eq_getD_getElem?] at t22
        have hxw : IntKind.i64.wrap ((x : Int) - 1) = (x : Int) - 1 := IntWalk.i64_in _ (by omega)
        refine step_value (v := .int .i64 ((x : Int) - 1)) (w' := wr) rfl (by go_simp) ?_
        refine hK _ _ ⟨hst.put 23 _ (by decide), by simpa [Act.put] using hsz, (ev 23 0 _ (by decide)).trans q0, (ev 23 3 _ (by decide)).trans q3, ?_⟩
        simp only [ev 23 _ _ (by decide)]
        exact ⟨hd12, f0, f1, f2, f3, f4, f5, f6, fun _ => ⟨_, by omega, rfl⟩, f8, f9, f10, f11, o0, b0, b1, c0, c1, c2, hr, hg⟩
      case s8 =>
        rintro L a wr ⟨hst, hsz, q0, q3, hF⟩ hL hdp K hK
        have ev := fun (d t : Nat) (v : Value) (hd : d < 31) => eval_put a d t v (by omega)
        have d4 : L 4 = true := hdp ⟨4, .data⟩ (by simp) rfl
        have d7 : L 7 = true := hdp ⟨7, .data⟩ (by simp) rfl
        obtain ⟨hd12, f0, f1, f2, f3, f4, f5, f6, f7, f8, f9, f10, f11, o0, b0, b1, c0, c1, c2, hr, hg⟩ := hF
        obtain ⟨y, hy, e20⟩ := f4 d4
        obtain ⟨z, hz, e23⟩ := f7 d7
        have t20 := e20; have t23 := e23
        rw [eval_tmp, Array.getD_eq_getD_getElem?] at t20 t23
        refine step_value (v := .agg #[.int .i64 y, .int .i64 z]) (w' := wr) rfl (by go_simp) ?_
        refine hK _ _ ⟨hst.put 24 _ (by decide), by simpa [Act.put] using hsz, (ev 24 0 _ (by decide)).trans q0, (ev 24 3 _ (by decide)).trans q3, ?_⟩
        simp only [ev 24 _ _ (by decide)]
        exact ⟨hd12, f0, f1, f2, f3, f4, f5, f6, f7, fun _ => ⟨y, z, hy, hz, rfl⟩, f9, f10, f11, o0, b0, b1, c0, c1, c2, hr, hg⟩
      case s9 =>
        rintro L a wr ⟨hst, hsz, q0, q3, hF⟩ hL hdp K hK
        have ev := fun (d t : Nat) (v : Value) (hd : d < 31) => eval_put a d t v (by omega)
        have d8 : L 8 = true := hdp ⟨8, .data⟩ (by simp) rfl
        obtain ⟨hd12, f0, f1, f2, f3, f4, f5, f6, f7, f8, f9, f10, f11, o0, b0, b1, c0, c1, c2, hr, hg⟩ := hF
        obtain ⟨y, z, hy, hz, e24⟩ := f8 d8
        have t24 := e24
        rw [eval_tmp, Array.getD_eq_getD_getElem?] at t24
        have hbl := (Below.alloc (Below.refl wr.heap.size wr) (Nat.le_refl _) (.cells #[.int .i64 y, .int .i64 z] 48))
        refine step_value (v := .slice (some ⟨wr.heap.size, 0, none⟩) 1 1) (w' := wr.alloc (.cells #[.int .i64 y, .int .i64 z] 48)) rfl (by go_simp) ?_
        refine hK _ _ ⟨hst.put 25 _ (by decide), by simpa [Act.put] using hsz, (ev 25 0 _ (by decide)).trans q0, (ev 25 3 _ (by decide)).trans q3, ?_⟩
        simp only [ev 25 _ _ (by decide)]
        exact ⟨hd12, f0, f1, f2, f3, f4, f5, f6, f7, f8, fun _ => ⟨wr.heap.size, y, z, hy, hz, rfl, fun _ => Blk.new _ _ _⟩, fun e => (f10 e).imp fun y h => h.imp fun z h => ⟨h.1, h.2.1, h.2.2.1, own_below h.2.2.2 hbl (Nat.le_refl _)⟩, f11, fun e => own_below (o0 e) hbl (Nat.le_refl _), fun e => (b0 e).below_ hbl, fun e => ⟨(b1 e).1, (b1 e).2.below_ hbl⟩, fun e => (c0 e).below hbl (c0 e).lt, fun e => (c1 e).below hbl (c1 e).lt, c2.below hbl c2.lt, hr.below_ hbl, near_below hg hbl hg.size⟩
      case s10 =>
        rintro L a wr ⟨hst, hsz, q0, q3, hF⟩ hL hdp K hK
        have ev := fun (d t : Nat) (v : Value) (hd : d < 31) => eval_put a d t v (by omega)
        have d1 : L 1 = true := hdp ⟨1, .data⟩ (by simp) rfl
        have d9 : L 9 = true := hdp ⟨9, .data⟩ (by simp) rfl
        obtain ⟨hd12, f0, f1, f2, f3, f4, f5, f6, f7, f8, f9, f10, f11, o0, b0, b1, c0, c1, c2, hr, hg⟩ := hF
        obtain ⟨q, y, z, hy, hz, e25, hq⟩ := f9 d9
        have hq := hq hL
        have ho := o0 hL
        refine step_push wr rfl (.tmp 17) (.tmp 25) 28 rfl w.heap.size 48 i0 _ 2 16 Tryd.underlying28 hi'.out.1 hi'.out.2.1 hi'.out.2.2.1 hi'.out.2.2.2 rfl (by decide) v0 cs.length _ (f1 d1) ho #[.int .i64 y, .int .i64 z] q e25 hq rfl (by simp [Value.oneCell']) (by omega) (by unfold maxLen; omega) hg.size ?_
        intro g8 d8 w8 o8 gr8 bl8 at8
        rw [cmps_snoc] at o8
        have hrow : ∀ k, v0.ownBlock = some k → p < k := fun k hk => by have := (own_lt ho k hk).1; omega
        refine hK _ _ ⟨hst.put 26 _ (by decide), by simpa [Act.put] using hsz, (ev 26 0 _ (by decide)).trans q0, (ev 26 3 _ (by decide)).trans q3, ?_⟩
        simp only [ev 26 _ _ (by decide)]
        exact ⟨hd12, f0, f1, f2, f3, f4, f5, f6, f7, f8, fun _ => ⟨q, y, z, hy, hz, e25, fun e => absurd ((upd_self L 10).symm.trans e) (by decide)⟩, fun _ => ⟨y, z, hy, hz, ⟨_, _, rfl⟩, o8⟩, f11, fun e => absurd ((upd_self L 10).symm.trans e) (by decide), fun e => (b0 e).grown gr8 (fun e2 => own_blk_ne ho (b0 e) (by decide) e2.symm), fun e => absurd ((b1 e).1.symm.trans hL) (by decide), fun e => (c0 e).grown gr8 hrow, fun e => (c1 e).grown gr8 hrow, c2.grown gr8 hrow, hr.grown gr8 (fun e2 => own_blk_ne ho hr (by decide) e2.symm), near_step hg gr8 (fun k hk => .inr (own_lt ho k hk).1)⟩
      case s11 =>
        rintro L a wr ⟨hst, hsz, q0, q3, hF⟩ hL hdp K hK
        have ev := fun (d t : Nat) (v : Value) (hd : d < 31) => eval_put a d t v (by omega)
        obtain ⟨hd12, f0, f1, f2, f3, f4, f5, f6, f7, f8, f9, f10, f11, o0, b0, b1, c0, c1, c2, hr, hg⟩ := hF
        refine step_value (v := .pointer (some ⟨g, 1, none⟩)) (w' := wr) rfl (by have t0 := q0; have t3 := q3; rw [eval_tmp, Array.getD_eq_getD_getElem?] at t0 t3; go_simp) ?_
        refine hK _ _ ⟨hst.put 27 _ (by decide), by simpa [Act.put] using hsz, (ev 27 0 _ (by decide)).trans q0, (ev 27 3 _ (by decide)).trans q3, ?_⟩
        simp only [ev 27 _ _ (by decide)]
        exact ⟨hd12, f0, f1, f2, f3, f4, f5, f6, f7, f8, f9, f10, fun _ => rfl, o0, b0, b1, c0, c1, c2, hr, hg⟩
      case s12 =>
        rintro L a wr ⟨hst, hsz, q0, q3, hF⟩ hL hdp K hK
        have ev := fun (d t : Nat) (v : Value) (hd : d < 31) => eval_put a d t v (by omega)
        have d11 : L 11 = true := hdp ⟨11, .data⟩ (by simp) rfl
        have d10 : L 10 = true := hdp ⟨10, .data⟩ (by simp) rfl
        have d1 : L 1 = true := hdp ⟨1, .phase⟩ (by simp) rfl
        obtain ⟨hd12, f0, f1, f2, f3, f4, f5, f6, f7, f8, f9, f10, f11, o0, b0, b1, c0, c1, c2, hr, hg⟩ := hF
        obtain ⟨y, z, hy, hz, ⟨D, d, e26⟩, h10⟩ := f10 d10
        have t26 := e26
        have t27 := f11 d11
        rw [eval_tmp, Array.getD_eq_getD_getElem?] at t26 t27
        have hb := b0 hL
        have q1 := hb.two.2
        have qf := hb.frozen 1
        have hgs := near_set (near_refl wr (some g)) 1 (.slice D (cs.length + 1) d)
        have hb2 : Blk (wr.setCell ⟨g, 1, none⟩ (.slice D (cs.length + 1) d)) g 30 #[.int .i64 W, .slice D (cs.length + 1) d] := by simpa using hb.set_ 1 (.slice D (cs.length + 1) d)
        have hrow : ∀ k, some g = some k → p < k := fun k hk => by cases hk; omega
        refine step_skip (w' := wr.setCell ⟨g, 1, none⟩ (.slice D (cs.length + 1) d)) rfl (by go_simp) ?_
        refine hK _ _ ⟨hst.put_none _, hsz, q0, q3, ?_⟩
        show AnyF w p g A bs c (M + 200 + 2) W cs v0 _ _ (a.eval (.tmp 16)) (a.eval (.tmp 17)) (a.eval (.tmp 18)) (a.eval (.tmp 19)) (a.eval (.tmp 20)) (a.eval (.tmp 21)) (a.eval (.tmp 22)) (a.eval (.tmp 23)) (a.eval (.tmp 24)) (a.eval (.tmp 25)) (a.eval (.tmp 26)) (a.eval (.tmp 27))
        exact ⟨fun _ => d1, f0, f1, f2, f3, f4, f5, f6, f7, f8, fun e => (f9 e).imp fun q h => h.imp fun y h => h.imp fun z h => ⟨h.1, h.2.1, h.2.2.1, fun e2 => absurd (d10.symm.trans e2) (by decide)⟩, fun _ => ⟨y, z, hy, hz, ⟨D, d, e26⟩, h10.kept hgs (.inr (own_blk_ne h10 hb (by decide)))⟩, f11, fun e => absurd (d10.symm.trans e) (by decide), fun e => absurd ((upd_self L 12).symm.trans e) (by decide), fun _ => ⟨d10, by rw [e26]; exact hb2⟩, fun e => (c0 e).grown hgs hrow, fun e => (c1 e).grown hgs hrow, c2.grown hgs hrow, hr.grown hgs (fun e2 => by have := Option.some.inj e2; omega), near_step hg hgs (fun k hk => .inr (by cases hk; omega))⟩
  have e01 : ((x : Int) == 1) = false := by rw [beq_eq_false_iff_ne]; omega
  have hgp : some g ≠ some p := fun e => by have := Option.some.inj e; omega
  by_cases x2 : x = 2
  case pos =>
    subst x2
    have e22 : ((2 : Int) == 2) = true := rfl
    have e20 : ((2 : Int) == 0) = false := by decide
    have e21 : ((2 : Int) == 1) = false := by decide
    clear e00 e01 x0 x1
    go_wp2_with fail
    go_loopw [] (fun wr => ∃ cs : List (Int × Int), cs.length ≤ 201 ∧ Hid (smallC cs) ∧ NetS wr w.heap.size g W cs ∧ Blk wr w.heap.size 30 #[.int .i64 0, .slice none 0 0] ∧ Hid (Cur wr p A bs c (M + 202 + 2 * cs.length)) ∧ w.grownBy wr (some p)) (fun wr => 201 - lenAt wr g)
    case atStart => exact ⟨cs, by omega, HS, hN, hR, Lib.hid (HK.out.more (by omega)), hG⟩
    case round =>
      clear hN hR hG HK HS hl HC2
      obtain ⟨cs, hl, HS, hN, hR, HK, hG⟩ := hrel
      have ⟨v0, hk0, ho0⟩ := hN
      have hla := hN.lenAt
      obtain ⟨D, d, rfl⟩ := own_slice ho0
      have q1 := hk0.two.2
      have HKd := Lib.hid (show Cur wr.drew p A bs c _ from ⟨HK.out.blk, HK.out.code, HK.out.byte, HK.out.len⟩)
      have hgK : True := trivial
      go_upto_region 8 with fail
      go_region_held3 (fun w' => w'.cell? ⟨g, 1, none⟩ = some (.slice D cs.length d)) ((show _ = some _; repeat' (first | with_reducible exact q1 | with_reducible refine cn_drew ?_ | with_reducible refine World.grownBy.cell hgK ?_ hgp))) ((go_at_call 50; refine (pick_any p A bs c _ 2 _ (by exact HKd.out) (by omega) (by omega) (by omega)).mono ?_; rintro e wK ⟨x, hx, rfl, hcK, hgK⟩))
      have hxw : IntKind.i64.wrap (200 + (x : Int)) = 200 + (x : Int) := IntWalk.i64_in _ (by omega)
      have hNd : NetS wr.drew w.heap.size g W cs := ⟨_, hk0, ho0⟩
      have hRd : Blk wr.drew w.heap.size 30 #[.int .i64 0, .slice none 0 0] := hR
      have hGd : w.grownBy wr.drew (some p) := ⟨hG.os, hG.tape, hG.output, hG.size, hG.block⟩
      have hR7 := Cur.blk_ HKd.out hRd hgK (by decide)
      have hk7 := Cur.blk_ HKd.out (show Blk wr.drew g 30 #[.int .i64 W, .slice D cs.length d] from hk0) hgK (by decide)
      have ho7 := Cur.row HKd.out (show wr.drew.ownsRow w.heap.size 48 2 (.slice D cs.length d) cs.length (cmps cs) from ho0) hgK (by decide)
      have hG7 := near_step hGd hgK (fun k hk => .inl hk.symm)
      have HC7 := Lib.hid hcK
      clear hN hR hG HK HKd hNd hRd hGd hcK hgK hk0 ho0 q1
      have hk0 := hk7; have ho0 := ho7
      have hN7 : NetS wK w.heap.size g W cs := ⟨_, hk0, ho0⟩
      clear hk7 ho7
      rw [hxw]
      by_cases hlt : cs.length < 200 + x
      · rw [decide_eq_true (show (cs.length : Int) < 200 + (x : Int) by omega)]
        have q0 := hk0.cell 0
        have q1 := hk0.cell 1
        have qf := hk0.frozen 1
        have ql := hk0.lt
        have hgw := hG7.size
        have HSP := Lib.hid (smallC_push (a := (0 : Int)) (b := (1 : Int)) HS.out (by omega) (by omega))
        go_wp2_with (at_builtin; refine wpList_push' _ rfl (.tmp 38) (.tmp 40) 28 rfl w.heap.size 48 i0 _ 2 16 Tryd.underlying28 hi hz0 hz1 hz2 rfl (by decide) (.slice D cs.length d) cs.length _ rfl (World.ownsRow.alloc ho0 _) #[.int .i64 0, .int .i64 1] wK.heap.size rfl (Blk.new _ _ _) rfl (by simp [Value.oneCell']) (by omega) (by unfold maxLen; omega) (by rw [World.size_alloc]; omega) ?_; intro q8 d8 w8 o8 gr8 bl8 at8; have hk8 := Blk.grown (Blk.alloc hk0 (.cells #[.int .i64 0, .int .i64 1] 48)) gr8 (fun e => own_blk_ne ho0 hk0 (by decide) e.symm); have z1 : w8.cell? ⟨g, 1, none⟩ = some (.slice D cs.length d) := hk8.cell 1; have zf := hk8.frozen 1; have zl := hk8.lt)
        have hb8 := near_step (near_step hG7 (World.grownBy_alloc wK (.cells #[.int .i64 0, .int .i64 1] 48) (some p)) (fun k hk => .inl hk.symm)) gr8 (fun k hk => .inr (own_lt ho0 k hk).1)
        have hgs := near_set (near_refl w8 (some g)) 1 (.slice (some ⟨q8, 0, none⟩) (cs.length + 1) d8)
        have hG9 := near_step hb8 hgs (fun k hk => .inr (by cases hk; omega))
        have HC9 := Lib.hid (Cur.grown (Cur.grown (HC7.out.alloc (.cells #[.int .i64 0, .int .i64 1] 48)) gr8 (fun k hk => by have := (own_lt ho0 k hk).1; omega)) hgs (fun k hk => by cases hk; omega))
        have hR9 := ((hR7.alloc (.cells #[.int .i64 0, .int .i64 1] 48)).grown gr8 (fun e => own_blk_ne ho0 hR7 (by decide) e.symm)).far (p := ⟨g, 1, none⟩) (by simp; omega) (.slice (some ⟨q8, 0, none⟩) (cs.length + 1) d8)
        have hk9 : Blk (w8.setCell ⟨g, 1, none⟩ (.slice (some ⟨q8, 0, none⟩) (cs.length + 1) d8)) g 30 #[.int .i64 W, .slice (some ⟨q8, 0, none⟩) (cs.length + 1) d8] := by
          simpa using hk8.set_ 1 (.slice (some ⟨q8, 0, none⟩) (cs.length + 1) d8)
        rw [cmps_snoc] at o8
        have ho9 := own_setCell o8 (p := ⟨g, 1, none⟩) (own_blk_ne o8 hk8 (by decide)) (.slice (some ⟨q8, 0, none⟩) (cs.length + 1) d8)
        have HN9 : Hid (NetS (w8.setCell ⟨g, 1, none⟩ (.slice (some ⟨q8, 0, none⟩) (cs.length + 1) d8)) w.heap.size g W (cs ++ [((0 : Int), (1 : Int))])) := Lib.hid ⟨_, hk9, by rw [List.length_append]; exact ho9⟩
        have HR9 := Lib.hid hR9; have HG9 := Lib.hid hG9
        clear hk0 ho0 q0 q1 qf ql o8 gr8 bl8 at8 hk8 z1 zf ho9 hk9 hR9 hG9 hb8 hgs hN7 hR7 hG7
        go_roundw
        case rel => exact ⟨cs ++ [((0 : Int), (1 : Int))], by rw [List.length_append]; simp; omega, HSP, HN9.out, HR9.out, Lib.hid (HC9.out.more (by rw [List.length_append]; simp; omega)), HG9.out⟩
        case measure => rw [hla, HN9.out.lenAt, List.length_append]; simp; omega
      · rw [decide_eq_false (show ¬ (cs.length : Int) < 200 + (x : Int) by omega)]
        have hN := hN7; have hR := hR7; have hG := hG7; have HK := HC7
        clear hN7 hR7 hG7 HC7
        go_upto_region 12 with fail
        obtain ⟨q0, q1⟩ := hk0.two
        have ql := hk0.lt
        have hf3 : Blk ((wK.setCell ⟨w.heap.size, 0, none⟩ (.int .i64 W)).setCell ⟨w.heap.size, 1, none⟩ (.slice D cs.length d)) w.heap.size 30 #[.int .i64 W, .slice D cs.length d] := by
          simpa using (hR.set_ 0 (.int .i64 W)).set_ 1 (.slice D cs.length d)
        obtain ⟨r0, r1⟩ := hf3.two
        have R0 := Lib.hid r0; have R1 := Lib.hid r1
        obtain ⟨z0, z1⟩ := hR.two
        have f0 := hR.frozen 0
        have f1 := hR.frozen 1
        have hrl := hR.lt
        have hgs := near_set (near_set (near_refl wK (some w.heap.size)) 0 (.int .i64 W)) 1 (.slice D cs.length d)
        have HOF := Lib.hid (ho0.kept hgs (.inr (own_blk_ne ho0 hR (by decide))))
        have HCF := Lib.hid (HK.out.grown hgs (fun k hk => by cases hk; exact hplt))
        have HGF := Lib.hid (near_step hG hgs (fun k hk => .inr (by cases hk; exact Nat.le_refl _)))
        clear hf3 r0 r1 hgs
        go_wp2_with fail
        exact bodyPost_ret (v := .agg #[.int .i64 W, .slice D cs.length d]) (by simp [results, Tryd.results49, go_sem, R0.out, R1.out]) rfl (GotN.mk ⟨W, D, cs, d, rfl, HOF.out, by omega, by omega, HS.out, HCF.out.more (by omega), HGF.out⟩)
  have e02 : ((x : Int) == 2) = false := by rw [beq_eq_false_iff_ne]; omega
  by_cases x3 : x = 3
  case pos =>
    subst x3
    have e33 : ((3 : Int) == 3) = true := rfl
    have e30 : ((3 : Int) == 0) = false := by decide
    have e31 : ((3 : Int) == 1) = false := by decide
    have e32 : ((3 : Int) == 2) = false := by decide
    clear e00 e01 e02 x0 x1 x2
    have ⟨v0, hk0, ho0⟩ := hN
    have q0 := hk0.frozen 0
    have q1 := hk0.frozen 1
    obtain ⟨r0, r1⟩ := hk0.two
    have ql := hk0.lt
    have hp4 := HK.out.lt
    have HC5 := Lib.hid (HK.out.alloc (.cells #[.int .i64 0, .int .i64 1, .int .i64 2, .int .i64 3, .int .i64 0, .int .i64 2, .int .i64 1, .int .i64 3, .int .i64 1, .int .i64 2] 48))
    go_upto_region 12 with fail
    have hgs := near_set (near_set (near_refl w3 (some g)) 0 (.int .i64 4)) 1 (.slice (some ⟨w3.heap.size, 0, none⟩) 5 5)
    have hsz3 : ((w3.setCell ⟨g, 0, none⟩ (.int .i64 4)).setCell ⟨g, 1, none⟩ (.slice (some ⟨w3.heap.size, 0, none⟩) 5 5)).heap.size = w3.heap.size := by simp
    have hCs := HK.out.grown hgs (fun k hk => by cases hk; omega)
    have hRs := (hR.far (p := ⟨g, 0, none⟩) (by simp; omega) (.int .i64 4)).far (p := ⟨g, 1, none⟩) (by simp; omega) (.slice (some ⟨w3.heap.size, 0, none⟩) 5 5)
    have hks : Blk ((w3.setCell ⟨g, 0, none⟩ (.int .i64 4)).setCell ⟨g, 1, none⟩ (.slice (some ⟨w3.heap.size, 0, none⟩) 5 5)) g 30 #[.int .i64 4, .slice (some ⟨w3.heap.size, 0, none⟩) 5 5] := by
      simpa using (hk0.set_ 0 (.int .i64 4)).set_ 1 (.slice (some ⟨w3.heap.size, 0, none⟩) 5 5)
    have hGs := near_step hG hgs (fun k hk => .inr (by cases hk; omega))
    have hwl : w.heap.size < w3.heap.size := by omega
    clear r0 r1 q0 q1 ql HC5 hk0 ho0 hN hR hG HK hgs
    generalize (w3.setCell ⟨g, 0, none⟩ (.int .i64 4)).setCell ⟨g, 1, none⟩ (.slice (some ⟨w3.heap.size, 0, none⟩) 5 5) = wS at *
    have hoL : (wS.alloc (.cells #[.int .i64 0, .int .i64 1, .int .i64 2, .int .i64 3, .int .i64 0, .int .i64 2, .int .i64 1, .int .i64 3, .int .i64 1, .int .i64 2] 48)).ownsRow w.heap.size 48 2 (.slice (some ⟨w3.heap.size, 0, none⟩) 5 5) 5 (cmps [(0, 1), (2, 3), (0, 2), (1, 3), (1, 2)]) := own_lit (by omega) hsz3 rfl (by decide) rfl
    have hR := hRs.alloc (.cells #[.int .i64 0, .int .i64 1, .int .i64 2, .int .i64 3, .int .i64 0, .int .i64 2, .int .i64 1, .int .i64 3, .int .i64 1, .int .i64 2] 48)
    have hN : NetS (wS.alloc (.cells #[.int .i64 0, .int .i64 1, .int .i64 2, .int .i64 3, .int .i64 0, .int .i64 2, .int .i64 1, .int .i64 3, .int .i64 1, .int .i64 2] 48)) w.heap.size g 4 [(0, 1), (2, 3), (0, 2), (1, 3), (1, 2)] := ⟨_, hks.alloc _, hoL⟩
    have hG := near_step hGs (World.grownBy_alloc wS (.cells #[.int .i64 0, .int .i64 1, .int .i64 2, .int .i64 3, .int .i64 0, .int .i64 2, .int .i64 1, .int .i64 3, .int .i64 1, .int .i64 2] 48) (some p)) (fun k hk => .inl hk.symm)
    have HK := Lib.hid (hCs.alloc (.cells #[.int .i64 0, .int .i64 1, .int .i64 2, .int .i64 3, .int .i64 0, .int .i64 2, .int .i64 1, .int .i64 3, .int .i64 1, .int .i64 2] 48))
    have hsm4 : smallC [(0, 1), (2, 3), (0, 2), (1, 3), (1, 2)] := by intro z hz; simp at hz; rcases hz with rfl | rfl | rfl | rfl | rfl <;> decide
    obtain ⟨c4, hc4⟩ : ∃ c4 : List (Int × Int), c4 = [(0, 1), (2, 3), (0, 2), (1, 3), (1, 2)] := ⟨_, rfl⟩
    have hl4 : c4.length ≤ 5 := by rw [hc4]; decide
    rw [← hc4] at hN hsm4
    have HS4 := Lib.hid hsm4
    clear hc4 hCs hRs hks hGs hoL hsm4 hsz3
    generalize wS.alloc (.cells #[.int .i64 0, .int .i64 1, .int .i64 2, .int .i64 3, .int .i64 0, .int .i64 2, .int .i64 1, .int .i64 3, .int .i64 1, .int .i64 2] 48) = w6 at *
    have ⟨v0, hk0, ho0⟩ := hN
    obtain ⟨D, d, rfl⟩ := own_slice ho0
    obtain ⟨q0, q1⟩ := hk0.two
    have ql := hk0.lt
    have hf3 : Blk ((w6.setCell ⟨w.heap.size, 0, none⟩ (.int .i64 4)).setCell ⟨w.heap.size, 1, none⟩ (.slice D c4.length d)) w.heap.size 30 #[.int .i64 4, .slice D c4.length d] := by
      simpa using (hR.set_ 0 (.int .i64 4)).set_ 1 (.slice D c4.length d)
    obtain ⟨r0, r1⟩ := hf3.two
    have R0 := Lib.hid r0; have R1 := Lib.hid r1
    obtain ⟨z0, z1⟩ := hR.two
    have f0 := hR.frozen 0
    have f1 := hR.frozen 1
    have hrl := hR.lt
    have hgs := near_set (near_set (near_refl w6 (some w.heap.size)) 0 (.int .i64 4)) 1 (.slice D c4.length d)
    have HOF := Lib.hid (ho0.kept hgs (.inr (own_blk_ne ho0 hR (by decide))))
    have HCF := Lib.hid (HK.out.grown hgs (fun k hk => by cases hk; exact hplt))
    have HGF := Lib.hid (near_step hG hgs (fun k hk => .inr (by cases hk; exact Nat.le_refl _)))
    clear hf3 r0 r1 hgs
    go_wp2_with fail
    exact bodyPost_ret (v := .agg #[.int .i64 4, .slice D c4.length d]) (by simp [results, Tryd.results49, go_sem, R0.out, R1.out]) rfl (GotN.mk ⟨4, D, c4, d, rfl, HOF.out, by omega, by omega, HS4.out, HCF.out.more (by omega), HGF.out⟩)
  have e03 : ((x : Int) == 3) = false := by rw [beq_eq_false_iff_ne]; omega
  go_upto_region 12 with fail
  have ⟨v0, hk0, ho0⟩ := hN
  obtain ⟨D, d, rfl⟩ := own_slice ho0
  obtain ⟨q0, q1⟩ := hk0.two
  have ql := hk0.lt
  have hf3 : Blk ((w3.setCell ⟨w.heap.size, 0, none⟩ (.int .i64 W)).setCell ⟨w.heap.size, 1, none⟩ (.slice D cs.length d)) w.heap.size 30 #[.int .i64 W, .slice D cs.length d] := by
    simpa using (hR.set_ 0 (.int .i64 W)).set_ 1 (.slice D cs.length d)
  obtain ⟨r0, r1⟩ := hf3.two
  have R0 := Lib.hid r0; have R1 := Lib.hid r1
  obtain ⟨z0, z1⟩ := hR.two
  have f0 := hR.frozen 0
  have f1 := hR.frozen 1
  have hrl := hR.lt
  have hgs := near_set (near_set (near_refl w3 (some w.heap.size)) 0 (.int .i64 W)) 1 (.slice D cs.length d)
  have HOF := Lib.hid (ho0.kept hgs (.inr (own_blk_ne ho0 hR (by decide))))
  have HCF := Lib.hid (HK.out.grown hgs (fun k hk => by cases hk; exact hplt))
  have HGF := Lib.hid (near_step hG hgs (fun k hk => .inr (by cases hk; exact Nat.le_refl _)))
  clear hf3 r0 r1 hgs
  go_wp2_with fail
  exact bodyPost_ret (v := .agg #[.int .i64 W, .slice D cs.length d]) (by simp [results, Tryd.results49, go_sem, R0.out, R1.out]) rfl (GotN.mk ⟨W, D, cs, d, rfl, HOF.out, by omega, by omega, HS.out, HCF.out.more (by omega), HGF.out⟩)
end Go.Proofs.YtfpojoabfdiadaaDoor
