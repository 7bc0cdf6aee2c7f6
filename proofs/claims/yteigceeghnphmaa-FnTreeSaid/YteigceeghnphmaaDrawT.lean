/- The draw of a tree (under way). -/
import Derived.Test.YteigceeghnphmaaCur
import Derived.Test.YteigceeghnphmaaDrawN
import Derived.Test.YteigceeghnphmaaTreeS
import Derived.Test.YteigceeghnphmaaTreeB
import Derived.Test.YteigceeghnphmaaTreeR
import Derived.Deep.DeepCutAuto
namespace Go.Proofs.Yteigceeghnphmaa
open Go.RowKit
set_option linter.unusedVariables false
theorem bools_snocT (zs : List Bool) (z : Bool) : bools zs ++ (#[Value.bool z] : Array Value).toList = bools (zs ++ [z]) := by simp [bools]
def RowOf (w : World) (base : Nat) (v : Value) (ds : List Bool) : Prop := (∃ (A : Option Addr) (c : Nat), v = .slice A ds.length c ∧ w.ownsRow base 4 1 v ds.length (bools ds)) ∨
  (∃ (g n c o : Nat) (d0 : List Bool), ds = d0.drop 1 ∧ d0.length = n ∧ 1 ≤ n ∧ (o = 1 ∨ n = 1) ∧ v = .slice (some ⟨g, o, none⟩) (n - 1) (c - 1) ∧ w.ownsRow base 4 1 (.slice (some ⟨g, 0, none⟩) n c) n (bools d0))
def GotT (w : World) (p : Nat) (A : Option Addr) (bs : List Nat) (c M : Nat) (e : Ending) (w' : World) : Prop := ∃ (AK : Option Addr) (ks : List Int) (cK : Nat) (VD : Value) (ds : List Bool) (AL : Option Addr) (ls : List Int) (cL : Nat) (W : Int),
  e = .returned (.agg #[.slice AK ks.length cK, VD, .slice AL ls.length cL, .int .i64 W]) ∧ w'.ownsRow w.heap.size 3 1 (.slice AK ks.length cK) ks.length (ints ks) ∧ RowOf w' w.heap.size VD ds ∧ w'.ownsRow w.heap.size 3 1 (.slice AL ls.length cL) ls.length (ints ls) ∧
  ks.length ≤ 7 ∧ ds.length ≤ 7 ∧ ls.length ≤ 7 ∧ Cur w' p A bs c M ∧ w.grownBy w' (some p)
def TrLos (w : World) (p : Nat) (A : Option Addr) (bs : List Nat) (c N x gN gL : Nat) (KA : Option Addr) (kc : Nat) (AK : Option Addr) (cK : Nat) (AD : Option Addr) (cD : Nat) (W : Int) (ks : List Int) (ds : List Bool) (ls : List Int) (L : Nat → Bool) (wr : World) (v0 v1 v2 v3 v4 v5 v6 v7 v8 v9 v10 : Value) : Prop :=
  (w.grownBy wr (some p)) ∧
  (L 1 = true → L 0 = true) ∧
  (L 4 = true → L 3 = true) ∧
  (L 5 = true → L 2 = true ∧ L 4 = true) ∧
  (L 8 = true → L 7 = true) ∧
  (L 9 = true → L 6 = true ∧ L 8 = true ∧ L 5 = true) ∧
  (L 10 = true → L 1 = true ∧ L 5 = true) ∧
  (L 11 = true → L 10 = true ∧ L 9 = true) ∧
  (L 0 = true → v0 = .pointer (some ⟨gN, 2, none⟩)) ∧
  (L 1 = true → v1 = .slice (some ⟨gL, 0, none⟩) (1 + x) (1 + x)) ∧
  (L 2 = true → v2 = .pointer (some ⟨p, 0, none⟩)) ∧
  (L 3 = true → v3 = .slice KA (1 + x) kc) ∧
  (L 4 = true → v4 = .int .i64 (1 + (x : Int))) ∧
  (L 5 = true → ∃ z : Nat, v5 = .int .i64 (z : Nat) ∧ z < 1 + x) ∧
  (L 6 = true → v6 = .pointer (some ⟨p, 0, none⟩)) ∧
  (L 7 = true → v7 = .slice KA (1 + x) kc) ∧
  (L 8 = true → v8 = .int .i64 (1 + (x : Int))) ∧
  (L 9 = true → ∃ z : Nat, v9 = .int .i64 (z : Nat)) ∧
  (L 10 = true → ∃ z : Nat, v10 = .pointer (some ⟨gL, z, none⟩) ∧ z < 1 + x) ∧
  (Blk wr gN 57 #[.slice AK (1 + x) cK, .slice AD (1 + x) cD, .slice (some ⟨gL, 0, none⟩) (1 + x) (1 + x), .int .i64 W]) ∧
  (Blk wr w.heap.size 57 #[.slice none 0 0, .slice none 0 0, .slice none 0 0, .int .i64 0]) ∧
  (wr.ownsRow w.heap.size 3 1 (.slice AK (1 + x) cK) (1 + x) (ints ks)) ∧
  (wr.ownsRow w.heap.size 4 1 (.slice AD (1 + x) cD) (1 + x) (bools ds)) ∧
  (L 11 = false → wr.ownsRow w.heap.size 3 1 (.slice (some ⟨gL, 0, none⟩) (1 + x) (1 + x)) (1 + x) (ints ls)) ∧
  (L 11 = true → ∃ l2 : List Int, l2.length = 1 + x ∧ wr.ownsRow w.heap.size 3 1 (.slice (some ⟨gL, 0, none⟩) (1 + x) (1 + x)) (1 + x) (ints l2)) ∧
  (L 5 = false → Cur wr p A bs c N) ∧
  (L 5 = true → L 9 = false → Cur wr p A bs c (N + 2)) ∧
  (L 9 = true → Cur wr p A bs c (N + 2 + 2))
def TrKey (w : World) (p : Nat) (A : Option Addr) (bs : List Nat) (c N x gN gL gK cK : Nat) (AD : Option Addr) (cD : Nat) (W : Int) (ks : List Int) (ds : List Bool) (ls : List Int) (L : Nat → Bool) (wr : World) (v0 v1 v2 v3 v4 v5 : Value) : Prop :=
  (w.grownBy wr (some p)) ∧
  (L 1 = true → L 0 = true) ∧
  (L 4 = true → L 2 = true ∧ L 3 = true) ∧
  (L 5 = true → L 1 = true) ∧
  (L 6 = true → L 5 = true ∧ L 4 = true) ∧
  (L 0 = true → v0 = .pointer (some ⟨gN, 0, none⟩)) ∧
  (L 1 = true → v1 = .slice (some ⟨gK, 0, none⟩) (1 + x) cK) ∧
  (L 2 = true → v2 = .pointer (some ⟨p, 0, none⟩)) ∧
  (L 3 = true → ∃ g : Nat, v3 = .slice (some ⟨g, 0, none⟩) 3 3 ∧ (L 4 = false → ∀ w9, wr.grownBy w9 (some p) → Reads w9 wr.heap.size 1 (some ⟨g, 0, none⟩) 3 (ints [0, 3, 100001]))) ∧
  (L 4 = true → ∃ z : Int, v4 = .int .i64 z) ∧
  (L 5 = true → v5 = .pointer (some ⟨gK, 0, none⟩)) ∧
  (Blk wr gN 57 #[.slice (some ⟨gK, 0, none⟩) (1 + x) cK, .slice AD (1 + x) cD, .slice (some ⟨gL, 0, none⟩) (1 + x) (1 + x), .int .i64 W]) ∧
  (Blk wr w.heap.size 57 #[.slice none 0 0, .slice none 0 0, .slice none 0 0, .int .i64 0]) ∧
  (L 6 = false → wr.ownsRow w.heap.size 3 1 (.slice (some ⟨gK, 0, none⟩) (1 + x) cK) (1 + x) (ints ks)) ∧
  (L 6 = true → ∃ l2 : List Int, l2.length = 1 + x ∧ wr.ownsRow w.heap.size 3 1 (.slice (some ⟨gK, 0, none⟩) (1 + x) cK) (1 + x) (ints l2)) ∧
  (wr.ownsRow w.heap.size 4 1 (.slice AD (1 + x) cD) (1 + x) (bools ds)) ∧
  (wr.ownsRow w.heap.size 3 1 (.slice (some ⟨gL, 0, none⟩) (1 + x) (1 + x)) (1 + x) (ints ls)) ∧
  (L 4 = false → Cur wr p A bs c N) ∧
  (L 4 = true → Cur wr p A bs c (N + 2))
set_option maxRecDepth 100000 in
set_option maxHeartbeats 6400000 in
theorem tree_any (p : Nat) (A : Option Addr) (bs : List Nat) (c M : Nat) (w : World) (hc : Cur w p A bs c M) (hM : M ≤ 274877900000) :
    Calls Try.prog 89 #[.pointer (some ⟨p, 0, none⟩)] w (GotT w p A bs c (M + 200)) := by
  obtain ⟨i0, hi, hz0, hz1, hz2⟩ := info_parts (show (Try.prog.info? 3).map (fun i => (i.zero, i.size, i.bytes)) = some (some (.int .i64 0), 1, 8) by kernel_rfl)
  obtain ⟨i1, hj, hy0, hy1, hy2⟩ := info_parts (show (Try.prog.info? 4).map (fun i => (i.zero, i.size, i.bytes)) = some (some (.bool false), 1, 1) by kernel_rfl)
  have hplt := hc.lt
  have HC1 := Lib.hid (((hc.alloc (.cells #[.slice none 0 0, .slice none 0 0, .slice none 0 0, .int .i64 0] 57)).alloc (.cells #[] 3)).alloc (.cells #[] 4))
  have hR0 := ((Blk.new w 57 #[.slice none 0 0, .slice none 0 0, .slice none 0 0, .int .i64 0]).alloc (.cells #[] 3)).alloc (.cells #[] 4)
  have hO0 := (made_at (w := w.alloc (.cells #[.slice none 0 0, .slice none 0 0, .slice none 0 0, .int .i64 0] 57)) (base := w.heap.size) (g := w.heap.size + 1) (size := 1) (e := 3) (by simp) (by simp)).alloc (.cells #[] 4)
  have hP0 := made_at (w := (w.alloc (.cells #[.slice none 0 0, .slice none 0 0, .slice none 0 0, .int .i64 0] 57)).alloc (.cells #[] 3)) (base := w.heap.size) (g := w.heap.size + 1 + 1) (size := 1) (e := 4) (by simp; omega) (by simp)
  have hG0 : w.grownBy (((w.alloc (.cells #[.slice none 0 0, .slice none 0 0, .slice none 0 0, .int .i64 0] 57)).alloc (.cells #[] 3)).alloc (.cells #[] 4)) (some p) := near_step (near_step (World.grownBy_alloc _ _ _) (World.grownBy_alloc _ _ _) (fun k hk => .inl hk.symm)) (World.grownBy_alloc _ _ _) (fun k hk => .inl hk.symm)
  clear hc
  go_enter Try.func89, Try.ntmps89
  go_wp2_with fail
  refine (pick_any p A bs c _ 7 _ HC1.out (by omega) (by omega) (by omega)).mono ?_
  rintro e w1 ⟨x, hx, rfl, hc1, hg1⟩
  have hx6 : x ≤ 6 := by omega
  have hR1 := Cur.blk_ HC1.out hR0 hg1 (by decide)
  have hO1 := Cur.row HC1.out hO0 hg1 (by decide)
  have hP1 := Cur.row HC1.out hP0 hg1 (by decide)
  have hG1 := near_step hG0 hg1 (fun k hk => .inl hk.symm)
  have HC2 := Lib.hid hc1
  clear hc1 hg1 hR0 hO0 hP0 hG0 HC1 hx
  go_wp2_with fail
  go_loopw [3, 4, 5] (fun vk vd vn wr => ∃ (j i : Nat) (ks : List Int) (ds : List Bool), vn = .int .i64 (j : Nat) ∧ j + i = 1 + x ∧ Hid (ks.length = i) ∧ Hid (ds.length = i) ∧ wr.ownsRow w.heap.size 3 1 vk i (ints ks) ∧ wr.ownsRow w.heap.size 4 1 vd i (bools ds) ∧ Hid (Blk wr w.heap.size 57 #[.slice none 0 0, .slice none 0 0, .slice none 0 0, .int .i64 0]) ∧ Hid (Cur wr p A bs c (M + 2 + 4 * i)) ∧ w.grownBy wr (some p)) (fun _ _ vn _ => (intOf vn).toNat)
  case atStart => exact ⟨1 + x, 0, [], [], by go_num, by omega, Lib.hid rfl, Lib.hid rfl, hO1, hP1, Lib.hid hR1, Lib.hid (HC2.out.more (by omega)), hG1⟩
  case round =>
    clear hO1 hP1 hR1 hG1 HC2
    obtain ⟨j, i, ks, ds, rfl, hij, HK, HD, hO, hP, HR, HC, hG⟩ := hrel
    rcases j with _ | j
    · have j1 : ¬ ((0 : Nat) : Int) > 0 := by omega
      obtain rfl : i = 1 + x := by omega
      obtain ⟨KA, kc, rfl⟩ := own_slice hO
      obtain ⟨DA, dc, rfl⟩ := own_slice hP
      have hRK : Reads wr wr.heap.size 1 KA ks.length (ints ks) := by rw [HK.out]; exact Reads.of_own hO
      have hRD : Reads wr wr.heap.size 1 DA ds.length (bools ds) := by rw [HD.out]; exact Reads.of_own hP
      go_wp2_with fail
      refine (sMake_any KA ks kc DA ds dc (1 + x) wr HK.out HD.out hRK hRD (by omega) (by omega)).mono ?_
      rintro e w2 ⟨AK, cK, AD, cD, gL, rfl, ⟨hTK, hTD, hTL, hTne⟩, b2⟩
      have hLL : Hid ((loserI ks ds).length = 1 + x) := Lib.hid (by rw [loserI_len]; exact HK.out)
      have hwv := winnerV_lt (ks := ks) (ds := ds) (by rw [HK.out]; omega)
      rw [HK.out] at hwv
      generalize loserI ks ds = ls at *
      generalize winnerV ks ds = v at *
      obtain ⟨W, hW⟩ : ∃ W : Int, ((v : Nat) : Int) = W := ⟨_, rfl⟩
      rw [hW]
      have hK0 := own_base hTK hG.size
      have hD0 := own_base hTD hG.size
      have hL0 := own_base hTL hG.size
      have HR0 := HR.out.below_ b2
      have HC0 := HC.out.below b2 HC.out.lt
      have hG0 := near_below hG b2 hG.size
      clear hTK hTD hTL hO hP HR HC hG b2 hRK hRD hW hwv
      have hgN : w.heap.size < w2.heap.size := HR0.lt
      have hKa := hK0.alloc (.cells #[.slice AK (1 + x) cK, .slice AD (1 + x) cD, .slice (some ⟨gL, 0, none⟩) (1 + x) (1 + x), .int .i64 W] 57)
      have hDa := hD0.alloc (.cells #[.slice AK (1 + x) cK, .slice AD (1 + x) cD, .slice (some ⟨gL, 0, none⟩) (1 + x) (1 + x), .int .i64 W] 57)
      have hLa := hL0.alloc (.cells #[.slice AK (1 + x) cK, .slice AD (1 + x) cD, .slice (some ⟨gL, 0, none⟩) (1 + x) (1 + x), .int .i64 W] 57)
      have HRa := Lib.hid (HR0.alloc (.cells #[.slice AK (1 + x) cK, .slice AD (1 + x) cD, .slice (some ⟨gL, 0, none⟩) (1 + x) (1 + x), .int .i64 W] 57))
      have HCa := Lib.hid (HC0.alloc (.cells #[.slice AK (1 + x) cK, .slice AD (1 + x) cD, .slice (some ⟨gL, 0, none⟩) (1 + x) (1 + x), .int .i64 W] 57))
      have hGa := near_step hG0 (World.grownBy_alloc w2 (.cells #[.slice AK (1 + x) cK, .slice AD (1 + x) cD, .slice (some ⟨gL, 0, none⟩) (1 + x) (1 + x), .int .i64 W] 57) (some p)) (fun k hk => .inl hk.symm)
      have hNa := Blk.new w2 57 #[.slice AK (1 + x) cK, .slice AD (1 + x) cD, .slice (some ⟨gL, 0, none⟩) (1 + x) (1 + x), .int .i64 W]
      clear hK0 hD0 hL0 HR0 HC0 hG0
      go_wp2_with fail
      generalize w2.alloc (.cells #[.slice AK (1 + x) cK, .slice AD (1 + x) cD, .slice (some ⟨gL, 0, none⟩) (1 + x) (1 + x), .int .i64 W] 57) = w3 at *
      generalize w2.heap.size = gN at *
      refine (pick_any p A bs c _ 20 _ HCa.out (by omega) (by omega) (by omega)).mono ?_
      rintro e w4 ⟨y, hy, rfl, hc6, hg6⟩
      clear hy
      have hKb := Cur.row HCa.out hKa hg6 (by decide)
      have hDb := Cur.row HCa.out hDa hg6 (by decide)
      have hLb := Cur.row HCa.out hLa hg6 (by decide)
      have HRb := Lib.hid (Cur.blk_ HCa.out HRa.out hg6 (by decide))
      have hNb := Cur.blk_ HCa.out hNa hg6 (by decide)
      have hGb := near_step hGa hg6 (fun k hk => .inl hk.symm)
      have HCb := Lib.hid hc6
      clear hc6 hg6 HCa hKa hDa hLa HRa hNa hGa
      by_cases y0 : y = 0
      case pos =>
        subst y0
        have j2 : (1 : Int) + (x : Int) + 2 = ((3 + x : Nat) : Int) := by omega
        obtain ⟨q0, q1, q2, q3⟩ := hNb.four
        obtain ⟨i0', i1', i2', i3'⟩ := hNb.ice
        have ql := hNb.lt
        go_wp2_with fail
        refine (pick_any p A bs c _ _ _ HCb.out (by omega) (by omega) (by omega)).mono ?_
        rintro e w5 ⟨z, hz, rfl, hc6, hg6⟩
        have hz9 : z ≤ 20 := by omega
        clear hz q0 q1 q2 q3 i0' i1' i2' i3' ql
        have hKc := Cur.row HCb.out hKb hg6 (by decide)
        have hDc := Cur.row HCb.out hDb hg6 (by decide)
        have hLc := Cur.row HCb.out hLb hg6 (by decide)
        have HRc := Lib.hid (Cur.blk_ HCb.out HRb.out hg6 (by decide))
        have hNc := Cur.blk_ HCb.out hNb hg6 (by decide)
        have hGc := near_step hGb hg6 (fun k hk => .inl hk.symm)
        have HCc := Lib.hid hc6
        clear hc6 hg6 HCb hKb hDb hLb HRb hNb hGb
        obtain ⟨V, hV⟩ : ∃ V : Int, (z : Int) - 1 = V := ⟨_, rfl⟩
        have HVV := Lib.hid hV
        obtain ⟨q0, q1, q2, q3⟩ := hNc.four
        obtain ⟨i0', i1', i2', i3'⟩ := hNc.ice
        have ql := hNc.lt
        have hNd : Blk (w5.setCell ⟨gN, 3, none⟩ (.int .i64 V)) gN 57 #[.slice AK (1 + x) cK, .slice AD (1 + x) cD, .slice (some ⟨gL, 0, none⟩) (1 + x) (1 + x), .int .i64 V] := by simpa using hNc.set_ 3 (.int .i64 V)
        have hKd := own_setCell (p := ⟨gN, 3, none⟩) hKc (own_blk_ne hKc hNc (by decide)) (.int .i64 V)
        have hDd := own_setCell (p := ⟨gN, 3, none⟩) hDc (own_blk_ne hDc hNc (by decide)) (.int .i64 V)
        have hLd := own_setCell (p := ⟨gN, 3, none⟩) hLc (own_blk_ne hLc hNc (by decide)) (.int .i64 V)
        have HRd := Lib.hid (HRc.out.far (p := ⟨gN, 3, none⟩) (by show _ ≠ gN; omega) (.int .i64 V))
        have hb9 := Below.setCell (p := ⟨gN, 3, none⟩) (Below.refl w.heap.size w5) (by show _ ≤ gN; omega) (.int .i64 V)
        have HCd := Lib.hid (HCc.out.below hb9 hplt)
        have hGd := near_below hGc hb9 (Nat.le_refl _)
        clear hKc hDc hLc HRc HCc hGc hb9 hNc
        have hb5 := blk4 (a' := .slice AK (1 + x) cK) (b' := .slice AD (1 + x) cD) (c' := .slice (some ⟨gL, 0, none⟩) (1 + x) (1 + x)) (d' := .int .i64 V) HRd.out
        obtain ⟨r0, r1, r2, r3⟩ := hb5.four
        have R0 := Lib.hid r0; have R1 := Lib.hid r1; have R2 := Lib.hid r2; have R3 := Lib.hid r3
        have HKF := Lib.hid (own4 hKd HRd.out (by decide) (.slice AK (1 + x) cK) (.slice AD (1 + x) cD) (.slice (some ⟨gL, 0, none⟩) (1 + x) (1 + x)) (.int .i64 V))
        have HDF := Lib.hid (own4 hDd HRd.out (by decide) (.slice AK (1 + x) cK) (.slice AD (1 + x) cD) (.slice (some ⟨gL, 0, none⟩) (1 + x) (1 + x)) (.int .i64 V))
        have HLF := Lib.hid (own4 hLd HRd.out (by decide) (.slice AK (1 + x) cK) (.slice AD (1 + x) cD) (.slice (some ⟨gL, 0, none⟩) (1 + x) (1 + x)) (.int .i64 V))
        have hb6 := below4 (Below.refl w.heap.size (w5.setCell ⟨gN, 3, none⟩ (.int .i64 V))) (Nat.le_refl _) (.slice AK (1 + x) cK) (.slice AD (1 + x) cD) (.slice (some ⟨gL, 0, none⟩) (1 + x) (1 + x)) (.int .i64 V)
        have HCF := Lib.hid (HCd.out.below hb6 hplt)
        have HGF := Lib.hid (near_below hGd hb6 (Nat.le_refl _))
        obtain ⟨z0, z1, z2, z3⟩ := HRd.out.four
        obtain ⟨f0, f1, f2, f3⟩ := HRd.out.ice
        have zl := HRd.out.lt
        obtain ⟨n0, n1, n2, n3⟩ := hNd.four
        have nl := hNd.lt
        clear hb5 hb6 r0 r1 r2 r3 hKd hDd hLd hNd hGd
        go_wp2_with fail
        exact bodyPost_ret (v := .agg #[.slice AK (1 + x) cK, .slice AD (1 + x) cD, .slice (some ⟨gL, 0, none⟩) (1 + x) (1 + x), .int .i64 V]) (by simp [results, Try.results89, go_sem, R0.out, R1.out, R2.out, R3.out]) rfl ⟨AK, ks, cK, .slice AD (1 + x) cD, ds, some ⟨gL, 0, none⟩, ls, 1 + x, V, by rw [HK.out, hLL.out], by rw [HK.out]; exact HKF.out, .inl ⟨AD, cD, by rw [HD.out], by rw [HD.out]; exact HDF.out⟩, by rw [hLL.out]; exact HLF.out, by rw [HK.out]; omega, by rw [HD.out]; omega, by rw [hLL.out]; omega, HCF.out.more (by omega), HGF.out⟩
      case neg =>
        have y0' : ((y : Int) == 0) = false := by simpa using y0
        by_cases y1 : y = 1
        case pos =>
          subst y1
          have hp1 : p < w.heap.size := hplt
          have hls := hLL.out
          go_upto_region 17 with fail
          refine wp_region_inv' (fun a0 L a wr => St a0 a [47, 48, 49, 50, 51, 52, 53, 54, 55, 56, 57] ∧ 72 < a.tmps.size ∧ a.eval (.tmp 8) = .pointer (some ⟨gN, 0, none⟩) ∧ a.eval (.tmp 0) = .pointer (some ⟨p, 0, none⟩) ∧ a.eval (.tmp 3) = .slice KA (1 + x) kc ∧ TrLos w p A bs c (M + 2 + 4 * (1 + x) + 2) x gN gL KA kc AK cK AD cD W ks ds ls L wr (a.eval (.tmp 47)) (a.eval (.tmp 48)) (a.eval (.tmp 49)) (a.eval (.tmp 50)) (a.eval (.tmp 51)) (a.eval (.tmp 52)) (a.eval (.tmp 53)) (a.eval (.tmp 54)) (a.eval (.tmp 55)) (a.eval (.tmp 56)) (a.eval (.tmp 57))) (by kernel_rfl) (by kernel_rfl) ?start ?steps ?ends
          case start =>
            refine ⟨St.refl _ _, Nat.le_of_ble_eq_true rfl, rfl, rfl, rfl, ⟨hGb.os, hGb.tape, hGb.output, hGb.size, hGb.block⟩, ?_, ?_, ?_, ?_, ?_, ?_, ?_, ?_, ?_, ?_, ?_, ?_, ?_, ?_, ?_, ?_, ?_, ?_, hNb, HRb.out, hKb, hDb, fun _ => hLb, ?_, fun _ => ⟨HCb.out.blk, HCb.out.code, HCb.out.byte, HCb.out.len⟩, ?_, ?_⟩
            all_goals (intro e; first | (cases e; done) | rfl | assumption)
          case ends =>
            rintro L a wr ⟨hst, hsz, q8, q0, q3, b, h1, h4, h5, h8, h9, h10, h11, f0, f1, f2, f3, f4, f5, f6, f7, f8, f9, f10, kn, kr, kk, kd, kl, kl2, kq, kq2, kq3⟩ hall
            have hCz := kq3 (hall 9 (by decide))
            obtain ⟨l2, hl2, hLe⟩ := kl2 (hall 11 (by decide))
            have HL2 := Lib.hid hl2
            have hKe := kk; have hDe := kd; have HRe := Lib.hid kr; have hNe := kn; have hGe := b; have HCe := Lib.hid hCz
            clear hCz hl2
            have heq := hst.eq
            simp only [List.foldl_cons, List.foldl_nil] at heq
            clear hKb hDb hLb HRb HCb hGb hNb b hst hall hsz q8 q0 q3 h1 h4 h5 h8 h9 h10 h11 f0 f1 f2 f3 f4 f5 f6 f7 f8 f9 f10 kn kr kk kd kl kl2 kq kq2 kq3
            generalize a.eval (.tmp 47) = u47 at *
            generalize a.eval (.tmp 48) = u48 at *
            generalize a.eval (.tmp 49) = u49 at *
            generalize a.eval (.tmp 50) = u50 at *
            generalize a.eval (.tmp 51) = u51 at *
            generalize a.eval (.tmp 52) = u52 at *
            generalize a.eval (.tmp 53) = u53 at *
            generalize a.eval (.tmp 54) = u54 at *
            generalize a.eval (.tmp 55) = u55 at *
            generalize a.eval (.tmp 56) = u56 at *
            generalize a.eval (.tmp 57) = u57 at *
            simp only [Act.put, List.setIfInBounds_toArray, List.set_cons_zero, List.set_cons_succ] at heq
            subst heq
            have hb5 := blk4 (a' := .slice AK (1 + x) cK) (b' := .slice AD (1 + x) cD) (c' := .slice (some ⟨gL, 0, none⟩) (1 + x) (1 + x)) (d' := .int .i64 W) HRe.out
            obtain ⟨r0, r1, r2, r3⟩ := hb5.four
            have R0 := Lib.hid r0; have R1 := Lib.hid r1; have R2 := Lib.hid r2; have R3 := Lib.hid r3
            have HKF := Lib.hid (own4 hKe HRe.out (by decide) (.slice AK (1 + x) cK) (.slice AD (1 + x) cD) (.slice (some ⟨gL, 0, none⟩) (1 + x) (1 + x)) (.int .i64 W))
            have HDF := Lib.hid (own4 hDe HRe.out (by decide) (.slice AK (1 + x) cK) (.slice AD (1 + x) cD) (.slice (some ⟨gL, 0, none⟩) (1 + x) (1 + x)) (.int .i64 W))
            have HLF := Lib.hid (own4 hLe HRe.out (by decide) (.slice AK (1 + x) cK) (.slice AD (1 + x) cD) (.slice (some ⟨gL, 0, none⟩) (1 + x) (1 + x)) (.int .i64 W))
            have hb6 := below4 (Below.refl w.heap.size wr) (Nat.le_refl _) (.slice AK (1 + x) cK) (.slice AD (1 + x) cD) (.slice (some ⟨gL, 0, none⟩) (1 + x) (1 + x)) (.int .i64 W)
            have HCF := Lib.hid (HCe.out.below hb6 hplt)
            have HGF := Lib.hid (near_below hGe hb6 (Nat.le_refl _))
            obtain ⟨z0, z1, z2, z3⟩ := HRe.out.four
            obtain ⟨f0, f1, f2, f3⟩ := HRe.out.ice
            have zl := HRe.out.lt
            obtain ⟨n0, n1, n2, n3⟩ := hNe.four
            have nl := hNe.lt
            clear hb5 hb6 r0 r1 r2 r3 hKe hDe hLe hNe hGe
            go_wp2_with fail
            exact bodyPost_ret (v := .agg #[.slice AK (1 + x) cK, .slice AD (1 + x) cD, .slice (some ⟨gL, 0, none⟩) (1 + x) (1 + x), .int .i64 W]) (by simp [results, Try.results89, go_sem, R0.out, R1.out, R2.out, R3.out]) rfl ⟨AK, ks, cK, .slice AD (1 + x) cD, ds, some ⟨gL, 0, none⟩, l2, 1 + x, W, by rw [HK.out, HL2.out], by rw [HK.out]; exact HKF.out, .inl ⟨AD, cD, by rw [HD.out], by rw [HD.out]; exact HDF.out⟩, by rw [HL2.out]; exact HLF.out, by rw [HK.out]; omega, by rw [HD.out]; omega, by rw [HL2.out]; omega, HCF.out.more (by omega), HGF.out⟩

          case steps =>
            refine ⟨?s0, ?s1, ?s2, ?s3, ?s4, ?s5, ?s6, ?s7, ?s8, ?s9, ?s10, ?s11, trivial⟩
            case s0 =>
              rintro L a wr ⟨hst, hsz, q8, q0, q3, hF⟩ hL hdp K hK
              have ev := fun (d t : Nat) (v : Value) (hd : d < 73) => eval_put a d t v (by omega)
              obtain ⟨b, h1, h4, h5, h8, h9, h10, h11, f0, f1, f2, f3, f4, f5, f6, f7, f8, f9, f10, kn, kr, kk, kd, kl, kl2, kq, kq2, kq3⟩ := hF
              have t8 := q8
              rw [eval_tmp, Array.getD_eq_getD_getElem?] at t8
              refine step_value (v := .pointer (some ⟨gN, 2, none⟩)) (w' := wr) rfl (by go_simp) ?_
              refine hK _ _ ⟨hst.put 47 _ (by decide), by simpa [Act.put] using hsz, (ev 47 8 _ (by decide)).trans q8, (ev 47 0 _ (by decide)).trans q0, (ev 47 3 _ (by decide)).trans q3, ?_⟩
              simp only [ev 47 _ _ (by decide)]
              exact ⟨b, fun e => absurd ((h1 e).symm.trans hL) (by decide), h4, h5, h8, h9, h10, h11, fun _ => rfl, f1, f2, f3, f4, f5, f6, f7, f8, f9, f10, kn, kr, kk, kd, kl, kl2, kq, kq2, kq3⟩
            case s1 =>
              rintro L a wr ⟨hst, hsz, q8, q0, q3, hF⟩ hL hdp K hK
              have ev := fun (d t : Nat) (v : Value) (hd : d < 73) => eval_put a d t v (by omega)
              have d0 : L 0 = true := hdp ⟨0, .data⟩ (by simp) rfl
              obtain ⟨b, h1, h4, h5, h8, h9, h10, h11, f0, f1, f2, f3, f4, f5, f6, f7, f8, f9, f10, kn, kr, kk, kd, kl, kl2, kq, kq2, kq3⟩ := hF
              have t47 := f0 d0
              rw [eval_tmp, Array.getD_eq_getD_getElem?] at t47
              obtain ⟨n0, n1, n2, n3⟩ := kn.four
              refine step_value (v := .slice (some ⟨gL, 0, none⟩) (1 + x) (1 + x)) (w' := wr) rfl (by go_simp) ?_
              refine hK _ _ ⟨hst.put 48 _ (by decide), by simpa [Act.put] using hsz, (ev 48 8 _ (by decide)).trans q8, (ev 48 0 _ (by decide)).trans q0, (ev 48 3 _ (by decide)).trans q3, ?_⟩
              simp only [ev 48 _ _ (by decide)]
              exact ⟨b, fun _ => d0, h4, h5, h8, h9, fun e => absurd ((h10 e).1.symm.trans hL) (by decide), h11, f0, fun _ => rfl, f2, f3, f4, f5, f6, f7, f8, f9, f10, kn, kr, kk, kd, kl, kl2, kq, kq2, kq3⟩
            case s2 =>
              rintro L a wr ⟨hst, hsz, q8, q0, q3, hF⟩ hL hdp K hK
              have ev := fun (d t : Nat) (v : Value) (hd : d < 73) => eval_put a d t v (by omega)
              obtain ⟨b, h1, h4, h5, h8, h9, h10, h11, f0, f1, f2, f3, f4, f5, f6, f7, f8, f9, f10, kn, kr, kk, kd, kl, kl2, kq, kq2, kq3⟩ := hF
              have t0 := q0
              rw [eval_tmp, Array.getD_eq_getD_getElem?] at t0
              refine step_value (v := .pointer (some ⟨p, 0, none⟩)) (w' := wr) rfl (by go_simp) ?_
              refine hK _ _ ⟨hst.put 49 _ (by decide), by simpa [Act.put] using hsz, (ev 49 8 _ (by decide)).trans q8, (ev 49 0 _ (by decide)).trans q0, (ev 49 3 _ (by decide)).trans q3, ?_⟩
              simp only [ev 49 _ _ (by decide)]
              exact ⟨b, h1, h4, fun e => absurd ((h5 e).1.symm.trans hL) (by decide), h8, h9, h10, h11, f0, f1, fun _ => rfl, f3, f4, f5, f6, f7, f8, f9, f10, kn, kr, kk, kd, kl, kl2, kq, kq2, kq3⟩
            case s3 =>
              rintro L a wr ⟨hst, hsz, q8, q0, q3, hF⟩ hL hdp K hK
              have ev := fun (d t : Nat) (v : Value) (hd : d < 73) => eval_put a d t v (by omega)
              obtain ⟨b, h1, h4, h5, h8, h9, h10, h11, f0, f1, f2, f3, f4, f5, f6, f7, f8, f9, f10, kn, kr, kk, kd, kl, kl2, kq, kq2, kq3⟩ := hF
              have t3 := q3
              rw [eval_tmp, Array.getD_eq_getD_getElem?] at t3
              refine step_value (v := .slice KA (1 + x) kc) (w' := wr) rfl (by go_simp) ?_
              refine hK _ _ ⟨hst.put 50 _ (by decide), by simpa [Act.put] using hsz, (ev 50 8 _ (by decide)).trans q8, (ev 50 0 _ (by decide)).trans q0, (ev 50 3 _ (by decide)).trans q3, ?_⟩
              simp only [ev 50 _ _ (by decide)]
              exact ⟨b, h1, fun e => absurd ((h4 e).symm.trans hL) (by decide), h5, h8, h9, h10, h11, f0, f1, f2, fun _ => rfl, f4, f5, f6, f7, f8, f9, f10, kn, kr, kk, kd, kl, kl2, kq, kq2, kq3⟩
            case s4 =>
              rintro L a wr ⟨hst, hsz, q8, q0, q3, hF⟩ hL hdp K hK
              have ev := fun (d t : Nat) (v : Value) (hd : d < 73) => eval_put a d t v (by omega)
              have d3 : L 3 = true := hdp ⟨3, .data⟩ (by simp) rfl
              obtain ⟨b, h1, h4, h5, h8, h9, h10, h11, f0, f1, f2, f3, f4, f5, f6, f7, f8, f9, f10, kn, kr, kk, kd, kl, kl2, kq, kq2, kq3⟩ := hF
              have t50 := f3 d3
              rw [eval_tmp, Array.getD_eq_getD_getElem?] at t50
              refine step_value (v := .int .i64 (1 + (x : Int))) (w' := wr) rfl (by go_simp) ?_
              refine hK _ _ ⟨hst.put 51 _ (by decide), by simpa [Act.put] using hsz, (ev 51 8 _ (by decide)).trans q8, (ev 51 0 _ (by decide)).trans q0, (ev 51 3 _ (by decide)).trans q3, ?_⟩
              simp only [ev 51 _ _ (by decide)]
              exact ⟨b, h1, fun _ => d3, fun e => absurd ((h5 e).2.symm.trans hL) (by decide), h8, h9, h10, h11, f0, f1, f2, f3, fun _ => rfl, f5, f6, f7, f8, f9, f10, kn, kr, kk, kd, kl, kl2, kq, kq2, kq3⟩
            case s5 =>
              rintro L a wr ⟨hst, hsz, q8, q0, q3, hF⟩ hL hdp K hK
              have ev := fun (d t : Nat) (v : Value) (hd : d < 73) => eval_put a d t v (by omega)
              have d2 : L 2 = true := hdp ⟨2, .data⟩ (by simp) rfl
              have d4 : L 4 = true := hdp ⟨4, .data⟩ (by simp) rfl
              obtain ⟨b, h1, h4, h5, h8, h9, h10, h11, f0, f1, f2, f3, f4, f5, f6, f7, f8, f9, f10, kn, kr, kk, kd, kl, kl2, kq, kq2, kq3⟩ := hF
              have t49 := f2 d2
              have t51 := f4 d4
              have t49 := f2 d2
              have t51 := f4 d4
              rw [eval_tmp, Array.getD_eq_getD_getElem?] at t49 t51
              have HKQ := Lib.hid (kq hL)
              refine step_enter (f := 59) (args := #[.pointer (some ⟨p, 0, none⟩), .int .i64 (1 + (x : Int))]) (w' := wr) rfl (by go_simp) ?_
              refine (pick_any p A bs c (M + 2 + 4 * (1 + x) + 2) (1 + (x : Int)) wr HKQ.out (by omega) (by omega) (by omega)).mono ?_
              rintro e w9 ⟨z, hz, rfl, hc9, hg9⟩
              refine ⟨_, rfl, ?_⟩
              refine hK _ _ ⟨hst.put 52 _ (by decide), by simpa [Act.put] using hsz, (ev 52 8 _ (by decide)).trans q8, (ev 52 0 _ (by decide)).trans q0, (ev 52 3 _ (by decide)).trans q3, ?_⟩
              simp only [ev 52 _ _ (by decide)]
              exact ⟨near_step b hg9 (fun k hk => .inl hk.symm), h1, h4, fun _ => ⟨d2, d4⟩, h8, fun e => absurd ((h9 e).2.2.symm.trans hL) (by decide), fun e => absurd ((h10 e).2.symm.trans hL) (by decide), h11, f0, f1, f2, f3, f4, fun _ => ⟨z, rfl, by omega⟩, f6, f7, f8, fun e => absurd ((h9 e).2.2.symm.trans hL) (by decide), fun e => absurd ((h10 e).2.symm.trans hL) (by decide), HKQ.out.blk_ kn hg9 (by decide), HKQ.out.blk_ kr hg9 (by decide), Cur.row HKQ.out kk hg9 (by decide), Cur.row HKQ.out kd hg9 (by decide), fun e => Cur.row HKQ.out (kl e) hg9 (by decide), fun e => (kl2 e).imp fun l h => ⟨h.1, Cur.row HKQ.out h.2 hg9 (by decide)⟩, fun e => absurd ((upd_self L 5).symm.trans e) (by decide), fun _ _ => hc9, fun e => absurd ((h9 e).2.2.symm.trans hL) (by decide)⟩
            case s6 =>
              rintro L a wr ⟨hst, hsz, q8, q0, q3, hF⟩ hL hdp K hK
              have ev := fun (d t : Nat) (v : Value) (hd : d < 73) => eval_put a d t v (by omega)
              obtain ⟨b, h1, h4, h5, h8, h9, h10, h11, f0, f1, f2, f3, f4, f5, f6, f7, f8, f9, f10, kn, kr, kk, kd, kl, kl2, kq, kq2, kq3⟩ := hF
              have t0 := q0
              rw [eval_tmp, Array.getD_eq_getD_getElem?] at t0
              refine step_value (v := .pointer (some ⟨p, 0, none⟩)) (w' := wr) rfl (by go_simp) ?_
              refine hK _ _ ⟨hst.put 53 _ (by decide), by simpa [Act.put] using hsz, (ev 53 8 _ (by decide)).trans q8, (ev 53 0 _ (by decide)).trans q0, (ev 53 3 _ (by decide)).trans q3, ?_⟩
              simp only [ev 53 _ _ (by decide)]
              exact ⟨b, h1, h4, h5, h8, fun e => absurd ((h9 e).1.symm.trans hL) (by decide), h10, h11, f0, f1, f2, f3, f4, f5, fun _ => rfl, f7, f8, f9, f10, kn, kr, kk, kd, kl, kl2, kq, kq2, kq3⟩
            case s7 =>
              rintro L a wr ⟨hst, hsz, q8, q0, q3, hF⟩ hL hdp K hK
              have ev := fun (d t : Nat) (v : Value) (hd : d < 73) => eval_put a d t v (by omega)
              obtain ⟨b, h1, h4, h5, h8, h9, h10, h11, f0, f1, f2, f3, f4, f5, f6, f7, f8, f9, f10, kn, kr, kk, kd, kl, kl2, kq, kq2, kq3⟩ := hF
              have t3 := q3
              rw [eval_tmp, Array.getD_eq_getD_getElem?] at t3
              refine step_value (v := .slice KA (1 + x) kc) (w' := wr) rfl (by go_simp) ?_
              refine hK _ _ ⟨hst.put 54 _ (by decide), by simpa [Act.put] using hsz, (ev 54 8 _ (by decide)).trans q8, (ev 54 0 _ (by decide)).trans q0, (ev 54 3 _ (by decide)).trans q3, ?_⟩
              simp only [ev 54 _ _ (by decide)]
              exact ⟨b, h1, h4, h5, fun e => absurd ((h8 e).symm.trans hL) (by decide), h9, h10, h11, f0, f1, f2, f3, f4, f5, f6, fun _ => rfl, f8, f9, f10, kn, kr, kk, kd, kl, kl2, kq, kq2, kq3⟩
            case s8 =>
              rintro L a wr ⟨hst, hsz, q8, q0, q3, hF⟩ hL hdp K hK
              have ev := fun (d t : Nat) (v : Value) (hd : d < 73) => eval_put a d t v (by omega)
              have d7 : L 7 = true := hdp ⟨7, .data⟩ (by simp) rfl
              obtain ⟨b, h1, h4, h5, h8, h9, h10, h11, f0, f1, f2, f3, f4, f5, f6, f7, f8, f9, f10, kn, kr, kk, kd, kl, kl2, kq, kq2, kq3⟩ := hF
              have t54 := f7 d7
              rw [eval_tmp, Array.getD_eq_getD_getElem?] at t54
              refine step_value (v := .int .i64 (1 + (x : Int))) (w' := wr) rfl (by go_simp) ?_
              refine hK _ _ ⟨hst.put 55 _ (by decide), by simpa [Act.put] using hsz, (ev 55 8 _ (by decide)).trans q8, (ev 55 0 _ (by decide)).trans q0, (ev 55 3 _ (by decide)).trans q3, ?_⟩
              simp only [ev 55 _ _ (by decide)]
              exact ⟨b, h1, h4, h5, fun _ => d7, fun e => absurd ((h9 e).2.1.symm.trans hL) (by decide), h10, h11, f0, f1, f2, f3, f4, f5, f6, f7, fun _ => rfl, f9, f10, kn, kr, kk, kd, kl, kl2, kq, kq2, kq3⟩
            case s9 =>
              rintro L a wr ⟨hst, hsz, q8, q0, q3, hF⟩ hL hdp K hK
              have ev := fun (d t : Nat) (v : Value) (hd : d < 73) => eval_put a d t v (by omega)
              have d6 : L 6 = true := hdp ⟨6, .data⟩ (by simp) rfl
              have d8 : L 8 = true := hdp ⟨8, .data⟩ (by simp) rfl
              have d5 : L 5 = true := hdp ⟨5, .chain⟩ (by simp) rfl
              obtain ⟨b, h1, h4, h5, h8, h9, h10, h11, f0, f1, f2, f3, f4, f5, f6, f7, f8, f9, f10, kn, kr, kk, kd, kl, kl2, kq, kq2, kq3⟩ := hF
              have t53 := f6 d6
              have t55 := f8 d8
              have t53 := f6 d6
              have t55 := f8 d8
              rw [eval_tmp, Array.getD_eq_getD_getElem?] at t53 t55
              have HKQ := Lib.hid (kq2 d5 hL)
              refine step_enter (f := 59) (args := #[.pointer (some ⟨p, 0, none⟩), .int .i64 (1 + (x : Int))]) (w' := wr) rfl (by go_simp) ?_
              refine (pick_any p A bs c (M + 2 + 4 * (1 + x) + 2 + 2) (1 + (x : Int)) wr HKQ.out (by omega) (by omega) (by omega)).mono ?_
              rintro e w9 ⟨z, hz, rfl, hc9, hg9⟩
              refine ⟨_, rfl, ?_⟩
              refine hK _ _ ⟨hst.put 56 _ (by decide), by simpa [Act.put] using hsz, (ev 56 8 _ (by decide)).trans q8, (ev 56 0 _ (by decide)).trans q0, (ev 56 3 _ (by decide)).trans q3, ?_⟩
              simp only [ev 56 _ _ (by decide)]
              exact ⟨near_step b hg9 (fun k hk => .inl hk.symm), h1, h4, h5, h8, fun _ => ⟨d6, d8, d5⟩, h10, fun e => absurd ((h11 e).2.symm.trans hL) (by decide), f0, f1, f2, f3, f4, f5, f6, f7, f8, fun _ => ⟨z, rfl⟩, f10, HKQ.out.blk_ kn hg9 (by decide), HKQ.out.blk_ kr hg9 (by decide), Cur.row HKQ.out kk hg9 (by decide), Cur.row HKQ.out kd hg9 (by decide), fun e => Cur.row HKQ.out (kl e) hg9 (by decide), fun e => (kl2 e).imp fun l h => ⟨h.1, Cur.row HKQ.out h.2 hg9 (by decide)⟩, fun e => absurd (d5.symm.trans e) (by decide), fun _ e => absurd ((upd_self L 9).symm.trans e) (by decide), fun _ => hc9⟩
            case s10 =>
              rintro L a wr ⟨hst, hsz, q8, q0, q3, hF⟩ hL hdp K hK
              have ev := fun (d t : Nat) (v : Value) (hd : d < 73) => eval_put a d t v (by omega)
              have d1 : L 1 = true := hdp ⟨1, .data⟩ (by simp) rfl
              have d5 : L 5 = true := hdp ⟨5, .data⟩ (by simp) rfl
              obtain ⟨b, h1, h4, h5, h8, h9, h10, h11, f0, f1, f2, f3, f4, f5, f6, f7, f8, f9, f10, kn, kr, kk, kd, kl, kl2, kq, kq2, kq3⟩ := hF
              have t48 := f1 d1
              have t48 := f1 d1
              obtain ⟨z, ez, hz⟩ := f5 d5
              have t52 := ez
              rw [eval_tmp, Array.getD_eq_getD_getElem?] at t48 t52
              have hz1 : (z : Int) < 1 + (x : Int) := by omega
              refine step_value (v := .pointer (some ⟨gL, z, none⟩)) (w' := wr) rfl (by go_simp) ?_
              refine hK _ _ ⟨hst.put 57 _ (by decide), by simpa [Act.put] using hsz, (ev 57 8 _ (by decide)).trans q8, (ev 57 0 _ (by decide)).trans q0, (ev 57 3 _ (by decide)).trans q3, ?_⟩
              simp only [ev 57 _ _ (by decide)]
              exact ⟨b, h1, h4, h5, h8, h9, fun _ => ⟨d1, d5⟩, fun e => absurd ((h11 e).1.symm.trans hL) (by decide), f0, f1, f2, f3, f4, f5, f6, f7, f8, f9, fun _ => ⟨z, rfl, hz⟩, kn, kr, kk, kd, kl, kl2, kq, kq2, kq3⟩
            case s11 =>
              rintro L a wr ⟨hst, hsz, q8, q0, q3, hF⟩ hL hdp K hK
              have ev := fun (d t : Nat) (v : Value) (hd : d < 73) => eval_put a d t v (by omega)
              have d10 : L 10 = true := hdp ⟨10, .data⟩ (by simp) rfl
              have d9 : L 9 = true := hdp ⟨9, .data⟩ (by simp) rfl
              obtain ⟨b, h1, h4, h5, h8, h9, h10, h11, f0, f1, f2, f3, f4, f5, f6, f7, f8, f9, f10, kn, kr, kk, kd, kl, kl2, kq, kq2, kq3⟩ := hF
              obtain ⟨z, ez, hz⟩ := f10 d10
              obtain ⟨u, eu⟩ := f9 d9
              have t57 := ez
              have t56 := eu
              rw [eval_tmp, Array.getD_eq_getD_getElem?] at t57 t56
              have hs := (kl hL).stored z (.int .i64 (u : Nat))
              have hq := (kl hL).cellAt z (by omega)
              rw [ints_get (by omega)] at hq
              have hfz := (kl hL).frozenAt z
              have hgl := (own_lt (kl hL) gL rfl)
              refine step_skip (w' := wr.setCell ⟨gL, z, none⟩ (.int .i64 (u : Nat))) rfl (by go_simp) ?_
              refine hK _ _ ⟨hst.put_none _, hsz, q8, q0, q3, ?_⟩
              exact ⟨near_below b (Below.setCell (p := ⟨gL, z, none⟩) (Below.refl w.heap.size wr) hgl.1 _) (Nat.le_refl _), h1, h4, h5, h8, h9, h10, fun _ => ⟨d10, d9⟩, f0, f1, f2, f3, f4, f5, f6, f7, f8, f9, f10, kn.far (p := ⟨gL, z, none⟩) (fun e => own_blk_ne (kl hL) kn (by decide) (by rw [e]; rfl)) _, kr.far (p := ⟨gL, z, none⟩) (fun e => own_blk_ne (kl hL) kr (by decide) (by rw [e]; rfl)) _, kk.kept hs.2 hTne, kd.kept hs.2 (own_ne_type kd (kl hL) (by decide)), fun e => absurd ((upd_self L 11).symm.trans e) (by decide), fun _ => ⟨ls.set z (u : Nat), by rw [List.length_set]; exact hLL.out, by have h9 := hs.1; rw [show (ints ls).set z (.int .i64 (u : Nat)) = ints (ls.set z (u : Nat)) from by simp [ints, List.map_set]] at h9; exact h9⟩, fun e => absurd ((h9 d9).2.2.symm.trans e) (by decide), fun _ e => absurd (d9.symm.trans e) (by decide), fun e => (kq3 e).below (Below.setCell (p := ⟨gL, z, none⟩) (Below.refl w.heap.size wr) hgl.1 _) hplt⟩
        case neg =>
          have y1' : ((y : Int) == 1) = false := by simp; omega
          by_cases y2 : y = 2
          case pos =>
            subst y2
            obtain ⟨gK, cK2, eK, -, -, -⟩ := own_some hKb (by omega)
            cases eK
            have hks := HK.out
            have hx9 : (0 : Int) < 1 + (x : Int) := by omega
            go_upto_region 19 with fail
            refine wp_region_inv' (fun a0 L a wr => St a0 a [60, 61, 62, 63, 64, 65] ∧ 72 < a.tmps.size ∧ a.eval (.tmp 8) = .pointer (some ⟨gN, 0, none⟩) ∧ a.eval (.tmp 0) = .pointer (some ⟨p, 0, none⟩) ∧ TrKey w p A bs c (M + 2 + 4 * (1 + x) + 2) x gN gL gK cK AD cD W ks ds ls L wr (a.eval (.tmp 60)) (a.eval (.tmp 61)) (a.eval (.tmp 62)) (a.eval (.tmp 63)) (a.eval (.tmp 64)) (a.eval (.tmp 65))) (by kernel_rfl) (by kernel_rfl) ?start ?steps ?ends
            case start =>
              refine ⟨St.refl _ _, Nat.le_of_ble_eq_true rfl, rfl, rfl, ⟨hGb.os, hGb.tape, hGb.output, hGb.size, hGb.block⟩, ?_, ?_, ?_, ?_, ?_, ?_, ?_, ?_, ?_, ?_, hNb, HRb.out, fun _ => hKb, ?_, hDb, hLb, fun _ => ⟨HCb.out.blk, HCb.out.code, HCb.out.byte, HCb.out.len⟩, ?_⟩
              all_goals (intro e; first | (cases e; done) | rfl | assumption)
            case ends =>
              rintro L a wr ⟨hst, hsz, q8, q0, b, h1, h4, h5, h6, f0, f1, f2, f3, f4, f5, kn, kr, kk, kk2, kd, kl, kq, kq2⟩ hall
              have hCz := kq2 (hall 4 (by decide))
              obtain ⟨k2, hk2, hKe⟩ := kk2 (hall 6 (by decide))
              have HK2 := Lib.hid hk2
              have hLe := kl; have hDe := kd; have HRe := Lib.hid kr; have hNe := kn; have hGe := b; have HCe := Lib.hid hCz
              clear hCz hk2
              have heq := hst.eq
              simp only [List.foldl_cons, List.foldl_nil] at heq
              clear hKb hDb hLb HRb HCb hGb hNb b hst hall hsz q8 q0 h1 h4 h5 h6 f0 f1 f2 f3 f4 f5 kn kr kk kk2 kd kl kq kq2
              generalize a.eval (.tmp 60) = u60 at *
              generalize a.eval (.tmp 61) = u61 at *
              generalize a.eval (.tmp 62) = u62 at *
              generalize a.eval (.tmp 63) = u63 at *
              generalize a.eval (.tmp 64) = u64 at *
              generalize a.eval (.tmp 65) = u65 at *
              simp only [Act.put, List.setIfInBounds_toArray, List.set_cons_zero, List.set_cons_succ] at heq
              subst heq
              have hb5 := blk4 (a' := .slice (some ⟨gK, 0, none⟩) (1 + x) cK) (b' := .slice AD (1 + x) cD) (c' := .slice (some ⟨gL, 0, none⟩) (1 + x) (1 + x)) (d' := .int .i64 W) HRe.out
              obtain ⟨r0, r1, r2, r3⟩ := hb5.four
              have R0 := Lib.hid r0; have R1 := Lib.hid r1; have R2 := Lib.hid r2; have R3 := Lib.hid r3
              have HKF := Lib.hid (own4 hKe HRe.out (by decide) (.slice (some ⟨gK, 0, none⟩) (1 + x) cK) (.slice AD (1 + x) cD) (.slice (some ⟨gL, 0, none⟩) (1 + x) (1 + x)) (.int .i64 W))
              have HDF := Lib.hid (own4 hDe HRe.out (by decide) (.slice (some ⟨gK, 0, none⟩) (1 + x) cK) (.slice AD (1 + x) cD) (.slice (some ⟨gL, 0, none⟩) (1 + x) (1 + x)) (.int .i64 W))
              have HLF := Lib.hid (own4 hLe HRe.out (by decide) (.slice (some ⟨gK, 0, none⟩) (1 + x) cK) (.slice AD (1 + x) cD) (.slice (some ⟨gL, 0, none⟩) (1 + x) (1 + x)) (.int .i64 W))
              have hb6 := below4 (Below.refl w.heap.size wr) (Nat.le_refl _) (.slice (some ⟨gK, 0, none⟩) (1 + x) cK) (.slice AD (1 + x) cD) (.slice (some ⟨gL, 0, none⟩) (1 + x) (1 + x)) (.int .i64 W)
              have HCF := Lib.hid (HCe.out.below hb6 hplt)
              have HGF := Lib.hid (near_below hGe hb6 (Nat.le_refl _))
              obtain ⟨z0, z1, z2, z3⟩ := HRe.out.four
              obtain ⟨f0, f1, f2, f3⟩ := HRe.out.ice
              have zl := HRe.out.lt
              obtain ⟨n0, n1, n2, n3⟩ := hNe.four
              have nl := hNe.lt
              clear hb5 hb6 r0 r1 r2 r3 hKe hDe hLe hNe hGe
              go_wp2_with fail
              exact bodyPost_ret (v := .agg #[.slice (some ⟨gK, 0, none⟩) (1 + x) cK, .slice AD (1 + x) cD, .slice (some ⟨gL, 0, none⟩) (1 + x) (1 + x), .int .i64 W]) (by simp [results, Try.results89, go_sem, R0.out, R1.out, R2.out, R3.out]) rfl ⟨(some ⟨gK, 0, none⟩), k2, cK, .slice AD (1 + x) cD, ds, some ⟨gL, 0, none⟩, ls, 1 + x, W, by rw [HK2.out, hLL.out], by rw [HK2.out]; exact HKF.out, .inl ⟨AD, cD, by rw [HD.out], by rw [HD.out]; exact HDF.out⟩, by rw [hLL.out]; exact HLF.out, by rw [HK2.out]; omega, by rw [HD.out]; omega, by rw [hLL.out]; omega, HCF.out.more (by omega), HGF.out⟩

            case steps =>
              refine ⟨?s0, ?s1, ?s2, ?s3, ?s4, ?s5, ?s6, trivial⟩
              case s0 =>
                rintro L a wr ⟨hst, hsz, q8, q0, hF⟩ hL hdp K hK
                have ev := fun (d t : Nat) (v : Value) (hd : d < 73) => eval_put a d t v (by omega)
                obtain ⟨b, h1, h4, h5, h6, f0, f1, f2, f3, f4, f5, kn, kr, kk, kk2, kd, kl, kq, kq2⟩ := hF
                have t8 := q8
                rw [eval_tmp, Array.getD_eq_getD_getElem?] at t8
                refine step_value (v := .pointer (some ⟨gN, 0, none⟩)) (w' := wr) rfl (by go_simp) ?_
                refine hK _ _ ⟨hst.put 60 _ (by decide), by simpa [Act.put] using hsz, (ev 60 8 _ (by decide)).trans q8, (ev 60 0 _ (by decide)).trans q0, ?_⟩
                simp only [ev 60 _ _ (by decide)]
                exact ⟨b, fun e => absurd ((h1 e).symm.trans hL) (by decide), h4, h5, h6, fun _ => rfl, f1, f2, f3, f4, f5, kn, kr, kk, kk2, kd, kl, kq, kq2⟩
              case s1 =>
                rintro L a wr ⟨hst, hsz, q8, q0, hF⟩ hL hdp K hK
                have ev := fun (d t : Nat) (v : Value) (hd : d < 73) => eval_put a d t v (by omega)
                have d0 : L 0 = true := hdp ⟨0, .data⟩ (by simp) rfl
                obtain ⟨b, h1, h4, h5, h6, f0, f1, f2, f3, f4, f5, kn, kr, kk, kk2, kd, kl, kq, kq2⟩ := hF
                have t60 := f0 d0
                rw [eval_tmp, Array.getD_eq_getD_getElem?] at t60
                obtain ⟨n0, n1, n2, n3⟩ := kn.four
                refine step_value (v := .slice (some ⟨gK, 0, none⟩) (1 + x) cK) (w' := wr) rfl (by go_simp) ?_
                refine hK _ _ ⟨hst.put 61 _ (by decide), by simpa [Act.put] using hsz, (ev 61 8 _ (by decide)).trans q8, (ev 61 0 _ (by decide)).trans q0, ?_⟩
                simp only [ev 61 _ _ (by decide)]
                exact ⟨b, fun _ => d0, h4, fun e => absurd ((h5 e).symm.trans hL) (by decide), h6, f0, fun _ => rfl, f2, f3, f4, f5, kn, kr, kk, kk2, kd, kl, kq, kq2⟩
              case s2 =>
                rintro L a wr ⟨hst, hsz, q8, q0, hF⟩ hL hdp K hK
                have ev := fun (d t : Nat) (v : Value) (hd : d < 73) => eval_put a d t v (by omega)
                obtain ⟨b, h1, h4, h5, h6, f0, f1, f2, f3, f4, f5, kn, kr, kk, kk2, kd, kl, kq, kq2⟩ := hF
                have t0 := q0
                rw [eval_tmp, Array.getD_eq_getD_getElem?] at t0
                refine step_value (v := .pointer (some ⟨p, 0, none⟩)) (w' := wr) rfl (by go_simp) ?_
                refine hK _ _ ⟨hst.put 62 _ (by decide), by simpa [Act.put] using hsz, (ev 62 8 _ (by decide)).trans q8, (ev 62 0 _ (by decide)).trans q0, ?_⟩
                simp only [ev 62 _ _ (by decide)]
                exact ⟨b, h1, fun e => absurd ((h4 e).1.symm.trans hL) (by decide), h5, h6, f0, f1, fun _ => rfl, f3, f4, f5, kn, kr, kk, kk2, kd, kl, kq, kq2⟩
              case s3 =>
                rintro L a wr ⟨hst, hsz, q8, q0, hF⟩ hL hdp K hK
                have ev := fun (d t : Nat) (v : Value) (hd : d < 73) => eval_put a d t v (by omega)
                obtain ⟨b, h1, h4, h5, h6, f0, f1, f2, f3, f4, f5, kn, kr, kk, kk2, kd, kl, kq, kq2⟩ := hF
                refine step_value (v := .slice (some ⟨wr.heap.size, 0, none⟩) 3 3) (w' := wr.alloc (.cells #[.int .i64 0, .int .i64 3, .int .i64 100001] 3)) rfl (by go_simp) ?_
                refine hK _ _ ⟨hst.put 63 _ (by decide), by simpa [Act.put] using hsz, (ev 63 8 _ (by decide)).trans q8, (ev 63 0 _ (by decide)).trans q0, ?_⟩
                simp only [ev 63 _ _ (by decide)]
                exact ⟨near_step b (World.grownBy_alloc wr _ (some p)) (fun k hk => .inl hk.symm), h1, fun e => absurd ((h4 e).2.symm.trans hL) (by decide), h5, h6, f0, f1, f2, fun _ => ⟨wr.heap.size, rfl, fun _ w9 hg => lit_hold (w := wr) (w' := w9) (T := 3) (zs := [0, 3, 100001]) (Nat.lt_of_lt_of_le hplt b.size) hg⟩, f4, f5, kn.alloc _, kr.alloc _, fun e => (kk e).alloc _, fun e => (kk2 e).imp fun l h => ⟨h.1, h.2.alloc _⟩, kd.alloc _, kl.alloc _, fun e => (kq e).alloc _, fun e => absurd ((h4 e).2.symm.trans hL) (by decide)⟩
              case s4 =>
                rintro L a wr ⟨hst, hsz, q8, q0, hF⟩ hL hdp K hK
                have ev := fun (d t : Nat) (v : Value) (hd : d < 73) => eval_put a d t v (by omega)
                have d2 : L 2 = true := hdp ⟨2, .data⟩ (by simp) rfl
                have d3 : L 3 = true := hdp ⟨3, .data⟩ (by simp) rfl
                obtain ⟨b, h1, h4, h5, h6, f0, f1, f2, f3, f4, f5, kn, kr, kk, kk2, kd, kl, kq, kq2⟩ := hF
                have t62 := f2 d2
                have t62 := f2 d2
                obtain ⟨g, eg, hgr⟩ := f3 d3
                have t63 := eg
                rw [eval_tmp, Array.getD_eq_getD_getElem?] at t62 t63
                have HKQ := Lib.hid (kq hL)
                refine step_enter (f := 77) (args := #[.pointer (some ⟨p, 0, none⟩), .slice (some ⟨g, 0, none⟩) 3 3]) (w' := wr) rfl (by go_simp) ?_
                refine (among_any p A bs c (M + 2 + 4 * (1 + x) + 2) (some ⟨g, 0, none⟩) [0, 3, 100001] 3 wr HKQ.out (by omega) (hgr hL _ (near_refl _ _)) (by decide) (by decide) (hgr hL)).mono ?_
                rintro e w9 ⟨z, hz, rfl, hc9, hg9⟩
                refine ⟨_, rfl, ?_⟩
                refine hK _ _ ⟨hst.put 64 _ (by decide), by simpa [Act.put] using hsz, (ev 64 8 _ (by decide)).trans q8, (ev 64 0 _ (by decide)).trans q0, ?_⟩
                simp only [ev 64 _ _ (by decide)]
                exact ⟨near_step b hg9 (fun k hk => .inl hk.symm), h1, fun _ => ⟨d2, d3⟩, h5, fun e => absurd ((h6 e).2.symm.trans hL) (by decide), f0, f1, f2, fun e => (f3 e).imp fun g h => ⟨h.1, fun e2 => absurd ((upd_self L 4).symm.trans e2) (by decide)⟩, fun _ => ⟨z, rfl⟩, f5, HKQ.out.blk_ kn hg9 (by decide), HKQ.out.blk_ kr hg9 (by decide), fun e => Cur.row HKQ.out (kk e) hg9 (by decide), fun e => (kk2 e).imp fun l h => ⟨h.1, Cur.row HKQ.out h.2 hg9 (by decide)⟩, Cur.row HKQ.out kd hg9 (by decide), Cur.row HKQ.out kl hg9 (by decide), fun e => absurd ((upd_self L 4).symm.trans e) (by decide), fun _ => hc9⟩
              case s5 =>
                rintro L a wr ⟨hst, hsz, q8, q0, hF⟩ hL hdp K hK
                have ev := fun (d t : Nat) (v : Value) (hd : d < 73) => eval_put a d t v (by omega)
                have d1 : L 1 = true := hdp ⟨1, .data⟩ (by simp) rfl
                obtain ⟨b, h1, h4, h5, h6, f0, f1, f2, f3, f4, f5, kn, kr, kk, kk2, kd, kl, kq, kq2⟩ := hF
                have t61 := f1 d1
                rw [eval_tmp, Array.getD_eq_getD_getElem?] at t61
                refine step_value (v := .pointer (some ⟨gK, 0, none⟩)) (w' := wr) rfl (by go_simp) ?_
                refine hK _ _ ⟨hst.put 65 _ (by decide), by simpa [Act.put] using hsz, (ev 65 8 _ (by decide)).trans q8, (ev 65 0 _ (by decide)).trans q0, ?_⟩
                simp only [ev 65 _ _ (by decide)]
                exact ⟨b, h1, h4, fun _ => d1, fun e => absurd ((h6 e).1.symm.trans hL) (by decide), f0, f1, f2, f3, f4, fun _ => rfl, kn, kr, kk, kk2, kd, kl, kq, kq2⟩
              case s6 =>
                rintro L a wr ⟨hst, hsz, q8, q0, hF⟩ hL hdp K hK
                have ev := fun (d t : Nat) (v : Value) (hd : d < 73) => eval_put a d t v (by omega)
                have d5 : L 5 = true := hdp ⟨5, .data⟩ (by simp) rfl
                have d4 : L 4 = true := hdp ⟨4, .data⟩ (by simp) rfl
                obtain ⟨b, h1, h4, h5, h6, f0, f1, f2, f3, f4, f5, kn, kr, kk, kk2, kd, kl, kq, kq2⟩ := hF
                have t65 := f5 d5
                have t65 := f5 d5
                obtain ⟨u, eu⟩ := f4 d4
                have t64 := eu
                rw [eval_tmp, Array.getD_eq_getD_getElem?] at t65 t64
                have hs := (kk hL).stored 0 (.int .i64 u)
                have hq := (kk hL).cellAt 0 (by omega)
                rw [ints_get (by omega)] at hq
                have hfz := (kk hL).frozenAt 0
                have hgl := (own_lt (kk hL) gK rfl)
                refine step_skip (w' := wr.setCell ⟨gK, 0, none⟩ (.int .i64 u)) rfl (by go_simp) ?_
                refine hK _ _ ⟨hst.put_none _, hsz, q8, q0, ?_⟩
                exact ⟨near_below b (Below.setCell (p := ⟨gK, 0, none⟩) (Below.refl w.heap.size wr) hgl.1 _) (Nat.le_refl _), h1, h4, h5, fun _ => ⟨d5, d4⟩, f0, f1, f2, fun e => (f3 e).imp fun g h => ⟨h.1, fun e2 => absurd (d4.symm.trans e2) (by decide)⟩, f4, f5, kn.far (p := ⟨gK, 0, none⟩) (fun e => own_blk_ne (kk hL) kn (by decide) (by rw [e]; rfl)) _, kr.far (p := ⟨gK, 0, none⟩) (fun e => own_blk_ne (kk hL) kr (by decide) (by rw [e]; rfl)) _, fun e => absurd ((upd_self L 6).symm.trans e) (by decide), fun _ => ⟨ks.set 0 u, by rw [List.length_set]; exact HK.out, by have h9 := hs.1; rw [show (ints ks).set 0 (.int .i64 u) = ints (ks.set 0 u) from by simp [ints, List.map_set]] at h9; exact h9⟩, kd.kept hs.2 (own_ne_type kd (kk hL) (by decide)), kl.kept hs.2 (.inr (fun e => hTne.elim (fun h => by cases h) (fun h => h e.symm))), fun e => absurd (d4.symm.trans e) (by decide), fun e => (kq2 e).below (Below.setCell (p := ⟨gK, 0, none⟩) (Below.refl w.heap.size wr) hgl.1 _) hplt⟩
          case neg =>
            have y2' : ((y : Int) == 2) = false := by simp; omega
            by_cases y3 : y = 3
            case pos =>
              subst y3
              obtain ⟨gD, cD2, eD, -, -, -⟩ := own_some hDb (by omega)
              cases eD
              have hcap := own_cap hDb
              have hx1 : (1 : Int) ≤ (1 : Int) + (x : Int) := by omega
              have hx2 : ¬ (1 : Int) + (x : Int) < 1 := by omega
              have hx3 : ¬ (cD : Int) < 1 := by omega
              have HCAP := Lib.hid hcap
              clear hcap
              obtain ⟨q0, q1, q2, q3⟩ := hNb.four
              obtain ⟨i0', i1', i2', i3'⟩ := hNb.ice
              have ql := hNb.lt
              by_cases hc1 : cD = 1
              case pos =>
                have hNd : Blk (w4.setCell ⟨gN, 1, none⟩ (.slice (some ⟨gD, 0, none⟩) x 0)) gN 57 #[.slice AK (1 + x) cK, .slice (some ⟨gD, 0, none⟩) x 0, .slice (some ⟨gL, 0, none⟩) (1 + x) (1 + x), .int .i64 W] := by simpa using hNb.set_ 1 (.slice (some ⟨gD, 0, none⟩) x 0)
                have hKd := own_setCell (p := ⟨gN, 1, none⟩) hKb (own_blk_ne hKb hNb (by decide)) (.slice (some ⟨gD, 0, none⟩) x 0)
                have hDd := own_setCell (p := ⟨gN, 1, none⟩) hDb (own_blk_ne hDb hNb (by decide)) (.slice (some ⟨gD, 0, none⟩) x 0)
                have hLd := own_setCell (p := ⟨gN, 1, none⟩) hLb (own_blk_ne hLb hNb (by decide)) (.slice (some ⟨gD, 0, none⟩) x 0)
                have HRd := Lib.hid (HRb.out.far (p := ⟨gN, 1, none⟩) (by show _ ≠ gN; omega) (.slice (some ⟨gD, 0, none⟩) x 0))
                have hb9 := Below.setCell (p := ⟨gN, 1, none⟩) (Below.refl w.heap.size w4) (by show _ ≤ gN; omega) (.slice (some ⟨gD, 0, none⟩) x 0)
                have HCd := Lib.hid (HCb.out.below hb9 hplt)
                have hGd := near_below hGb hb9 (Nat.le_refl _)
                clear hKb hDb hLb HRb HCb hGb hb9 hNb
                have hb5 := blk4 (a' := .slice AK (1 + x) cK) (b' := .slice (some ⟨gD, 0, none⟩) x 0) (c' := .slice (some ⟨gL, 0, none⟩) (1 + x) (1 + x)) (d' := .int .i64 W) HRd.out
                obtain ⟨r0, r1, r2, r3⟩ := hb5.four
                have R0 := Lib.hid r0; have R1 := Lib.hid r1; have R2 := Lib.hid r2; have R3 := Lib.hid r3
                have HKF := Lib.hid (own4 hKd HRd.out (by decide) (.slice AK (1 + x) cK) (.slice (some ⟨gD, 0, none⟩) x 0) (.slice (some ⟨gL, 0, none⟩) (1 + x) (1 + x)) (.int .i64 W))
                have HDF := Lib.hid (own4 hDd HRd.out (by decide) (.slice AK (1 + x) cK) (.slice (some ⟨gD, 0, none⟩) x 0) (.slice (some ⟨gL, 0, none⟩) (1 + x) (1 + x)) (.int .i64 W))
                have HLF := Lib.hid (own4 hLd HRd.out (by decide) (.slice AK (1 + x) cK) (.slice (some ⟨gD, 0, none⟩) x 0) (.slice (some ⟨gL, 0, none⟩) (1 + x) (1 + x)) (.int .i64 W))
                have hb6 := below4 (Below.refl w.heap.size (w4.setCell ⟨gN, 1, none⟩ (.slice (some ⟨gD, 0, none⟩) x 0))) (Nat.le_refl _) (.slice AK (1 + x) cK) (.slice (some ⟨gD, 0, none⟩) x 0) (.slice (some ⟨gL, 0, none⟩) (1 + x) (1 + x)) (.int .i64 W)
                have HCF := Lib.hid (HCd.out.below hb6 hplt)
                have HGF := Lib.hid (near_below hGd hb6 (Nat.le_refl _))
                obtain ⟨z0, z1, z2, z3⟩ := HRd.out.four
                obtain ⟨f0, f1, f2, f3⟩ := HRd.out.ice
                have zl := HRd.out.lt
                obtain ⟨n0, n1, n2, n3⟩ := hNd.four
                have nl := hNd.lt
                clear hb5 hb6 r0 r1 r2 r3 hKd hDd hLd hNd hGd
                go_wp2_with fail
                exact bodyPost_ret (v := .agg #[.slice AK (1 + x) cK, .slice (some ⟨gD, 0, none⟩) x 0, .slice (some ⟨gL, 0, none⟩) (1 + x) (1 + x), .int .i64 W]) (by simp [results, Try.results89, go_sem, R0.out, R1.out, R2.out, R3.out]) rfl ⟨AK, ks, cK, .slice (some ⟨gD, 0, none⟩) x 0, ds.drop 1, some ⟨gL, 0, none⟩, ls, 1 + x, W, by rw [HK.out, hLL.out], by rw [HK.out]; exact HKF.out, .inr ⟨gD, 1 + x, cD, 0, ds, rfl, HD.out, by omega, .inr (by have := HCAP.out; omega), by rw [show 1 + x - 1 = x by omega, hc1], HDF.out⟩, by rw [hLL.out]; exact HLF.out, by rw [HK.out]; omega, by rw [List.length_drop, HD.out]; omega, by rw [hLL.out]; omega, HCF.out.more (by omega), HGF.out⟩
              case neg =>
                have hNd : Blk (w4.setCell ⟨gN, 1, none⟩ (.slice (some ⟨gD, 1, none⟩) x (cD - 1))) gN 57 #[.slice AK (1 + x) cK, .slice (some ⟨gD, 1, none⟩) x (cD - 1), .slice (some ⟨gL, 0, none⟩) (1 + x) (1 + x), .int .i64 W] := by simpa using hNb.set_ 1 (.slice (some ⟨gD, 1, none⟩) x (cD - 1))
                have hKd := own_setCell (p := ⟨gN, 1, none⟩) hKb (own_blk_ne hKb hNb (by decide)) (.slice (some ⟨gD, 1, none⟩) x (cD - 1))
                have hDd := own_setCell (p := ⟨gN, 1, none⟩) hDb (own_blk_ne hDb hNb (by decide)) (.slice (some ⟨gD, 1, none⟩) x (cD - 1))
                have hLd := own_setCell (p := ⟨gN, 1, none⟩) hLb (own_blk_ne hLb hNb (by decide)) (.slice (some ⟨gD, 1, none⟩) x (cD - 1))
                have HRd := Lib.hid (HRb.out.far (p := ⟨gN, 1, none⟩) (by show _ ≠ gN; omega) (.slice (some ⟨gD, 1, none⟩) x (cD - 1)))
                have hb9 := Below.setCell (p := ⟨gN, 1, none⟩) (Below.refl w.heap.size w4) (by show _ ≤ gN; omega) (.slice (some ⟨gD, 1, none⟩) x (cD - 1))
                have HCd := Lib.hid (HCb.out.below hb9 hplt)
                have hGd := near_below hGb hb9 (Nat.le_refl _)
                clear hKb hDb hLb HRb HCb hGb hb9 hNb
                have hb5 := blk4 (a' := .slice AK (1 + x) cK) (b' := .slice (some ⟨gD, 1, none⟩) x (cD - 1)) (c' := .slice (some ⟨gL, 0, none⟩) (1 + x) (1 + x)) (d' := .int .i64 W) HRd.out
                obtain ⟨r0, r1, r2, r3⟩ := hb5.four
                have R0 := Lib.hid r0; have R1 := Lib.hid r1; have R2 := Lib.hid r2; have R3 := Lib.hid r3
                have HKF := Lib.hid (own4 hKd HRd.out (by decide) (.slice AK (1 + x) cK) (.slice (some ⟨gD, 1, none⟩) x (cD - 1)) (.slice (some ⟨gL, 0, none⟩) (1 + x) (1 + x)) (.int .i64 W))
                have HDF := Lib.hid (own4 hDd HRd.out (by decide) (.slice AK (1 + x) cK) (.slice (some ⟨gD, 1, none⟩) x (cD - 1)) (.slice (some ⟨gL, 0, none⟩) (1 + x) (1 + x)) (.int .i64 W))
                have HLF := Lib.hid (own4 hLd HRd.out (by decide) (.slice AK (1 + x) cK) (.slice (some ⟨gD, 1, none⟩) x (cD - 1)) (.slice (some ⟨gL, 0, none⟩) (1 + x) (1 + x)) (.int .i64 W))
                have hb6 := below4 (Below.refl w.heap.size (w4.setCell ⟨gN, 1, none⟩ (.slice (some ⟨gD, 1, none⟩) x (cD - 1)))) (Nat.le_refl _) (.slice AK (1 + x) cK) (.slice (some ⟨gD, 1, none⟩) x (cD - 1)) (.slice (some ⟨gL, 0, none⟩) (1 + x) (1 + x)) (.int .i64 W)
                have HCF := Lib.hid (HCd.out.below hb6 hplt)
                have HGF := Lib.hid (near_below hGd hb6 (Nat.le_refl _))
                obtain ⟨z0, z1, z2, z3⟩ := HRd.out.four
                obtain ⟨f0, f1, f2, f3⟩ := HRd.out.ice
                have zl := HRd.out.lt
                obtain ⟨n0, n1, n2, n3⟩ := hNd.four
                have nl := hNd.lt
                clear hb5 hb6 r0 r1 r2 r3 hKd hDd hLd hNd hGd
                go_wp2_with fail
                exact bodyPost_ret (v := .agg #[.slice AK (1 + x) cK, .slice (some ⟨gD, 1, none⟩) x (cD - 1), .slice (some ⟨gL, 0, none⟩) (1 + x) (1 + x), .int .i64 W]) (by simp [results, Try.results89, go_sem, R0.out, R1.out, R2.out, R3.out]) rfl ⟨AK, ks, cK, .slice (some ⟨gD, 1, none⟩) x (cD - 1), ds.drop 1, some ⟨gL, 0, none⟩, ls, 1 + x, W, by rw [HK.out, hLL.out], by rw [HK.out]; exact HKF.out, .inr ⟨gD, 1 + x, cD, 1, ds, rfl, HD.out, by omega, .inl rfl, by rw [show 1 + x - 1 = x by omega], HDF.out⟩, by rw [hLL.out]; exact HLF.out, by rw [HK.out]; omega, by rw [List.length_drop, HD.out]; omega, by rw [hLL.out]; omega, HCF.out.more (by omega), HGF.out⟩
            case neg =>
              have y3' : ((y : Int) == 3) = false := by simp; omega
              have hb5 := blk4 (a' := .slice AK (1 + x) cK) (b' := .slice AD (1 + x) cD) (c' := .slice (some ⟨gL, 0, none⟩) (1 + x) (1 + x)) (d' := .int .i64 W) HRb.out
              obtain ⟨r0, r1, r2, r3⟩ := hb5.four
              have R0 := Lib.hid r0; have R1 := Lib.hid r1; have R2 := Lib.hid r2; have R3 := Lib.hid r3
              have HKF := Lib.hid (own4 hKb HRb.out (by decide) (.slice AK (1 + x) cK) (.slice AD (1 + x) cD) (.slice (some ⟨gL, 0, none⟩) (1 + x) (1 + x)) (.int .i64 W))
              have HDF := Lib.hid (own4 hDb HRb.out (by decide) (.slice AK (1 + x) cK) (.slice AD (1 + x) cD) (.slice (some ⟨gL, 0, none⟩) (1 + x) (1 + x)) (.int .i64 W))
              have HLF := Lib.hid (own4 hLb HRb.out (by decide) (.slice AK (1 + x) cK) (.slice AD (1 + x) cD) (.slice (some ⟨gL, 0, none⟩) (1 + x) (1 + x)) (.int .i64 W))
              have hb6 := below4 (Below.refl w.heap.size w4) (Nat.le_refl _) (.slice AK (1 + x) cK) (.slice AD (1 + x) cD) (.slice (some ⟨gL, 0, none⟩) (1 + x) (1 + x)) (.int .i64 W)
              have HCF := Lib.hid (HCb.out.below hb6 hplt)
              have HGF := Lib.hid (near_below hGb hb6 (Nat.le_refl _))
              obtain ⟨z0, z1, z2, z3⟩ := HRb.out.four
              obtain ⟨f0, f1, f2, f3⟩ := HRb.out.ice
              have zl := HRb.out.lt
              obtain ⟨n0, n1, n2, n3⟩ := hNb.four
              have nl := hNb.lt
              clear hb5 hb6 r0 r1 r2 r3 hKb hDb hLb hNb hGb
              go_wp2_with fail
              exact bodyPost_ret (v := .agg #[.slice AK (1 + x) cK, .slice AD (1 + x) cD, .slice (some ⟨gL, 0, none⟩) (1 + x) (1 + x), .int .i64 W]) (by simp [results, Try.results89, go_sem, R0.out, R1.out, R2.out, R3.out]) rfl ⟨AK, ks, cK, .slice AD (1 + x) cD, ds, some ⟨gL, 0, none⟩, ls, 1 + x, W, by rw [HK.out, hLL.out], by rw [HK.out]; exact HKF.out, .inl ⟨AD, cD, by rw [HD.out], by rw [HD.out]; exact HDF.out⟩, by rw [hLL.out]; exact HLF.out, by rw [HK.out]; omega, by rw [HD.out]; omega, by rw [hLL.out]; omega, HCF.out.more (by omega), HGF.out⟩
    · have j1 : ((j + 1 : Nat) : Int) > 0 := by omega
      go_wp2_with fail
      refine (one_any p A bs c _ 4 _ HC.out (by omega) (by omega) (by omega)).mono ?_
      rintro e w4 ⟨b, rfl, hc4, hg4⟩
      have hO5 := Cur.row HC.out hO hg4 (by decide)
      have hP5 := Cur.row HC.out hP hg4 (by decide)
      have HR5 := Lib.hid (Cur.blk_ HC.out HR.out hg4 (by decide))
      have hG5 := near_step hG hg4 (fun k hk => .inl hk.symm)
      have HC5 := Lib.hid hc4
      clear hc4 hg4 hO hP HR hG HC
      cases b
      case false =>
        go_wp2_with fail
        refine (pick_any p A bs c _ 6 _ HC5.out (by omega) (by omega) (by omega)).mono ?_
        rintro e w5 ⟨y, hy, rfl, hc6, hg6⟩
        have hy5 : (y : Int) ≤ 5 := by omega
        have hO6 := Cur.row HC5.out hO5 hg6 (by decide)
        have hP6 := Cur.row HC5.out hP5 hg6 (by decide)
        have HR6 := Lib.hid (Cur.blk_ HC5.out HR5.out hg6 (by decide))
        have hG6 := near_step hG5 hg6 (fun k hk => .inl hk.symm)
        have HC6 := Lib.hid hc6
        clear hc6 hg6 hO5 hP5 HR5 hG5 HC5 hy
        have hwle := hG6.size
        go_upto_region 11 with (at_builtin; refine wpList_push' _ rfl (.tmp 23) (.tmp 25) 33 rfl w.heap.size 3 i0 _ 1 8 Try.underlying33 hi hz0 hz1 hz2 rfl (by decide) _ i _ rfl (World.ownsRow.alloc hO6 _) #[.int .i64 (y : Int)] w5.heap.size rfl (Blk.new _ _ _) rfl (by simp [Value.oneCell']) (by omega) (by unfold maxLen; omega) (by rw [World.size_alloc]; omega) ?_; intro g7 c7 w7 o7 gr7 bl7 at7)
        have hP7 := (hP6.alloc (.cells #[.int .i64 (y : Int)] 3)).kept gr7 (own_ne_type (hP6.alloc (.cells #[.int .i64 (y : Int)] 3)) (World.ownsRow.alloc hO6 (.cells #[.int .i64 (y : Int)] 3)) (by decide))
        have HC7 := Lib.hid (Cur.grown (HC6.out.alloc (.cells #[.int .i64 (y : Int)] 3)) gr7 (fun k hk => by have := (own_lt hO6 k hk).1; omega))
        have HR7 := Lib.hid (Blk.grown (HR6.out.alloc (.cells #[.int .i64 (y : Int)] 3)) gr7 (fun e => own_blk_ne hO6 HR6.out (by decide) e.symm))
        have hG7 := near_step (near_step hG6 (World.grownBy_alloc w5 (.cells #[.int .i64 (y : Int)] 3) (some p)) (fun k hk => .inl hk.symm)) gr7 (fun k hk => .inr (own_lt hO6 k hk).1)
        rw [ints_snoc] at o7
        have HK7 : Hid ((ks ++ [(y : Int)]).length = i + 1) := Lib.hid (by rw [List.length_append, HK.out]; rfl)
        clear gr7 bl7 at7 hO6 hP6 HR6 HC6 hG6 hwle
        have hwle := hG7.size
        go_wp2_with (at_builtin; refine wpList_push' _ rfl (.tmp 27) (.tmp 29) 55 rfl w.heap.size 4 i1 _ 1 1 Try.underlying55 hj hy0 hy1 hy2 rfl (by decide) _ i _ rfl (World.ownsRow.alloc hP7 _) #[.bool false] w7.heap.size rfl (Blk.new _ _ _) rfl (by simp [Value.oneCell']) (by omega) (by unfold maxLen; omega) (by rw [World.size_alloc]; omega) ?_; intro g8 c8 w8 o8 gr8 bl8 at8)
        have hO8 := (o7.alloc (.cells #[.bool false] 4)).kept gr8 (own_ne_type (o7.alloc (.cells #[.bool false] 4)) (World.ownsRow.alloc hP7 (.cells #[.bool false] 4)) (by decide))
        have HC8 := Lib.hid (Cur.grown (HC7.out.alloc (.cells #[.bool false] 4)) gr8 (fun k hk => by have := (own_lt hP7 k hk).1; omega))
        have HR8 := Lib.hid (Blk.grown (HR7.out.alloc (.cells #[.bool false] 4)) gr8 (fun e => own_blk_ne hP7 HR7.out (by decide) e.symm))
        have hG8 := near_step (near_step hG7 (World.grownBy_alloc w7 (.cells #[.bool false] 4) (some p)) (fun k hk => .inl hk.symm)) gr8 (fun k hk => .inr (own_lt hP7 k hk).1)
        rw [bools_snocT] at o8
        have HD8 : Hid ((ds ++ [false]).length = i + 1) := Lib.hid (by rw [List.length_append, HD.out]; rfl)
        clear gr8 bl8 at8 o7 hP7 HR7 HC7 hG7 hwle
        go_roundw
        case rel => exact ⟨j, i + 1, ks ++ [(y : Int)], ds ++ [false], by go_num, by omega, HK7, HD8, hO8, o8, HR8, Lib.hid (HC8.out.more (by omega)), hG8⟩
        case measure => simp [intOf]
      case true =>
        go_wp2_with fail
        refine (pick_any p A bs c _ 6 _ HC5.out (by omega) (by omega) (by omega)).mono ?_
        rintro e w5 ⟨y, hy, rfl, hc6, hg6⟩
        have hy5 : (y : Int) ≤ 5 := by omega
        have hO6 := Cur.row HC5.out hO5 hg6 (by decide)
        have hP6 := Cur.row HC5.out hP5 hg6 (by decide)
        have HR6 := Lib.hid (Cur.blk_ HC5.out HR5.out hg6 (by decide))
        have hG6 := near_step hG5 hg6 (fun k hk => .inl hk.symm)
        have HC6 := Lib.hid hc6
        clear hc6 hg6 hO5 hP5 HR5 hG5 HC5 hy
        have hwle := hG6.size
        go_upto_region 11 with (at_builtin; refine wpList_push' _ rfl (.tmp 23) (.tmp 25) 33 rfl w.heap.size 3 i0 _ 1 8 Try.underlying33 hi hz0 hz1 hz2 rfl (by decide) _ i _ rfl (World.ownsRow.alloc hO6 _) #[.int .i64 0] w5.heap.size rfl (Blk.new _ _ _) rfl (by simp [Value.oneCell']) (by omega) (by unfold maxLen; omega) (by rw [World.size_alloc]; omega) ?_; intro g7 c7 w7 o7 gr7 bl7 at7)
        have hP7 := (hP6.alloc (.cells #[.int .i64 0] 3)).kept gr7 (own_ne_type (hP6.alloc (.cells #[.int .i64 0] 3)) (World.ownsRow.alloc hO6 (.cells #[.int .i64 0] 3)) (by decide))
        have HC7 := Lib.hid (Cur.grown (HC6.out.alloc (.cells #[.int .i64 0] 3)) gr7 (fun k hk => by have := (own_lt hO6 k hk).1; omega))
        have HR7 := Lib.hid (Blk.grown (HR6.out.alloc (.cells #[.int .i64 0] 3)) gr7 (fun e => own_blk_ne hO6 HR6.out (by decide) e.symm))
        have hG7 := near_step (near_step hG6 (World.grownBy_alloc w5 (.cells #[.int .i64 0] 3) (some p)) (fun k hk => .inl hk.symm)) gr7 (fun k hk => .inr (own_lt hO6 k hk).1)
        rw [ints_snoc] at o7
        have HK7 : Hid ((ks ++ [0]).length = i + 1) := Lib.hid (by rw [List.length_append, HK.out]; rfl)
        clear gr7 bl7 at7 hO6 hP6 HR6 HC6 hG6 hwle
        have hwle := hG7.size
        go_wp2_with (at_builtin; refine wpList_push' _ rfl (.tmp 27) (.tmp 29) 55 rfl w.heap.size 4 i1 _ 1 1 Try.underlying55 hj hy0 hy1 hy2 rfl (by decide) _ i _ rfl (World.ownsRow.alloc hP7 _) #[.bool true] w7.heap.size rfl (Blk.new _ _ _) rfl (by simp [Value.oneCell']) (by omega) (by unfold maxLen; omega) (by rw [World.size_alloc]; omega) ?_; intro g8 c8 w8 o8 gr8 bl8 at8)
        have hO8 := (o7.alloc (.cells #[.bool true] 4)).kept gr8 (own_ne_type (o7.alloc (.cells #[.bool true] 4)) (World.ownsRow.alloc hP7 (.cells #[.bool true] 4)) (by decide))
        have HC8 := Lib.hid (Cur.grown (HC7.out.alloc (.cells #[.bool true] 4)) gr8 (fun k hk => by have := (own_lt hP7 k hk).1; omega))
        have HR8 := Lib.hid (Blk.grown (HR7.out.alloc (.cells #[.bool true] 4)) gr8 (fun e => own_blk_ne hP7 HR7.out (by decide) e.symm))
        have hG8 := near_step (near_step hG7 (World.grownBy_alloc w7 (.cells #[.bool true] 4) (some p)) (fun k hk => .inl hk.symm)) gr8 (fun k hk => .inr (own_lt hP7 k hk).1)
        rw [bools_snocT] at o8
        have HD8 : Hid ((ds ++ [true]).length = i + 1) := Lib.hid (by rw [List.length_append, HD.out]; rfl)
        clear gr8 bl8 at8 o7 hP7 HR7 HC7 hG7 hwle
        go_roundw
        case rel => exact ⟨j, i + 1, ks ++ [0], ds ++ [true], by go_num, by omega, HK7, HD8, hO8, o8, HR8, Lib.hid (HC8.out.more (by omega)), hG8⟩
        case measure => simp [intOf]
end Go.Proofs.Yteigceeghnphmaa
