/- Merging several ascending lists of records: the reference's merge. -/
import Derived.Test.YtifjihpnhmemgaaKwI
import Derived.Test.YtifjihpnhmemgaaTreeRS
import Derived.Test.YtifjihpnhmemgaaTreeB
namespace Go.Proofs.Ytifjihpnhmemgaa
open Go.RowKit
set_option linter.unusedVariables false
theorem fill_set {α : Type} {l : List α} {z : α} {i : Nat} (h : i < l.length) : (l.take i ++ List.replicate (l.length - i) z).set i l[i] = l.take (i + 1) ++ List.replicate (l.length - (i + 1)) z := by
  have h1 : (l.take i).length = i := by simp; omega
  have e : l.length - i = (l.length - (i + 1)) + 1 := by omega
  rw [List.set_append_right _ _ (by omega), h1, Nat.sub_self, e, List.replicate_succ, List.set_cons_zero, List.take_succ_eq_append_getElem h, List.append_assoc]
  rfl
theorem fill_no {α : Type} {l : List α} {z : α} {i : Nat} (h : i < l.length) (hz : l[i] = z) : l.take i ++ List.replicate (l.length - i) z = l.take (i + 1) ++ List.replicate (l.length - (i + 1)) z := by
  have e : l.length - i = (l.length - (i + 1)) + 1 := by omega
  rw [e, List.replicate_succ, List.take_succ_eq_append_getElem h, List.append_assoc, hz]
  rfl
theorem fill_len {α : Type} {l : List α} {z : α} {i : Nat} : (l.take i ++ List.replicate (l.length - i) z).length = l.length := by simp; omega
/-- the state of the reference's merge -/
structure KV (B : Nat) (A : Option Addr) (c : Nat) (L : List Recs) (pt gN : Nat) (w : World) (AK : Option Addr) (cK : Nat) (AD : Option Addr) (cD : Nat) (AL : Option Addr) (cL : Nat) (ks : List Int) (ds : List Bool) (W : Nat) (nx : List Nat) : Prop where
  hB : B ≤ w.heap.size
  hp : B ≤ pt
  rd : ReadsQQ w B A L
  tb : Blk w pt 54 #[.slice AK L.length cK, .slice AD L.length cD, .slice AL L.length cL, .int .i64 (W : Nat)]
  kr : w.ownsRow B 3 1 (.slice AK L.length cK) L.length (ints ks)
  dr : w.ownsRow B 4 1 (.slice AD L.length cD) L.length (bools ds)
  nr : w.ownsRow B 3 1 (.slice (some ⟨gN, 0, none⟩) L.length L.length) L.length (nats nx)
  nk : (Value.slice AK L.length cK).ownBlock ≠ some gN
  kl : ks.length = L.length
  dl : ds.length = L.length
  nl : nx.length = L.length
section
variable {B : Nat} {A : Option Addr} {c : Nat} {L : List Recs} {pt gN : Nat} {w w' : World} {AK AD AL : Option Addr} {cK cD cL : Nat} {ks : List Int} {ds : List Bool} {W : Nat} {nx : List Nat}
theorem KV.below (h : KV B A c L pt gN w AK cK AD cD AL cL ks ds W nx) (hb : Below w.heap.size w w') : KV B A c L pt gN w' AK cK AD cD AL cL ks ds W nx :=
  ⟨Nat.le_trans h.hB hb.size, h.hp, h.rd.below (hb.mono h.hB), h.tb.below_ hb, own_below h.kr hb (Nat.le_refl _), own_below h.dr hb (Nat.le_refl _), own_below h.nr hb (Nat.le_refl _), h.nk, h.kl, h.dl, h.nl⟩
theorem KV.near (h : KV B A c L pt gN w AK cK AD cD AL cL ks ds W nx) {v : Value} {n : Nat} {xs : List Value} (ho : w.ownsRow B 47 2 v n xs) (hg : w.grownBy w' v.ownBlock) : KV B A c L pt gN w' AK cK AD cD AL cL ks ds W nx :=
  ⟨Nat.le_trans h.hB hg.size, h.hp, h.rd.below (below_of_grown hg h.hB (fun k hk => (own_lt ho k hk).1)), h.tb.grown hg (fun e => own_blk_ne ho h.tb (by decide) e.symm),
   h.kr.kept hg (own_ne_type h.kr ho (by decide)), h.dr.kept hg (own_ne_type h.dr ho (by decide)), h.nr.kept hg (own_ne_type h.nr ho (by decide)), h.nk, h.kl, h.dl, h.nl⟩
theorem KV.setN (h : KV B A c L pt gN w AK cK AD cD AL cL ks ds W nx) (k v : Nat) : KV B A c L pt gN (w.setCell ⟨gN, k, none⟩ (.int .i64 (v : Nat))) AK cK AD cD AL cL ks ds W (nx.set k v) := by
  obtain ⟨h1, h2⟩ := h.nr.stored k (.int .i64 (v : Nat))
  have hg := own_lt h.nr gN rfl
  have n1 : pt ≠ gN := fun e => own_blk_ne h.nr h.tb (by decide) (by rw [e]; rfl)
  refine ⟨Nat.le_trans h.hB h2.size, h.hp, h.rd.below ((Below.refl _ _).setCell hg.1 _), h.tb.far n1 _, h.kr.kept h2 (.inr (by simpa [Value.ownBlock] using h.nk)), h.dr.kept h2 (own_ne_type h.dr h.nr (by decide)), ?_, h.nk, h.kl, h.dl, by simp [h.nl]⟩
  rwa [natsQ_set] at h1
theorem KV.rows (h : KV B A c L pt gN w AK cK AD cD AL cL ks ds W nx) (k v : Nat) {u : Value} {n : Nat} {xs : List Value} (ho : w.ownsRow B 47 2 u n xs) : (w.setCell ⟨gN, k, none⟩ (.int .i64 (v : Nat))).ownsRow B 47 2 u n xs :=
  ho.kept (h.nr.stored k (.int .i64 (v : Nat))).2 (own_ne_type ho h.nr (by decide))
theorem KV.low (h : KV B A c L pt gN w AK cK AD cD AL cL ks ds W nx) (k v : Nat) : Below B w (w.setCell ⟨gN, k, none⟩ (.int .i64 (v : Nat))) := (Below.refl _ _).setCell (own_lt h.nr gN rfl).1 _
theorem KV.tree {BK BD : Option Addr} {dK dD : Nat} {ks' : List Int} {ds' : List Bool} (h : KV B A c L pt gN w AK cK AD cD AL cL ks ds W nx) (hb : Below w.heap.size w w') (oK : w'.ownsRow w.heap.size 3 1 (.slice BK L.length dK) L.length (ints ks')) (oD : w'.ownsRow w.heap.size 4 1 (.slice BD L.length dD) L.length (bools ds')) (BL : Option Addr) (dL W' : Nat)
    : KV B A c L pt gN ((((w'.setCell ⟨pt, 0, none⟩ (.slice BK L.length dK)).setCell ⟨pt, 1, none⟩ (.slice BD L.length dD)).setCell ⟨pt, 2, none⟩ (.slice BL L.length dL)).setCell ⟨pt, 3, none⟩ (.int .i64 (W' : Nat))) BK dK BD dD BL dL ks' ds' W' nx := by
  have h' := h.below hb
  have lK : ks'.length = L.length := by have := oK.1; simpa [ints] using this
  have lD : ds'.length = L.length := by have := oD.1; simpa [bools] using this
  have hbl := below4 (Below.refl B w') h.hp (.slice BK L.length dK) (.slice BD L.length dD) (.slice BL L.length dL) (.int .i64 (W' : Nat))
  refine ⟨Nat.le_trans h'.hB hbl.size, h.hp, h'.rd.below hbl, h'.tb.set4, own_base (own4 oK h'.tb (by decide) _ _ _ _) h.hB, own_base (own4 oD h'.tb (by decide) _ _ _ _) h.hB, own4 h'.nr h'.tb (by decide) _ _ _ _, fun e => ?_, lK, lD, h.nl⟩
  have h1 := own_lt oK gN e
  have h2 := own_lt h.nr gN rfl
  omega
theorem KV.cellN (h : KV B A c L pt gN w AK cK AD cD AL cL ks ds W nx) {i : Nat} (hi : i < L.length) : w.cell? ⟨gN, i, none⟩ = some (.int .i64 (nxA nx i : Nat)) := by
  have := h.nr.cellAt i (by omega)
  rw [natsQ_get (by rw [h.nl]; exact hi)] at this
  exact this
end
def KwQ (B : Nat) (wq : World) (gO m cO LL c i x n2 c2 gN : Nat) (ad bd : Addr) (r1 r2 : Int) (out : Recs) (L : Nat → Bool) (wr : World) (v0 v1 v2 v3 v4 v5 v6 v7 v8 v9 v10 v11 v12 v13 : Value) : Prop :=
  (wq.grownBy wr (Value.slice (some ⟨gO, 0, none⟩) m cO).ownBlock) ∧
  (L 3 = true → L 1 = true ∧ L 2 = true) ∧
  (L 4 = true → L 3 = true) ∧
  (L 7 = true → L 5 = true ∧ L 6 = true) ∧
  (L 8 = true → L 7 = true) ∧
  (L 9 = true → L 4 = true ∧ L 8 = true) ∧
  (L 10 = true → L 9 = true) ∧
  (L 11 = true → L 10 = true) ∧
  (L 12 = true → L 0 = true ∧ L 11 = true) ∧
  (L 13 = true → L 12 = true) ∧
  (L 0 = true → v0 = .slice (some ⟨gO, 0, none⟩) m cO) ∧
  (L 1 = true → v1 = .slice (some ad) LL c) ∧
  (L 2 = true → v2 = .int .i64 (i : Nat)) ∧
  (L 3 = true → v3 = .pointer (some (ad.add i))) ∧
  (L 4 = true → v4 = .slice (some bd) n2 c2) ∧
  (L 5 = true → v5 = .slice (some ⟨gN, 0, none⟩) LL LL) ∧
  (L 6 = true → v6 = .int .i64 (i : Nat)) ∧
  (L 7 = true → v7 = .pointer (some ⟨gN, i, none⟩)) ∧
  (L 8 = true → v8 = .int .i64 (x : Nat)) ∧
  (L 9 = true → v9 = .pointer (some (bd.add (x * 2)))) ∧
  (L 10 = true → v10 = .agg #[.int .i64 r1, .int .i64 r2]) ∧
  (L 11 = true → L 12 = false → ∃ g, v11 = .slice (some ⟨g, 0, none⟩) 1 1 ∧ Blk wr g 47 #[.int .i64 r1, .int .i64 r2]) ∧
  (L 12 = true → ∃ g d, v12 = .slice (some ⟨g, 0, none⟩) (m + 1) d ∧ wr.ownsRow B 47 2 (.slice (some ⟨g, 0, none⟩) (m + 1) d) (m + 1) (cmps (out ++ [(r1, r2)]))) ∧
  (L 13 = true → v13 = v12) ∧
  (L 13 = false → v13 = .slice (some ⟨gO, 0, none⟩) m cO) ∧
  (L 12 = false → wr.ownsRow B 47 2 (.slice (some ⟨gO, 0, none⟩) m cO) m (cmps out))
/-- the reference's merge under way -/
def Kq (w : World) (A : Option Addr) (c : Nat) (L : List Recs) (pt gN F : Nat) (vo vc : Value) (wr : World) : Prop := ∃ (gO m cO : Nat) (AK : Option Addr) (cK : Nat) (AD : Option Addr) (cD : Nat) (AL : Option Addr) (cL : Nat) (nx : List Nat) (out : Recs) (cnt : Nat), vo = .slice (some ⟨gO, 0, none⟩) m cO ∧ vc = .int .i64 (cnt : Nat) ∧
  Hid (KV w.heap.size A c L pt gN wr AK cK AD cD AL cL (KY L nx) (DN L nx) (winR L nx) nx) ∧ Hid (wr.ownsRow w.heap.size 47 2 (.slice (some ⟨gO, 0, none⟩) m cO) m (cmps out)) ∧ Hid (out.length = m) ∧ Hid (Below w.heap.size w wr) ∧ Hid (KI L F nx out cnt)
set_option maxRecDepth 100000 in
set_option maxHeartbeats 12800000 in
theorem l16Merge_any (A : Option Addr) (Z : List Recs) (c : Nat) (w : World) (hx : ReadsQQ w w.heap.size A Z) (h1 : 1 ≤ Z.length) (h16 : Z.length ≤ 16) (ht : totR Z ≤ 64) :
    Calls Try.prog 22 #[.slice A Z.length c] w fun e w' => ∃ g d, e = .returned (.tuple #[.slice (some ⟨g, 0, none⟩) (kwR Z).1.length d, .int .i64 ((kwR Z).2 : Nat)]) ∧
      w'.ownsRow w.heap.size 47 2 (.slice (some ⟨g, 0, none⟩) (kwR Z).1.length d) (kwR Z).1.length (cmps (kwR Z).1) ∧ Below w.heap.size w w' := by
  obtain ⟨i2, hj, hy0, hy1, hy2⟩ := info_parts (show (Try.prog.info? 3).map (fun i => (i.zero, i.size, i.bytes)) = some (some (.int .i64 0), 1, 8) by kernel_rfl)
  obtain ⟨i1, hk, hv0, hv1, hv2⟩ := info_parts (show (Try.prog.info? 4).map (fun i => (i.zero, i.size, i.bytes)) = some (some (.bool false), 1, 1) by kernel_rfl)
  obtain ⟨i0, hi0, hz0, hz1, hz2⟩ := info_parts info_rec
  have HI0 := Lib.hid (And.intro hi0 (And.intro hz0 (And.intro hz1 hz2)))
  clear hi0 hz0 hz1 hz2
  have hlm : Z.length ≤ maxLen := by unfold maxLen; omega
  have hmkI := run_make_row (P := Try.prog) 51 3 i2 (.int .i64 0) Try.underlying51 hj hy0 hy1 rfl .i64 .i64 Z.length (by rw [hy2]; omega) (by omega)
  have hmkB := run_make_row (P := Try.prog) 52 4 i1 (.bool false) Try.underlying52 hk hv0 hv1 rfl .i64 .i64 Z.length (by rw [hv2]; omega) (by omega)
  have HX := Lib.hid hx
  clear hx hj hy0 hy1 hy2 hk hv0 hv1 hv2
  go_enter Try.func22, Try.ntmps22
  go_wp2_with fail
  have hK0 := own_mk (w := w) (base := w.heap.size) (g := w.heap.size) (k := Z.length) (e := 3) (Nat.le_refl _) rfl hlm
  have hB0 := alloc_ (Below.refl w.heap.size w) (.cells (madeCells #[.int .i64 0] Z.length) 3)
  have hs0 : (w.alloc (.cells (madeCells #[.int .i64 0] Z.length) 3)).heap.size = w.heap.size + 1 := by simp
  generalize w.alloc (.cells (madeCells #[.int .i64 0] Z.length) 3) = w1 at *
  have hK1 := World.ownsRow.alloc hK0 (.cells (madeCells #[.bool false] Z.length) 4)
  have hD1 := own_mkB (w := w1) (base := w.heap.size) (g := w.heap.size + 1) (k := Z.length) (e := 4) hB0.size hs0 hlm
  have hB1 := alloc_ hB0 (.cells (madeCells #[.bool false] Z.length) 4)
  have hs1 : (w1.alloc (.cells (madeCells #[.bool false] Z.length) 4)).heap.size = w.heap.size + 2 := by simp [hs0]
  clear hK0 hB0
  generalize w1.alloc (.cells (madeCells #[.bool false] Z.length) 4) = w2 at *
  have hK2 := World.ownsRow.alloc hK1 (.cells (madeCells #[.int .i64 0] Z.length) 3)
  have hD2 := World.ownsRow.alloc hD1 (.cells (madeCells #[.int .i64 0] Z.length) 3)
  have hN2 := own_mk (w := w2) (base := w.heap.size) (g := w.heap.size + 2) (k := Z.length) (e := 3) hB1.size hs1 hlm
  have hB2 := alloc_ hB1 (.cells (madeCells #[.int .i64 0] Z.length) 3)
  clear hK1 hD1 hB1
  rw [nats_zero] at hK2
  try simp only [hs0, hs1]
  generalize w2.alloc (.cells (madeCells #[.int .i64 0] Z.length) 3) = w3 at *
  clear hs0 hs1 hmkI hmkB
  have hne : w.heap.size ≠ w.heap.size + 1 + 1 := by omega
  generalize hgN : w.heap.size + 1 + 1 = gN at *
  generalize hgD : w.heap.size + 1 = gD at *
  have hzK : List.replicate Z.length (0 : Int) = (KY Z (List.replicate Z.length 0)).take 0 ++ List.replicate ((KY Z (List.replicate Z.length 0)).length - 0) 0 := by simp
  have hzD : List.replicate Z.length false = (DN Z (List.replicate Z.length 0)).take 0 ++ List.replicate ((DN Z (List.replicate Z.length 0)).length - 0) false := by simp
  have hK3 := hK2
  have hD3 := hD2
  rw [hzK] at hK3
  rw [hzD] at hD3
  have HK0 := Lib.hid hK3
  have HD0 := Lib.hid hD3
  have HN0 := Lib.hid hN2
  have HW0 := Lib.hid hB2
  have HNE := Lib.hid hne
  have HNZ := Lib.hid (NI.zero Z)
  clear hK2 hD2 hN2 hB2 hne hK3 hD3 hzK hzD hgN hgD
  go_loopw [7] (fun vi wr => ∃ i : Nat, i ≤ Z.length ∧ vi = .int .i64 (i : Nat) ∧ Hid (wr.ownsRow w.heap.size 3 1 (.slice (some ⟨w.heap.size, 0, none⟩) Z.length Z.length) Z.length (ints ((KY Z (List.replicate Z.length 0)).take i ++ List.replicate ((KY Z (List.replicate Z.length 0)).length - i) 0))) ∧
    Hid (wr.ownsRow w.heap.size 4 1 (.slice (some ⟨gD, 0, none⟩) Z.length Z.length) Z.length (bools ((DN Z (List.replicate Z.length 0)).take i ++ List.replicate ((DN Z (List.replicate Z.length 0)).length - i) false))) ∧
    Hid (wr.ownsRow w.heap.size 3 1 (.slice (some ⟨gN, 0, none⟩) Z.length Z.length) Z.length (nats (List.replicate Z.length 0))) ∧ Hid (Below w.heap.size w wr)) (fun vi _ => Z.length - (intOf vi).toNat)
  case atStart => exact ⟨0, by omega, rfl, HK0, HD0, HN0, HW0⟩
  case round =>
    clear HK0 HD0 HN0 HW0
    obtain ⟨i, hi, rfl, HK, HD, HN, HW⟩ := hrel
    by_cases hlt : i < Z.length
    · have hiI : (i : Int) < Z.length := by omega
      obtain ⟨ad, A', c', rfl, hadl, hcl, hr⟩ := (HX.out.below HW.out).atB hlt
      have hdb : dB Z (List.replicate Z.length 0) i = decide (0 = Z[i].length) := by simp [dB, nxA, lnR, hlt]
      have hDs := HD.out.stored i (.bool (dB Z (List.replicate Z.length 0) i))
      have hd1 := DN_get (nx := List.replicate Z.length 0) hlt
      have hk1 := KY_get (nx := List.replicate Z.length 0) hlt
      have hDN : i < (DN Z (List.replicate Z.length 0)).length := by rw [DN_len]; exact hlt
      have hKN : i < (KY Z (List.replicate Z.length 0)).length := by rw [KY_len]; exact hlt
      rw [bools_set, ← hd1, fill_set hDN, hd1] at hDs
      have hDc := HD.out.cellAt i (by omega)
      obtain ⟨d0, hd0⟩ : ∃ d0, (bools ((DN Z (List.replicate Z.length 0)).take i ++ List.replicate ((DN Z (List.replicate Z.length 0)).length - i) false))[i]? = some d0 := ⟨_, List.getElem?_eq_getElem (by simp; omega)⟩
      rw [hd0] at hDc
      have hDf := HD.out.frozenAt i
      have HKs := Lib.hid (HK.out.kept hDs.2 (own_ne_type HK.out HD.out (by decide)))
      have HNs := Lib.hid (HN.out.kept hDs.2 (own_ne_type HN.out HD.out (by decide)))
      have HWs := Lib.hid (HW.out.grown hDs.2 HW.out.size (fun k hk => (own_lt HD.out k hk).1))
      have HDs := Lib.hid hDs.1
      have hDs2 := hDs.2
      clear hDs hd0
      cases hd : dB Z (List.replicate Z.length 0) i
      · have hn0 : ¬ 0 = Z[i].length := by rw [hdb] at hd; simpa using hd
        have hln : 0 < Z[i].length := Nat.pos_of_ne_zero (fun e => hn0 e.symm)
        have hn1 : (Z[i].length : Int) ≠ 0 := by omega
        have hlnI : (0 : Int) < (Z[i].length : Int) := by omega
        have hn2 : ((Z[i].length : Int) == 0) = false := by simpa using hn1
        have hkb : kB Z (List.replicate Z.length 0) i = Z[i][0].1 := by
          unfold kB; rw [hd]; simp [rcR, nxA, hlt]
          rw [List.getElem?_eq_getElem (by omega)]; rfl
        rw [hd] at HDs HKs HNs HWs hDs2
        obtain ⟨bd, rfl, hbdl, hr1, -⟩ := hr.cmp (k := 0) (by omega)
        have hr0 : wr.cell? bd = some (.int .i64 Z[i][0].1) := by simpa [Addr.add] using hr1
        have hKs := HKs.out.stored i (.int .i64 (kB Z (List.replicate Z.length 0) i))
        rw [ints_set, ← hk1, fill_set hKN, hk1, hkb] at hKs
        have hKc := HKs.out.cellAt i (by omega)
        obtain ⟨k0, hk0⟩ : ∃ k0, (ints ((KY Z (List.replicate Z.length 0)).take i ++ List.replicate ((KY Z (List.replicate Z.length 0)).length - i) 0))[i]? = some k0 := ⟨_, List.getElem?_eq_getElem (by simp; omega)⟩
        rw [hk0] at hKc
        have hKf := HKs.out.frozenAt i
        have HKt := Lib.hid hKs.1
        have HNt := Lib.hid (HNs.out.kept hKs.2 (.inr (by simpa [Value.ownBlock] using fun e => HNE.out e.symm)))
        have HDt := Lib.hid (HDs.out.kept hKs.2 (own_ne_type HDs.out HKs.out (by decide)))
        have HWt := Lib.hid (HWs.out.grown hKs.2 HWs.out.size (fun k hk => (own_lt HKs.out k hk).1))
        have hcl2 := (below_of_grown hDs2 HW.out.size (fun k hk => (own_lt HD.out k hk).1)).cell hadl
        have hcr2 := (below_of_grown hDs2 HW.out.size (fun k hk => (own_lt HD.out k hk).1)).cell hbdl
        rw [hcl] at hcl2
        rw [hr0] at hcr2
        have hDc2 : (wr.setCell ⟨gD, i, none⟩ (.bool false)).cell? ⟨gD, i, none⟩ = some (.bool false) := by simp [World.cell?_setCell_same, hDc]
        clear hKs hk0 hDs2 hkb hdb hd1 hk1 hDN hKN hr1 HKs HNs HDs HWs HK HD HN HW hd
        go_wp2_with fail
        go_roundw
        case rel => exact ⟨i + 1, by omega, by go_num, HKt, HDt, HNt, HWt⟩
        case measure => simp [intOf]; omega
      · have hn0 : 0 = Z[i].length := by rw [hdb] at hd; simpa using hd
        have hn2 : ((Z[i].length : Int) == 0) = true := by rw [← hn0]; rfl
        have hkb : kB Z (List.replicate Z.length 0) i = 0 := by unfold kB; rw [hd]; rfl
        rw [hd] at HDs HKs HNs HWs hDs2
        have hKe := fill_no (z := 0) hKN (hk1.trans hkb)
        rw [hKe] at HKs
        have hDc2 : (wr.setCell ⟨gD, i, none⟩ (.bool true)).cell? ⟨gD, i, none⟩ = some (.bool true) := by simp [World.cell?_setCell_same, hDc]
        clear hDs2 hkb hdb hd1 hk1 hDN hKN HK HD HN HW hd hKe hr hn0
        go_wp2_with fail
        go_roundw
        case rel => exact ⟨i + 1, by omega, by go_num, HKs, HDs, HNs, HWs⟩
        case measure => simp [intOf]; omega
    · have hiI : ¬ (i : Int) < Z.length := by omega
      have hiZ : i = Z.length := by omega
      have hK9 := HK.out
      have hD9 := HD.out
      rw [List.take_of_length_le (by rw [KY_len]; omega), KY_len, hiZ, Nat.sub_self, List.replicate_zero, List.append_nil] at hK9
      rw [List.take_of_length_le (by rw [DN_len]; omega), DN_len, hiZ, Nat.sub_self, List.replicate_zero, List.append_nil] at hD9
      have HM := Lib.hid (sMake_any (some ⟨w.heap.size, 0, none⟩) (KY Z (List.replicate Z.length 0)) Z.length (some ⟨gD, 0, none⟩) (DN Z (List.replicate Z.length 0)) Z.length Z.length wr (KY_len _ _) (DN_len _ _) (by rw [KY_len]; exact Reads.of_own hK9) (by rw [DN_len]; exact Reads.of_own hD9) h1 (by omega))
      clear hK9 hD9 hiZ HK HD HNE HNZ hi
      go_wp2_with fail
      refine HM.out.mono ?_
      clear HM
      rintro e w5 ⟨AK, cK, AD, cD, gL, rfl, htr, hb5⟩
      rw [show winnerV (KY Z (List.replicate Z.length 0)) (DN Z (List.replicate Z.length 0)) = winR Z (List.replicate Z.length 0) from rfl]
      have hNN := own_below HN.out hb5 (Nat.le_refl _)
      have hne : (Value.slice AK Z.length cK).ownBlock ≠ some gN := fun e => by
        have h8 := own_lt htr.1 gN e
        have h9 := own_lt HN.out gN rfl
        omega
      have hBW := bthen HW.out hb5
      have hbn := Blk.new w5 54 #[.slice AK Z.length cK, .slice AD Z.length cD, .slice (some ⟨gL, 0, none⟩) Z.length Z.length, .int .i64 (winR Z (List.replicate Z.length 0) : Nat)]
      have hbb := alloc_ (Below.refl w5.heap.size w5) (.cells #[.slice AK Z.length cK, .slice AD Z.length cD, .slice (some ⟨gL, 0, none⟩) Z.length Z.length, .int .i64 (winR Z (List.replicate Z.length 0) : Nat)] 54)
      have HV : Hid (KV w.heap.size A c Z w5.heap.size gN (w5.alloc (.cells #[.slice AK Z.length cK, .slice AD Z.length cD, .slice (some ⟨gL, 0, none⟩) Z.length Z.length, .int .i64 (winR Z (List.replicate Z.length 0) : Nat)] 54)) AK cK AD cD (some ⟨gL, 0, none⟩) Z.length (KY Z (List.replicate Z.length 0)) (DN Z (List.replicate Z.length 0)) (winR Z (List.replicate Z.length 0)) (List.replicate Z.length 0)) := Lib.hid
        ⟨(hBW.trans (hbb.mono hBW.size)).size, hBW.size, HX.out.below (hBW.trans (hbb.mono hBW.size)), hbn, own_base (own_below htr.1 hbb (Nat.le_refl _)) HW.out.size, own_base (own_below htr.2.1 hbb (Nat.le_refl _)) HW.out.size, own_below hNN hbb (Nat.le_refl _), hne, KY_len _ _, DN_len _ _, by simp⟩
      have HB6 := Lib.hid (hBW.trans (hbb.mono hBW.size))
      clear hbn hbb hBW hne hNN htr hb5 HN HW
      go_upto_region 11 with fail
      generalize hp5 : w5.heap.size = pt at *
      generalize hw6 : w5.alloc (.cells #[.slice AK Z.length cK, .slice AD Z.length cD, .slice (some ⟨gL, 0, none⟩) Z.length Z.length, .int .i64 (winR Z (List.replicate Z.length 0) : Nat)] 54) = w6 at *
      clear hw6 hp5
      have hm0 := made_at (w := w6) (base := w.heap.size) (g := w6.heap.size) (size := 2) (e := 47) HB6.out.size rfl
      have HO9 := Lib.hid hm0
      have HK9 := Lib.hid (HV.out.below (alloc_ (Below.refl _ _) (.cells #[] 47)))
      have HW9 := Lib.hid (alloc_ HB6.out (.cells #[] 47))
      clear hm0 HV HB6
      have hc1 : (Z.length : Int) - 1 = ((Z.length - 1 : Nat) : Int) := by omega
      have HC1 := Lib.hid hc1; clear hc1
      go_wp2_with fail
      rw [HC1.out]
      generalize w6.alloc (.cells #[] 47) = w9 at *
      generalize w6.heap.size = g9 at *
      go_loopg [9, 10] 65 (fun F vo vc wr => Kq w A c Z pt gN F vo vc wr)
      case atStart => exact ⟨g9, 0, 0, AK, cK, AD, cD, some ⟨gL, 0, none⟩, Z.length, _, [], _, rfl, rfl, HK9, HO9, Lib.hid rfl, HW9, Lib.hid (KI.start h16)⟩
      case round =>
        clear HK9 HO9 HW9 HC1
        obtain ⟨gO, m, cO, AK, cK, AD, cD, AL, cL, nx, out, cnt, rfl, rfl, HK, HO, HOL, HW, HI⟩ := hrel
        obtain ⟨F, rfl⟩ : ∃ F, gk = F + 1 := ⟨gk - 1, by have := (HI.out.pos ht).1; omega⟩
        have hiL := winR_lt (L := Z) (nx := nx) h1
        obtain ⟨i, hiw⟩ : ∃ i, winR Z nx = i := ⟨_, rfl⟩
        rw [hiw] at hiL HK
        have HIW := Lib.hid hiw
        clear hiw
        have hm64 : m ≤ 64 := by have h8 := (HI.out.pos ht).2; have h7 := HI.out.ol; have h6 := HOL.out; omega
        have hcnt : cnt ≤ 1040 := by have h8 := (HI.out.pos ht).2; have h7 := HI.out.cl; omega
        have hiI : (i : Int) < Z.length := by omega
        obtain ⟨gE, cE, eE, -, -, -⟩ := own_some HK.out.dr (by omega)
        cases eE
        obtain ⟨z0, z1, z2, z3⟩ := HK.out.tb.four
        have x7 := HK.out.dr.cellAt i (by omega)
        rw [bools_get (by rw [DN_len]; exact hiL), DN_get hiL] at x7
        cases hd : dB Z nx i
        · rw [hd] at x7
          have HD := Lib.hid hd
          clear hd
          go_upto_region 15 with fail
          clear z0 z1 z2 z3 x7
          have hlt := HI.out.ni.lt hiL HD.out
          obtain ⟨x, hx⟩ : ∃ x, nxA nx i = x := ⟨_, rfl⟩
          rw [hx] at hlt
          have HXN := Lib.hid hx
          have hx64 : x ≤ 64 := by have h9 := HI.out.ni.sum; have h8 := nxA_le_sum nx i; omega
          clear hx
          obtain ⟨ad, A2, c2, rfl, hadl, hcq0, hr2⟩ := HK.out.rd.atB hiL
          have hn2 : lnR Z i = Z[i].length := by simp [lnR, hiL]
          have hlt2 : x < Z[i].length := by omega
          obtain ⟨bd, rfl, hbdl0, hcr10, hcr20⟩ := hr2.cmp hlt2
          have hbdl : (bd.add (x * 2)).block < w.heap.size := by rw [block_of_add]; exact hbdl0
          have hrr : rcR Z i x = Z[i][x] := by simp [rcR, hiL, hlt2]
          have HRD := Lib.hid (HX.out.atB hiL)
          go_cut [9] (fun v wc => ∃ (g d : Nat), v = .slice (some ⟨g, 0, none⟩) (m + 1) d ∧ KV w.heap.size (some ad) c Z pt gN wc AK cK (some ⟨gE, 0, none⟩) cD AL cL (KY Z nx) (DN Z nx) i nx ∧ wc.ownsRow w.heap.size 47 2 (.slice (some ⟨g, 0, none⟩) (m + 1) d) (m + 1) (cmps (out ++ [rcR Z i x])) ∧ Below w.heap.size w wc)
          case first =>
            have HKS : Hid (KV w.heap.size (some ad) c Z pt gN wr.drew AK cK (some ⟨gE, 0, none⟩) cD AL cL (KY Z nx) (DN Z nx) i nx) := Lib.hid (HK.out.below (bdrew (Below.refl _ _)))
            have HOO : Hid (wr.drew.ownsRow w.heap.size 47 2 (.slice (some ⟨gO, 0, none⟩) m cO) m (cmps out)) := Lib.hid (own_drew_ HO.out)
            have HBW : Hid (Below w.heap.size w wr.drew) := Lib.hid (bdrew HW.out)
            have HBS : Hid (w.heap.size ≤ wr.drew.heap.size) := Lib.hid HBW.out.size
            have hcq0 : wr.drew.cell? (ad.add i) = _ := hcq0
            have hcr10 : wr.drew.cell? (bd.add (x * 2)) = _ := hcr10
            have hcr20 : wr.drew.cell? ⟨(bd.add (x * 2)).block, (bd.add (x * 2)).off + 1, none⟩ = _ := hcr20
            obtain ⟨wq, hwq⟩ : ∃ wq, wr.drew = wq := ⟨_, rfl⟩
            rw [hwq] at HKS HOO HBW HBS
            have hcq := hcq0
            have hcr1 := hcr10
            have hcr2 := hcr20
            rw [hwq] at hcq hcr1 hcr2
            clear hcq0 hcr10 hcr20 HK HO HW hr2 HRD
            generalize Z[i][x] = rr at *
            obtain ⟨r1, r2⟩ := rr
            have HRR := Lib.hid hrr
            clear hrr
            simp only at hcr1 hcr2
            have hn2' := Lib.hid hn2
            clear hn2
            generalize Z[i].length = n2 at *
            have hxI : (x : Int) < (n2 : Int) := by omega
            have hi := hiL
            refine wp_region_inv' (fun a0 L a wr => St a0 a [71, 72, 73, 74, 75, 76, 77, 78, 79, 80, 81, 82, 83, 9] ∧ 90 < a.tmps.size ∧ a.eval (.tmp 0) = .slice (some ad) Z.length c ∧ a.eval (.tmp 6) = .slice (some ⟨gN, 0, none⟩) Z.length Z.length ∧ a.eval (.tmp 11) = .int .i64 (i : Nat) ∧ KwQ w.heap.size wq gO m cO Z.length c i x n2 c2 gN ad bd r1 r2 out L wr (a.eval (.tmp 71)) (a.eval (.tmp 72)) (a.eval (.tmp 73)) (a.eval (.tmp 74)) (a.eval (.tmp 75)) (a.eval (.tmp 76)) (a.eval (.tmp 77)) (a.eval (.tmp 78)) (a.eval (.tmp 79)) (a.eval (.tmp 80)) (a.eval (.tmp 81)) (a.eval (.tmp 82)) (a.eval (.tmp 83)) (a.eval (.tmp 9))) (by kernel_rfl) (by kernel_rfl) ?start ?steps ?ends
            case start =>
              subst hwq
              refine ⟨St.refl _ _, Nat.le_of_ble_eq_true rfl, rfl, rfl, rfl, World.grownBy.refl _ _, ?_, ?_, ?_, ?_, ?_, ?_, ?_, ?_, ?_, ?_, ?_, ?_, ?_, ?_, ?_, ?_, ?_, ?_, ?_, ?_, ?_, ?_, ?_, ?_, fun _ => HOO.out⟩
              all_goals (intro e; first | (cases e; done) | rfl | assumption)
            case ends =>
              rintro L a wr ⟨hst, hsz, q0, q6, q11, b, h3, h4, h7, h8, h9, h10, h11, h12, h13, f0, f1, f2, f3, f4, f5, f6, f7, f8, f9, f10, f11, f12, f13, frw, ko⟩ hall
              obtain ⟨g5, d5, e5, o5⟩ := f12 (hall 12 (by decide))
              have e4 := (f13 (hall 13 (by decide))).trans e5
              clear e5
              have heq := hst.eq
              simp only [List.foldl_cons, List.foldl_nil] at heq
              rw [e4] at heq
              clear hst hall hsz q0 q6 q11 h3 h4 h7 h8 h9 h10 h11 h12 h13 f0 f1 f2 f3 f4 f5 f6 f7 f8 f9 f10 f11 f12 f13 frw ko
              generalize a.eval (.tmp 71) = u71 at *
              generalize a.eval (.tmp 72) = u72 at *
              generalize a.eval (.tmp 73) = u73 at *
              generalize a.eval (.tmp 74) = u74 at *
              generalize a.eval (.tmp 75) = u75 at *
              generalize a.eval (.tmp 76) = u76 at *
              generalize a.eval (.tmp 77) = u77 at *
              generalize a.eval (.tmp 78) = u78 at *
              generalize a.eval (.tmp 79) = u79 at *
              generalize a.eval (.tmp 80) = u80 at *
              generalize a.eval (.tmp 81) = u81 at *
              generalize a.eval (.tmp 82) = u82 at *
              generalize a.eval (.tmp 83) = u83 at *
              simp only [Act.put, List.setIfInBounds_toArray, List.set_cons_zero, List.set_cons_succ] at heq
              subst heq
              clear e4
              have hks := HKS.out.near HOO.out b
              have hbw := HBW.out.trans (below_of_grown b HBW.out.size (fun q hq => (own_lt HOO.out q hq).1))
              go_wp2_with fail
              go_meet
              exact ⟨g5, d5, rfl, hks, by rw [HRR.out]; exact o5, hbw⟩
            case steps =>
              refine ⟨?s0, ?s1, ?s2, ?s3, ?s4, ?s5, ?s6, ?s7, ?s8, ?s9, ?s10, ?s11, ?s12, ?s13, trivial⟩
              case s0 =>
                rintro L a wr ⟨hst, hsz, q0, q6, q11, hF⟩ hL hdp K hK
                have ev := fun (d t : Nat) (v : Value) (hd : d < 91) => eval_put a d t v (by omega)
                obtain ⟨b, h3, h4, h7, h8, h9, h10, h11, h12, h13, f0, f1, f2, f3, f4, f5, f6, f7, f8, f9, f10, f11, f12, f13, frw, ko⟩ := hF
                have n13 : L 13 = false := by
                  cases h : L 13
                  · rfl
                  · exact absurd (((h12 (h13 h)).1).symm.trans hL) (by decide)
                have t9 := frw n13
                rw [eval_tmp, Array.getD_eq_getD_getElem?] at t9
                refine step_value (v := .slice (some ⟨gO, 0, none⟩) m cO) (w' := wr) rfl (by go_simp) ?_
                refine hK _ _ ⟨hst.put 71 _ (by decide), by simpa [Act.put] using hsz, (ev 71 0 _ (by decide)).trans q0, (ev 71 6 _ (by decide)).trans q6, (ev 71 11 _ (by decide)).trans q11, ?_⟩
                simp only [ev 71 _ _ (by decide)]
                exact ⟨b, h3, h4, h7, h8, h9, h10, h11, fun e => absurd ((h12 e).1.symm.trans hL) (by decide), h13, fun _ => rfl, f1, f2, f3, f4, f5, f6, f7, f8, f9, f10, f11, f12, f13, frw, ko⟩
              case s1 =>
                rintro L a wr ⟨hst, hsz, q0, q6, q11, hF⟩ hL hdp K hK
                have ev := fun (d t : Nat) (v : Value) (hd : d < 91) => eval_put a d t v (by omega)
                obtain ⟨b, h3, h4, h7, h8, h9, h10, h11, h12, h13, f0, f1, f2, f3, f4, f5, f6, f7, f8, f9, f10, f11, f12, f13, frw, ko⟩ := hF
                have t0 := q0
                rw [eval_tmp, Array.getD_eq_getD_getElem?] at t0
                refine step_value (v := .slice (some ad) Z.length c) (w' := wr) rfl (by go_simp) ?_
                refine hK _ _ ⟨hst.put 72 _ (by decide), by simpa [Act.put] using hsz, (ev 72 0 _ (by decide)).trans q0, (ev 72 6 _ (by decide)).trans q6, (ev 72 11 _ (by decide)).trans q11, ?_⟩
                simp only [ev 72 _ _ (by decide)]
                exact ⟨b, fun e => absurd ((h3 e).1.symm.trans hL) (by decide), h4, h7, h8, h9, h10, h11, h12, h13, f0, fun _ => rfl, f2, f3, f4, f5, f6, f7, f8, f9, f10, f11, f12, f13, frw, ko⟩
              case s2 =>
                rintro L a wr ⟨hst, hsz, q0, q6, q11, hF⟩ hL hdp K hK
                have ev := fun (d t : Nat) (v : Value) (hd : d < 91) => eval_put a d t v (by omega)
                obtain ⟨b, h3, h4, h7, h8, h9, h10, h11, h12, h13, f0, f1, f2, f3, f4, f5, f6, f7, f8, f9, f10, f11, f12, f13, frw, ko⟩ := hF
                have t11 := q11
                rw [eval_tmp, Array.getD_eq_getD_getElem?] at t11
                refine step_value (v := .int .i64 (i : Nat)) (w' := wr) rfl (by go_simp) ?_
                refine hK _ _ ⟨hst.put 73 _ (by decide), by simpa [Act.put] using hsz, (ev 73 0 _ (by decide)).trans q0, (ev 73 6 _ (by decide)).trans q6, (ev 73 11 _ (by decide)).trans q11, ?_⟩
                simp only [ev 73 _ _ (by decide)]
                exact ⟨b, fun e => absurd ((h3 e).2.symm.trans hL) (by decide), h4, h7, h8, h9, h10, h11, h12, h13, f0, f1, fun _ => rfl, f3, f4, f5, f6, f7, f8, f9, f10, f11, f12, f13, frw, ko⟩
              case s3 =>
                rintro L a wr ⟨hst, hsz, q0, q6, q11, hF⟩ hL hdp K hK
                have ev := fun (d t : Nat) (v : Value) (hd : d < 91) => eval_put a d t v (by omega)
                have d1 : L 1 = true := hdp ⟨1, .data⟩ (by simp) rfl
                have d2 : L 2 = true := hdp ⟨2, .data⟩ (by simp) rfl
                obtain ⟨b, h3, h4, h7, h8, h9, h10, h11, h12, h13, f0, f1, f2, f3, f4, f5, f6, f7, f8, f9, f10, f11, f12, f13, frw, ko⟩ := hF
                have t72 := f1 d1
                have t73 := f2 d2
                rw [eval_tmp, Array.getD_eq_getD_getElem?] at t72 t73
                refine step_value (v := .pointer (some (ad.add i))) (w' := wr) rfl (by go_simp) ?_
                refine hK _ _ ⟨hst.put 74 _ (by decide), by simpa [Act.put] using hsz, (ev 74 0 _ (by decide)).trans q0, (ev 74 6 _ (by decide)).trans q6, (ev 74 11 _ (by decide)).trans q11, ?_⟩
                simp only [ev 74 _ _ (by decide)]
                exact ⟨b, fun _ => ⟨d1, d2⟩, fun e => absurd ((h4 e).symm.trans hL) (by decide), h7, h8, h9, h10, h11, h12, h13, f0, f1, f2, fun _ => rfl, f4, f5, f6, f7, f8, f9, f10, f11, f12, f13, frw, ko⟩
              case s4 =>
                rintro L a wr ⟨hst, hsz, q0, q6, q11, hF⟩ hL hdp K hK
                have ev := fun (d t : Nat) (v : Value) (hd : d < 91) => eval_put a d t v (by omega)
                have d3 : L 3 = true := hdp ⟨3, .data⟩ (by simp) rfl
                obtain ⟨b, h3, h4, h7, h8, h9, h10, h11, h12, h13, f0, f1, f2, f3, f4, f5, f6, f7, f8, f9, f10, f11, f12, f13, frw, ko⟩ := hF
                have t74 := f3 d3
                rw [eval_tmp, Array.getD_eq_getD_getElem?] at t74
                have hBl := below_of_grown b HBS.out (fun q hq => (own_lt HOO.out q hq).1)
                have hcl := (hBl.cell hadl).trans hcq
                refine step_value (v := .slice (some bd) n2 c2) (w' := wr) rfl (by go_simp) ?_
                refine hK _ _ ⟨hst.put 75 _ (by decide), by simpa [Act.put] using hsz, (ev 75 0 _ (by decide)).trans q0, (ev 75 6 _ (by decide)).trans q6, (ev 75 11 _ (by decide)).trans q11, ?_⟩
                simp only [ev 75 _ _ (by decide)]
                exact ⟨b, h3, fun _ => d3, h7, h8, fun e => absurd ((h9 e).1.symm.trans hL) (by decide), h10, h11, h12, h13, f0, f1, f2, f3, fun _ => rfl, f5, f6, f7, f8, f9, f10, f11, f12, f13, frw, ko⟩
              case s5 =>
                rintro L a wr ⟨hst, hsz, q0, q6, q11, hF⟩ hL hdp K hK
                have ev := fun (d t : Nat) (v : Value) (hd : d < 91) => eval_put a d t v (by omega)
                obtain ⟨b, h3, h4, h7, h8, h9, h10, h11, h12, h13, f0, f1, f2, f3, f4, f5, f6, f7, f8, f9, f10, f11, f12, f13, frw, ko⟩ := hF
                have t6 := q6
                rw [eval_tmp, Array.getD_eq_getD_getElem?] at t6
                refine step_value (v := .slice (some ⟨gN, 0, none⟩) Z.length Z.length) (w' := wr) rfl (by go_simp) ?_
                refine hK _ _ ⟨hst.put 76 _ (by decide), by simpa [Act.put] using hsz, (ev 76 0 _ (by decide)).trans q0, (ev 76 6 _ (by decide)).trans q6, (ev 76 11 _ (by decide)).trans q11, ?_⟩
                simp only [ev 76 _ _ (by decide)]
                exact ⟨b, h3, h4, fun e => absurd ((h7 e).1.symm.trans hL) (by decide), h8, h9, h10, h11, h12, h13, f0, f1, f2, f3, f4, fun _ => rfl, f6, f7, f8, f9, f10, f11, f12, f13, frw, ko⟩
              case s6 =>
                rintro L a wr ⟨hst, hsz, q0, q6, q11, hF⟩ hL hdp K hK
                have ev := fun (d t : Nat) (v : Value) (hd : d < 91) => eval_put a d t v (by omega)
                obtain ⟨b, h3, h4, h7, h8, h9, h10, h11, h12, h13, f0, f1, f2, f3, f4, f5, f6, f7, f8, f9, f10, f11, f12, f13, frw, ko⟩ := hF
                have t11 := q11
                rw [eval_tmp, Array.getD_eq_getD_getElem?] at t11
                refine step_value (v := .int .i64 (i : Nat)) (w' := wr) rfl (by go_simp) ?_
                refine hK _ _ ⟨hst.put 77 _ (by decide), by simpa [Act.put] using hsz, (ev 77 0 _ (by decide)).trans q0, (ev 77 6 _ (by decide)).trans q6, (ev 77 11 _ (by decide)).trans q11, ?_⟩
                simp only [ev 77 _ _ (by decide)]
                exact ⟨b, h3, h4, fun e => absurd ((h7 e).2.symm.trans hL) (by decide), h8, h9, h10, h11, h12, h13, f0, f1, f2, f3, f4, f5, fun _ => rfl, f7, f8, f9, f10, f11, f12, f13, frw, ko⟩
              case s7 =>
                rintro L a wr ⟨hst, hsz, q0, q6, q11, hF⟩ hL hdp K hK
                have ev := fun (d t : Nat) (v : Value) (hd : d < 91) => eval_put a d t v (by omega)
                have d5 : L 5 = true := hdp ⟨5, .data⟩ (by simp) rfl
                have d6 : L 6 = true := hdp ⟨6, .data⟩ (by simp) rfl
                obtain ⟨b, h3, h4, h7, h8, h9, h10, h11, h12, h13, f0, f1, f2, f3, f4, f5, f6, f7, f8, f9, f10, f11, f12, f13, frw, ko⟩ := hF
                have t76 := f5 d5
                have t77 := f6 d6
                rw [eval_tmp, Array.getD_eq_getD_getElem?] at t76 t77
                refine step_value (v := .pointer (some ⟨gN, i, none⟩)) (w' := wr) rfl (by go_simp) ?_
                refine hK _ _ ⟨hst.put 78 _ (by decide), by simpa [Act.put] using hsz, (ev 78 0 _ (by decide)).trans q0, (ev 78 6 _ (by decide)).trans q6, (ev 78 11 _ (by decide)).trans q11, ?_⟩
                simp only [ev 78 _ _ (by decide)]
                exact ⟨b, h3, h4, fun _ => ⟨d5, d6⟩, fun e => absurd ((h8 e).symm.trans hL) (by decide), h9, h10, h11, h12, h13, f0, f1, f2, f3, f4, f5, f6, fun _ => rfl, f8, f9, f10, f11, f12, f13, frw, ko⟩
              case s8 =>
                rintro L a wr ⟨hst, hsz, q0, q6, q11, hF⟩ hL hdp K hK
                have ev := fun (d t : Nat) (v : Value) (hd : d < 91) => eval_put a d t v (by omega)
                have d7 : L 7 = true := hdp ⟨7, .data⟩ (by simp) rfl
                obtain ⟨b, h3, h4, h7, h8, h9, h10, h11, h12, h13, f0, f1, f2, f3, f4, f5, f6, f7, f8, f9, f10, f11, f12, f13, frw, ko⟩ := hF
                have t78 := f7 d7
                rw [eval_tmp, Array.getD_eq_getD_getElem?] at t78
                have hks := HKS.out.near HOO.out b
                have hcl := hks.cellN hi
                rw [HXN.out] at hcl
                refine step_value (v := .int .i64 (x : Nat)) (w' := wr) rfl (by go_simp) ?_
                refine hK _ _ ⟨hst.put 79 _ (by decide), by simpa [Act.put] using hsz, (ev 79 0 _ (by decide)).trans q0, (ev 79 6 _ (by decide)).trans q6, (ev 79 11 _ (by decide)).trans q11, ?_⟩
                simp only [ev 79 _ _ (by decide)]
                exact ⟨b, h3, h4, h7, fun _ => d7, fun e => absurd ((h9 e).2.symm.trans hL) (by decide), h10, h11, h12, h13, f0, f1, f2, f3, f4, f5, f6, f7, fun _ => rfl, f9, f10, f11, f12, f13, frw, ko⟩
              case s9 =>
                rintro L a wr ⟨hst, hsz, q0, q6, q11, hF⟩ hL hdp K hK
                have ev := fun (d t : Nat) (v : Value) (hd : d < 91) => eval_put a d t v (by omega)
                have d4 : L 4 = true := hdp ⟨4, .data⟩ (by simp) rfl
                have d8 : L 8 = true := hdp ⟨8, .data⟩ (by simp) rfl
                obtain ⟨b, h3, h4, h7, h8, h9, h10, h11, h12, h13, f0, f1, f2, f3, f4, f5, f6, f7, f8, f9, f10, f11, f12, f13, frw, ko⟩ := hF
                have t75 := f4 d4
                have t79 := f8 d8
                rw [eval_tmp, Array.getD_eq_getD_getElem?] at t75 t79
                refine step_value (v := .pointer (some (bd.add (x * 2)))) (w' := wr) rfl (by go_simp) ?_
                refine hK _ _ ⟨hst.put 80 _ (by decide), by simpa [Act.put] using hsz, (ev 80 0 _ (by decide)).trans q0, (ev 80 6 _ (by decide)).trans q6, (ev 80 11 _ (by decide)).trans q11, ?_⟩
                simp only [ev 80 _ _ (by decide)]
                exact ⟨b, h3, h4, h7, h8, fun _ => ⟨d4, d8⟩, fun e => absurd ((h10 e).symm.trans hL) (by decide), h11, h12, h13, f0, f1, f2, f3, f4, f5, f6, f7, f8, fun _ => rfl, f10, f11, f12, f13, frw, ko⟩
              case s10 =>
                rintro L a wr ⟨hst, hsz, q0, q6, q11, hF⟩ hL hdp K hK
                have ev := fun (d t : Nat) (v : Value) (hd : d < 91) => eval_put a d t v (by omega)
                have d9 : L 9 = true := hdp ⟨9, .data⟩ (by simp) rfl
                obtain ⟨b, h3, h4, h7, h8, h9, h10, h11, h12, h13, f0, f1, f2, f3, f4, f5, f6, f7, f8, f9, f10, f11, f12, f13, frw, ko⟩ := hF
                have t80 := f9 d9
                rw [eval_tmp, Array.getD_eq_getD_getElem?] at t80
                have hBl := below_of_grown b HBS.out (fun q hq => (own_lt HOO.out q hq).1)
                have hcl := (hBl.cell hbdl).trans hcr1
                have hcl2 := (hBl.cell (p := ⟨(bd.add (x * 2)).block, (bd.add (x * 2)).off + 1, none⟩) hbdl).trans hcr2
                refine step_value (v := .agg #[.int .i64 r1, .int .i64 r2]) (w' := wr) rfl (by go_simp) ?_
                refine hK _ _ ⟨hst.put 81 _ (by decide), by simpa [Act.put] using hsz, (ev 81 0 _ (by decide)).trans q0, (ev 81 6 _ (by decide)).trans q6, (ev 81 11 _ (by decide)).trans q11, ?_⟩
                simp only [ev 81 _ _ (by decide)]
                exact ⟨b, h3, h4, h7, h8, h9, fun _ => d9, fun e => absurd ((h11 e).symm.trans hL) (by decide), h12, h13, f0, f1, f2, f3, f4, f5, f6, f7, f8, f9, fun _ => rfl, f11, f12, f13, frw, ko⟩
              case s11 =>
                rintro L a wr ⟨hst, hsz, q0, q6, q11, hF⟩ hL hdp K hK
                have ev := fun (d t : Nat) (v : Value) (hd : d < 91) => eval_put a d t v (by omega)
                have d10 : L 10 = true := hdp ⟨10, .data⟩ (by simp) rfl
                obtain ⟨b, h3, h4, h7, h8, h9, h10, h11, h12, h13, f0, f1, f2, f3, f4, f5, f6, f7, f8, f9, f10, f11, f12, f13, frw, ko⟩ := hF
                have t81 := f10 d10
                have t81 := f10 d10
                rw [eval_tmp, Array.getD_eq_getD_getElem?] at t81
                refine step_value (v := .slice (some ⟨wr.heap.size, 0, none⟩) 1 1) (w' := wr.alloc (.cells #[.int .i64 r1, .int .i64 r2] 47)) rfl (by go_simp) ?_
                refine hK _ _ ⟨hst.put 82 _ (by decide), by simpa [Act.put] using hsz, (ev 82 0 _ (by decide)).trans q0, (ev 82 6 _ (by decide)).trans q6, (ev 82 11 _ (by decide)).trans q11, ?_⟩
                simp only [ev 82 _ _ (by decide)]
                exact ⟨grown_step b (World.grownBy_alloc wr _ (Value.ownBlock (.slice (some ⟨gO, 0, none⟩) m cO))) (fun k hk => .inl hk.symm), h3, h4, h7, h8, h9, h10, fun _ => d10, fun e => absurd ((h12 e).2.symm.trans hL) (by decide), h13, f0, f1, f2, f3, f4, f5, f6, f7, f8, f9, f10, fun _ _ => ⟨_, rfl, Blk.new _ _ _⟩, fun e => absurd ((h12 e).2.symm.trans hL) (by decide), f13, frw, fun e => (ko e).alloc _⟩
              case s12 =>
                rintro L a wr ⟨hst, hsz, q0, q6, q11, hF⟩ hL hdp K hK
                have ev := fun (d t : Nat) (v : Value) (hd : d < 91) => eval_put a d t v (by omega)
                have d0 : L 0 = true := hdp ⟨0, .data⟩ (by simp) rfl
                have d11 : L 11 = true := hdp ⟨11, .data⟩ (by simp) rfl
                obtain ⟨b, h3, h4, h7, h8, h9, h10, h11, h12, h13, f0, f1, f2, f3, f4, f5, f6, f7, f8, f9, f10, f11, f12, f13, frw, ko⟩ := hF
                have t71 := f0 d0
                obtain ⟨g0, e0, hbl0⟩ := f11 d11 hL
                have hoo := ko hL
                refine step_push wr rfl (.tmp 71) (.tmp 82) 24 rfl w.heap.size 47 i0 _ 2 16 Try.underlying24 HI0.out.1 HI0.out.2.1 HI0.out.2.2.1 HI0.out.2.2.2 rfl (by decide) (.slice (some ⟨gO, 0, none⟩) m cO) m (cmps out) (f0 d0) hoo #[.int .i64 r1, .int .i64 r2] g0 e0 hbl0 rfl (by simp [Value.oneCell']) (by omega) (by unfold maxLen; omega) (Nat.le_trans HBS.out b.size) ?_
                intro g4 d4 w4 o4 gr4 b4 at4
                refine hK _ _ ⟨hst.put 83 _ (by decide), by simpa [Act.put] using hsz, (ev 83 0 _ (by decide)).trans q0, (ev 83 6 _ (by decide)).trans q6, (ev 83 11 _ (by decide)).trans q11, ?_⟩
                simp only [ev 83 _ _ (by decide)]
                exact ⟨grown_step b gr4 (fun k hk => .inl hk.symm), h3, h4, h7, h8, h9, h10, h11, fun _ => ⟨d0, d11⟩, fun e => absurd ((h13 e).symm.trans hL) (by decide), f0, f1, f2, f3, f4, f5, f6, f7, f8, f9, f10, fun _ e => absurd ((upd_self L 12).symm.trans e) (by decide), fun _ => ⟨g4, d4, rfl, by have h9 := o4; rw [cmps_push_] at h9; exact h9⟩, fun e => absurd ((h13 e).symm.trans hL) (by decide), frw, fun e => absurd ((upd_self L 12).symm.trans e) (by decide)⟩
              case s13 =>
                rintro L a wr ⟨hst, hsz, q0, q6, q11, hF⟩ hL hdp K hK
                have ev := fun (d t : Nat) (v : Value) (hd : d < 91) => eval_put a d t v (by omega)
                have d12 : L 12 = true := hdp ⟨12, .data⟩ (by simp) rfl
                obtain ⟨b, h3, h4, h7, h8, h9, h10, h11, h12, h13, f0, f1, f2, f3, f4, f5, f6, f7, f8, f9, f10, f11, f12, f13, frw, ko⟩ := hF
                refine step_value (v := a.eval (.tmp 83)) (w' := wr) rfl (by go_simp) ?_
                refine hK _ _ ⟨hst.put 9 _ (by decide), by simpa [Act.put] using hsz, (ev 9 0 _ (by decide)).trans q0, (ev 9 6 _ (by decide)).trans q6, (ev 9 11 _ (by decide)).trans q11, ?_⟩
                simp only [ev 9 _ _ (by decide)]
                exact ⟨b, h3, h4, h7, h8, h9, h10, h11, h12, fun _ => d12, f0, f1, f2, f3, f4, f5, f6, f7, f8, f9, f10, f11, f12, fun _ => rfl, fun e => absurd ((upd_self L 13).symm.trans e) (by decide), ko⟩
          case rest =>
            obtain ⟨g5, d5, rfl, hks, ho, hbw⟩ := hcut
            have HK2 := Lib.hid hks
            have HO2 := Lib.hid ho
            have HW2 := Lib.hid hbw
            clear hks ho hbw HK HO HW hcq0 hcr10 hcr20 hr2 hrr hbdl hbdl0 hadl
            have y2 := HK2.out.cellN hiL
            rw [HXN.out] at y2
            have y3 := HK2.out.nr.frozenAt i
            obtain ⟨-, -, -, y4⟩ := HK2.out.tb.four
            have hx1 : ((x + 1 : Nat) : Int) = (x : Int) + 1 := by omega
            have HK3 := Lib.hid (HK2.out.setN i (x + 1))
            have HO3 := Lib.hid (HK2.out.rows i (x + 1) HO2.out)
            have HW3 := Lib.hid (HW2.out.trans (HK2.out.low i (x + 1)))
            rw [hx1] at HK3 HO3 HW3
            have HS3 : Hid (nx.set i (x + 1) = stp nx i) := Lib.hid (by unfold stp; rw [HXN.out])
            rw [HS3.out] at HK3
            have hle3 : nxA (stp nx i) i = x + 1 := by rw [nxA_stp (by rw [HI.out.ni.len]; exact hiL), HXN.out]
            have HI5 : Hid (KI Z F (stp nx i) (out ++ [rcR Z i x]) (cnt + plen ((Z.length + i) / 2))) := Lib.hid (by
              have h9 := HI.out.step h1 h16 (by rw [HIW.out]; exact HD.out)
              rwa [HIW.out, HXN.out] at h9)
            have hmk : KY Z (stp nx i) = (KY Z nx).set i (kB Z (stp nx i) i) := KY_stp
            have hmd : DN Z (stp nx i) = (DN Z nx).set i (dB Z (stp nx i) i) := DN_stp
            have hdn : (DN Z nx)[i]? = some false := by rw [List.getElem?_eq_getElem (by rw [DN_len]; exact hiL), DN_get hiL, HD.out]
            go_upto_region 17 with fail
            generalize wc.setCell ⟨gN, i, none⟩ (.int .i64 ((x : Int) + 1)) = w3 at *
            clear HK2 HO2 HW2 hx1 HI y2 y3 y4 HRD
            have hlt3 : x + 1 ≤ Z[i].length := by omega
            have x64 : x + 1 ≤ 65 := by omega
            clear hlt hlt2 hx64
            obtain ⟨y, hy⟩ : ∃ y, x + 1 = y := ⟨_, rfl⟩
            rw [hy] at hle3 hlt3 x64
            have y2 := HK3.out.cellN hiL
            rw [hle3] at y2
            obtain ⟨ad', A2, c3, e3, -, hcq, hr3⟩ := HK3.out.rd.atB hiL
            cases e3
            by_cases hyo : y = Z[i].length
            · have hdb : dB Z (stp nx i) i = true := by unfold dB; rw [hle3, hn2]; simpa using hyo
              have hkb : kB Z (stp nx i) i = 0 := by unfold kB; rw [hdb]; rfl
              have HE1 : Hid ((KY Z nx).set i (if true then 0 else 0) = KY Z (stp nx i)) := Lib.hid (by rw [hmk, hkb]; rfl)
              have HE2 : Hid ((if true then (DN Z nx).set i true else DN Z nx) = DN Z (stp nx i)) := Lib.hid (by rw [hmd, hdb]; rfl)
              have hov : ((y : Int) == (Z[i].length : Int)) = true := by simp; omega
              clear hdb hkb hmk hmd hdn hle3 hlt3 hyo hr3 hn2
              go_quiet (fail)
              go_upto_region 20 with fail
              clear y2 hcq
              have HK4 := Lib.hid (HK3.out.below (below_drewN (Below.refl _ _) nq))
              have HO4 := Lib.hid (own_below HO3.out (below_drewN (Below.refl _ _) nq) (Nat.le_refl _))
              have HW4 := Lib.hid (below_drewN HW3.out nq)
              generalize w3.drewN nq = w4 at *
              clear HK3 HO3 HW3
              have hKr : Reads w4 w4.heap.size 1 AK (KY Z nx).length (ints (KY Z nx)) := by rw [KY_len]; exact Reads.of_own HK4.out.kr
              have hDr : Reads w4 w4.heap.size 1 (some ⟨gE, 0, none⟩) (DN Z nx).length (bools (DN Z nx)) := by rw [DN_len]; exact Reads.of_own HK4.out.dr
              have hrp := (l16Replace_any AK (KY Z nx) cK (some ⟨gE, 0, none⟩) (DN Z nx) cD AL cL Z.length i 0 true w4 (KY_len _ _) (DN_len _ _) hKr hDr hiL (by omega))
              rw [HE1.out, HE2.out, show winnerV (KY Z (stp nx i)) (DN Z (stp nx i)) = winR Z (stp nx i) from rfl] at hrp
              have HRP := Lib.hid hrp
              clear hKr hDr hrp
              obtain ⟨z0, z1, z2, z3⟩ := HK4.out.tb.four
              have hpl := plen_le _ ((Z.length + i) / 2) (Nat.le_refl _)
              go_wp2_with fail
              refine HRP.out.mono ?_
              clear HRP z0 z1 z2 z3
              rintro e w5 ⟨BK, dK, BD, dD, gL, rfl, htr, hb5⟩
              have HOK := Lib.hid htr.1
              have HOD := Lib.hid htr.2.1
              have HB5 := Lib.hid hb5
              have HO5 := Lib.hid (own_below HO4.out hb5 (Nat.le_refl _))
              clear htr hb5
              have HBN := Lib.hid (Blk.new w5 54 #[.slice BK Z.length dK, .slice BD Z.length dD, .slice (some ⟨gL, 0, none⟩) Z.length Z.length, .int .i64 (winR Z (stp nx i) : Nat)])
              have HBB := Lib.hid (alloc_ (Below.refl w5.heap.size w5) (.cells #[.slice BK Z.length dK, .slice BD Z.length dD, .slice (some ⟨gL, 0, none⟩) Z.length Z.length, .int .i64 (winR Z (stp nx i) : Nat)] 54))
              go_upto_region 21 with fail
              generalize hw6 : w5.alloc (.cells #[.slice BK Z.length dK, .slice BD Z.length dD, .slice (some ⟨gL, 0, none⟩) Z.length Z.length, .int .i64 (winR Z (stp nx i) : Nat)] 54) = w6 at *
              generalize hp6 : w5.heap.size = p6 at *
              have HB6 : Hid (Below w4.heap.size w4 w6) := Lib.hid (bthen HB5.out (by rw [hp6]; exact HBB.out))
              have HOK6 := Lib.hid (own_below HOK.out HBB.out (Nat.le_of_eq hp6))
              have HOD6 := Lib.hid (own_below HOD.out HBB.out (Nat.le_of_eq hp6))
              have HO6 := Lib.hid (own_below HO5.out HBB.out (Nat.le_of_eq hp6))
              have HK7 := Lib.hid (HK4.out.tree HB6.out HOK6.out HOD6.out (some ⟨gL, 0, none⟩) Z.length (winR Z (stp nx i)))
              have htb := HK4.out.tb.below_ HB6.out
              have HO7 := Lib.hid (HO6.out.kept (grown_set4 pt (.slice BK Z.length dK) (.slice BD Z.length dD) (.slice (some ⟨gL, 0, none⟩) Z.length Z.length) (.int .i64 (winR Z (stp nx i) : Nat))) (.inr (own_blk_ne HO6.out htb (by decide))))
              have HW7 := Lib.hid (below4 (HW4.out.trans (HB6.out.mono HW4.out.size)) HK4.out.hp (.slice BK Z.length dK) (.slice BD Z.length dD) (.slice (some ⟨gL, 0, none⟩) Z.length Z.length) (.int .i64 (winR Z (stp nx i) : Nat)))
              obtain ⟨q0, q1, q2, q3⟩ := HBN.out.four
              obtain ⟨z0, z1, z2, z3⟩ := htb.four
              obtain ⟨j0, j1, j2, j3⟩ := htb.ice
              have hpt := htb.lt
              clear htb hp6 hw6 HBB HB5 HOK HOD HO5 HO6 HB6 HK4 HO4 HW4 HBN
              go_wp2_with fail
              go_roundg F
              case measure => omega
              case rel => exact ⟨g5, m + 1, d5, BK, dK, BD, dD, some ⟨gL, 0, none⟩, Z.length, stp nx i, _, cnt + plen ((Z.length + i) / 2), rfl, by go_num, HK7, HO7, Lib.hid (by rw [List.length_append, HOL.out]; rfl), HW7, HI5⟩
            · have hlt4 : y < Z[i].length := by omega
              have hdb : dB Z (stp nx i) i = false := by unfold dB; rw [hle3, hn2]; simpa using hyo
              have hkb : kB Z (stp nx i) i = Z[i][y].1 := by
                unfold kB; rw [hdb, hle3, if_neg (by simp)]; simp [rcR, hiL, hlt4]
              obtain ⟨bd', rfl, -, hq1, -⟩ := hr3.cmp hlt4
              obtain ⟨y1, hy1⟩ : ∃ y1, Z[i][y].1 = y1 := ⟨_, rfl⟩
              rw [hy1] at hkb hq1
              have HE1 : Hid ((KY Z nx).set i (if false then 0 else y1) = KY Z (stp nx i)) := Lib.hid (by rw [hmk, hkb]; rfl)
              have HE2 : Hid ((if false then (DN Z nx).set i true else DN Z nx) = DN Z (stp nx i)) := Lib.hid (by rw [hmd, hdb, set_same hdn]; rfl)
              have hov : ((y : Int) == (Z[i].length : Int)) = false := by simp; omega
              have hlI : (y : Int) < (Z[i].length : Int) := by omega
              clear hdb hkb hmk hmd hdn hle3 hlt3 hyo hr3 hn2 hy1
              go_quiet (fail)
              go_upto_region 19 with fail
              have y2b : (w3.drewN nq).cell? ⟨gN, i, none⟩ = some (.int .i64 (y : Nat)) := y2
              have hcqb : (w3.drewN nq).cell? (ad.add i) = _ := hcq
              have hq1b : (w3.drewN nq).cell? (bd'.add (y * 2)) = _ := hq1
              have HK8 := Lib.hid (HK3.out.below (below_drewN (Below.refl _ _) nq))
              have HO8 := Lib.hid (own_below HO3.out (below_drewN (Below.refl _ _) nq) (Nat.le_refl _))
              have HW8 := Lib.hid (below_drewN HW3.out nq)
              generalize w3.drewN nq = w8 at *
              clear y2 hcq hq1 HK3 HO3 HW3
              go_quiet (fail)
              go_upto_region 20 with fail
              clear y2b hcqb hq1b
              have HK4 := Lib.hid (HK8.out.below (below_drewN (Below.refl _ _) nq))
              have HO4 := Lib.hid (own_below HO8.out (below_drewN (Below.refl _ _) nq) (Nat.le_refl _))
              have HW4 := Lib.hid (below_drewN HW8.out nq)
              generalize w8.drewN nq = w4 at *
              clear HK8 HO8 HW8
              have hKr : Reads w4 w4.heap.size 1 AK (KY Z nx).length (ints (KY Z nx)) := by rw [KY_len]; exact Reads.of_own HK4.out.kr
              have hDr : Reads w4 w4.heap.size 1 (some ⟨gE, 0, none⟩) (DN Z nx).length (bools (DN Z nx)) := by rw [DN_len]; exact Reads.of_own HK4.out.dr
              have hrp := (l16Replace_any AK (KY Z nx) cK (some ⟨gE, 0, none⟩) (DN Z nx) cD AL cL Z.length i y1 false w4 (KY_len _ _) (DN_len _ _) hKr hDr hiL (by omega))
              rw [HE1.out, HE2.out, show winnerV (KY Z (stp nx i)) (DN Z (stp nx i)) = winR Z (stp nx i) from rfl] at hrp
              have HRP := Lib.hid hrp
              clear hKr hDr hrp
              obtain ⟨z0, z1, z2, z3⟩ := HK4.out.tb.four
              have hpl := plen_le _ ((Z.length + i) / 2) (Nat.le_refl _)
              go_wp2_with fail
              refine HRP.out.mono ?_
              clear HRP z0 z1 z2 z3
              rintro e w5 ⟨BK, dK, BD, dD, gL, rfl, htr, hb5⟩
              have HOK := Lib.hid htr.1
              have HOD := Lib.hid htr.2.1
              have HB5 := Lib.hid hb5
              have HO5 := Lib.hid (own_below HO4.out hb5 (Nat.le_refl _))
              clear htr hb5
              have HBN := Lib.hid (Blk.new w5 54 #[.slice BK Z.length dK, .slice BD Z.length dD, .slice (some ⟨gL, 0, none⟩) Z.length Z.length, .int .i64 (winR Z (stp nx i) : Nat)])
              have HBB := Lib.hid (alloc_ (Below.refl w5.heap.size w5) (.cells #[.slice BK Z.length dK, .slice BD Z.length dD, .slice (some ⟨gL, 0, none⟩) Z.length Z.length, .int .i64 (winR Z (stp nx i) : Nat)] 54))
              go_upto_region 21 with fail
              generalize hw6 : w5.alloc (.cells #[.slice BK Z.length dK, .slice BD Z.length dD, .slice (some ⟨gL, 0, none⟩) Z.length Z.length, .int .i64 (winR Z (stp nx i) : Nat)] 54) = w6 at *
              generalize hp6 : w5.heap.size = p6 at *
              have HB6 : Hid (Below w4.heap.size w4 w6) := Lib.hid (bthen HB5.out (by rw [hp6]; exact HBB.out))
              have HOK6 := Lib.hid (own_below HOK.out HBB.out (Nat.le_of_eq hp6))
              have HOD6 := Lib.hid (own_below HOD.out HBB.out (Nat.le_of_eq hp6))
              have HO6 := Lib.hid (own_below HO5.out HBB.out (Nat.le_of_eq hp6))
              have HK7 := Lib.hid (HK4.out.tree HB6.out HOK6.out HOD6.out (some ⟨gL, 0, none⟩) Z.length (winR Z (stp nx i)))
              have htb := HK4.out.tb.below_ HB6.out
              have HO7 := Lib.hid (HO6.out.kept (grown_set4 pt (.slice BK Z.length dK) (.slice BD Z.length dD) (.slice (some ⟨gL, 0, none⟩) Z.length Z.length) (.int .i64 (winR Z (stp nx i) : Nat))) (.inr (own_blk_ne HO6.out htb (by decide))))
              have HW7 := Lib.hid (below4 (HW4.out.trans (HB6.out.mono HW4.out.size)) HK4.out.hp (.slice BK Z.length dK) (.slice BD Z.length dD) (.slice (some ⟨gL, 0, none⟩) Z.length Z.length) (.int .i64 (winR Z (stp nx i) : Nat)))
              obtain ⟨q0, q1, q2, q3⟩ := HBN.out.four
              obtain ⟨z0, z1, z2, z3⟩ := htb.four
              obtain ⟨j0, j1, j2, j3⟩ := htb.ice
              have hpt := htb.lt
              clear htb hp6 hw6 HBB HB5 HOK HOD HO5 HO6 HB6 HK4 HO4 HW4 HBN
              go_wp2_with fail
              go_roundg F
              case measure => omega
              case rel => exact ⟨g5, m + 1, d5, BK, dK, BD, dD, some ⟨gL, 0, none⟩, Z.length, stp nx i, _, cnt + plen ((Z.length + i) / 2), rfl, by go_num, HK7, HO7, Lib.hid (by rw [List.length_append, HOL.out]; rfl), HW7, HI5⟩
        · rw [hd] at x7
          have hfin := HI.out.fin (by rw [HIW.out]; exact hd)
          have HFI := Lib.hid hfin
          clear hd hfin
          go_wp2_with fail
          refine bodyPost_ret (v := .tuple #[.slice (some ⟨gO, 0, none⟩) m cO, .int .i64 (cnt : Nat)]) (by simp [results, Try.results22, go_sem]) rfl ?_
          rw [HFI.out]
          exact ⟨gO, cO, by rw [HOL.out], by rw [HOL.out]; exact HO.out, HW.out⟩
end Go.Proofs.Ytifjihpnhmemgaa
