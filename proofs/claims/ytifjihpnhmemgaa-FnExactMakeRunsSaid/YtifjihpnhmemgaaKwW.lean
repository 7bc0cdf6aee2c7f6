/- Merging several ascending lists of records: the program's state and its closure. -/
import Derived.Test.YtifjihpnhmemgaaKwM
import Derived.Test.YtifjihpnhmemgaaTreeOf
import Derived.Test.YtifjihpnhmemgaaNestQ
import Derived.IntWalk
import Derived.Deep.QuietTactic
import Derived.Deep.DeepCutAuto
import Derived.Deep.RegionLaw
import Derived.Deep.LoopGhost
import Derived.StillTailTactics
namespace Go.Proofs.Ytifjihpnhmemgaa
open Go.RowKit
set_option linter.unusedVariables false
theorem natsQ_get {ns : List Nat} {k : Nat} (h : k < ns.length) : (nats ns)[k]? = some (.int .i64 (nxA ns k : Nat)) := by simp [nats, ints, nxA, h]
theorem natsQ_set {ns : List Nat} {k v : Nat} : (nats ns).set k (.int .i64 (v : Nat)) = nats (ns.set k v) := by simp [nats, ints, List.map_set]
/-- the state of the merge -/
structure KS (B : Nat) (A : Option Addr) (c : Nat) (L : List Recs) (b1 p5 p6 p7 gK gD gN : Nat) (w : World) (ks : List Int) (ds : List Bool) (nx : List Nat) : Prop where
  hB : B ≤ w.heap.size
  lst : Blk w b1 27 #[.slice A L.length c]
  rd : ReadsQQ w B A L
  kb : Blk w p5 51 #[.slice (some ⟨gK, 0, none⟩) L.length L.length]
  db : Blk w p6 52 #[.slice (some ⟨gD, 0, none⟩) L.length L.length]
  nb : Blk w p7 51 #[.slice (some ⟨gN, 0, none⟩) L.length L.length]
  kr : w.ownsRow B 3 1 (.slice (some ⟨gK, 0, none⟩) L.length L.length) L.length (ints ks)
  dr : w.ownsRow B 4 1 (.slice (some ⟨gD, 0, none⟩) L.length L.length) L.length (bools ds)
  nr : w.ownsRow B 3 1 (.slice (some ⟨gN, 0, none⟩) L.length L.length) L.length (nats nx)
  ne : gK ≠ gN
  kl : ks.length = L.length
  dl : ds.length = L.length
  nl : nx.length = L.length
section
variable {B : Nat} {A : Option Addr} {c : Nat} {L : List Recs} {b1 p5 p6 p7 gK gD gN : Nat} {w w' : World} {ks : List Int} {ds : List Bool} {nx : List Nat}
theorem KS.below (h : KS B A c L b1 p5 p6 p7 gK gD gN w ks ds nx) (hb : Below w.heap.size w w') : KS B A c L b1 p5 p6 p7 gK gD gN w' ks ds nx :=
  ⟨Nat.le_trans h.hB hb.size, h.lst.below_ hb, h.rd.below (hb.mono h.hB), h.kb.below_ hb, h.db.below_ hb, h.nb.below_ hb, own_below h.kr hb (Nat.le_refl _), own_below h.dr hb (Nat.le_refl _), own_below h.nr hb (Nat.le_refl _), h.ne, h.kl, h.dl, h.nl⟩
theorem KS.drewN (h : KS B A c L b1 p5 p6 p7 gK gD gN w ks ds nx) (n : Nat) : KS B A c L b1 p5 p6 p7 gK gD gN (w.drewN n) ks ds nx := h.below (below_drewN (Below.refl _ _) n)
theorem KS.setK (h : KS B A c L b1 p5 p6 p7 gK gD gN w ks ds nx) (k : Nat) (v : Int) : KS B A c L b1 p5 p6 p7 gK gD gN (w.setCell ⟨gK, k, none⟩ (.int .i64 v)) (ks.set k v) ds nx := by
  obtain ⟨h1, h2⟩ := h.kr.stored k (.int .i64 v)
  have hg := own_lt h.kr gK rfl
  have n1 : b1 ≠ gK := fun e => own_blk_ne h.kr h.lst (by decide) (by rw [e]; rfl)
  have n2 : p5 ≠ gK := fun e => own_blk_ne h.kr h.kb (by decide) (by rw [e]; rfl)
  have n3 : p6 ≠ gK := fun e => own_blk_ne h.kr h.db (by decide) (by rw [e]; rfl)
  have n4 : p7 ≠ gK := fun e => own_blk_ne h.kr h.nb (by decide) (by rw [e]; rfl)
  refine ⟨Nat.le_trans h.hB h2.size, h.lst.far n1 _, h.rd.below ((Below.refl _ _).setCell hg.1 _), h.kb.far n2 _, h.db.far n3 _, h.nb.far n4 _, ?_, h.dr.kept h2 (own_ne_type h.dr h.kr (by decide)), h.nr.kept h2 (.inr (by simp [Value.ownBlock]; exact fun e => h.ne e.symm)), h.ne, by simp [h.kl], h.dl, h.nl⟩
  have : (ints ks).set k (.int .i64 v) = ints (ks.set k v) := by simp [ints, List.map_set]
  rwa [this] at h1
theorem KS.setD (h : KS B A c L b1 p5 p6 p7 gK gD gN w ks ds nx) (k : Nat) (v : Bool) : KS B A c L b1 p5 p6 p7 gK gD gN (w.setCell ⟨gD, k, none⟩ (.bool v)) ks (ds.set k v) nx := by
  obtain ⟨h1, h2⟩ := h.dr.stored k (.bool v)
  have hg := own_lt h.dr gD rfl
  have n1 : b1 ≠ gD := fun e => own_blk_ne h.dr h.lst (by decide) (by rw [e]; rfl)
  have n2 : p5 ≠ gD := fun e => own_blk_ne h.dr h.kb (by decide) (by rw [e]; rfl)
  have n3 : p6 ≠ gD := fun e => own_blk_ne h.dr h.db (by decide) (by rw [e]; rfl)
  have n4 : p7 ≠ gD := fun e => own_blk_ne h.dr h.nb (by decide) (by rw [e]; rfl)
  refine ⟨Nat.le_trans h.hB h2.size, h.lst.far n1 _, h.rd.below ((Below.refl _ _).setCell hg.1 _), h.kb.far n2 _, h.db.far n3 _, h.nb.far n4 _, h.kr.kept h2 (own_ne_type h.kr h.dr (by decide)), ?_, h.nr.kept h2 (own_ne_type h.nr h.dr (by decide)), h.ne, h.kl, by simp [h.dl], h.nl⟩
  rwa [bools_set] at h1
theorem KS.setN (h : KS B A c L b1 p5 p6 p7 gK gD gN w ks ds nx) (k v : Nat) : KS B A c L b1 p5 p6 p7 gK gD gN (w.setCell ⟨gN, k, none⟩ (.int .i64 (v : Nat))) ks ds (nx.set k v) := by
  obtain ⟨h1, h2⟩ := h.nr.stored k (.int .i64 (v : Nat))
  have hg := own_lt h.nr gN rfl
  have n1 : b1 ≠ gN := fun e => own_blk_ne h.nr h.lst (by decide) (by rw [e]; rfl)
  have n2 : p5 ≠ gN := fun e => own_blk_ne h.nr h.kb (by decide) (by rw [e]; rfl)
  have n3 : p6 ≠ gN := fun e => own_blk_ne h.nr h.db (by decide) (by rw [e]; rfl)
  have n4 : p7 ≠ gN := fun e => own_blk_ne h.nr h.nb (by decide) (by rw [e]; rfl)
  refine ⟨Nat.le_trans h.hB h2.size, h.lst.far n1 _, h.rd.below ((Below.refl _ _).setCell hg.1 _), h.kb.far n2 _, h.db.far n3 _, h.nb.far n4 _, h.kr.kept h2 (.inr (by simp [Value.ownBlock]; exact h.ne)), h.dr.kept h2 (own_ne_type h.dr h.nr (by decide)), ?_, h.ne, h.kl, h.dl, by simp [h.nl]⟩
  rwa [natsQ_set] at h1
theorem KS.near (h : KS B A c L b1 p5 p6 p7 gK gD gN w ks ds nx) {v : Value} {n : Nat} {xs : List Value} (ho : w.ownsRow B 47 2 v n xs) (hg : w.grownBy w' v.ownBlock) : KS B A c L b1 p5 p6 p7 gK gD gN w' ks ds nx :=
  ⟨Nat.le_trans h.hB hg.size, h.lst.grown hg (fun e => own_blk_ne ho h.lst (by decide) e.symm), h.rd.below (below_of_grown hg h.hB (fun k hk => (own_lt ho k hk).1)), h.kb.grown hg (fun e => own_blk_ne ho h.kb (by decide) e.symm), h.db.grown hg (fun e => own_blk_ne ho h.db (by decide) e.symm), h.nb.grown hg (fun e => own_blk_ne ho h.nb (by decide) e.symm),
   h.kr.kept hg (own_ne_type h.kr ho (by decide)), h.dr.kept hg (own_ne_type h.dr ho (by decide)), h.nr.kept hg (own_ne_type h.nr ho (by decide)), h.ne, h.kl, h.dl, h.nl⟩
/-- the frame of a step: older blocks and rows of records stay -/
structure KF (B : Nat) (w w' : World) : Prop where
  b : Below B w w'
  r : ∀ (v : Value) (n : Nat) (xs : List Value), w.ownsRow B 47 2 v n xs → w'.ownsRow B 47 2 v n xs
theorem KF.refl : KF B w w := ⟨Below.refl _ _, fun _ _ _ h => h⟩
theorem KF.trans {w2 : World} (h : KF B w w') (h2 : KF B w' w2) : KF B w w2 := ⟨h.b.trans h2.b, fun v n xs h0 => h2.r v n xs (h.r v n xs h0)⟩
theorem KF.below (hb : Below w.heap.size w w') (hB : B ≤ w.heap.size) : KF B w w' := ⟨hb.mono hB, fun v n xs h => own_below h hb (Nat.le_refl _)⟩
theorem KS.fK (h : KS B A c L b1 p5 p6 p7 gK gD gN w ks ds nx) (k : Nat) (v : Int) : KF B w (w.setCell ⟨gK, k, none⟩ (.int .i64 v)) :=
  ⟨(Below.refl _ _).setCell (own_lt h.kr gK rfl).1 _, fun u n xs hu => hu.kept (h.kr.stored k (.int .i64 v)).2 (own_ne_type hu h.kr (by decide))⟩
theorem KS.fD (h : KS B A c L b1 p5 p6 p7 gK gD gN w ks ds nx) (k : Nat) (v : Bool) : KF B w (w.setCell ⟨gD, k, none⟩ (.bool v)) :=
  ⟨(Below.refl _ _).setCell (own_lt h.dr gD rfl).1 _, fun u n xs hu => hu.kept (h.dr.stored k (.bool v)).2 (own_ne_type hu h.dr (by decide))⟩
theorem KS.fN (h : KS B A c L b1 p5 p6 p7 gK gD gN w ks ds nx) (k v : Nat) : KF B w (w.setCell ⟨gN, k, none⟩ (.int .i64 (v : Nat))) :=
  ⟨(Below.refl _ _).setCell (own_lt h.nr gN rfl).1 _, fun u n xs hu => hu.kept (h.nr.stored k (.int .i64 (v : Nat))).2 (own_ne_type hu h.nr (by decide))⟩
theorem KS.cellN (h : KS B A c L b1 p5 p6 p7 gK gD gN w ks ds nx) {i : Nat} (hi : i < L.length) : w.cell? ⟨gN, i, none⟩ = some (.int .i64 (nxA nx i : Nat)) := by
  have := h.nr.cellAt i (by omega)
  rw [natsQ_get (by rw [h.nl]; exact hi)] at this
  exact this
theorem KS.cellK (h : KS B A c L b1 p5 p6 p7 gK gD gN w ks ds nx) {i : Nat} (hi : i < L.length) : w.cell? ⟨gK, i, none⟩ = some (.int .i64 (ks[i]'(by rw [h.kl]; exact hi))) := by
  have := h.kr.cellAt i (by omega)
  rw [ints_get (by rw [h.kl]; exact hi)] at this
  exact this
theorem KS.cellD (h : KS B A c L b1 p5 p6 p7 gK gD gN w ks ds nx) {i : Nat} (hi : i < L.length) : w.cell? ⟨gD, i, none⟩ = some (.bool (ds[i]'(by rw [h.dl]; exact hi))) := by
  have := h.dr.cellAt i (by omega)
  rw [bools_get (by rw [h.dl]; exact hi)] at this
  exact this
end
set_option maxRecDepth 100000 in
set_option maxHeartbeats 1600000 in
theorem fill_any {B : Nat} {A : Option Addr} {c : Nat} {L : List Recs} {b1 p5 p6 p7 gK gD gN : Nat} {w : World} {ks : List Int} {ds : List Bool} {nx : List Nat} (h : KS B A c L b1 p5 p6 p7 gK gD gN w ks ds nx) {i : Nat} (hi : i < L.length) (hle : nxA nx i ≤ lnR L i) :
    Calls Try.prog 34 #[.int .i64 (i : Nat), .pointer (some ⟨p7, 0, none⟩), .pointer (some ⟨b1, 0, none⟩), .pointer (some ⟨p6, 0, none⟩), .pointer (some ⟨p5, 0, none⟩)] w fun e w' => e = .returned (.tuple #[]) ∧
      KS B A c L b1 p5 p6 p7 gK gD gN w' (ks.set i (kB L nx i)) (ds.set i (dB L nx i)) nx ∧ KF B w w' := by
  have H := Lib.hid h
  obtain ⟨ad, A', c', rfl, hc, hr⟩ := h.rd.at_ hi
  have hln : lnR L i = L[i].length := by simp [lnR, hi]
  have x1 : w.cell? ⟨b1, 0, none⟩ = some (.slice (some ad) L.length c) := h.lst.cell 0
  have x2 : w.cell? ⟨p7, 0, none⟩ = some (.slice (some ⟨gN, 0, none⟩) L.length L.length) := h.nb.cell 0
  have x3 : w.cell? ⟨p6, 0, none⟩ = some (.slice (some ⟨gD, 0, none⟩) L.length L.length) := h.db.cell 0
  have x4 := h.cellN hi
  have f1 := h.dr.frozenAt i
  obtain ⟨d0, x5⟩ : ∃ d0, w.cell? ⟨gD, i, none⟩ = some (.bool d0) := ⟨_, h.cellD hi⟩
  have HR := Lib.hid hr
  have hiL : (i : Int) < L.length := by omega
  have hdb : dB L nx i = decide (nxA nx i = lnR L i) := rfl
  have HRC : Hid (∀ j, j < L[i].length → rcR L i j = L[i][j]?.getD (0, 0)) := Lib.hid fun j hj => by simp [rcR, hi]
  have hkb : kB L nx i = if dB L nx i then 0 else (rcR L i (nxA nx i)).1 := rfl
  have HKB := Lib.hid hkb
  rw [hln] at hdb hle
  have HDB := Lib.hid hdb
  clear hr h hln hdb hkb
  go_enter Try.func34, Try.ntmps34
  cases hd : dB L nx i
  · have hne : ¬ nxA nx i = L[i].length := by rw [HDB.out] at hd; simpa using hd
    have hlt : nxA nx i < L[i].length := by omega
    have hb : ((nxA nx i : Int) == (L[i].length : Int)) = false := by simp; omega
    have hkv : kB L nx i = L[i][nxA nx i].1 := by rw [HKB.out, hd, if_neg (by simp), HRC.out _ hlt]; simp [hlt]
    clear hne
    have HD := Lib.hid hd
    have HKV := Lib.hid hkv
    clear hd hkv HKB HDB HRC
    have H1 := Lib.hid ((H.out.setD i false).below (bdrew (Below.refl _ _)))
    have F1 := Lib.hid (KF.trans (H.out.fD i false) (KF.below (bdrew (Below.refl _ _)) (H.out.setD i false).hB))
    go_upto_region 0 with fail
    go_still_tail 13, (by kernel_rfl)
    go_upto_region 1 with fail
    generalize (w.setCell ⟨gD, i, none⟩ (.bool false)).drew = w2 at *
    clear hc x1 x2 x3 x4 x5 f1
    have y1 : w2.cell? ⟨b1, 0, none⟩ = some (.slice (some ad) L.length c) := H1.out.lst.cell 0
    have y2 : w2.cell? ⟨p7, 0, none⟩ = some (.slice (some ⟨gN, 0, none⟩) L.length L.length) := H1.out.nb.cell 0
    have y3 : w2.cell? ⟨p6, 0, none⟩ = some (.slice (some ⟨gD, 0, none⟩) L.length L.length) := H1.out.db.cell 0
    have y4 : w2.cell? ⟨p5, 0, none⟩ = some (.slice (some ⟨gK, 0, none⟩) L.length L.length) := H1.out.kb.cell 0
    have y5 := H1.out.cellN hi
    have y6 := H1.out.cellD hi
    rw [List.getElem_set_self] at y6
    have y7 := H1.out.kr.frozenAt i
    obtain ⟨k0, y8⟩ : ∃ k0, w2.cell? ⟨gK, i, none⟩ = some (.int .i64 k0) := ⟨_, H1.out.cellK hi⟩
    obtain ⟨ad2, A2, c2, e2, y9, hr2⟩ := H1.out.rd.at_ hi
    cases e2
    obtain ⟨bd, rfl, -, z1, z2⟩ := hr2.cmp hlt
    have hlI : (nxA nx i : Int) < (L[i].length : Int) := by omega
    have H2 := Lib.hid ((H1.out.setK i L[i][nxA nx i].1).below (bdrew (Below.refl _ _)))
    have F2 := Lib.hid (KF.trans F1.out (KF.trans (H1.out.fK i L[i][nxA nx i].1) (KF.below (bdrew (Below.refl _ _)) (H1.out.setK i L[i][nxA nx i].1).hB)))
    clear hr2
    go_upto_region 3 with fail
    go_still_tail 14, (by kernel_rfl)
    go_wp2_with fail
    exact bodyPost_end (results_none rfl _ _ _) rfl ⟨rfl, by rw [HKV.out]; exact H2.out, F2.out⟩
  · have hlt : nxA nx i = L[i].length := by rw [HDB.out] at hd; simpa using hd
    have hb : ((nxA nx i : Int) == (L[i].length : Int)) = true := by simp; omega
    have hkv : kB L nx i = 0 := by rw [HKB.out, hd, if_pos rfl]
    have HD := Lib.hid hd
    have HKV := Lib.hid hkv
    clear hd hkv HKB HDB HRC
    have H1 := Lib.hid ((H.out.setD i true).below (bdrew (Below.refl _ _)))
    have F1 := Lib.hid (KF.trans (H.out.fD i true) (KF.below (bdrew (Below.refl _ _)) (H.out.setD i true).hB))
    go_upto_region 0 with fail
    go_still_tail 13, (by kernel_rfl)
    go_upto_region 1 with fail
    generalize (w.setCell ⟨gD, i, none⟩ (.bool true)).drew = w2 at *
    clear hc x1 x2 x3 x4 x5 f1
    have y1 : w2.cell? ⟨b1, 0, none⟩ = some (.slice (some ad) L.length c) := H1.out.lst.cell 0
    have y2 : w2.cell? ⟨p7, 0, none⟩ = some (.slice (some ⟨gN, 0, none⟩) L.length L.length) := H1.out.nb.cell 0
    have y3 : w2.cell? ⟨p6, 0, none⟩ = some (.slice (some ⟨gD, 0, none⟩) L.length L.length) := H1.out.db.cell 0
    have y4 : w2.cell? ⟨p5, 0, none⟩ = some (.slice (some ⟨gK, 0, none⟩) L.length L.length) := H1.out.kb.cell 0
    have y5 := H1.out.cellN hi
    have y6 := H1.out.cellD hi
    rw [List.getElem_set_self] at y6
    have y7 := H1.out.kr.frozenAt i
    obtain ⟨k0, y8⟩ : ∃ k0, w2.cell? ⟨gK, i, none⟩ = some (.int .i64 k0) := ⟨_, H1.out.cellK hi⟩
    have H2 := Lib.hid (H1.out.setK i 0)
    have F2 := Lib.hid (KF.trans F1.out (H1.out.fK i 0))
    go_wp2_with fail
    exact bodyPost_end (results_none rfl _ _ _) rfl ⟨rfl, by rw [HKV.out]; exact H2.out, F2.out⟩
end Go.Proofs.Ytifjihpnhmemgaa
