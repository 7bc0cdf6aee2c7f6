/- The draw of the law on replaced winners. -/
import Derived.Test.YteigceeghnphmaaDrawT
import Derived.Test.YteigceeghnphmaaVL
import Derived.Test.YteigceeghnphmaaTreeEq
import Derived.Test.YteigceeghnphmaaInv
import Derived.Deep.DeepCutAuto
namespace Go.Proofs.Yteigceeghnphmaa
open Go.RowKit
set_option linter.unusedVariables false
theorem RowOf.slice {w : World} {base : Nat} {v : Value} {ds : List Bool} (h : RowOf w base v ds) : ∃ (A : Option Addr) (c : Nat), v = .slice A ds.length c := by
  rcases h with ⟨A, c, hv, _⟩ | ⟨g, n, c, o, d0, hd, hl, h1, ho, hv, _⟩
  · exact ⟨A, c, hv⟩
  · exact ⟨_, _, by rw [hv, hd, List.length_drop, hl]⟩
theorem RowOf.reads {w : World} {base : Nat} {A : Option Addr} {ds : List Bool} {c : Nat} (h : RowOf w base (.slice A ds.length c) ds) : Reads w w.heap.size 1 A ds.length (bools ds) := by
  rcases h with ⟨A', c', hv, ho⟩ | ⟨g, n, c', o, d0, hd, hl, h1, ho, hv, hown⟩
  · exact Reads.of_own ho
  · injection hv with hA hn hc
    subst hA hd
    refine ⟨by simp [bools], fun hp => ?_⟩
    have hn2 : 2 ≤ n := by rw [List.length_drop] at hp; omega
    obtain rfl : o = 1 := by omega
    obtain ⟨ad, had, hb, hcell⟩ := (Reads.of_own hown).2 (by omega)
    injection had with had
    subst had
    refine ⟨⟨g, 1, none⟩, rfl, hb, fun j u hu => ?_⟩
    have h9 : (⟨g, 1, none⟩ : Addr) = (⟨g, 0, none⟩ : Addr).add 1 := by simp [Addr.add]
    rw [h9, add_of_add]
    refine hcell _ _ ?_
    rw [← hu]
    simp only [bools, List.map_drop, List.getElem?_drop]
/-- the three rows of a drawn tree -/
structure TK (w : World) (base : Nat) (AK : Option Addr) (ks : List Int) (cK : Nat) (AD : Option Addr) (ds : List Bool) (cD : Nat) (AL : Option Addr) (ls : List Int) (cL : Nat) : Prop where
  k : w.ownsRow base 3 1 (.slice AK ks.length cK) ks.length (ints ks)
  d : RowOf w base (.slice AD ds.length cD) ds
  l : w.ownsRow base 3 1 (.slice AL ls.length cL) ls.length (ints ls)
section
variable {w w' : World} {base : Nat} {AK AD AL : Option Addr} {ks ls : List Int} {ds : List Bool} {cK cD cL : Nat}
theorem RowOf.map {v : Value} (h : RowOf w base v ds) (f : ∀ (v : Value) (n : Nat) (xs : List Value), w.ownsRow base 4 1 v n xs → w'.ownsRow base 4 1 v n xs) : RowOf w' base v ds := by
  rcases h with ⟨A, c, hv, ho⟩ | ⟨g, n, c, o, d0, hd, hl, h1, ho, hv, hown⟩
  · exact .inl ⟨A, c, hv, f _ _ _ ho⟩
  · exact .inr ⟨g, n, c, o, d0, hd, hl, h1, ho, hv, f _ _ _ hown⟩
theorem RowOf.base_ {b' : Nat} {v : Value} (h : RowOf w base v ds) (hb : b' ≤ base) : RowOf w b' v ds := by
  rcases h with ⟨A, c, hv, ho⟩ | ⟨g, n, c, o, d0, hd, hl, h1, ho, hv, hown⟩
  · exact .inl ⟨A, c, hv, own_base ho hb⟩
  · exact .inr ⟨g, n, c, o, d0, hd, hl, h1, ho, hv, own_base hown hb⟩
theorem TK.base_ {b' : Nat} (h : TK w base AK ks cK AD ds cD AL ls cL) (hb : b' ≤ base) : TK w b' AK ks cK AD ds cD AL ls cL := ⟨own_base h.k hb, h.d.base_ hb, own_base h.l hb⟩
theorem TK.kept {g : Nat} {T : TypeId} {cs : Array Value} (h : TK w base AK ks cK AD ds cD AL ls cL) (hb : Blk w g T cs) (h1 : 3 ≠ T) (h2 : 4 ≠ T) (hg : w.grownBy w' (some g)) : TK w' base AK ks cK AD ds cD AL ls cL :=
  ⟨own_kept h.k hg (own_blk_ne h.k hb h1), h.d.map (fun _ _ _ ho => own_kept ho hg (own_blk_ne ho hb h2)), own_kept h.l hg (own_blk_ne h.l hb h1)⟩
theorem TK.row {p : Nat} {A : Option Addr} {bs : List Nat} {c M : Nat} (hc : Cur w p A bs c M) (h : TK w base AK ks cK AD ds cD AL ls cL) (hg : w.grownBy w' (some p)) : TK w' base AK ks cK AD ds cD AL ls cL := by
  obtain ⟨a, s, hb, _⟩ := hc.blk
  exact h.kept hb (by decide) (by decide) hg
theorem TK.alloc (h : TK w base AK ks cK AD ds cD AL ls cL) (o : Obj) : TK (w.alloc o) base AK ks cK AD ds cD AL ls cL := ⟨h.k.alloc o, h.d.map (fun _ _ _ ho => ho.alloc o), h.l.alloc o⟩
theorem TK.drew (h : TK w base AK ks cK AD ds cD AL ls cL) : TK w.drew base AK ks cK AD ds cD AL ls cL := ⟨h.k, h.d.map (fun _ _ _ ho => ho), h.l⟩
theorem TK.reads (h : TK w base AK ks cK AD ds cD AL ls cL) : ReadsT w w.heap.size AK ks.length AD ds.length AL ls.length ks ds ls := ⟨Reads.of_own h.k, h.d.reads, Reads.of_own h.l⟩
end
def GotRW (w : World) (e : Ending) (w' : World) : Prop := ∃ (AK : Option Addr) (ks : List Int) (cK : Nat) (AD : Option Addr) (ds : List Bool) (cD : Nat) (AL : Option Addr) (ls : List Int) (cL : Nat) (W key : Int) (done : Bool),
  e = .returned (.tuple #[.agg #[.slice AK ks.length cK, .slice AD ds.length cD, .slice AL ls.length cL, .int .i64 W], .int .i64 key, .bool done]) ∧ ReadsT w' w'.heap.size AK ks.length AD ds.length AL ls.length ks ds ls ∧ ks.length ≤ 7 ∧ ds.length ≤ 7 ∧ ls.length ≤ 7 ∧ Below w.heap.size w w'
theorem GotRW.mk {w : World} {e : Ending} {w' : World} (h : ∃ (AK : Option Addr) (ks : List Int) (cK : Nat) (AD : Option Addr) (ds : List Bool) (cD : Nat) (AL : Option Addr) (ls : List Int) (cL : Nat) (W key : Int) (done : Bool),
  e = .returned (.tuple #[.agg #[.slice AK ks.length cK, .slice AD ds.length cD, .slice AL ls.length cL, .int .i64 W], .int .i64 key, .bool done]) ∧ ReadsT w' w'.heap.size AK ks.length AD ds.length AL ls.length ks ds ls ∧ ks.length ≤ 7 ∧ ds.length ≤ 7 ∧ ls.length ≤ 7 ∧ Below w.heap.size w w') : GotRW w e w' := h
def DrRw4 (w : World) (A : Option Addr) (bs : List Nat) (c gN : Nat) (AK : Option Addr) (ks : List Int) (cK : Nat) (AD : Option Addr) (ds : List Bool) (cD : Nat) (AL : Option Addr) (ls : List Int) (cL : Nat) (W : Int) (L : Nat → Bool) (wr : World) (v0 v1 v2 v4 v5 : Value) : Prop :=
  (Below w.heap.size w wr) ∧
  (L 2 = true → L 1 = true) ∧
  (L 3 = true → L 0 = true ∧ L 2 = true) ∧
  (L 4 = true → L 3 = true) ∧
  (L 5 = true → L 2 = true ∧ L 4 = true) ∧
  (L 0 = true → v0 = .agg #[.slice AK ks.length cK, .slice AD ds.length cD, .slice AL ls.length cL, .int .i64 W]) ∧
  (L 1 = true → v1 = .pointer (some ⟨w.heap.size + 1, 0, none⟩)) ∧
  (L 2 = true → ∃ z : Bool, v2 = .bool z) ∧
  (L 4 = true → v4 = .int .i64 100001) ∧
  (L 5 = true → ∃ z : Bool, v5 = .bool z) ∧
  (Blk wr gN 57 #[.slice AK ks.length cK, .slice AD ds.length cD, .slice AL ls.length cL, .int .i64 W]) ∧
  (L 3 = false → Blk wr w.heap.size 57 #[.slice none 0 0, .slice none 0 0, .slice none 0 0, .int .i64 0]) ∧
  (L 3 = true → Blk wr w.heap.size 57 #[.slice AK ks.length cK, .slice AD ds.length cD, .slice AL ls.length cL, .int .i64 W]) ∧
  (TK wr w.heap.size AK ks cK AD ds cD AL ls cL) ∧
  (L 2 = false → Cur wr (w.heap.size + 1) A bs c 202)
def DrRw5 (w : World) (A : Option Addr) (bs : List Nat) (c gN : Nat) (AK : Option Addr) (ks : List Int) (cK : Nat) (AD : Option Addr) (ds : List Bool) (cD : Nat) (AL : Option Addr) (ls : List Int) (cL : Nat) (W : Int) (L : Nat → Bool) (wr : World) (v0 v1 v2 v3 v4 v6 v7 : Value) : Prop :=
  (Below w.heap.size w wr) ∧
  (L 2 = true → L 1 = true) ∧
  (L 4 = true → L 3 = true ∧ L 2 = true) ∧
  (L 5 = true → L 0 = true ∧ L 4 = true) ∧
  (L 6 = true → L 2 = true ∧ L 5 = true) ∧
  (L 7 = true → L 4 = true ∧ L 6 = true) ∧
  (L 0 = true → v0 = .agg #[.slice AK ks.length cK, .slice AD ds.length cD, .slice AL ls.length cL, .int .i64 W]) ∧
  (L 1 = true → v1 = .pointer (some ⟨w.heap.size + 1, 0, none⟩)) ∧
  (L 2 = true → ∃ z : Int, v2 = .int .i64 z) ∧
  (L 3 = true → v3 = .pointer (some ⟨w.heap.size + 1, 0, none⟩)) ∧
  (L 4 = true → ∃ z : Bool, v4 = .bool z) ∧
  (L 6 = true → ∃ z : Int, v6 = .int .i64 z) ∧
  (L 7 = true → ∃ z : Bool, v7 = .bool z) ∧
  (Blk wr gN 57 #[.slice AK ks.length cK, .slice AD ds.length cD, .slice AL ls.length cL, .int .i64 W]) ∧
  (L 5 = false → Blk wr w.heap.size 57 #[.slice none 0 0, .slice none 0 0, .slice none 0 0, .int .i64 0]) ∧
  (L 5 = true → Blk wr w.heap.size 57 #[.slice AK ks.length cK, .slice AD ds.length cD, .slice AL ls.length cL, .int .i64 W]) ∧
  (TK wr w.heap.size AK ks cK AD ds cD AL ls cL) ∧
  (L 2 = false → Cur wr (w.heap.size + 1) A bs c 202) ∧
  (L 2 = true → L 4 = false → Cur wr (w.heap.size + 1) A bs c 204)
set_option maxRecDepth 100000 in
set_option maxHeartbeats 6400000 in
theorem DrawReplaceWinner_any (A : Option Addr) (bs : List Nat) (c : Nat) (w : World) (hr : Reads w w.heap.size 1 A bs.length (byts bs)) (hb : ∀ b ∈ bs, b ≤ 255) (hl : bs.length ≤ 65536) :
    Calls Try.prog 43 #[.slice A bs.length c] w (GotRW w) := by
  have hB00 := alloc_ (Below.refl w.heap.size w) (.cells #[.slice none 0 0, .slice none 0 0, .slice none 0 0, .int .i64 0] 57)
  have HC0 := Lib.hid (cur_box (w := w.alloc (.cells #[.slice none 0 0, .slice none 0 0, .slice none 0 0, .int .i64 0] 57)) (c := c) ((hr.below hB00).more hB00.size) hb hl)
  have hBa := alloc_ hB00 (.cells #[.slice A bs.length c, .int .i64 0, .int .u64 0] 73)
  have hRa := (Blk.new w 57 #[.slice none 0 0, .slice none 0 0, .slice none 0 0, .int .i64 0]).alloc (.cells #[.slice A bs.length c, .int .i64 0, .int .u64 0] 73)
  have hsz0 : (w.alloc (.cells #[.slice none 0 0, .slice none 0 0, .slice none 0 0, .int .i64 0] 57)).heap.size = w.heap.size + 1 := by simp
  rw [hsz0] at HC0
  clear hr hb hB00 hsz0
  go_enter Try.func43, Try.ntmps43
  go_wp2_with fail
  refine (tree_any (w.heap.size + 1) A bs c 0 _ HC0.out (by omega)).mono ?_
  rintro e w1 ⟨AK, ks, cK, VD, ds, AL, ls, cL, W, rfl, oK, oD, oL, k1, k2, k3, hc1, hg1⟩
  obtain ⟨AD, cD, rfl⟩ := oD.slice
  have hTb : TK w1 w.heap.size AK ks cK AD ds cD AL ls cL := TK.base_ ⟨oK, oD, oL⟩ hBa.size
  have hRb := Cur.blk_ HC0.out hRa hg1 (by decide)
  have hBb := hBa.trans (below_near hg1 (by omega) hBa.size)
  have HC1 := Lib.hid hc1
  clear hc1 hg1 oK oD oL HC0 hRa hBa
  have hgw1 : w.heap.size + 1 < w1.heap.size := HC1.out.lt
  have hTc := hTb.alloc (.cells #[.slice AK ks.length cK, .slice AD ds.length cD, .slice AL ls.length cL, .int .i64 W] 57)
  have hRc := hRb.alloc (.cells #[.slice AK ks.length cK, .slice AD ds.length cD, .slice AL ls.length cL, .int .i64 W] 57)
  have hBc := alloc_ hBb (.cells #[.slice AK ks.length cK, .slice AD ds.length cD, .slice AL ls.length cL, .int .i64 W] 57)
  have hNc := Blk.new w1 57 #[.slice AK ks.length cK, .slice AD ds.length cD, .slice AL ls.length cL, .int .i64 W]
  have HC2 := Lib.hid (HC1.out.alloc (.cells #[.slice AK ks.length cK, .slice AD ds.length cD, .slice AL ls.length cL, .int .i64 W] 57))
  clear HC1 hTb hRb hBb
  go_wp2_with fail
  generalize w1.alloc (.cells #[.slice AK ks.length cK, .slice AD ds.length cD, .slice AL ls.length cL, .int .i64 W] 57) = w2 at *
  generalize hgN : w1.heap.size = gN at *
  refine (one_any (w.heap.size + 1) A bs c _ 16 _ HC2.out (by omega) (by omega) (by omega)).mono ?_
  rintro e w3 ⟨b, rfl, hc1, hg1⟩
  have hTz := TK.row HC2.out hTc hg1
  have hRz := Cur.blk_ HC2.out hRc hg1 (by decide)
  have hNz := Cur.blk_ HC2.out hNc hg1 (by decide)
  have hBz := hBc.trans (below_near hg1 (by omega) hBc.size)
  have HCz := Lib.hid hc1
  clear hc1 hg1 HC2 hgN hTc hRc hNc hBc
  cases b
  case false =>
    go_upto_region 5 with fail
    have hNq : Blk (w3).drew gN 57 #[.slice AK ks.length cK, .slice AD ds.length cD, .slice AL ls.length cL, .int .i64 W] := hNz
    have hRq : Blk (w3).drew w.heap.size 57 #[.slice none 0 0, .slice none 0 0, .slice none 0 0, .int .i64 0] := hRz
    have hTq : TK (w3).drew w.heap.size AK ks cK AD ds cD AL ls cL := hTz.drew
    have hBq : Below w.heap.size w (w3).drew := bdrew hBz
    have hCq : Cur (w3).drew (w.heap.size + 1) A bs c 202 := (HCz.out.drew 1)
    obtain ⟨wq, hwq⟩ : ∃ wq, (w3).drew = wq := ⟨_, rfl⟩
    rw [hwq] at hNq hRq hTq hBq hCq
    clear hNz hRz hTz hBz HCz
    refine wp_region_inv' (fun a0 L a wr => St a0 a [17, 18, 19, 20, 21, 3, 4] ∧ 21 < a.tmps.size ∧ a.eval (.tmp 6) = .pointer (some ⟨gN, 0, none⟩) ∧ a.eval (.tmp 5) = .pointer (some ⟨w.heap.size + 1, 0, none⟩) ∧ a.eval (.tmp 2) = .pointer (some ⟨w.heap.size, 0, none⟩) ∧ DrRw5 w A bs c gN AK ks cK AD ds cD AL ls cL W L wr (a.eval (.tmp 17)) (a.eval (.tmp 18)) (a.eval (.tmp 19)) (a.eval (.tmp 20)) (a.eval (.tmp 21)) (a.eval (.tmp 3)) (a.eval (.tmp 4))) (by kernel_rfl) (by kernel_rfl) ?start ?steps ?ends
    case start =>
      subst hwq
      refine ⟨St.refl _ _, Nat.le_of_ble_eq_true rfl, rfl, rfl, rfl, hBq, ?_, ?_, ?_, ?_, ?_, ?_, ?_, ?_, ?_, ?_, ?_, ?_, hNq, fun _ => hRq, ?_, hTq, fun _ => hCq, ?_⟩
      all_goals (intro e; first | (cases e; done) | rfl | assumption)
    case ends =>
      rintro L a wr ⟨hst, hsz, q6, q5, q2, b, h2, h4, h5, h6, h7, f0, f1, f2, f3, f4, f6, f7, kn, kr, kr2, tk, kq, kq2⟩ hall
      obtain ⟨y, ek⟩ := f6 (hall 6 (by decide))
      obtain ⟨z, ez⟩ := f7 (hall 7 (by decide))
      have k9 := kr2 (hall 5 (by decide))
      obtain ⟨r0, r1, r2, r3⟩ := k9.four
      have R0 := Lib.hid r0; have R1 := Lib.hid r1; have R2 := Lib.hid r2; have R3 := Lib.hid r3
      have HTF := Lib.hid tk.reads
      have HBF := Lib.hid b
      have heq := hst.eq
      simp only [List.foldl_cons, List.foldl_nil] at heq
      rw [ek, ez] at heq
      clear hst hall hsz q6 q5 q2 h2 h4 h5 h6 h7 f0 f1 f2 f3 f4 f6 f7 kn kr kr2 tk kq kq2 ek ez r0 r1 r2 r3 k9 b
      generalize a.eval (.tmp 17) = u17 at *
      generalize a.eval (.tmp 18) = u18 at *
      generalize a.eval (.tmp 19) = u19 at *
      generalize a.eval (.tmp 20) = u20 at *
      generalize a.eval (.tmp 21) = u21 at *
      simp only [Act.put, List.setIfInBounds_toArray, List.set_cons_zero, List.set_cons_succ] at heq
      subst heq
      go_wp2_with fail
      exact bodyPost_ret (v := .tuple #[.agg #[.slice AK ks.length cK, .slice AD ds.length cD, .slice AL ls.length cL, .int .i64 W], .int .i64 y, .bool z]) (by simp [results, Try.results43, go_sem, R0.out, R1.out, R2.out, R3.out]) rfl (GotRW.mk ⟨AK, ks, cK, AD, ds, cD, AL, ls, cL, W, y, z, rfl, HTF.out, k1, k2, k3, HBF.out⟩)
    case steps =>
      refine ⟨?s0, ?s1, ?s2, ?s3, ?s4, ?s5, ?s6, ?s7, trivial⟩
      case s0 =>
        rintro L a wr ⟨hst, hsz, q6, q5, q2, hF⟩ hL hdp K hK
        have ev := fun (d t : Nat) (v : Value) (hd : d < 22) => eval_put a d t v (by omega)
        obtain ⟨b, h2, h4, h5, h6, h7, f0, f1, f2, f3, f4, f6, f7, kn, kr, kr2, tk, kq, kq2⟩ := hF
        have t6 := q6
        rw [eval_tmp, Array.getD_eq_getD_getElem?] at t6
        obtain ⟨n0, n1, n2, n3⟩ := kn.four
        refine step_value (v := .agg #[.slice AK ks.length cK, .slice AD ds.length cD, .slice AL ls.length cL, .int .i64 W]) (w' := wr) rfl (by go_simp) ?_
        refine hK _ _ ⟨hst.put 17 _ (by decide), by simpa [Act.put] using hsz, (ev 17 6 _ (by decide)).trans q6, (ev 17 5 _ (by decide)).trans q5, (ev 17 2 _ (by decide)).trans q2, ?_⟩
        simp only [ev 17 _ _ (by decide)]
        exact ⟨b, h2, h4, fun e => absurd ((h5 e).1.symm.trans hL) (by decide), h6, h7, fun _ => rfl, f1, f2, f3, f4, f6, f7, kn, kr, kr2, tk, kq, kq2⟩
      case s1 =>
        rintro L a wr ⟨hst, hsz, q6, q5, q2, hF⟩ hL hdp K hK
        have ev := fun (d t : Nat) (v : Value) (hd : d < 22) => eval_put a d t v (by omega)
        obtain ⟨b, h2, h4, h5, h6, h7, f0, f1, f2, f3, f4, f6, f7, kn, kr, kr2, tk, kq, kq2⟩ := hF
        have t5 := q5
        rw [eval_tmp, Array.getD_eq_getD_getElem?] at t5
        refine step_value (v := .pointer (some ⟨w.heap.size + 1, 0, none⟩)) (w' := wr) rfl (by go_simp) ?_
        refine hK _ _ ⟨hst.put 18 _ (by decide), by simpa [Act.put] using hsz, (ev 18 6 _ (by decide)).trans q6, (ev 18 5 _ (by decide)).trans q5, (ev 18 2 _ (by decide)).trans q2, ?_⟩
        simp only [ev 18 _ _ (by decide)]
        exact ⟨b, fun e => absurd ((h2 e).symm.trans hL) (by decide), h4, h5, h6, h7, f0, fun _ => rfl, f2, f3, f4, f6, f7, kn, kr, kr2, tk, kq, kq2⟩
      case s2 =>
        rintro L a wr ⟨hst, hsz, q6, q5, q2, hF⟩ hL hdp K hK
        have ev := fun (d t : Nat) (v : Value) (hd : d < 22) => eval_put a d t v (by omega)
        have d1 : L 1 = true := hdp ⟨1, .data⟩ (by simp) rfl
        obtain ⟨b, h2, h4, h5, h6, h7, f0, f1, f2, f3, f4, f6, f7, kn, kr, kr2, tk, kq, kq2⟩ := hF
        have t18 := f1 d1
        have t18 := f1 d1
        rw [eval_tmp, Array.getD_eq_getD_getElem?] at t18
        have HKQ := Lib.hid (kq hL)
        refine step_enter (f := 59) (args := #[.pointer (some ⟨w.heap.size + 1, 0, none⟩), .int .i64 8]) (w' := wr) rfl (by go_simp) ?_
        refine (pick_any (w.heap.size + 1) A bs c 202 8 wr HKQ.out (by omega) (by omega) (by omega)).mono ?_
        rintro e w9 ⟨z, hz, rfl, hc9, hg9⟩
        refine ⟨_, rfl, ?_⟩
        refine hK _ _ ⟨hst.put 19 _ (by decide), by simpa [Act.put] using hsz, (ev 19 6 _ (by decide)).trans q6, (ev 19 5 _ (by decide)).trans q5, (ev 19 2 _ (by decide)).trans q2, ?_⟩
        simp only [ev 19 _ _ (by decide)]
        exact ⟨b.trans (below_near hg9 (by omega) b.size), fun _ => d1, fun e => absurd ((h4 e).2.symm.trans hL) (by decide), h5, fun e => absurd ((h6 e).1.symm.trans hL) (by decide), h7, f0, f1, fun _ => ⟨_, rfl⟩, f3, f4, f6, f7, Cur.blk_ HKQ.out kn hg9 (by decide), fun e => Cur.blk_ HKQ.out (kr e) hg9 (by decide), fun e => Cur.blk_ HKQ.out (kr2 e) hg9 (by decide), TK.row HKQ.out tk hg9, fun e => absurd ((upd_self L 2).symm.trans e) (by decide), fun _ _ => hc9⟩
      case s3 =>
        rintro L a wr ⟨hst, hsz, q6, q5, q2, hF⟩ hL hdp K hK
        have ev := fun (d t : Nat) (v : Value) (hd : d < 22) => eval_put a d t v (by omega)
        obtain ⟨b, h2, h4, h5, h6, h7, f0, f1, f2, f3, f4, f6, f7, kn, kr, kr2, tk, kq, kq2⟩ := hF
        have t5 := q5
        rw [eval_tmp, Array.getD_eq_getD_getElem?] at t5
        refine step_value (v := .pointer (some ⟨w.heap.size + 1, 0, none⟩)) (w' := wr) rfl (by go_simp) ?_
        refine hK _ _ ⟨hst.put 20 _ (by decide), by simpa [Act.put] using hsz, (ev 20 6 _ (by decide)).trans q6, (ev 20 5 _ (by decide)).trans q5, (ev 20 2 _ (by decide)).trans q2, ?_⟩
        simp only [ev 20 _ _ (by decide)]
        exact ⟨b, h2, fun e => absurd ((h4 e).1.symm.trans hL) (by decide), h5, h6, h7, f0, f1, f2, fun _ => rfl, f4, f6, f7, kn, kr, kr2, tk, kq, kq2⟩
      case s4 =>
        rintro L a wr ⟨hst, hsz, q6, q5, q2, hF⟩ hL hdp K hK
        have ev := fun (d t : Nat) (v : Value) (hd : d < 22) => eval_put a d t v (by omega)
        have d3 : L 3 = true := hdp ⟨3, .data⟩ (by simp) rfl
        have d2 : L 2 = true := hdp ⟨2, .chain⟩ (by simp) rfl
        obtain ⟨b, h2, h4, h5, h6, h7, f0, f1, f2, f3, f4, f6, f7, kn, kr, kr2, tk, kq, kq2⟩ := hF
        have t20 := f3 d3
        have t20 := f3 d3
        rw [eval_tmp, Array.getD_eq_getD_getElem?] at t20
        have HKQ := Lib.hid (kq2 d2 hL)
        refine step_enter (f := 63) (args := #[.pointer (some ⟨w.heap.size + 1, 0, none⟩), .int .i64 3]) (w' := wr) rfl (by go_simp) ?_
        refine (one_any (w.heap.size + 1) A bs c 204 3 wr HKQ.out (by omega) (by omega) (by omega)).mono ?_
        rintro e w9 ⟨z, rfl, hc9, hg9⟩
        refine ⟨_, rfl, ?_⟩
        refine hK _ _ ⟨hst.put 21 _ (by decide), by simpa [Act.put] using hsz, (ev 21 6 _ (by decide)).trans q6, (ev 21 5 _ (by decide)).trans q5, (ev 21 2 _ (by decide)).trans q2, ?_⟩
        simp only [ev 21 _ _ (by decide)]
        exact ⟨b.trans (below_near hg9 (by omega) b.size), h2, fun _ => ⟨d3, d2⟩, fun e => absurd ((h5 e).2.symm.trans hL) (by decide), h6, fun e => absurd ((h7 e).1.symm.trans hL) (by decide), f0, f1, f2, f3, fun _ => ⟨z, rfl⟩, f6, f7, Cur.blk_ HKQ.out kn hg9 (by decide), fun e => Cur.blk_ HKQ.out (kr e) hg9 (by decide), fun e => Cur.blk_ HKQ.out (kr2 e) hg9 (by decide), TK.row HKQ.out tk hg9, fun e => absurd (d2.symm.trans e) (by decide), fun _ e => absurd ((upd_self L 4).symm.trans e) (by decide)⟩
      case s5 =>
        rintro L a wr ⟨hst, hsz, q6, q5, q2, hF⟩ hL hdp K hK
        have ev := fun (d t : Nat) (v : Value) (hd : d < 22) => eval_put a d t v (by omega)
        have d0 : L 0 = true := hdp ⟨0, .data⟩ (by simp) rfl
        have d4 : L 4 = true := hdp ⟨4, .chain⟩ (by simp) rfl
        obtain ⟨b, h2, h4, h5, h6, h7, f0, f1, f2, f3, f4, f6, f7, kn, kr, kr2, tk, kq, kq2⟩ := hF
        have t2 := q2
        have t17 := f0 d0
        have t17 := f0 d0
        rw [eval_tmp, Array.getD_eq_getD_getElem?] at t17 t2
        have hkb := kr hL
        obtain ⟨fz0, fz1, fz2, fz3⟩ := hkb.ice
        obtain ⟨hcl0, hcl1, hcl2, hcl3⟩ := hkb.four
        have hlt := hkb.lt
        refine step_skip (w' := (((wr.setCell ⟨w.heap.size, 0, none⟩ (.slice AK ks.length cK)).setCell ⟨w.heap.size, 1, none⟩ (.slice AD ds.length cD)).setCell ⟨w.heap.size, 2, none⟩ (.slice AL ls.length cL)).setCell ⟨w.heap.size, 3, none⟩ (.int .i64 W)) rfl (by go_simp) ?_
        refine hK _ _ ⟨hst.put_none _, hsz, q6, q5, q2, ?_⟩
        exact ⟨below4 b (Nat.le_refl _) _ _ _ _, h2, h4, fun _ => ⟨d0, d4⟩, fun e => absurd ((h6 e).2.symm.trans hL) (by decide), h7, f0, f1, f2, f3, f4, f6, f7, (((kn.far (by show _ ≠ w.heap.size; omega) _).far (by show _ ≠ w.heap.size; omega) _).far (by show _ ≠ w.heap.size; omega) _).far (by show _ ≠ w.heap.size; omega) _, fun e => absurd ((upd_self L 5).symm.trans e) (by decide), fun _ => blk4 hkb, tk.kept hkb (by decide) (by decide) (grown_set4 _ _ _ _ _), fun e => absurd ((h4 d4).2.symm.trans e) (by decide), fun _ e => absurd (d4.symm.trans e) (by decide)⟩
      case s6 =>
        rintro L a wr ⟨hst, hsz, q6, q5, q2, hF⟩ hL hdp K hK
        have ev := fun (d t : Nat) (v : Value) (hd : d < 22) => eval_put a d t v (by omega)
        have d2 : L 2 = true := hdp ⟨2, .data⟩ (by simp) rfl
        have d5 : L 5 = true := hdp ⟨5, .chain⟩ (by simp) rfl
        obtain ⟨b, h2, h4, h5, h6, h7, f0, f1, f2, f3, f4, f6, f7, kn, kr, kr2, tk, kq, kq2⟩ := hF
        obtain ⟨z, ez⟩ := f2 d2
        refine step_value (v := a.eval (.tmp 19)) (w' := wr) rfl (by go_simp) ?_
        refine hK _ _ ⟨hst.put 3 _ (by decide), by simpa [Act.put] using hsz, (ev 3 6 _ (by decide)).trans q6, (ev 3 5 _ (by decide)).trans q5, (ev 3 2 _ (by decide)).trans q2, ?_⟩
        simp only [ev 3 _ _ (by decide)]
        exact ⟨b, h2, h4, h5, fun _ => ⟨d2, d5⟩, fun e => absurd ((h7 e).2.symm.trans hL) (by decide), f0, f1, f2, f3, f4, fun _ => ⟨z, ez⟩, f7, kn, kr, kr2, tk, kq, kq2⟩
      case s7 =>
        rintro L a wr ⟨hst, hsz, q6, q5, q2, hF⟩ hL hdp K hK
        have ev := fun (d t : Nat) (v : Value) (hd : d < 22) => eval_put a d t v (by omega)
        have d4 : L 4 = true := hdp ⟨4, .data⟩ (by simp) rfl
        have d6 : L 6 = true := hdp ⟨6, .chain⟩ (by simp) rfl
        obtain ⟨b, h2, h4, h5, h6, h7, f0, f1, f2, f3, f4, f6, f7, kn, kr, kr2, tk, kq, kq2⟩ := hF
        obtain ⟨z, ez⟩ := f4 d4
        refine step_value (v := a.eval (.tmp 21)) (w' := wr) rfl (by go_simp) ?_
        refine hK _ _ ⟨hst.put 4 _ (by decide), by simpa [Act.put] using hsz, (ev 4 6 _ (by decide)).trans q6, (ev 4 5 _ (by decide)).trans q5, (ev 4 2 _ (by decide)).trans q2, ?_⟩
        simp only [ev 4 _ _ (by decide)]
        exact ⟨b, h2, h4, h5, h6, fun _ => ⟨d4, d6⟩, f0, f1, f2, f3, f4, f6, fun _ => ⟨z, ez⟩, kn, kr, kr2, tk, kq, kq2⟩
  case true =>
    go_upto_region 4 with fail
    have hNq : Blk (w3).drew gN 57 #[.slice AK ks.length cK, .slice AD ds.length cD, .slice AL ls.length cL, .int .i64 W] := hNz
    have hRq : Blk (w3).drew w.heap.size 57 #[.slice none 0 0, .slice none 0 0, .slice none 0 0, .int .i64 0] := hRz
    have hTq : TK (w3).drew w.heap.size AK ks cK AD ds cD AL ls cL := hTz.drew
    have hBq : Below w.heap.size w (w3).drew := bdrew hBz
    have hCq : Cur (w3).drew (w.heap.size + 1) A bs c 202 := (HCz.out.drew 1)
    obtain ⟨wq, hwq⟩ : ∃ wq, (w3).drew = wq := ⟨_, rfl⟩
    rw [hwq] at hNq hRq hTq hBq hCq
    clear hNz hRz hTz hBz HCz
    refine wp_region_inv' (fun a0 L a wr => St a0 a [14, 15, 16, 3, 4] ∧ 16 < a.tmps.size ∧ a.eval (.tmp 6) = .pointer (some ⟨gN, 0, none⟩) ∧ a.eval (.tmp 5) = .pointer (some ⟨w.heap.size + 1, 0, none⟩) ∧ a.eval (.tmp 2) = .pointer (some ⟨w.heap.size, 0, none⟩) ∧ DrRw4 w A bs c gN AK ks cK AD ds cD AL ls cL W L wr (a.eval (.tmp 14)) (a.eval (.tmp 15)) (a.eval (.tmp 16)) (a.eval (.tmp 3)) (a.eval (.tmp 4))) (by kernel_rfl) (by kernel_rfl) ?start ?steps ?ends
    case start =>
      subst hwq
      refine ⟨St.refl _ _, Nat.le_of_ble_eq_true rfl, rfl, rfl, rfl, hBq, ?_, ?_, ?_, ?_, ?_, ?_, ?_, ?_, ?_, hNq, fun _ => hRq, ?_, hTq, fun _ => hCq⟩
      all_goals (intro e; first | (cases e; done) | rfl | assumption)
    case ends =>
      rintro L a wr ⟨hst, hsz, q6, q5, q2, b, h2, h3, h4, h5, f0, f1, f2, f4, f5, kn, kr, kr2, tk, kq⟩ hall
      have ek := f4 (hall 4 (by decide))
      obtain ⟨z, ez⟩ := f5 (hall 5 (by decide))
      have k9 := kr2 (hall 3 (by decide))
      obtain ⟨r0, r1, r2, r3⟩ := k9.four
      have R0 := Lib.hid r0; have R1 := Lib.hid r1; have R2 := Lib.hid r2; have R3 := Lib.hid r3
      have HTF := Lib.hid tk.reads
      have HBF := Lib.hid b
      have heq := hst.eq
      simp only [List.foldl_cons, List.foldl_nil] at heq
      rw [ek, ez] at heq
      clear hst hall hsz q6 q5 q2 h2 h3 h4 h5 f0 f1 f2 f4 f5 kn kr kr2 tk kq ek ez r0 r1 r2 r3 k9 b
      generalize a.eval (.tmp 14) = u14 at *
      generalize a.eval (.tmp 15) = u15 at *
      generalize a.eval (.tmp 16) = u16 at *
      simp only [Act.put, List.setIfInBounds_toArray, List.set_cons_zero, List.set_cons_succ] at heq
      subst heq
      go_wp2_with fail
      exact bodyPost_ret (v := .tuple #[.agg #[.slice AK ks.length cK, .slice AD ds.length cD, .slice AL ls.length cL, .int .i64 W], .int .i64 100001, .bool z]) (by simp [results, Try.results43, go_sem, R0.out, R1.out, R2.out, R3.out]) rfl (GotRW.mk ⟨AK, ks, cK, AD, ds, cD, AL, ls, cL, W, 100001, z, rfl, HTF.out, k1, k2, k3, HBF.out⟩)
    case steps =>
      refine ⟨?s0, ?s1, ?s2, ?s3, ?s4, ?s5, trivial⟩
      case s0 =>
        rintro L a wr ⟨hst, hsz, q6, q5, q2, hF⟩ hL hdp K hK
        have ev := fun (d t : Nat) (v : Value) (hd : d < 17) => eval_put a d t v (by omega)
        obtain ⟨b, h2, h3, h4, h5, f0, f1, f2, f4, f5, kn, kr, kr2, tk, kq⟩ := hF
        have t6 := q6
        rw [eval_tmp, Array.getD_eq_getD_getElem?] at t6
        obtain ⟨n0, n1, n2, n3⟩ := kn.four
        refine step_value (v := .agg #[.slice AK ks.length cK, .slice AD ds.length cD, .slice AL ls.length cL, .int .i64 W]) (w' := wr) rfl (by go_simp) ?_
        refine hK _ _ ⟨hst.put 14 _ (by decide), by simpa [Act.put] using hsz, (ev 14 6 _ (by decide)).trans q6, (ev 14 5 _ (by decide)).trans q5, (ev 14 2 _ (by decide)).trans q2, ?_⟩
        simp only [ev 14 _ _ (by decide)]
        exact ⟨b, h2, fun e => absurd ((h3 e).1.symm.trans hL) (by decide), h4, h5, fun _ => rfl, f1, f2, f4, f5, kn, kr, kr2, tk, kq⟩
      case s1 =>
        rintro L a wr ⟨hst, hsz, q6, q5, q2, hF⟩ hL hdp K hK
        have ev := fun (d t : Nat) (v : Value) (hd : d < 17) => eval_put a d t v (by omega)
        obtain ⟨b, h2, h3, h4, h5, f0, f1, f2, f4, f5, kn, kr, kr2, tk, kq⟩ := hF
        have t5 := q5
        rw [eval_tmp, Array.getD_eq_getD_getElem?] at t5
        refine step_value (v := .pointer (some ⟨w.heap.size + 1, 0, none⟩)) (w' := wr) rfl (by go_simp) ?_
        refine hK _ _ ⟨hst.put 15 _ (by decide), by simpa [Act.put] using hsz, (ev 15 6 _ (by decide)).trans q6, (ev 15 5 _ (by decide)).trans q5, (ev 15 2 _ (by decide)).trans q2, ?_⟩
        simp only [ev 15 _ _ (by decide)]
        exact ⟨b, fun e => absurd ((h2 e).symm.trans hL) (by decide), h3, h4, h5, f0, fun _ => rfl, f2, f4, f5, kn, kr, kr2, tk, kq⟩
      case s2 =>
        rintro L a wr ⟨hst, hsz, q6, q5, q2, hF⟩ hL hdp K hK
        have ev := fun (d t : Nat) (v : Value) (hd : d < 17) => eval_put a d t v (by omega)
        have d1 : L 1 = true := hdp ⟨1, .data⟩ (by simp) rfl
        obtain ⟨b, h2, h3, h4, h5, f0, f1, f2, f4, f5, kn, kr, kr2, tk, kq⟩ := hF
        have t15 := f1 d1
        have t15 := f1 d1
        rw [eval_tmp, Array.getD_eq_getD_getElem?] at t15
        have HKQ := Lib.hid (kq hL)
        refine step_enter (f := 63) (args := #[.pointer (some ⟨w.heap.size + 1, 0, none⟩), .int .i64 2]) (w' := wr) rfl (by go_simp) ?_
        refine (one_any (w.heap.size + 1) A bs c 202 2 wr HKQ.out (by omega) (by omega) (by omega)).mono ?_
        rintro e w9 ⟨z, rfl, hc9, hg9⟩
        refine ⟨_, rfl, ?_⟩
        refine hK _ _ ⟨hst.put 16 _ (by decide), by simpa [Act.put] using hsz, (ev 16 6 _ (by decide)).trans q6, (ev 16 5 _ (by decide)).trans q5, (ev 16 2 _ (by decide)).trans q2, ?_⟩
        simp only [ev 16 _ _ (by decide)]
        exact ⟨b.trans (below_near hg9 (by omega) b.size), fun _ => d1, fun e => absurd ((h3 e).2.symm.trans hL) (by decide), h4, fun e => absurd ((h5 e).1.symm.trans hL) (by decide), f0, f1, fun _ => ⟨z, rfl⟩, f4, f5, Cur.blk_ HKQ.out kn hg9 (by decide), fun e => Cur.blk_ HKQ.out (kr e) hg9 (by decide), fun e => Cur.blk_ HKQ.out (kr2 e) hg9 (by decide), TK.row HKQ.out tk hg9, fun e => absurd ((upd_self L 2).symm.trans e) (by decide)⟩
      case s3 =>
        rintro L a wr ⟨hst, hsz, q6, q5, q2, hF⟩ hL hdp K hK
        have ev := fun (d t : Nat) (v : Value) (hd : d < 17) => eval_put a d t v (by omega)
        have d0 : L 0 = true := hdp ⟨0, .data⟩ (by simp) rfl
        have d2 : L 2 = true := hdp ⟨2, .chain⟩ (by simp) rfl
        obtain ⟨b, h2, h3, h4, h5, f0, f1, f2, f4, f5, kn, kr, kr2, tk, kq⟩ := hF
        have t2 := q2
        have t14 := f0 d0
        have t14 := f0 d0
        rw [eval_tmp, Array.getD_eq_getD_getElem?] at t14 t2
        have hkb := kr hL
        obtain ⟨fz0, fz1, fz2, fz3⟩ := hkb.ice
        obtain ⟨hcl0, hcl1, hcl2, hcl3⟩ := hkb.four
        have hlt := hkb.lt
        refine step_skip (w' := (((wr.setCell ⟨w.heap.size, 0, none⟩ (.slice AK ks.length cK)).setCell ⟨w.heap.size, 1, none⟩ (.slice AD ds.length cD)).setCell ⟨w.heap.size, 2, none⟩ (.slice AL ls.length cL)).setCell ⟨w.heap.size, 3, none⟩ (.int .i64 W)) rfl (by go_simp) ?_
        refine hK _ _ ⟨hst.put_none _, hsz, q6, q5, q2, ?_⟩
        exact ⟨below4 b (Nat.le_refl _) _ _ _ _, h2, fun _ => ⟨d0, d2⟩, fun e => absurd ((h4 e).symm.trans hL) (by decide), h5, f0, f1, f2, f4, f5, (((kn.far (by show _ ≠ w.heap.size; omega) _).far (by show _ ≠ w.heap.size; omega) _).far (by show _ ≠ w.heap.size; omega) _).far (by show _ ≠ w.heap.size; omega) _, fun e => absurd ((upd_self L 3).symm.trans e) (by decide), fun _ => blk4 hkb, tk.kept hkb (by decide) (by decide) (grown_set4 _ _ _ _ _), fun e => absurd (d2.symm.trans e) (by decide)⟩
      case s4 =>
        rintro L a wr ⟨hst, hsz, q6, q5, q2, hF⟩ hL hdp K hK
        have ev := fun (d t : Nat) (v : Value) (hd : d < 17) => eval_put a d t v (by omega)
        have d3 : L 3 = true := hdp ⟨3, .chain⟩ (by simp) rfl
        obtain ⟨b, h2, h3, h4, h5, f0, f1, f2, f4, f5, kn, kr, kr2, tk, kq⟩ := hF
        refine step_value (v := .int .i64 100001) (w' := wr) rfl (by go_simp) ?_
        refine hK _ _ ⟨hst.put 3 _ (by decide), by simpa [Act.put] using hsz, (ev 3 6 _ (by decide)).trans q6, (ev 3 5 _ (by decide)).trans q5, (ev 3 2 _ (by decide)).trans q2, ?_⟩
        simp only [ev 3 _ _ (by decide)]
        exact ⟨b, h2, h3, fun _ => d3, fun e => absurd ((h5 e).2.symm.trans hL) (by decide), f0, f1, f2, fun _ => rfl, f5, kn, kr, kr2, tk, kq⟩
      case s5 =>
        rintro L a wr ⟨hst, hsz, q6, q5, q2, hF⟩ hL hdp K hK
        have ev := fun (d t : Nat) (v : Value) (hd : d < 17) => eval_put a d t v (by omega)
        have d2 : L 2 = true := hdp ⟨2, .data⟩ (by simp) rfl
        have d4 : L 4 = true := hdp ⟨4, .chain⟩ (by simp) rfl
        obtain ⟨b, h2, h3, h4, h5, f0, f1, f2, f4, f5, kn, kr, kr2, tk, kq⟩ := hF
        have t3 := f4 d4
        obtain ⟨z, ez⟩ := f2 d2
        refine step_value (v := a.eval (.tmp 16)) (w' := wr) rfl (by go_simp) ?_
        refine hK _ _ ⟨hst.put 4 _ (by decide), by simpa [Act.put] using hsz, (ev 4 6 _ (by decide)).trans q6, (ev 4 5 _ (by decide)).trans q5, (ev 4 2 _ (by decide)).trans q2, ?_⟩
        simp only [ev 4 _ _ (by decide)]
        exact ⟨b, h2, h3, h4, fun _ => ⟨d2, d4⟩, f0, f1, f2, f4, fun _ => ⟨z, ez⟩, kn, kr, kr2, tk, kq⟩
end Go.Proofs.Yteigceeghnphmaa
