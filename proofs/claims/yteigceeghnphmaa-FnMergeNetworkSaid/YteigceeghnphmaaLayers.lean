/- The layers of a network: the program's and the reference's. -/
import Derived.Test.YteigceeghnphmaaNetTo
namespace Go.Proofs.Yteigceeghnphmaa
open Go.RowKit
set_option linter.unusedVariables false

/-- one comparator more: (the last layer on each wire, the layers so far) -/
def layStep (st : List Int × List Int) (c : Int × Int) : List Int × List Int :=
  let l := max (st.1[c.1.toNat]?.getD 0) (st.1[c.2.toNat]?.getD 0) + 1
  ((st.1.set c.1.toNat l).set c.2.toNat l, st.2 ++ [l])
def layFold (W : Int) (cs : List (Int × Int)) : List Int × List Int := cs.foldl layStep (List.replicate W.toNat 0, [])
def layersL (W : Int) (cs : List (Int × Int)) : List Int := (layFold W cs).2
theorem layFold_snoc (W : Int) (cs : List (Int × Int)) (c : Int × Int) : layFold W (cs ++ [c]) = layStep (layFold W cs) c := by simp [layFold]
theorem layFold_take (W : Int) (cs : List (Int × Int)) (k : Nat) (hk : k < cs.length) : layFold W (cs.take (k + 1)) = layStep (layFold W (cs.take k)) cs[k] := by
  rw [List.take_succ_eq_append_getElem hk, layFold_snoc]
theorem layFold_nil (W : Int) : layFold W [] = (List.replicate W.toNat 0, []) := rfl
theorem getD_mem {l : List Int} {P : Int → Prop} (h : ∀ x ∈ l, P x) (h0 : P 0) (i : Nat) : P (l[i]?.getD 0) := by
  by_cases hi : i < l.length
  · rw [List.getElem?_eq_getElem hi]; exact h _ (List.getElem_mem hi)
  · rw [List.getElem?_eq_none (by omega)]; exact h0
theorem layFold_inv (W : Int) (cs : List (Int × Int)) (k : Nat) (hk : k ≤ cs.length) :
    (layFold W (cs.take k)).1.length = W.toNat ∧ (∀ x ∈ (layFold W (cs.take k)).1, 0 ≤ x ∧ x ≤ k) ∧ (layFold W (cs.take k)).2.length = k ∧ (∀ x ∈ (layFold W (cs.take k)).2, 1 ≤ x ∧ x ≤ k) := by
  induction k with
  | zero => simp [layFold]
  | succ k ih =>
    obtain ⟨h1, h2, h3, h4⟩ := ih (by omega)
    rw [layFold_take W cs k (by omega)]
    have g1 := getD_mem (P := fun x => 0 ≤ x ∧ x ≤ (k : Int)) h2 (by omega) cs[k].1.toNat
    have g2 := getD_mem (P := fun x => 0 ≤ x ∧ x ≤ (k : Int)) h2 (by omega) cs[k].2.toNat
    simp only [layStep, List.length_set, List.length_append, List.length_singleton]
    refine ⟨h1, ?_, by omega, ?_⟩
    · intro x hx
      rcases List.mem_or_eq_of_mem_set hx with hx | rfl
      · rcases List.mem_or_eq_of_mem_set hx with hx | rfl
        · have := h2 x hx; omega
        · omega
      · omega
    · intro x hx
      rcases List.mem_append.1 hx with hx | hx
      · have := h4 x hx; omega
      · simp at hx; omega
theorem ints_one (zs : List Int) : ∀ u ∈ ints zs, u.oneCell' = true := by
  intro u hu; simp [ints] at hu; obtain ⟨z, _, rfl⟩ := hu; rfl
theorem ints_push {w : World} {B : Nat} {e : TypeId} {v : Value} {acc : List Int} {a : Int} (h : w.ownsRow B e 1 v (acc.length + 1) (ints acc ++ #[Value.int .i64 a].toList)) :
    w.ownsRow B e 1 v (acc ++ [a]).length (ints (acc ++ [a])) := by simpa [ints] using h
theorem cmpOk_iff {W : Int} {c : Int × Int} (h : cmpOk W c = true) : c.1 ≠ c.2 ∧ 0 ≤ c.1 ∧ c.1 < W ∧ 0 ≤ c.2 ∧ c.2 < W := by
  simp only [cmpOk, Bool.and_eq_true, Bool.not_eq_true', beq_eq_false_iff_ne] at h
  have := inB_iff.1 h.2.1
  have := inB_iff.1 h.2.2
  exact ⟨h.1, by omega, by omega, by omega, by omega⟩
theorem netOk_iff {W : Int} {cs : List (Int × Int)} (h : netOk W cs = true) : 1 ≤ W ∧ W ≤ 16 ∧ cs.length ≤ 200 ∧ ∀ c ∈ cs, cmpOk W c = true := by
  simp only [netOk, Bool.and_eq_true, decide_eq_true_eq, List.all_eq_true] at h
  have := inB_iff.1 h.1
  exact ⟨this.1, this.2, h.2.1, h.2.2⟩
theorem info_int : (Try.prog.info? 3).map (fun i => (i.zero, i.size, i.bytes)) = some (some (.int .i64 0), 1, 8) := by kernel_rfl
set_option maxRecDepth 100000 in
set_option maxHeartbeats 1600000 in
theorem layers_any (W : Int) (A : Option Addr) (cs : List (Int × Int)) (c : Nat) (w : World) (hx : Reads w w.heap.size 2 A cs.length (cmps cs)) (hok : netOk W cs = true) :
    Calls Try.prog 55 #[.agg #[.int .i64 W, .slice A cs.length c]] w fun e w' => ∃ v, e = .returned v ∧ w'.ownsRow w.heap.size 3 1 v (layersL W cs).length (ints (layersL W cs)) ∧ Below w.heap.size w w' := by
  obtain ⟨hW1, hW2, hcl, hcs⟩ := netOk_iff hok
  clear hok
  have HC := Lib.hid hcs; clear hcs
  obtain ⟨n, rfl⟩ := Int.eq_ofNat_of_zero_le (show 0 ≤ W by omega)
  obtain ⟨i0, hi, hz0, hz1, hz2⟩ := info_parts info_int
  go_enter Try.func55, Try.ntmps55
  have hmk : ∀ w0 : World, (Instr.makeSlice 33 (.int .i64 n) (.int .i64 n)).run Try.prog w0 = .ok (.slice (some ⟨w0.heap.size, 0, none⟩) n n) (w0.alloc (.cells (madeCells #[.int .i64 0] n) 3)) := by
    intro w0
    have := run_make (P := Try.prog) w0 33 3 i0 (.int .i64 0) Try.underlying33 hi hz0 .i64 .i64 n n (by omega) (by omega) (by rw [hz2]; omega) (by omega)
    simpa [Value.cells, hz1] using this
  have hbox : ∀ w0 : World, Blk (w0.alloc (.cells #[.int .i64 n, .slice A cs.length c] 26)) w0.heap.size 26 #[.int .i64 n, .slice A cs.length c] := fun w0 => Blk.new w0 _ _
  have hbx := (hbox w).two
  obtain ⟨hbx0, hbx1⟩ := hbx
  go_wp2_with fail
  go_region
  · have hat0 : (((w.alloc (.cells #[.int .i64 n, .slice A cs.length c] 26)).alloc (.cells #[] 3)).alloc (.cells (madeCells #[.int .i64 0] n) 3)).ownsRow w.heap.size 3 1 (.slice (some ⟨w.heap.size + 1 + 1, 0, none⟩) n n) n (ints (List.replicate n 0)) := by
      have := own_full (base := w.heap.size) (size := 1) (e := 3) ((w.alloc (.cells #[.int .i64 n, .slice A cs.length c] 26)).alloc (.cells #[] 3)) (madeCells #[.int .i64 0] n) n (by simp; omega) (by unfold maxLen; omega) (by simp [madeCells])
      rw [toList_madeCells_one] at this
      simpa [ints] using this
    have hout0 : (((w.alloc (.cells #[.int .i64 n, .slice A cs.length c] 26)).alloc (.cells #[] 3)).alloc (.cells (madeCells #[.int .i64 0] n) 3)).ownsRow w.heap.size 3 1 (.slice (some ⟨w.heap.size + 1, 0, none⟩) 0 0) 0 [] := by
      have := (World.ownsRow_made (base := w.heap.size) (size := 1) (e := 3) (w.alloc (.cells #[.int .i64 n, .slice A cs.length c] 26)) #[] 0 (by simp) (by simp) (by simp)).alloc (.cells (madeCells #[.int .i64 0] n) 3)
      simpa using this
    have hB0 : Below w.heap.size w (((w.alloc (.cells #[.int .i64 n, .slice A cs.length c] 26)).alloc (.cells #[] 3)).alloc (.cells (madeCells #[.int .i64 0] n) 3)) := by go_grown
    go_wp2_with fail
    go_loopw [3, 15] (fun o i wr => ∃ (k : Nat) (ys zs : List Int), k ≤ cs.length ∧ i = .int .i64 k ∧ (zs, ys) = layFold n (cs.take k) ∧ Below w.heap.size w wr ∧
        wr.ownsRow w.heap.size 3 1 (.slice (some ⟨w.heap.size + 1 + 1, 0, none⟩) n n) n (ints zs) ∧ wr.ownsRow w.heap.size 3 1 o ys.length (ints ys) ∧ o.ownBlock ≠ some (w.heap.size + 1 + 1)) (fun _ i _ => cs.length - (intOf i).toNat)
    case atStart => exact ⟨0, [], List.replicate n 0, by omega, rfl, rfl, below_drewN hB0 1, by exact hat0, by exact hout0, by simp [Value.ownBlock]⟩
    case round =>
      clear hat0 hout0 hB0
      obtain ⟨k, ys, zs, hk, rfl, hst, hb, hat, hout, hne⟩ := hrel
      have hinv := layFold_inv n cs k hk
      rw [← hst] at hinv
      obtain ⟨hl1, hl2, hl3, hl4⟩ := hinv
      have hyl : ys.length ≤ 200 := by simp only at hl3; omega
      clear hl3
      have HS := Lib.hid hst; clear hst
      have HL2 := Lib.hid hl2; clear hl2
      have HL4 := Lib.hid hl4; clear hl4
      by_cases hlt : k < cs.length
      · obtain ⟨ad, rfl, had, hc0, hc1⟩ := (hx.below hb).cmp hlt
        obtain ⟨hcn, hlo0, hlo1, hhi0, hhi1⟩ := cmpOk_iff (HC.out cs[k] (List.getElem_mem hlt))
        obtain ⟨a, b, hck⟩ : ∃ a b : Nat, cs[k] = ((a : Int), (b : Int)) := ⟨cs[k].1.toNat, cs[k].2.toNat, by ext <;> simp <;> omega⟩
        have HK := Lib.hid (layFold_take n cs k hlt)
        rw [hck] at hcn hlo1 hhi1 hc0 hc1
        simp only at hlo1 hhi1 hcn
        have haz : a < zs.length := by simp only at hl1; omega
        have hbz : b < zs.length := by simp only at hl1; omega
        have hab : a ≠ b := by omega
        have hma := (own_lt hat _ rfl).2
        simp only at hma
        have CK := Lib.hid hck; clear hck
        clear hcn hlo0 hhi0
        have hsz := hb.size
        have d0 := (hat.alloc (.cells #[.int .i64 a, .int .i64 b] 32)).cellAt a (by omega)
        rw [ints_get haz] at d0
        have d1 := (hat.alloc (.cells #[.int .i64 a, .int .i64 b] 32)).cellAt b (by omega)
        rw [ints_get hbz] at d1
        obtain ⟨e0, e1⟩ := (Blk.new wr 32 #[.int .i64 a, .int .i64 b]).two
        have z0 := HL2.out zs[a] (List.getElem_mem haz)
        have z1 := HL2.out zs[b] (List.getElem_mem hbz)
        go_wp2_with fail
        go_region
        go_wp2_with fail
        all_goals
          obtain ⟨l, hl⟩ : ∃ l, l = max zs[a] zs[b] + 1 := ⟨_, rfl⟩
          first
            | (have hm : zs[b] + 1 = l := by omega
               rw [hm]; clear hm)
            | (have hm : zs[a] + 1 = l := by omega
               rw [hm]; clear hm)
          clear d0 d1
          have hat1 := hat.alloc (.cells #[.int .i64 a, .int .i64 b] 32)
          have hout1 := hout.alloc (.cells #[.int .i64 a, .int .i64 b] 32)
          have hb1 := alloc_ hb (.cells #[.int .i64 a, .int .i64 b] 32)
          have hws : wr.heap.size + 1 = (wr.alloc (.cells #[.int .i64 a, .int .i64 b] 32)).heap.size := by simp
          generalize wr.alloc (.cells #[.int .i64 a, .int .i64 b] 32) = wa at e0 e1 hat1 hout1 hb1 hws ⊢
          have f0 := hat1.frozenAt a
          have f1 := hat1.frozenAt b
          have d0 := hat1.cellAt a (by omega)
          have d1 := hat1.cellAt b (by omega)
          rw [ints_get haz] at d0
          rw [ints_get hbz] at d1
          have s1 := hat1.stored a (.int .i64 l)
          have s2 := s1.1.stored b (.int .i64 l)
          have t1 := hat1.stored b (.int .i64 l)
          have t2 := t1.1.stored a (.int .i64 l)
          rw [ints_set, ints_set] at s2 t2
          have o1 := own_setCell hout1 (p := ⟨w.heap.size + 1 + 1, a, none⟩) hne (.int .i64 l)
          have o2 := own_setCell o1 (p := ⟨w.heap.size + 1 + 1, b, none⟩) hne (.int .i64 l)
          have q1 := own_setCell hout1 (p := ⟨w.heap.size + 1 + 1, b, none⟩) hne (.int .i64 l)
          have q2 := own_setCell q1 (p := ⟨w.heap.size + 1 + 1, a, none⟩) hne (.int .i64 l)
          have S2 := Lib.hid (And.intro s2 o2); clear s1 s2 o1 o2
          have T2 := Lib.hid (And.intro t2 q2); clear t1 t2 q1 q2
          clear hat1 hout1
          have HL := Lib.hid hl; clear hl
          have e2 : (wa.setCell ⟨w.heap.size + 1 + 1, a, none⟩ (.int .i64 l)).cell? ⟨wr.heap.size, 0, none⟩ = some (.int .i64 a) := by rw [World.cell?_setCell_other _ _ _ _ (by simp <;> omega)]; exact e0
          have e3 : (wa.setCell ⟨w.heap.size + 1 + 1, a, none⟩ (.int .i64 l)).cell? ⟨wr.heap.size, 1, none⟩ = some (.int .i64 b) := by rw [World.cell?_setCell_other _ _ _ _ (by simp <;> omega)]; exact e1
          have e4 : (wa.setCell ⟨w.heap.size + 1 + 1, b, none⟩ (.int .i64 l)).cell? ⟨wr.heap.size, 0, none⟩ = some (.int .i64 a) := by rw [World.cell?_setCell_other _ _ _ _ (by simp <;> omega)]; exact e0
          have e5 : (wa.setCell ⟨w.heap.size + 1 + 1, b, none⟩ (.int .i64 l)).cell? ⟨wr.heap.size, 1, none⟩ = some (.int .i64 b) := by rw [World.cell?_setCell_other _ _ _ _ (by simp <;> omega)]; exact e1
          have e6 : ((wa.setCell ⟨w.heap.size + 1 + 1, a, none⟩ (.int .i64 l)).setCell ⟨w.heap.size + 1 + 1, b, none⟩ (.int .i64 l)).cell? ⟨wr.heap.size, 0, none⟩ = some (.int .i64 a) := by rw [World.cell?_setCell_other _ _ _ _ (by simp <;> omega)]; exact e2
          have e7 : ((wa.setCell ⟨w.heap.size + 1 + 1, a, none⟩ (.int .i64 l)).setCell ⟨w.heap.size + 1 + 1, b, none⟩ (.int .i64 l)).cell? ⟨wr.heap.size, 1, none⟩ = some (.int .i64 b) := by rw [World.cell?_setCell_other _ _ _ _ (by simp <;> omega)]; exact e3
          have e8 : ((wa.setCell ⟨w.heap.size + 1 + 1, b, none⟩ (.int .i64 l)).setCell ⟨w.heap.size + 1 + 1, a, none⟩ (.int .i64 l)).cell? ⟨wr.heap.size, 0, none⟩ = some (.int .i64 a) := by rw [World.cell?_setCell_other _ _ _ _ (by simp <;> omega)]; exact e4
          have e9 : ((wa.setCell ⟨w.heap.size + 1 + 1, b, none⟩ (.int .i64 l)).setCell ⟨w.heap.size + 1 + 1, a, none⟩ (.int .i64 l)).cell? ⟨wr.heap.size, 1, none⟩ = some (.int .i64 b) := by rw [World.cell?_setCell_other _ _ _ _ (by simp <;> omega)]; exact e5
          have ia : (0 : Int) ≤ (a : Int) := by omega
          have ib : (0 : Int) ≤ (b : Int) := by omega
          go_region_held3 (fun w' => w'.cell? ⟨wr.heap.size, 0, none⟩ = some (.int .i64 a) ∧ w'.cell? ⟨wr.heap.size, 1, none⟩ = some (.int .i64 b)) (first | go_keep | (go_split_ands; refine ⟨?_, ?_⟩ <;> (first | exact e2 | exact e3 | exact e4 | exact e5 | exact e6 | exact e7 | exact e8 | exact e9))) (fail)
          all_goals
            (obtain ⟨⟨hat2, -⟩, hout2⟩ := S2.out
             have hb2 := below_drewN ((hb1.setCell (p := ⟨w.heap.size + 1 + 1, a, none⟩) (by simp <;> omega) (.int .i64 l)).setCell (p := ⟨w.heap.size + 1 + 1, b, none⟩) (by simp <;> omega) (.int .i64 l)) 2
             have hat2 : World.ownsRow (World.drew (World.drew ((wa.setCell ⟨w.heap.size + 1 + 1, a, none⟩ (.int .i64 l)).setCell ⟨w.heap.size + 1 + 1, b, none⟩ (.int .i64 l)))) _ _ _ _ _ _ := hat2
             have hout2 : World.ownsRow (World.drew (World.drew ((wa.setCell ⟨w.heap.size + 1 + 1, a, none⟩ (.int .i64 l)).setCell ⟨w.heap.size + 1 + 1, b, none⟩ (.int .i64 l)))) _ _ _ _ _ _ := hout2
             have hb2 : Below w.heap.size w (World.drew (World.drew ((wa.setCell ⟨w.heap.size + 1 + 1, a, none⟩ (.int .i64 l)).setCell ⟨w.heap.size + 1 + 1, b, none⟩ (.int .i64 l)))) := hb2
             have hws2 : wr.heap.size + 1 = (World.drew (World.drew ((wa.setCell ⟨w.heap.size + 1 + 1, a, none⟩ (.int .i64 l)).setCell ⟨w.heap.size + 1 + 1, b, none⟩ (.int .i64 l)))).heap.size := by simpa using hws
             clear S2 T2 e2 e3 e4 e5 e6 e7 e8 e9
             generalize World.drew (World.drew ((wa.setCell ⟨w.heap.size + 1 + 1, a, none⟩ (.int .i64 l)).setCell ⟨w.heap.size + 1 + 1, b, none⟩ (.int .i64 l))) = wb at hat2 hout2 hb2 hws2 ⊢
             go_wp2_with (at_builtin; refine wpList_push _ rfl _ _ 33 rfl w.heap.size 3 i0 _ 1 8 Try.underlying33 hi hz0 hz1 hz2 rfl (by decide) u3 _ _ rfl hout2 #[.int .i64 l] rfl rfl (by simp [Value.oneCell']) (by omega) (by unfold maxLen; omega) hb2.size ?_; intro g1 k1 w1 hown1 hg1 hb3 hat3)
             go_roundw
             case rel =>
               refine ⟨k + 1, ys ++ [l], (zs.set a l).set b l, by omega, by go_num, ?_, hb2.trans hb3, own_kept hat2 hg1 (fun h => hne h.symm), ints_push hown1, ?_⟩
               · rw [HK.out, ← HS.out, CK.out, HL.out]
                 simp [layStep, haz, hbz]
               · intro h
                 simp only [Value.ownBlock, Option.some.injEq] at h
                 rcases hat3 with h3 | h3
                 · exact hne (by rw [h3, h])
                 · omega
             case measure => simp [intOf]; omega)
      · go_wp2_with fail
        go_ret
        refine ⟨_, rfl, ?_, hb⟩
        have hk' : cs.take k = cs := List.take_of_length_le (by omega)
        rw [hk'] at HS
        have : ys = layersL n cs := by rw [layersL, ← HS.out]
        rwa [this] at hout
  · have hat0 : (((w.alloc (.cells #[.int .i64 n, .slice A cs.length c] 26)).alloc (.cells (madeCells #[.int .i64 0] n) 3)).alloc (.cells #[] 3)).ownsRow w.heap.size 3 1 (.slice (some ⟨w.heap.size + 1, 0, none⟩) n n) n (ints (List.replicate n 0)) := by
      have := (own_full (base := w.heap.size) (size := 1) (e := 3) (w.alloc (.cells #[.int .i64 n, .slice A cs.length c] 26)) (madeCells #[.int .i64 0] n) n (by simp) (by unfold maxLen; omega) (by simp [madeCells])).alloc (.cells #[] 3)
      rw [toList_madeCells_one] at this
      simpa [ints] using this
    have hout0 : (((w.alloc (.cells #[.int .i64 n, .slice A cs.length c] 26)).alloc (.cells (madeCells #[.int .i64 0] n) 3)).alloc (.cells #[] 3)).ownsRow w.heap.size 3 1 (.slice (some ⟨w.heap.size + 1 + 1, 0, none⟩) 0 0) 0 [] := by
      have := World.ownsRow_made (base := w.heap.size) (size := 1) (e := 3) ((w.alloc (.cells #[.int .i64 n, .slice A cs.length c] 26)).alloc (.cells (madeCells #[.int .i64 0] n) 3)) #[] 0 (by simp; omega) (by simp) (by simp)
      simpa using this
    have hB0 : Below w.heap.size w (((w.alloc (.cells #[.int .i64 n, .slice A cs.length c] 26)).alloc (.cells (madeCells #[.int .i64 0] n) 3)).alloc (.cells #[] 3)) := by go_grown
    go_wp2_with fail
    go_loopw [3, 15] (fun o i wr => ∃ (k : Nat) (ys zs : List Int), k ≤ cs.length ∧ i = .int .i64 k ∧ (zs, ys) = layFold n (cs.take k) ∧ Below w.heap.size w wr ∧
        wr.ownsRow w.heap.size 3 1 (.slice (some ⟨w.heap.size + 1, 0, none⟩) n n) n (ints zs) ∧ wr.ownsRow w.heap.size 3 1 o ys.length (ints ys) ∧ o.ownBlock ≠ some (w.heap.size + 1)) (fun _ i _ => cs.length - (intOf i).toNat)
    case atStart => exact ⟨0, [], List.replicate n 0, by omega, rfl, rfl, below_drewN hB0 1, by exact hat0, by exact hout0, by simp [Value.ownBlock]⟩
    case round =>
      clear hat0 hout0 hB0
      obtain ⟨k, ys, zs, hk, rfl, hst, hb, hat, hout, hne⟩ := hrel
      have hinv := layFold_inv n cs k hk
      rw [← hst] at hinv
      obtain ⟨hl1, hl2, hl3, hl4⟩ := hinv
      have hyl : ys.length ≤ 200 := by simp only at hl3; omega
      clear hl3
      have HS := Lib.hid hst; clear hst
      have HL2 := Lib.hid hl2; clear hl2
      have HL4 := Lib.hid hl4; clear hl4
      by_cases hlt : k < cs.length
      · obtain ⟨ad, rfl, had, hc0, hc1⟩ := (hx.below hb).cmp hlt
        obtain ⟨hcn, hlo0, hlo1, hhi0, hhi1⟩ := cmpOk_iff (HC.out cs[k] (List.getElem_mem hlt))
        obtain ⟨a, b, hck⟩ : ∃ a b : Nat, cs[k] = ((a : Int), (b : Int)) := ⟨cs[k].1.toNat, cs[k].2.toNat, by ext <;> simp <;> omega⟩
        have HK := Lib.hid (layFold_take n cs k hlt)
        rw [hck] at hcn hlo1 hhi1 hc0 hc1
        simp only at hlo1 hhi1 hcn
        have haz : a < zs.length := by simp only at hl1; omega
        have hbz : b < zs.length := by simp only at hl1; omega
        have hab : a ≠ b := by omega
        have hma := (own_lt hat _ rfl).2
        simp only at hma
        have CK := Lib.hid hck; clear hck
        clear hcn hlo0 hhi0
        have hsz := hb.size
        have d0 := (hat.alloc (.cells #[.int .i64 a, .int .i64 b] 32)).cellAt a (by omega)
        rw [ints_get haz] at d0
        have d1 := (hat.alloc (.cells #[.int .i64 a, .int .i64 b] 32)).cellAt b (by omega)
        rw [ints_get hbz] at d1
        obtain ⟨e0, e1⟩ := (Blk.new wr 32 #[.int .i64 a, .int .i64 b]).two
        have z0 := HL2.out zs[a] (List.getElem_mem haz)
        have z1 := HL2.out zs[b] (List.getElem_mem hbz)
        go_wp2_with fail
        go_region
        go_wp2_with fail
        all_goals
          obtain ⟨l, hl⟩ : ∃ l, l = max zs[a] zs[b] + 1 := ⟨_, rfl⟩
          first
            | (have hm : zs[b] + 1 = l := by omega
               rw [hm]; clear hm)
            | (have hm : zs[a] + 1 = l := by omega
               rw [hm]; clear hm)
          clear d0 d1
          have hat1 := hat.alloc (.cells #[.int .i64 a, .int .i64 b] 32)
          have hout1 := hout.alloc (.cells #[.int .i64 a, .int .i64 b] 32)
          have hb1 := alloc_ hb (.cells #[.int .i64 a, .int .i64 b] 32)
          have hws : wr.heap.size + 1 = (wr.alloc (.cells #[.int .i64 a, .int .i64 b] 32)).heap.size := by simp
          generalize wr.alloc (.cells #[.int .i64 a, .int .i64 b] 32) = wa at e0 e1 hat1 hout1 hb1 hws ⊢
          have f0 := hat1.frozenAt a
          have f1 := hat1.frozenAt b
          have d0 := hat1.cellAt a (by omega)
          have d1 := hat1.cellAt b (by omega)
          rw [ints_get haz] at d0
          rw [ints_get hbz] at d1
          have s1 := hat1.stored a (.int .i64 l)
          have s2 := s1.1.stored b (.int .i64 l)
          have t1 := hat1.stored b (.int .i64 l)
          have t2 := t1.1.stored a (.int .i64 l)
          rw [ints_set, ints_set] at s2 t2
          have o1 := own_setCell hout1 (p := ⟨w.heap.size + 1, a, none⟩) hne (.int .i64 l)
          have o2 := own_setCell o1 (p := ⟨w.heap.size + 1, b, none⟩) hne (.int .i64 l)
          have q1 := own_setCell hout1 (p := ⟨w.heap.size + 1, b, none⟩) hne (.int .i64 l)
          have q2 := own_setCell q1 (p := ⟨w.heap.size + 1, a, none⟩) hne (.int .i64 l)
          have S2 := Lib.hid (And.intro s2 o2); clear s1 s2 o1 o2
          have T2 := Lib.hid (And.intro t2 q2); clear t1 t2 q1 q2
          clear hat1 hout1
          have HL := Lib.hid hl; clear hl
          have e2 : (wa.setCell ⟨w.heap.size + 1, a, none⟩ (.int .i64 l)).cell? ⟨wr.heap.size, 0, none⟩ = some (.int .i64 a) := by rw [World.cell?_setCell_other _ _ _ _ (by simp <;> omega)]; exact e0
          have e3 : (wa.setCell ⟨w.heap.size + 1, a, none⟩ (.int .i64 l)).cell? ⟨wr.heap.size, 1, none⟩ = some (.int .i64 b) := by rw [World.cell?_setCell_other _ _ _ _ (by simp <;> omega)]; exact e1
          have e4 : (wa.setCell ⟨w.heap.size + 1, b, none⟩ (.int .i64 l)).cell? ⟨wr.heap.size, 0, none⟩ = some (.int .i64 a) := by rw [World.cell?_setCell_other _ _ _ _ (by simp <;> omega)]; exact e0
          have e5 : (wa.setCell ⟨w.heap.size + 1, b, none⟩ (.int .i64 l)).cell? ⟨wr.heap.size, 1, none⟩ = some (.int .i64 b) := by rw [World.cell?_setCell_other _ _ _ _ (by simp <;> omega)]; exact e1
          have e6 : ((wa.setCell ⟨w.heap.size + 1, a, none⟩ (.int .i64 l)).setCell ⟨w.heap.size + 1, b, none⟩ (.int .i64 l)).cell? ⟨wr.heap.size, 0, none⟩ = some (.int .i64 a) := by rw [World.cell?_setCell_other _ _ _ _ (by simp <;> omega)]; exact e2
          have e7 : ((wa.setCell ⟨w.heap.size + 1, a, none⟩ (.int .i64 l)).setCell ⟨w.heap.size + 1, b, none⟩ (.int .i64 l)).cell? ⟨wr.heap.size, 1, none⟩ = some (.int .i64 b) := by rw [World.cell?_setCell_other _ _ _ _ (by simp <;> omega)]; exact e3
          have e8 : ((wa.setCell ⟨w.heap.size + 1, b, none⟩ (.int .i64 l)).setCell ⟨w.heap.size + 1, a, none⟩ (.int .i64 l)).cell? ⟨wr.heap.size, 0, none⟩ = some (.int .i64 a) := by rw [World.cell?_setCell_other _ _ _ _ (by simp <;> omega)]; exact e4
          have e9 : ((wa.setCell ⟨w.heap.size + 1, b, none⟩ (.int .i64 l)).setCell ⟨w.heap.size + 1, a, none⟩ (.int .i64 l)).cell? ⟨wr.heap.size, 1, none⟩ = some (.int .i64 b) := by rw [World.cell?_setCell_other _ _ _ _ (by simp <;> omega)]; exact e5
          have ia : (0 : Int) ≤ (a : Int) := by omega
          have ib : (0 : Int) ≤ (b : Int) := by omega
          go_region_held3 (fun w' => w'.cell? ⟨wr.heap.size, 0, none⟩ = some (.int .i64 a) ∧ w'.cell? ⟨wr.heap.size, 1, none⟩ = some (.int .i64 b)) (first | go_keep | (go_split_ands; refine ⟨?_, ?_⟩ <;> (first | exact e2 | exact e3 | exact e4 | exact e5 | exact e6 | exact e7 | exact e8 | exact e9))) (fail)
          all_goals
            (obtain ⟨⟨hat2, -⟩, hout2⟩ := S2.out
             have hb2 := below_drewN ((hb1.setCell (p := ⟨w.heap.size + 1, a, none⟩) (by simp <;> omega) (.int .i64 l)).setCell (p := ⟨w.heap.size + 1, b, none⟩) (by simp <;> omega) (.int .i64 l)) 2
             have hat2 : World.ownsRow (World.drew (World.drew ((wa.setCell ⟨w.heap.size + 1, a, none⟩ (.int .i64 l)).setCell ⟨w.heap.size + 1, b, none⟩ (.int .i64 l)))) _ _ _ _ _ _ := hat2
             have hout2 : World.ownsRow (World.drew (World.drew ((wa.setCell ⟨w.heap.size + 1, a, none⟩ (.int .i64 l)).setCell ⟨w.heap.size + 1, b, none⟩ (.int .i64 l)))) _ _ _ _ _ _ := hout2
             have hb2 : Below w.heap.size w (World.drew (World.drew ((wa.setCell ⟨w.heap.size + 1, a, none⟩ (.int .i64 l)).setCell ⟨w.heap.size + 1, b, none⟩ (.int .i64 l)))) := hb2
             have hws2 : wr.heap.size + 1 = (World.drew (World.drew ((wa.setCell ⟨w.heap.size + 1, a, none⟩ (.int .i64 l)).setCell ⟨w.heap.size + 1, b, none⟩ (.int .i64 l)))).heap.size := by simpa using hws
             clear S2 T2 e2 e3 e4 e5 e6 e7 e8 e9
             generalize World.drew (World.drew ((wa.setCell ⟨w.heap.size + 1, a, none⟩ (.int .i64 l)).setCell ⟨w.heap.size + 1, b, none⟩ (.int .i64 l))) = wb at hat2 hout2 hb2 hws2 ⊢
             go_wp2_with (at_builtin; refine wpList_push _ rfl _ _ 33 rfl w.heap.size 3 i0 _ 1 8 Try.underlying33 hi hz0 hz1 hz2 rfl (by decide) u3 _ _ rfl hout2 #[.int .i64 l] rfl rfl (by simp [Value.oneCell']) (by omega) (by unfold maxLen; omega) hb2.size ?_; intro g1 k1 w1 hown1 hg1 hb3 hat3)
             go_roundw
             case rel =>
               refine ⟨k + 1, ys ++ [l], (zs.set a l).set b l, by omega, by go_num, ?_, hb2.trans hb3, own_kept hat2 hg1 (fun h => hne h.symm), ints_push hown1, ?_⟩
               · rw [HK.out, ← HS.out, CK.out, HL.out]
                 simp [layStep, haz, hbz]
               · intro h
                 simp only [Value.ownBlock, Option.some.injEq] at h
                 rcases hat3 with h3 | h3
                 · exact hne (by rw [h3, h])
                 · omega
             case measure => simp [intOf]; omega)
      · go_wp2_with fail
        go_ret
        refine ⟨_, rfl, ?_, hb⟩
        have hk' : cs.take k = cs := List.take_of_length_le (by omega)
        rw [hk'] at HS
        have : ys = layersL n cs := by rw [layersL, ← HS.out]
        rwa [this] at hout
end Go.Proofs.Yteigceeghnphmaa
