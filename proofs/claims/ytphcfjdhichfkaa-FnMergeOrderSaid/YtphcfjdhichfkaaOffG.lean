/- Append of one element onto the tail of a row of one's own: with the frame told by the block. -/
import Derived.Test.YtphcfjdhichfkaaCore
import Derived.ArgAppend
namespace Go.Proofs.Ytphcfjdhichfkaa
open Go.RowKit
set_option linter.unusedVariables false
theorem wpList_off_pushG (w : World) {ops : Array Oper} {rest : List Oper} {o : Oper} {a : Act} {Q : Exit → Act → World → Prop}
    (hgd : o.guard = none) (s x : Operand) (hop : o.op = Op.call { callee := Callee.builtin Builtin.append, args := #[s, x], argTypes := #[24, 24] })
    (base g k N c : Nat) (zs : List Int) (hown : w.ownsRow base 3 1 (.slice (some ⟨g, 0, none⟩) N c) N (ints zs)) (hk : k ≤ N)
    (hs : a.eval s = .slice (some ⟨g, k, none⟩) (N - k) (c - k)) (q cq : Nat) (z : Int) (hx : a.eval x = .slice (some ⟨q, 0, none⟩) 1 cq) (hq : w.cell? ⟨q, 0, none⟩ = some (.int .i64 z)) (hN : N ≤ 1048576)
    (h : ∀ A' c' w', Reads w' w'.heap.size 1 A' (N - k + 1) (ints (zs.drop k ++ [z])) → Below base w w' → w.grownBy w' (some g) → wpList Try.prog ops Q rest (a.put o.dst (.slice A' (N - k + 1) c')) w') :
    wpList Try.prog ops Q (o :: rest) a w := by
  obtain ⟨i0, hi, hz0, hz1, hz2⟩ := info_parts (show (Try.prog.info? 3).map (fun i => (i.zero, i.size, i.bytes)) = some (some (.int .i64 0), 1, 8) by kernel_rfl)
  have hzl : zs.length = N := by have := hown.1; simpa [ints] using this
  rcases hown.2 with ⟨h0, _⟩ | ⟨g', cap, cur, hv, hg, hcells, hn, hcap, hsz, htk⟩
  · cases h0
  cases hv
  have hlt : g < w.heap.size := (Array.getElem?_eq_some_iff.1 hcells).1
  have holds : ∀ j u, (ints (zs.drop k))[j]? = some u → w.cell? ⟨g, k + j, none⟩ = some u := by
    intro j u hu
    have hj : k + j < N := by
      have := (List.getElem?_eq_some_iff.1 hu).1
      simp [ints] at this; omega
    rw [hown.cellAt (k + j) (by omega)]
    simp [ints] at hu ⊢
    exact hu
  have hlen : (ints (zs.drop k)).length = (N - k) * 1 := by simp [ints, hzl]
  refine wpList_append_arg w hgd s x 24 hop 3 i0 _ 1 8 Try.underlying24 hi hz0 hz1 hz2 rfl (by decide) g k (N - k) (c - k) (ints (zs.drop k)) hs hlen holds ⟨q, 0, none⟩ 1 cq [.int .i64 z] hx rfl ?c1 (by simp [Value.oneCell']) ?sp (by unfold maxLen; omega) (by omega) ?room ?grow
  case c1 =>
    intro j u hu
    cases j with
    | zero => simp at hu; subst hu; simpa [Addr.add] using hq
    | succ j => simp at hu
  case sp =>
    intro hr j hj
    have hj0 : j = 0 := by simp at hj; exact hj
    subst hj0
    refine ⟨?_, by simp [World.frozen?, hcells]⟩
    simp only [World.cell?, hcells, Option.isSome_none, Bool.false_eq_true, if_false]
    rw [Array.getElem?_eq_getElem (by omega)]; rfl
  case room =>
    intro hr
    have hgr : w.grownBy (w.setCells g (k + (N - k) * 1) [.int .i64 z]) (some g) := ⟨rfl, rfl, rfl, by simp [World.setCells, World.setCell], fun j hj hne => Below.heap_setCell w _ _ j (by rintro rfl; exact hne rfl)⟩
    refine h _ _ _ ⟨by simp [ints, hzl], fun _ => ⟨⟨g, k, none⟩, rfl, ?_, ?_⟩⟩ ?_ hgr
    · simpa [World.setCells] using hlt
    · intro j u hu
      have hj : j < N - k + 1 := by
        have := (List.getElem?_eq_some_iff.1 hu).1
        simp [ints, hzl] at this; omega
      rw [Addr.add_lit]
      by_cases hjn : j < N - k
      · rw [World.cell?_setCells_out g _ _ _ _ (by intro _ _; left; simp; omega)]
        refine holds j u ?_
        rw [← hu]
        simp only [ints, List.map_append]
        rw [List.getElem?_append_left (by simp [hzl]; omega)]
      · have hje : j = N - k := by omega
        subst hje
        have hin := World.cell?_setCells_in g [.int .i64 z] (k + (N - k) * 1) w (by
          intro j hj
          have hj0 : j = 0 := by simp at hj; exact hj
          subst hj0
          simp only [World.cell?, hcells, Option.isSome_none, Bool.false_eq_true, if_false]
          rw [Array.getElem?_eq_getElem (by omega)]; rfl) 0 (by simp)
        rw [Nat.mul_one, Nat.add_zero] at hin
        rw [Nat.mul_one, hin]
        rw [← hu]
        simp only [ints, List.map_append]
        rw [List.getElem?_append_right (by simp [hzl])]
        simp [hzl]
    · exact below_of_grown hgr (by omega) (by intro j hj; cases hj; exact hg)
  case grow =>
    intro hf v' w' ho hg2
    have hb := below_of_grown (B := base) hg2 (by omega) (by intro k hk; cases hk)
    obtain ⟨A', c', rfl⟩ := own_slice ho
    refine h A' c' w' ?_ hb ⟨hg2.os, hg2.tape, hg2.output, hg2.size, fun k hk _ => hg2.block k hk (by simp)⟩
    have := Reads.of_own ho
    simpa [ints] using this
/-- the same, the tail as the machine's slicing writes it: an empty tail without room keeps the row's own address -/
theorem wpList_tail_pushG (w : World) {ops : Array Oper} {rest : List Oper} {o : Oper} {a : Act} {Q : Exit → Act → World → Prop}
    (hgd : o.guard = none) (s x : Operand) (hop : o.op = Op.call { callee := Callee.builtin Builtin.append, args := #[s, x], argTypes := #[24, 24] })
    (base g k N c : Nat) (zs ds : List Int) (hown : w.ownsRow base 3 1 (.slice (some ⟨g, 0, none⟩) N c) N (ints zs)) (hbase : base ≤ w.heap.size) (M : Nat) (hM : M + k = N) (hds : zs.drop k = ds) (hNc : N ≤ c)
    (hs : a.eval s = .slice (if c = k then some ⟨g, 0, none⟩ else some ⟨g, k, none⟩) M (c - k)) (q cq : Nat) (z : Int) (hx : a.eval x = .slice (some ⟨q, 0, none⟩) 1 cq) (hq : w.cell? ⟨q, 0, none⟩ = some (.int .i64 z)) (hN : N ≤ 1048576)
    (h : ∀ A' c' w', Reads w' w'.heap.size 1 A' (ds ++ [z]).length (ints (ds ++ [z])) → Below base w w' → w.grownBy w' (some g) → (ds ++ [z]).length = M + 1 → wpList Try.prog ops Q rest (a.put o.dst (.slice A' (M + 1) c')) w') :
    wpList Try.prog ops Q (o :: rest) a w := by
  subst hds
  obtain rfl : M = N - k := by omega
  have hzl : zs.length = N := by have := hown.1; simpa [ints] using this
  have hdl : (zs.drop k ++ [z]).length = N - k + 1 := by simp [hzl]
  by_cases hck : c = k
  · obtain ⟨i0, hi, hz0, hz1, hz2⟩ := info_parts (show (Try.prog.info? 3).map (fun i => (i.zero, i.size, i.bytes)) = some (some (.int .i64 0), 1, 8) by kernel_rfl)
    rw [if_pos hck] at hs
    have hd : zs.drop k = [] := List.drop_eq_nil_of_le (by omega)
    refine wpList_append_grows w hgd s x 24 hop 3 i0 _ 1 8 Try.underlying24 hi hz0 hz1 hz2 rfl (by decide) (some ⟨g, 0, none⟩) (N - k) (c - k) [] hs (by intro h; cases h) (by simp; omega) (by intro b hb j u hu; simp at hu) ⟨q, 0, none⟩ 1 cq [.int .i64 z] hx rfl ?c1 (by simp [Value.oneCell']) (by omega) (by unfold maxLen; omega) (by omega) ?grow
    case c1 =>
      intro j u hu
      cases j with
      | zero => simp at hu; subst hu; simpa [Addr.add] using hq
      | succ j => simp at hu
    case grow =>
      intro v' w' ho hg2
      have hb := below_of_grown (B := base) hg2 hbase (by intro k hk; cases hk)
      obtain ⟨A', c', rfl⟩ := own_slice ho
      refine h A' c' w' ?_ hb ⟨hg2.os, hg2.tape, hg2.output, hg2.size, fun k hk _ => hg2.block k hk (by simp)⟩ hdl
      have := Reads.of_own ho
      rw [hdl, hd]
      simpa [ints] using this
  · rw [if_neg hck] at hs
    exact wpList_off_pushG w hgd s x hop base g k N c zs hown (by omega) hs q cq z hx hq hN fun A' c' w' h1 h2 h3 => h A' c' w' (by rw [hdl]; exact h1) h2 h3 hdl
/-- the same, the tail's value as it stands -/
theorem wpList_tail_pushB (w : World) {ops : Array Oper} {rest : List Oper} {o : Oper} {a : Act} {Q : Exit → Act → World → Prop}
    (hgd : o.guard = none) (s x : Operand) (hop : o.op = Op.call { callee := Callee.builtin Builtin.append, args := #[s, x], argTypes := #[24, 24] })
    (base g k N c : Nat) (zs ds : List Int) (hown : w.ownsRow base 3 1 (.slice (some ⟨g, 0, none⟩) N c) N (ints zs)) (hbase : base ≤ w.heap.size) (M : Nat) (hM : M + k = N) (hds : zs.drop k = ds) (hNc : N ≤ c)
    (B : Option Addr) (C : Nat) (hs : a.eval s = .slice B M C) (hB : B = if c = k then some ⟨g, 0, none⟩ else some ⟨g, k, none⟩) (hC : C = c - k)
    (q cq : Nat) (z : Int) (hx : a.eval x = .slice (some ⟨q, 0, none⟩) 1 cq) (hq : w.cell? ⟨q, 0, none⟩ = some (.int .i64 z)) (hN : N ≤ 1048576)
    (h : ∀ A' c' w', Reads w' w'.heap.size 1 A' (ds ++ [z]).length (ints (ds ++ [z])) → Below base w w' → w.grownBy w' (some g) → (ds ++ [z]).length = M + 1 → wpList Try.prog ops Q rest (a.put o.dst (.slice A' (M + 1) c')) w') :
    wpList Try.prog ops Q (o :: rest) a w :=
  wpList_tail_pushG w hgd s x hop base g k N c zs ds hown hbase M hM hds hNc (by rw [hs, hB, hC]) q cq z hx hq hN h
end Go.Proofs.Ytphcfjdhichfkaa
