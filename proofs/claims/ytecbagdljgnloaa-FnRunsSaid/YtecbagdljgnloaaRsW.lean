/- The state of replacement selection. -/
import Derived.Test.YtecbagdljgnloaaDelS
import Derived.Test.YtecbagdljgnloaaNest
namespace Go.Proofs.Ytecbagdljgnloaa
open Go.RowKit
set_option linter.unusedVariables false
theorem inner_other {w : World} {base B n size : Nat} {t to : TypeId} {vals xs : List Value} {zss : List (List Int)} {v : Value} (h : Inner w base t vals zss) (ho : w.ownsRow B to size v n xs) (hne : t ≠ to) : ∀ u ∈ vals, u.ownBlock = none ∨ u.ownBlock ≠ v.ownBlock := by
  intro u hu
  obtain ⟨i, hi, rfl⟩ := List.mem_iff_getElem.1 hu
  obtain ⟨ys, _, hy⟩ := h.at_ (List.getElem?_eq_getElem hi)
  exact own_ne_type hy ho hne
theorem unm_step : ∀ (sl : List Slt) (j : Nat), j < sl.length → ((unm sl).take j ++ sl.drop j).set j (ky ((unm sl).take j ++ sl.drop j) j, false) = (unm sl).take (j + 1) ++ sl.drop (j + 1)
  | [], j, h => by simp at h
  | a :: l, 0, h => by simp [unm, ky]
  | a :: l, j + 1, h => by
    have := unm_step l j (by simpa using h)
    simp only [unm, List.map_cons, List.take_succ_cons, List.drop_succ_cons, List.cons_append, List.set_cons_succ] at this ⊢
    congr 1
theorem rs_start (zs : List Int) (m : Nat) (hm : 1 ≤ m) : RsI zs m ((zs.take m).map fun x => (x, false)) (zs.drop m) [] [] ∧ rsM ((zs.take m).map fun x => (x, false)) (zs.drop m) < 2 * zs.length + 2 := by
  have hmk : ∀ j, mkd ((zs.take m).map fun x => (x, false)) j = false := by
    intro j
    unfold mkd
    rw [List.getElem?_map]
    cases (zs.take m)[j]? <;> rfl
  refine ⟨⟨?_, ?_, by simp, List.Pairwise.nil, by simp, fun _ j _ => hmk j, .inl fun j _ => hmk j⟩, ?_⟩
  · simp [Function.comp_def]
  · intro h
    rw [List.length_map, List.length_take]
    have : 0 < (zs.drop m).length := List.length_pos_iff.2 h
    rw [List.length_drop] at this
    omega
  · have := (rsM_le ((zs.take m).map fun x => (x, false)) (zs.drop m)).2
    simp only [List.length_map, List.length_take, List.length_drop] at this
    omega
structure RsW (w0 w : World) (vS vU vC : Value) (n p t : Nat) (A : Option Addr) (q c : Nat) (sl : List Slt) (rest : List Int) (runs : List (List Int)) (run : List Int) (vals : List Value) : Prop where
  b : Below w0.heap.size w0 w
  s : w.ownsRow w0.heap.size 60 2 vS n (sls sl)
  sn : sl.length = n
  r : Reads w w0.heap.size 1 A q (ints rest)
  rq : rest.length = q
  qc : q ≤ c
  u : w.ownsRow w0.heap.size 22 1 vU p vals
  i : Inner w w0.heap.size 3 vals runs
  up : runs.length = p
  k : w.ownsRow w0.heap.size 3 1 vC t (ints run)
  kt : run.length = t
  ne : ∀ x ∈ vals, x.ownBlock = none ∨ x.ownBlock ≠ vC.ownBlock
section
variable {w0 w w' : World} {vS vU vC vS' vU' vC' : Value} {n p t n' t' : Nat} {A : Option Addr} {q c : Nat} {sl sl' : List Slt} {rest : List Int} {runs : List (List Int)} {run run' : List Int} {vals : List Value}
theorem RsW.below (h : RsW w0 w vS vU vC n p t A q c sl rest runs run vals) (hb : Below w.heap.size w w') : RsW w0 w' vS vU vC n p t A q c sl rest runs run vals :=
  ⟨bthen h.b hb, own_below h.s hb (Nat.le_refl _), h.sn, h.r.below (hb.mono h.b.size), h.rq, h.qc, own_below h.u hb (Nat.le_refl _), h.i.below hb (Nat.le_refl _), h.up, own_below h.k hb (Nat.le_refl _), h.kt, h.ne⟩
theorem RsW.alloc (h : RsW w0 w vS vU vC n p t A q c sl rest runs run vals) (o : Obj) : RsW w0 (w.alloc o) vS vU vC n p t A q c sl rest runs run vals := h.below (alloc_ (Below.refl _ _) o)
theorem RsW.drew (h : RsW w0 w vS vU vC n p t A q c sl rest runs run vals) : RsW w0 w.drew vS vU vC n p t A q c sl rest runs run vals := h.below (bdrew (Below.refl _ _))
theorem RsW.undrew (h : RsW w0 w.drew vS vU vC n p t A q c sl rest runs run vals) : RsW w0 w vS vU vC n p t A q c sl rest runs run vals :=
  ⟨⟨h.b.os, h.b.tape, h.b.output, h.b.size, h.b.block⟩, h.s, h.sn, h.r, h.rq, h.qc, h.u, ⟨h.i.len, h.i.own, h.i.ne⟩, h.up, h.k, h.kt, h.ne⟩
/-- the slots have turned -/
theorem RsW.slots (h : RsW w0 w vS vU vC n p t A q c sl rest runs run vals) (hg : w.grownBy w' vS.ownBlock) (ho : w'.ownsRow w0.heap.size 60 2 vS' n' (sls sl')) (hn : sl'.length = n') :
    RsW w0 w' vS' vU vC n' p t A q c sl' rest runs run vals :=
  ⟨h.b.trans (below_of_grown hg h.b.size (fun k hk => (own_lt h.s k hk).1)), ho, hn, h.r.grown hg h.b.size (fun k hk => (own_lt h.s k hk).1), h.rq, h.qc, h.u.kept hg (own_ne_type h.u h.s (by decide)), h.i.kept hg (inner_other h.i h.s (by decide)), h.up,
    h.k.kept hg (own_ne_type h.k h.s (by decide)), h.kt, h.ne⟩
/-- the run has grown -/
theorem RsW.grow (h : RsW w0 w vS vU vC n p t A q c sl rest runs run vals) (hg : w.grownBy w' vC.ownBlock) (ho : w'.ownsRow w0.heap.size 3 1 vC' t' (ints run')) (ht : run'.length = t') (hat : vC'.ownBlock = vC.ownBlock ∨ ∀ k, vC'.ownBlock = some k → w.heap.size ≤ k) :
    RsW w0 w' vS vU vC' n p t' A q c sl rest runs run' vals := by
  refine ⟨h.b.trans (below_of_grown hg h.b.size (fun k hk => (own_lt h.k k hk).1)), h.s.kept hg (own_ne_type h.s h.k (by decide)), h.sn, h.r.grown hg h.b.size (fun k hk => (own_lt h.k k hk).1), h.rq, h.qc, h.u.kept hg (own_ne_type h.u h.k (by decide)), h.i.kept hg h.ne, h.up, ho, ht, ?_⟩
  rcases hat with e | e
  · rw [e]; exact h.ne
  · exact h.i.fresh e
/-- the run is closed, a new one begins -/
theorem RsW.close (h : RsW w0 w vS vU vC n p t A q c sl rest runs run vals) (hg : w.grownBy w' vU.ownBlock) (ho : w'.ownsRow w0.heap.size 22 1 vU' (p + 1) (vals ++ [vC])) :
    RsW w0 (w'.alloc (.cells #[] 3)) vS vU' (.slice (some ⟨w'.heap.size, 0, none⟩) 0 0) n (p + 1) 0 A q c sl rest (runs ++ [run]) [] (vals ++ [vC]) := by
  have hb : Below w0.heap.size w0 w' := h.b.trans (below_of_grown hg h.b.size (fun k hk => (own_lt h.u k hk).1))
  have hk := h.kt
  subst hk
  have hi : Inner w' w0.heap.size 3 (vals ++ [vC]) (runs ++ [run]) := h.i.add h.u (by decide) h.k h.ne hg
  refine ⟨alloc_ hb _, World.ownsRow.alloc (h.s.kept hg (own_ne_type h.s h.u (by decide))) _, h.sn, (h.r.grown hg h.b.size (fun k hk => (own_lt h.u k hk).1)).alloc hb.size _, h.rq, h.qc, World.ownsRow.alloc ho _, hi.alloc _, by rw [List.length_append, h.up]; rfl, made_at hb.size rfl, rfl, ?_⟩
  exact hi.fresh fun k hk => by cases hk; exact Nat.le_refl _
/-- the run is closed at the end -/
theorem RsW.last (h : RsW w0 w vS vU vC n p t A q c sl rest runs run vals) (hg : w.grownBy w' vU.ownBlock) (ho : w'.ownsRow w0.heap.size 22 1 vU' (p + 1) (vals ++ [vC])) :
    Below w0.heap.size w0 w' ∧ OwnsRR w' w0.heap.size 22 3 vU' (runs ++ [run]) ∧ (runs ++ [run]).length = p + 1 := by
  have hb : Below w0.heap.size w0 w' := h.b.trans (below_of_grown hg h.b.size (fun k hk => (own_lt h.u k hk).1))
  have hk := h.kt
  subst hk
  have hi : Inner w' w0.heap.size 3 (vals ++ [vC]) (runs ++ [run]) := h.i.add h.u (by decide) h.k h.ne hg
  have hl : (runs ++ [run]).length = p + 1 := by rw [List.length_append, h.up]; rfl
  exact ⟨hb, ⟨_, by rw [hl]; exact ho, hi⟩, hl⟩
/-- the rest is cut by one -/
theorem RsW.cut {r : Int} {ad : Addr} (h : RsW w0 w vS vU vC n p t (some ad) q c sl (r :: rest) runs run vals) : RsW w0 w vS vU vC n p t (if c = 1 then some ad else some ⟨ad.block, ad.off + 1, none⟩) (q - 1) (c - 1) sl rest runs run vals := by
  have ea : (⟨ad.block, ad.off + 1, none⟩ : Addr) = ad.add 1 := by simp [Addr.add]
  rw [ea]
  have hq := h.rq
  simp only [List.length_cons] at hq
  have h1 := h.r.cut (k := 1) (by omega) h.qc
  refine ⟨h.b, h.s, h.sn, ?_, ?_, by have := h.qc; omega, h.u, h.i, h.up, h.k, h.kt, h.ne⟩
  · simpa [ints] using h1
  · omega
theorem RsW.first {r : Int} (h : RsW w0 w vS vU vC n p t A q c sl (r :: rest) runs run vals) : ∃ ad, A = some ad ∧ w.cell? ad = some (.int .i64 r) := by
  have hq := h.rq
  simp only [List.length_cons] at hq
  obtain ⟨ad, u, rfl, -, hu, hc⟩ := h.r.at_ (k := 0) (by omega)
  simp [ints] at hu
  subst hu
  refine ⟨ad, rfl, ?_⟩
  simpa [Addr.add] using hc
theorem RsW.le (h : RsW w0 w vS vU vC n p t A q c sl rest runs run vals) {zs : List Int} {m : Nat} (hI : RsI zs m sl rest runs run) : p + t + n + q ≤ zs.length := by
  have h1 := hI.perm.length_eq
  simp only [List.length_append, List.length_map, h.kt, h.sn, h.rq] at h1
  have h2 : runs.length ≤ runs.flatten.length := by
    have h3 := hI.runs_
    clear h1 h hI
    induction runs with
    | nil => simp
    | cons a l ih =>
      have := ih fun r hr => h3 r (List.mem_cons_of_mem _ hr)
      have := (h3 a List.mem_cons_self).2.2
      rw [List.flatten_cons, List.length_append, List.length_cons]
      omega
  rw [h.up] at h2
  omega
end
end Go.Proofs.Ytecbagdljgnloaa
