/- The state of replacement selection, the reference's side. -/
import Derived.Test.YtecbagdljgnloaaRsW
namespace Go.Proofs.Ytecbagdljgnloaa
open Go.RowKit
set_option linter.unusedVariables false
def kys (sl : List Slt) : List Int := sl.map (·.1)
def mks (sl : List Slt) : List Bool := sl.map (·.2)
def bls (l : List Bool) : List Value := l.map .bool
@[simp] theorem bls_length (l : List Bool) : (bls l).length = l.length := by simp [bls]
@[simp] theorem kys_length (sl : List Slt) : (kys sl).length = sl.length := by simp [kys]
@[simp] theorem mks_length (sl : List Slt) : (mks sl).length = sl.length := by simp [mks]
theorem kys_get {sl : List Slt} {k : Nat} (h : k < sl.length) : (ints (kys sl))[k]? = some (.int .i64 (ky sl k)) := by
  rw [(mkd_get h).2]; simp [ints, kys, h]
theorem mks_get {sl : List Slt} {k : Nat} (h : k < sl.length) : (bls (mks sl))[k]? = some (.bool (mkd sl k)) := by
  rw [(mkd_get h).1]; simp [bls, mks, h]
theorem kys_set {sl : List Slt} {k : Nat} (s : Slt) : (ints (kys sl)).set k (.int .i64 s.1) = ints (kys (sl.set k s)) := by simp [ints, kys, List.map_set]
theorem mks_set {sl : List Slt} {k : Nat} (s : Slt) : (bls (mks sl)).set k (.bool s.2) = bls (mks (sl.set k s)) := by simp [bls, mks, List.map_set]
theorem kys_same {sl : List Slt} {k : Nat} (b : Bool) : kys (sl.set k (ky sl k, b)) = kys sl := by
  unfold kys
  rw [List.map_set]
  rcases Nat.lt_or_ge k sl.length with h | h
  · rw [(mkd_get h).2]
    have : (sl.map (·.1))[k]? = some sl[k].1 := by simp [h]
    exact List.set_getElem_self_eq this
  · rw [List.set_eq_of_length_le (by simpa using h)]
theorem kys_erase (sl : List Slt) (k : Nat) : kys (sl.eraseIdx k) = (kys sl).take k ++ (kys sl).drop (k + 1) := by simp [kys, List.eraseIdx_eq_take_drop_succ]
theorem mks_erase (sl : List Slt) (k : Nat) : mks (sl.eraseIdx k) = (mks sl).take k ++ (mks sl).drop (k + 1) := by simp [mks, List.eraseIdx_eq_take_drop_succ]
theorem ints_one_ (zs : List Int) : ∀ u ∈ ints zs, u.oneCell' = true := by
  intro u hu
  obtain ⟨x, -, rfl⟩ := List.mem_map.1 hu
  rfl
theorem bls_one_ (zs : List Bool) : ∀ u ∈ bls zs, u.oneCell' = true := by
  intro u hu
  obtain ⟨x, -, rfl⟩ := List.mem_map.1 hu
  rfl
theorem add_at0 (g j : Nat) : (⟨g, 0, none⟩ : Addr).add j = ⟨g, j, none⟩ := by
  unfold Addr.add
  split
  · rename_i h; rw [h]
  · simp
structure RsV (w0 w : World) (vH vN vU vC : Value) (n p t : Nat) (A : Option Addr) (q : Nat) (zs : List Int) (sl : List Slt) (runs : List (List Int)) (run : List Int) (vals : List Value) : Prop where
  b : Below w0.heap.size w0 w
  h : w.ownsRow w0.heap.size 3 1 vH n (ints (kys sl))
  m : w.ownsRow w0.heap.size 4 1 vN n (bls (mks sl))
  sn : sl.length = n
  r : Reads w w0.heap.size 1 A q (ints zs)
  rq : zs.length = q
  u : w.ownsRow w0.heap.size 22 1 vU p vals
  i : Inner w w0.heap.size 3 vals runs
  up : runs.length = p
  k : w.ownsRow w0.heap.size 3 1 vC t (ints run)
  kt : run.length = t
  ne : ∀ x ∈ vals, x.ownBlock = none ∨ x.ownBlock ≠ vC.ownBlock
  nh : ∀ x ∈ vals, x.ownBlock = none ∨ x.ownBlock ≠ vH.ownBlock
  nk : vC.ownBlock = none ∨ vC.ownBlock ≠ vH.ownBlock
theorem ne_symm {a b : Option Nat} (h : a = none ∨ a ≠ b) : b = none ∨ b ≠ a := by
  rcases h with rfl | h
  · cases b with
    | none => exact .inl rfl
    | some k => exact .inr (by simp)
  · exact .inr fun e => h e.symm
section
variable {w0 w w' : World} {vH vN vU vC vH' vN' vU' vC' : Value} {n p t n' t' : Nat} {A : Option Addr} {q : Nat} {zs : List Int} {sl sl' : List Slt} {runs : List (List Int)} {run run' : List Int} {vals : List Value} {g c : Nat}
theorem RsV.below (h : RsV w0 w vH vN vU vC n p t A q zs sl runs run vals) (hb : Below w.heap.size w w') : RsV w0 w' vH vN vU vC n p t A q zs sl runs run vals :=
  ⟨bthen h.b hb, own_below h.h hb (Nat.le_refl _), own_below h.m hb (Nat.le_refl _), h.sn, h.r.below (hb.mono h.b.size), h.rq, own_below h.u hb (Nat.le_refl _), h.i.below hb (Nat.le_refl _), h.up, own_below h.k hb (Nat.le_refl _), h.kt, h.ne, h.nh, h.nk⟩
theorem RsV.alloc (h : RsV w0 w vH vN vU vC n p t A q zs sl runs run vals) (o : Obj) : RsV w0 (w.alloc o) vH vN vU vC n p t A q zs sl runs run vals := h.below (alloc_ (Below.refl _ _) o)
theorem RsV.drew (h : RsV w0 w vH vN vU vC n p t A q zs sl runs run vals) : RsV w0 w.drew vH vN vU vC n p t A q zs sl runs run vals := h.below (bdrew (Below.refl _ _))
theorem fresh_ne {x : Value} {B : Nat} (hx : ∀ k, x.ownBlock = some k → k < B) {y : Value} (hy : ∀ k, y.ownBlock = some k → B ≤ k) : x.ownBlock = none ∨ x.ownBlock ≠ y.ownBlock := by
  cases hk : x.ownBlock with
  | none => exact .inl rfl
  | some k =>
    refine .inr fun e => ?_
    have h1 := hx k hk
    have h2 := hy k e.symm
    omega
/-- a cell of the keys has turned -/
theorem RsV.setH (h : RsV w0 w (.slice (some ⟨g, 0, none⟩) n c) vN vU vC n p t A q zs sl runs run vals) {k : Nat} {s : Int} (hs : (ints (kys sl)).set k (.int .i64 s) = ints (kys sl')) (hm : mks sl' = mks sl) : RsV w0 (w.setCell ⟨g, k, none⟩ (.int .i64 s)) (.slice (some ⟨g, 0, none⟩) n c) vN vU vC n p t A q zs sl' runs run vals := by
  obtain ⟨h1, h2⟩ := h.h.stored k (.int .i64 s)
  rw [hs] at h1
  have hl : sl'.length = n := by have := congrArg List.length hm; simp at this; rw [this]; exact h.sn
  exact ⟨h.b.trans (below_of_grown h2 h.b.size (fun k hk => (own_lt h.h k hk).1)), h1, by rw [hm]; exact h.m.kept h2 (own_ne_type h.m h.h (by decide)), hl, h.r.grown h2 h.b.size (fun k hk => (own_lt h.h k hk).1), h.rq, h.u.kept h2 (own_ne_type h.u h.h (by decide)), h.i.kept h2 h.nh, h.up, h.k.kept h2 h.nk, h.kt, h.ne, h.nh, h.nk⟩
/-- a cell of the marks has turned -/
theorem RsV.setN (h : RsV w0 w vH (.slice (some ⟨g, 0, none⟩) n c) vU vC n p t A q zs sl runs run vals) {k : Nat} {s : Bool} (hs : (bls (mks sl)).set k (.bool s) = bls (mks sl')) (hm : kys sl' = kys sl) : RsV w0 (w.setCell ⟨g, k, none⟩ (.bool s)) vH (.slice (some ⟨g, 0, none⟩) n c) vU vC n p t A q zs sl' runs run vals := by
  obtain ⟨h1, h2⟩ := h.m.stored k (.bool s)
  rw [hs] at h1
  have hl : sl'.length = n := by have := congrArg List.length hm; simp at this; rw [this]; exact h.sn
  exact ⟨h.b.trans (below_of_grown h2 h.b.size (fun k hk => (own_lt h.m k hk).1)), by rw [hm]; exact h.h.kept h2 (own_ne_type h.h h.m (by decide)), h1, hl, h.r.grown h2 h.b.size (fun k hk => (own_lt h.m k hk).1), h.rq, h.u.kept h2 (own_ne_type h.u h.m (by decide)), h.i.kept h2 (inner_other h.i h.m (by decide)), h.up, h.k.kept h2 (own_ne_type h.k h.m (by decide)), h.kt, h.ne, h.nh, h.nk⟩
/-- both lists are new -/
theorem RsV.both (h : RsV w0 w vH vN vU vC n p t A q zs sl runs run vals) (hb : Below w.heap.size w w') (hH : w'.ownsRow w.heap.size 3 1 vH' n' (ints (kys sl'))) (hN : w'.ownsRow w.heap.size 4 1 vN' n' (bls (mks sl'))) (hn : sl'.length = n') :
    RsV w0 w' vH' vN' vU vC n' p t A q zs sl' runs run vals := by
  have h2 := h.below hb
  have hf : ∀ k, vH'.ownBlock = some k → w.heap.size ≤ k := fun k hk => (own_lt hH k hk).1
  exact ⟨h2.b, own_base hH h.b.size, own_base hN h.b.size, hn, h2.r, h2.rq, h2.u, h2.i, h2.up, h2.k, h2.kt, h2.ne, fun x hx => fresh_ne (fun k hk => (h.i.lt hx k hk).2) hf, fresh_ne (fun k hk => (own_lt h.k k hk).2) hf⟩
/-- the run has grown -/
theorem RsV.grow (h : RsV w0 w vH vN vU vC n p t A q zs sl runs run vals) (hg : w.grownBy w' vC.ownBlock) (ho : w'.ownsRow w0.heap.size 3 1 vC' t' (ints run')) (ht : run'.length = t') (hat : vC'.ownBlock = vC.ownBlock ∨ ∀ k, vC'.ownBlock = some k → w.heap.size ≤ k) :
    RsV w0 w' vH vN vU vC' n p t' A q zs sl runs run' vals := by
  refine ⟨h.b.trans (below_of_grown hg h.b.size (fun k hk => (own_lt h.k k hk).1)), h.h.kept hg (ne_symm h.nk), h.m.kept hg (own_ne_type h.m h.k (by decide)), h.sn, h.r.grown hg h.b.size (fun k hk => (own_lt h.k k hk).1), h.rq, h.u.kept hg (own_ne_type h.u h.k (by decide)), h.i.kept hg h.ne, h.up, ho, ht, ?_, h.nh, ?_⟩
  · rcases hat with e | e
    · rw [e]; exact h.ne
    · exact h.i.fresh e
  · rcases hat with e | e
    · rw [e]; exact h.nk
    · exact ne_symm (fresh_ne (fun k hk => (own_lt h.h k hk).2) e)
theorem RsV.close (h : RsV w0 w vH vN vU vC n p t A q zs sl runs run vals) (hg : w.grownBy w' vU.ownBlock) (ho : w'.ownsRow w0.heap.size 22 1 vU' (p + 1) (vals ++ [vC])) :
    RsV w0 (w'.alloc (.cells #[] 3)) vH vN vU' (.slice (some ⟨w'.heap.size, 0, none⟩) 0 0) n (p + 1) 0 A q zs sl (runs ++ [run]) [] (vals ++ [vC]) := by
  have hb : Below w0.heap.size w0 w' := h.b.trans (below_of_grown hg h.b.size (fun k hk => (own_lt h.u k hk).1))
  have hk := h.kt
  subst hk
  have hi : Inner w' w0.heap.size 3 (vals ++ [vC]) (runs ++ [run]) := h.i.add h.u (by decide) h.k h.ne hg
  have hh := h.h.kept hg (own_ne_type h.h h.u (by decide))
  refine ⟨alloc_ hb _, World.ownsRow.alloc hh _, World.ownsRow.alloc (h.m.kept hg (own_ne_type h.m h.u (by decide))) _, h.sn, (h.r.grown hg h.b.size (fun k hk => (own_lt h.u k hk).1)).alloc hb.size _, h.rq, World.ownsRow.alloc ho _, hi.alloc _, by rw [List.length_append, h.up]; rfl, made_at hb.size rfl, rfl, ?_, ?_, ?_⟩
  · exact hi.fresh fun k hk => by cases hk; exact Nat.le_refl _
  · intro x hx
    rcases List.mem_append.1 hx with hx | hx
    · exact h.nh x hx
    · rw [List.mem_singleton.1 hx]; exact h.nk
  · exact ne_symm (fresh_ne (fun k hk => (own_lt hh k hk).2) fun k hk => by cases hk; exact Nat.le_refl _)
theorem RsV.last (h : RsV w0 w vH vN vU vC n p t A q zs sl runs run vals) (hg : w.grownBy w' vU.ownBlock) (ho : w'.ownsRow w0.heap.size 22 1 vU' (p + 1) (vals ++ [vC])) :
    Below w0.heap.size w0 w' ∧ OwnsRR w' w0.heap.size 22 3 vU' (runs ++ [run]) := by
  have hb : Below w0.heap.size w0 w' := h.b.trans (below_of_grown hg h.b.size (fun k hk => (own_lt h.u k hk).1))
  have hk := h.kt
  subst hk
  have hi : Inner w' w0.heap.size 3 (vals ++ [vC]) (runs ++ [run]) := h.i.add h.u (by decide) h.k h.ne hg
  have hl : (runs ++ [run]).length = p + 1 := by rw [List.length_append, h.up]; rfl
  exact ⟨hb, _, by rw [hl]; exact ho, hi⟩
theorem RsV.cell_ {ad : Addr} {a : Nat} {r : Int} (h : RsV w0 w vH vN vU vC n p t (some ad) q zs sl runs run vals) (ha : a < zs.length) (hr : zs[a]? = some r) : w.cell? (ad.add a) = some (.int .i64 r) := by
  obtain ⟨ad', u, e, -, hu, hc⟩ := h.r.at_ (k := a) (by rw [← h.rq]; exact ha)
  cases e
  simp only [ints, List.getElem?_map, hr, Option.map_some] at hu
  cases hu
  exact hc
theorem RsV.le {a m : Nat} (h : RsV w0 w vH vN vU vC n p t A q zs sl runs run vals) (hI : RsI zs m sl (zs.drop a) runs run) (ha : a ≤ q) : p + t + n + (q - a) ≤ q := by
  have h1 := hI.perm.length_eq
  simp only [List.length_append, List.length_map, List.length_drop, h.kt, h.sn, h.rq] at h1
  have h2 : runs.length ≤ runs.flatten.length := by
    have h3 := hI.runs_
    clear h1 h hI
    induction runs with
    | nil => simp
    | cons a l ih =>
      have := ih fun r hr => h3 r (List.mem_cons_of_mem _ hr)
      have := (h3 a List.mem_cons_self).2.2
      rw [List.flatten_cons, List.length_append, List.length_cons]
      omega
  rw [h.up] at h2
  omega
end
end Go.Proofs.Ytecbagdljgnloaa
