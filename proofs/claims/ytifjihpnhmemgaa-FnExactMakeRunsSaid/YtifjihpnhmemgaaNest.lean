/- Lists of lists of integers: owned, read, compared, marked, held. -/
import Derived.Test.YtifjihpnhmemgaaHold
import Derived.Test.YtifjihpnhmemgaaPush
namespace Go.Proofs.Ytifjihpnhmemgaa
open Go.RowKit
set_option linter.unusedVariables false
/-- the rows behind the values vals: each the list at its place, each in a block of its own -/
structure Inner (w : World) (base : Nat) (t : TypeId) (vals : List Value) (zss : List (List Int)) : Prop where
  len : vals.length = zss.length
  own : ∀ (i : Nat) (u : Value) (zs : List Int), vals[i]? = some u → zss[i]? = some zs → w.ownsRow base t 1 u zs.length (ints zs)
  ne : ∀ (i j : Nat) (u u' : Value), i ≠ j → vals[i]? = some u → vals[j]? = some u' → u.ownBlock = none ∨ u.ownBlock ≠ u'.ownBlock
section
variable {w w' : World} {base B C : Nat} {t to : TypeId} {vals xs : List Value} {zss : List (List Int)} {v : Value}
theorem Inner.at_ (h : Inner w base t vals zss) {i : Nat} {u : Value} (hu : vals[i]? = some u) : ∃ zs, zss[i]? = some zs ∧ w.ownsRow base t 1 u zs.length (ints zs) := by
  have hi := (List.getElem?_eq_some_iff.1 hu).1
  have hz : i < zss.length := by rw [← h.len]; exact hi
  exact ⟨zss[i], List.getElem?_eq_getElem hz, h.own i u _ hu (List.getElem?_eq_getElem hz)⟩
theorem Inner.map (h : Inner w base t vals zss) (f : ∀ (u : Value) (zs : List Int), u ∈ vals → w.ownsRow base t 1 u zs.length (ints zs) → w'.ownsRow B t 1 u zs.length (ints zs)) : Inner w' B t vals zss :=
  ⟨h.len, fun i u zs hu hz => f u zs (List.mem_of_getElem? hu) (h.own i u zs hu hz), h.ne⟩
theorem Inner.below (h : Inner w base t vals zss) (hb : Below B w w') (hB : w.heap.size ≤ B) : Inner w' base t vals zss := h.map fun _ _ _ o => own_below o hb hB
theorem Inner.alloc (h : Inner w base t vals zss) (o : Obj) : Inner (w.alloc o) base t vals zss := h.map fun _ _ _ k => World.ownsRow.alloc k o
theorem Inner.drew (h : Inner w base t vals zss) : Inner w.drew base t vals zss := h.map fun _ _ _ k => own_drew_ k
theorem Inner.base' (h : Inner w base t vals zss) (hb : B ≤ base) : Inner w B t vals zss := h.map fun _ _ _ k => own_base k hb
theorem Inner.kept {row : Option Nat} (h : Inner w base t vals zss) (hg : w.grownBy w' row) (hne : ∀ u ∈ vals, u.ownBlock = none ∨ u.ownBlock ≠ row) : Inner w' base t vals zss := h.map fun u _ hu k => k.kept hg (hne u hu)
theorem Inner.lt (h : Inner w base t vals zss) {u : Value} (hu : u ∈ vals) : ∀ k, u.ownBlock = some k → base ≤ k ∧ k < w.heap.size := by
  obtain ⟨i, hi, rfl⟩ := List.mem_iff_getElem.1 hu
  obtain ⟨zs, _, ho⟩ := h.at_ (List.getElem?_eq_getElem hi)
  exact own_lt ho
theorem Inner.set {i : Nat} {u u' : Value} {zs' : List Int} (h : Inner w base t vals zss) (hu : vals[i]? = some u) (hg : w.grownBy w' u.ownBlock) (ho : w'.ownsRow base t 1 u' zs'.length (ints zs'))
    (hat : u'.ownBlock = u.ownBlock ∨ ∀ k, u'.ownBlock = some k → w.heap.size ≤ k) : Inner w' base t (vals.set i u') (zss.set i zs') := by
  have hi := (List.getElem?_eq_some_iff.1 hu).1
  have hz : i < zss.length := by rw [← h.len]; exact hi
  have hne1 : ∀ (j : Nat) (x : Value), i ≠ j → vals[j]? = some x → u'.ownBlock = none ∨ u'.ownBlock ≠ x.ownBlock := by
    intro j x hij hx
    rcases hat with e | e
    · rw [e]; exact h.ne i j u x hij hu hx
    · cases hk : u'.ownBlock with
      | none => exact .inl rfl
      | some k =>
        refine .inr fun e' => ?_
        have h1 := e k hk
        have h2 := (h.lt (List.mem_of_getElem? hx) k e'.symm).2
        omega
  refine ⟨by simp [h.len], fun j x zs hx hzs => ?_, fun a b x y hab hx hy => ?_⟩
  · rw [List.getElem?_set] at hx hzs
    by_cases hij : i = j
    · rw [if_pos hij, if_pos (by omega)] at hx hzs
      cases hx; cases hzs
      exact ho
    · rw [if_neg hij] at hx hzs
      exact (h.own j x zs hx hzs).kept hg (h.ne j i x u (fun e => hij e.symm) hx hu)
  · rw [List.getElem?_set] at hx hy
    by_cases ha : i = a
    · rw [if_pos ha, if_pos (by omega)] at hx
      rw [if_neg (by omega)] at hy
      cases hx
      exact hne1 b y (by omega) hy
    · rw [if_neg ha] at hx
      by_cases hb : i = b
      · rw [if_pos hb, if_pos (by omega)] at hy
        cases hy
        rcases hne1 a x ha hx with e | e
        · cases hk : x.ownBlock with
          | none => exact .inl rfl
          | some k => exact .inr (by rw [e]; simp)
        · exact .inr fun e' => e e'.symm
      · rw [if_neg hb] at hy
        exact h.ne a b x y hab hx hy
theorem Inner.push {u : Value} {zs : List Int} (h : Inner w base t vals zss) (ho : w.ownsRow base t 1 u zs.length (ints zs)) (hne : ∀ x ∈ vals, x.ownBlock = none ∨ x.ownBlock ≠ u.ownBlock) :
    Inner w base t (vals ++ [u]) (zss ++ [zs]) := by
  have hl := h.len
  refine ⟨by simp [hl], fun i x ys hx hy => ?_, fun i j x y hij hx hy => ?_⟩
  · rcases Nat.lt_or_ge i vals.length with hi | hi
    · rw [List.getElem?_append_left hi] at hx
      rw [List.getElem?_append_left (by omega)] at hy
      exact h.own i x ys hx hy
    · rw [List.getElem?_append_right hi] at hx
      rw [List.getElem?_append_right (by omega), ← hl] at hy
      cases hj : i - vals.length with
      | zero => rw [hj] at hx hy; simp at hx hy; subst hx hy; exact ho
      | succ n => rw [hj] at hx; simp at hx
  · have key : ∀ (k : Nat) (z : Value), (vals ++ [u])[k]? = some z → (k < vals.length ∧ vals[k]? = some z) ∨ (k = vals.length ∧ z = u) := by
      intro k z hz
      rcases Nat.lt_or_ge k vals.length with hi | hi
      · rw [List.getElem?_append_left hi] at hz; exact .inl ⟨hi, hz⟩
      · rw [List.getElem?_append_right hi] at hz
        cases hj : k - vals.length with
        | zero => rw [hj] at hz; simp at hz; exact .inr ⟨by omega, hz.symm⟩
        | succ n => rw [hj] at hz; simp at hz
    rcases key i x hx with ⟨_, h1⟩ | ⟨e1, rfl⟩ <;> rcases key j y hy with ⟨_, h2⟩ | ⟨e2, rfl⟩
    · exact h.ne i j x y hij h1 h2
    · exact hne x (List.mem_of_getElem? h1)
    · rcases hne y (List.mem_of_getElem? h2) with e | e
      · cases hk : x.ownBlock with
        | none => exact .inl rfl
        | some k => exact .inr (by rw [e]; simp)
      · exact .inr fun e' => e e'.symm
    · omega
theorem Inner.fresh {u : Value} (h : Inner w base t vals zss) (hu : ∀ k, u.ownBlock = some k → w.heap.size ≤ k) : ∀ x ∈ vals, x.ownBlock = none ∨ x.ownBlock ≠ u.ownBlock := by
  intro x hx
  cases hk : x.ownBlock with
  | none => exact .inl rfl
  | some q =>
    refine .inr fun e => ?_
    have h1 := (h.lt hx q hk).2
    have h2 := hu q e.symm
    omega
theorem Inner.other {n : Nat} (h : Inner w base t vals zss) (ho : w.ownsRow B to 1 v n xs) (hne : t ≠ to) : ∀ u ∈ vals, u.ownBlock = none ∨ u.ownBlock ≠ v.ownBlock := by
  intro u hu
  obtain ⟨i, hi, rfl⟩ := List.mem_iff_getElem.1 hu
  obtain ⟨ys, _, hy⟩ := h.at_ (List.getElem?_eq_getElem hi)
  exact own_ne_type hy ho hne
/-- a row of one's own is appended to the outer list -/
theorem Inner.add {n : Nat} {u : Value} {zs : List Int} (h : Inner w base t vals zss) (ho : w.ownsRow B to 1 v n xs) (hne : t ≠ to) (hrow : w.ownsRow base t 1 u zs.length (ints zs))
    (hx : ∀ x ∈ vals, x.ownBlock = none ∨ x.ownBlock ≠ u.ownBlock) (hg : w.grownBy w' v.ownBlock) : Inner w' base t (vals ++ [u]) (zss ++ [zs]) :=
  (h.kept hg (h.other ho hne)).push (hrow.kept hg (own_ne_type hrow ho hne)) hx
theorem Inner.nil : Inner w base t [] [] := ⟨rfl, by simp, by simp⟩
/-- a list of lists of one's own -/
def OwnsRR (w : World) (base : Nat) (to t : TypeId) (v : Value) (zss : List (List Int)) : Prop := ∃ vals, w.ownsRow base to 1 v zss.length vals ∧ Inner w base t vals zss
/-- a list of lists that reads -/
def ReadsRR (w : World) (B : Nat) (A : Option Addr) (zss : List (List Int)) : Prop :=
  ∃ vals, Reads w B 1 A zss.length vals ∧ ∀ (i : Nat) (u : Value) (zs : List Int), vals[i]? = some u → zss[i]? = some zs → ∃ A' c', u = .slice A' zs.length c' ∧ Reads w B 1 A' zs.length (ints zs)
theorem OwnsRR.below (h : OwnsRR w base to t v zss) (hb : Below B w w') (hB : w.heap.size ≤ B) : OwnsRR w' base to t v zss := by
  obtain ⟨vals, h1, h2⟩ := h
  exact ⟨vals, own_below h1 hb hB, h2.below hb hB⟩
theorem OwnsRR.base' (h : OwnsRR w base to t v zss) (hb : B ≤ base) : OwnsRR w B to t v zss := by
  obtain ⟨vals, h1, h2⟩ := h
  exact ⟨vals, own_base h1 hb, h2.base' hb⟩
theorem OwnsRR.slice (h : OwnsRR w base to t v zss) : ∃ A c, v = .slice A zss.length c := by
  obtain ⟨vals, h1, h2⟩ := h
  exact own_slice h1
theorem ReadsRR.of_own {A : Option Addr} {c : Nat} (h : OwnsRR w base to t (.slice A zss.length c) zss) : ReadsRR w w.heap.size A zss := by
  obtain ⟨vals, h1, h2⟩ := h
  refine ⟨vals, Reads.of_own h1, fun i u zs hu hz => ?_⟩
  have ho := h2.own i u zs hu hz
  obtain ⟨A', c', rfl⟩ := own_slice ho
  exact ⟨A', c', rfl, Reads.of_own ho⟩
theorem ReadsRR.below {A : Option Addr} (h : ReadsRR w B A zss) (hb : Below B w w') : ReadsRR w' B A zss := by
  obtain ⟨vals, h1, h2⟩ := h
  refine ⟨vals, h1.below hb, fun i u zs hu hz => ?_⟩
  obtain ⟨A', c', e, hr⟩ := h2 i u zs hu hz
  exact ⟨A', c', e, hr.below hb⟩
theorem ReadsRR.more {A : Option Addr} (h : ReadsRR w B A zss) (hB : B ≤ C) : ReadsRR w C A zss := by
  obtain ⟨vals, h1, h2⟩ := h
  refine ⟨vals, h1.more hB, fun i u zs hu hz => ?_⟩
  obtain ⟨A', c', e, hr⟩ := h2 i u zs hu hz
  exact ⟨A', c', e, hr.more hB⟩
theorem ReadsRR.drewN {A : Option Addr} (h : ReadsRR w B A zss) (n : Nat) : ReadsRR (w.drewN n) B A zss := h
theorem ReadsRR.at_ {A : Option Addr} (h : ReadsRR w B A zss) {k : Nat} (hk : k < zss.length) : ∃ ad A' c', A = some ad ∧ w.cell? (ad.add k) = some (.slice A' zss[k].length c') ∧ Reads w B 1 A' zss[k].length (ints zss[k]) := by
  obtain ⟨vals, h1, h2⟩ := h
  obtain ⟨ad, u, rfl, _, hu, hc⟩ := h1.at_ hk
  obtain ⟨A', c', rfl, hr⟩ := h2 k u zss[k] hu (List.getElem?_eq_getElem hk)
  exact ⟨ad, A', c', rfl, hc, hr⟩
/-- only the blocks from B to C have turned -/
structure Mid (B C : Nat) (w w' : World) : Prop where
  os : w'.os = w.os
  tape : w'.tape = w.tape
  output : w'.output = w.output
  size : w.heap.size ≤ w'.heap.size
  block : ∀ k, k < w.heap.size → (k < B ∨ C ≤ k) → w'.heap[k]? = w.heap[k]?
theorem Mid.refl : Mid B C w w := ⟨rfl, rfl, rfl, Nat.le_refl _, fun _ _ _ => rfl⟩
theorem Mid.grown {w2 : World} {row : Option Nat} (h : Mid B C w w') (hg : w'.grownBy w2 row) (hr : ∀ k, row = some k → B ≤ k ∧ k < C) : Mid B C w w2 :=
  ⟨hg.os.trans h.os, hg.tape.trans h.tape, hg.output.trans h.output, Nat.le_trans h.size hg.size, fun k hk hkb => (hg.block k (Nat.lt_of_lt_of_le hk h.size) (fun e => by have := hr k e.symm; omega)).trans (h.block k hk hkb)⟩
theorem Mid.below (h : Mid B C w w') (hB : B ≤ w.heap.size) : Below B w w' := ⟨h.os, h.tape, h.output, h.size, fun k hk => h.block k (by omega) (.inl hk)⟩
theorem Mid.own {e : TypeId} {size n : Nat} (h : w.ownsRow base e size v n xs) (hm : Mid B C w w') (hv : ∀ k, v.ownBlock = some k → k < B ∨ C ≤ k) : w'.ownsRow base e size v n xs := by
  refine ⟨h.1, ?_⟩
  rcases h.2 with h0 | ⟨g, cap, cur, rfl, hb, hg, r⟩
  · exact .inl h0
  · exact .inr ⟨g, cap, cur, rfl, hb, (hm.block g (Array.getElem?_eq_some_iff.1 hg).1 (hv g rfl)).trans hg, r⟩
theorem Mid.own_old {w1 : World} {base1 : Nat} {e : TypeId} {size n : Nat} {xs' : List Value} (h1 : w1.ownsRow base1 e size v n xs') (h : w.ownsRow base e size v n xs) (hm : Mid B C w w') (hb : w1.heap.size ≤ B) : w'.ownsRow base e size v n xs :=
  hm.own h fun k hk => .inl (Nat.lt_of_lt_of_le (own_lt h1 k hk).2 hb)
theorem Mid.own_new {e : TypeId} {size n : Nat} (h : w.ownsRow base e size v n xs) (hm : Mid B C w w') (hb : C ≤ base) : w'.ownsRow base e size v n xs :=
  hm.own h fun k hk => .inr (Nat.le_trans hb (own_lt h k hk).1)
theorem Mid.rr (h : OwnsRR w base to t v zss) (hm : Mid B C w w') (hv : ∀ k, base ≤ k → k < w.heap.size → k < B ∨ C ≤ k) : OwnsRR w' base to t v zss := by
  obtain ⟨vals, h1, h2⟩ := h
  exact ⟨vals, hm.own h1 fun k hk => hv k (own_lt h1 k hk).1 (own_lt h1 k hk).2, h2.map fun u zs _ ho => hm.own ho fun k hk => hv k (own_lt ho k hk).1 (own_lt ho k hk).2⟩
end
theorem rr_put {w w3 : World} {base : Nat} {to t : TypeId} {g n c k : Nat} {vals : List Value} {zss : List (List Int)} {u u' : Value} {zs' : List Int} (ho : w.ownsRow base to 1 (.slice (some ⟨g, 0, none⟩) n c) n vals) (hin : Inner w base t vals zss) (hne : t ≠ to)
    (hu : vals[k]? = some u) (hg : w.grownBy w3 u.ownBlock) (h3 : w3.ownsRow base t 1 u' zs'.length (ints zs')) (hat : u'.ownBlock = u.ownBlock ∨ ∀ j, u'.ownBlock = some j → w.heap.size ≤ j) :
    (w3.setCell ⟨g, k, none⟩ u').ownsRow base to 1 (.slice (some ⟨g, 0, none⟩) n c) n (vals.set k u') ∧ Inner (w3.setCell ⟨g, k, none⟩ u') base t (vals.set k u') (zss.set k zs') := by
  obtain ⟨zs, hz, hown⟩ := hin.at_ hu
  have ho3 := ho.kept hg (own_ne_type ho hown (fun e => hne e.symm))
  have hi3 := hin.set hu hg h3 hat
  have hs := ho3.stored k u'
  refine ⟨hs.1, hi3.kept hs.2 fun x hx => ?_⟩
  obtain ⟨i, hi, rfl⟩ := List.mem_iff_getElem.1 hx
  obtain ⟨ys, _, hy⟩ := hi3.at_ (List.getElem?_eq_getElem hi)
  exact own_ne_type hy ho3 hne
/-- the marks of a list of lists -/
def rmarks (k : Int) : List Nat → List (List Int)
  | [] => []
  | n :: r => imarks k n :: rmarks (k + n) r
theorem rmarks_len : ∀ (ls : List Nat) (k : Int), (rmarks k ls).length = ls.length
  | [], _ => rfl
  | n :: r, k => by simp [rmarks, rmarks_len r]
theorem rmarks_get : ∀ (ls : List Nat) (k : Int) (i : Nat) (hi : i < ls.length), (rmarks k ls)[i]'(by rw [rmarks_len]; exact hi) = imarks (k + ((ls.take i).sum : Nat)) ls[i]
  | [], _, i, hi => by simp at hi
  | n :: r, k, 0, _ => by simp [rmarks]
  | n :: r, k, i + 1, hi => by
    simp only [rmarks, List.getElem_cons_succ, List.take_succ_cons, List.sum_cons]
    rw [rmarks_get r (k + n) i (by simpa using hi)]
    congr 1
    omega
theorem sum_take_succ {ls : List Nat} {i : Nat} (hi : i < ls.length) : (ls.take (i + 1)).sum = (ls.take i).sum + ls[i] := by
  rw [List.take_succ_eq_append_getElem hi, List.sum_append]; simp
theorem sum_take_le : ∀ (ls : List Nat) (i : Nat), (ls.take i).sum ≤ ls.sum
  | [], i => by simp
  | n :: r, 0 => by simp
  | n :: r, i + 1 => by have := sum_take_le r i; simp; omega
theorem le_sum {ls : List Nat} {i : Nat} (hi : i < ls.length) : ls[i] ≤ ls.sum := by
  have h1 := sum_take_succ hi
  have h2 := sum_take_le ls (i + 1)
  omega
theorem List.set_getElem_self_eq {α : Type} {l : List α} {k : Nat} {x : α} (h : l[k]? = some x) : l.set k x = l := by
  obtain ⟨hk, rfl⟩ := List.getElem?_eq_some_iff.1 h
  simp
end Go.Proofs.Ytifjihpnhmemgaa
