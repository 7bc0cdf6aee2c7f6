/- Lists of lists of integers: owned, read, compared, marked, held. -/
import Derived.Test.YtecbagdljgnloaaHold
import Derived.Test.YtecbagdljgnloaaPush
namespace Go.Proofs.Ytecbagdljgnloaa
open Go.RowKit
set_option linter.unusedVariables false
/-- the rows behind the values vals: each the list at its place, each in a block of its own -/
structure Inner (w : World) (base : Nat) (t : TypeId) (vals : List Value) (zss : List (List Int)) : Prop where
  len : vals.length = zss.length
  own : ∀ (i : Nat) (u : Value) (zs : List Int), vals[i]? = some u → zss[i]? = some zs → w.ownsRow base t 1 u zs.length (ints zs)
  ne : ∀ (i j : Nat) (u u' : Value), i ≠ j → vals[i]? = some u → vals[j]? = some u' → u.ownBlock = none ∨ u.ownBlock ≠ u'.ownBlock
section
variable {w w' : World} {base B C : Nat} {t to : TypeId} {vals xs : List Value} {zss : List (List Int)} {v : Value}
theorem Inner.at_ (h : Inner w base t vals zss) {i : Nat} {u : Value} (hu : vals[i]? = some u) : ∃ zs, zss[i]? = some zs ∧ w.ownsRow base t 1 u zs.length (ints zs) := by
  have hi := (List.getElem?_eq_some_iff.1 hu).1
  have hz : i < zss.length := by rw [← h.len]; exact hi
  exact ⟨zss[i], List.getElem?_eq_getElem hz, h.own i u _ hu (List.getElem?_eq_getElem hz)⟩
theorem Inner.map (h : Inner w base t vals zss) (f : ∀ (u : Value) (zs : List Int), u ∈ vals → w.ownsRow base t 1 u zs.length (ints zs) → w'.ownsRow B t 1 u zs.length (ints zs)) : Inner w' B t vals zss :=
  ⟨h.len, fun i u zs hu hz => f u zs (List.mem_of_getElem? hu) (h.own i u zs hu hz), h.ne⟩
theorem Inner.below (h : Inner w base t vals zss) (hb : Below B w w') (hB : w.heap.size ≤ B) : Inner w' base t vals zss := h.map fun _ _ _ o => own_below o hb hB
theorem Inner.alloc (h : Inner w base t vals zss) (o : Obj) : Inner (w.alloc o) base t vals zss := h.map fun _ _ _ k => World.ownsRow.alloc k o
theorem Inner.drew (h : Inner w base t vals zss) : Inner w.drew base t vals zss := h.map fun _ _ _ k => own_drew_ k
theorem Inner.base' (h : Inner w base t vals zss) (hb : B ≤ base) : Inner w B t vals zss := h.map fun _ _ _ k => own_base k hb
theorem Inner.kept {row : Option Nat} (h : Inner w base t vals zss) (hg : w.grownBy w' row) (hne : ∀ u ∈ vals, u.ownBlock = none ∨ u.ownBlock ≠ row) : Inner w' base t vals zss := h.map fun u _ hu k => k.kept hg (hne u hu)
theorem Inner.lt (h : Inner w base t vals zss) {u : Value} (hu : u ∈ vals) : ∀ k, u.ownBlock = some k → base ≤ k ∧ k < w.heap.size := by
  obtain ⟨i, hi, rfl⟩ := List.mem_iff_getElem.1 hu
  obtain ⟨zs, _, ho⟩ := h.at_ (List.getElem?_eq_getElem hi)
  exact own_lt ho
theorem Inner.set {i : Nat} {u u' : Value} {zs' : List Int} (h : Inner w base t vals zss) (hu : vals[i]? = some u) (hg : w.grownBy w' u.ownBlock) (ho : w'.ownsRow base t 1 u' zs'.length (ints zs'))
    (hat : u'.ownBlock = u.ownBlock ∨ ∀ k, u'.ownBlock = some k → w.heap.size ≤ k) : Inner w' base t (vals.set i u') (zss.set i zs') := by
  have hi := (List.getElem?_eq_some_iff.1 hu).1
  have hz : i < zss.length := by rw [← h.len]; exact hi
  have hne1 : ∀ (j : Nat) (x : Value), i ≠ j → vals[j]? = some x → u'.ownBlock = none ∨ u'.ownBlock ≠ x.ownBlock := by
    intro j x hij hx
    rcases hat with e | e
    · rw [e]; exact h.ne i j u x hij hu hx
    · cases hk : u'.ownBlock with
      | none => exact .inl rfl
      | some k =>
        refine .inr fun e' => ?_
        have h1 := e k hk
        have h2 := (h.lt (List.mem_of_getElem? hx) k e'.symm).2
        omega
  refine ⟨by simp [h.len], fun j x zs hx hzs => ?_, fun a b x y hab hx hy => ?_⟩
  · rw [List.getElem?_set] at hx hzs
    by_cases hij : i = j
    · rw [if_pos hij, if_pos (by omega)] at hx hzs
      cases hx; cases hzs
      exact ho
    · rw [if_neg hij] at hx hzs
      exact (h.own j x zs hx hzs).kept hg (h.ne j i x u (fun e => hij e.symm) hx hu)
  · rw [List.getElem?_set] at hx hy
    by_cases ha : i = a
    · rw [if_pos ha, if_pos (by omega)] at hx
      rw [if_neg (by omega)] at hy
      cases hx
      exact hne1 b y (by omega) hy
    · rw [if_neg ha] at hx
      by_cases hb : i = b
      · rw [if_pos hb, if_pos (by omega)] at hy
        cases hy
        rcases hne1 a x ha hx with e | e
        · cases hk : x.ownBlock with
          | none => exact .inl rfl
          | some k => exact .inr (by rw [e]; simp)
        · exact .inr fun e' => e e'.symm
      · rw [if_neg hb] at hy
        exact h.ne a b x y hab hx hy
theorem Inner.push {u : Value} {zs : List Int} (h : Inner w base t vals zss) (ho : w.ownsRow base t 1 u zs.length (ints zs)) (hne : ∀ x ∈ vals, x.ownBlock = none ∨ x.ownBlock ≠ u.ownBlock) :
    Inner w base t (vals ++ [u]) (zss ++ [zs]) := by
  have hl := h.len
  refine ⟨by simp [hl], fun i x ys hx hy => ?_, fun i j x y hij hx hy => ?_⟩
  · rcases Nat.lt_or_ge i vals.length with hi | hi
    · rw [List.getElem?_append_left hi] at hx
      rw [List.getElem?_append_left (by omega)] at hy
      exact h.own i x ys hx hy
    · rw [List.getElem?_append_right hi] at hx
      rw [List.getElem?_append_right (by omega), ← hl] at hy
      cases hj : i - vals.length with
      | zero => rw [hj] at hx hy; simp at hx hy; subst hx hy; exact ho
      | succ n => rw [hj] at hx; simp at hx
  · have key : ∀ (k : Nat) (z : Value), (vals ++ [u])[k]? = some z → (k < vals.length ∧ vals[k]? = some z) ∨ (k = vals.length ∧ z = u) := by
      intro k z hz
      rcases Nat.lt_or_ge k vals.length with hi | hi
      · rw [List.getElem?_append_left hi] at hz; exact .inl ⟨hi, hz⟩
      · rw [List.getElem?_append_right hi] at hz
        cases hj : k - vals.length with
        | zero => rw [hj] at hz; simp at hz; exact .inr ⟨by omega, hz.symm⟩
        | succ n => rw [hj] at hz; simp at hz
    rcases key i x hx with ⟨_, h1⟩ | ⟨e1, rfl⟩ <;> rcases key j y hy with ⟨_, h2⟩ | ⟨e2, rfl⟩
    · exact h.ne i j x y hij h1 h2
    · exact hne x (List.mem_of_getElem? h1)
    · rcases hne y (List.mem_of_getElem? h2) with e | e
      · cases hk : x.ownBlock with
        | none => exact .inl rfl
        | some k => exact .inr (by rw [e]; simp)
      · exact .inr fun e' => e e'.symm
    · omega
theorem Inner.fresh {u : Value} (h : Inner w base t vals zss) (hu : ∀ k, u.ownBlock = some k → w.heap.size ≤ k) : ∀ x ∈ vals, x.ownBlock = none ∨ x.ownBlock ≠ u.ownBlock := by
  intro x hx
  cases hk : x.ownBlock with
  | none => exact .inl rfl
  | some q =>
    refine .inr fun e => ?_
    have h1 := (h.lt hx q hk).2
    have h2 := hu q e.symm
    omega
theorem Inner.other {n : Nat} (h : Inner w base t vals zss) (ho : w.ownsRow B to 1 v n xs) (hne : t ≠ to) : ∀ u ∈ vals, u.ownBlock = none ∨ u.ownBlock ≠ v.ownBlock := by
  intro u hu
  obtain ⟨i, hi, rfl⟩ := List.mem_iff_getElem.1 hu
  obtain ⟨ys, _, hy⟩ := h.at_ (List.getElem?_eq_getElem hi)
  exact own_ne_type hy ho hne
/-- a row of one's own is appended to the outer list -/
theorem Inner.add {n : Nat} {u : Value} {zs : List Int} (h : Inner w base t vals zss) (ho : w.ownsRow B to 1 v n xs) (hne : t ≠ to) (hrow : w.ownsRow base t 1 u zs.length (ints zs))
    (hx : ∀ x ∈ vals, x.ownBlock = none ∨ x.ownBlock ≠ u.ownBlock) (hg : w.grownBy w' v.ownBlock) : Inner w' base t (vals ++ [u]) (zss ++ [zs]) :=
  (h.kept hg (h.other ho hne)).push (hrow.kept hg (own_ne_type hrow ho hne)) hx
theorem Inner.nil : Inner w base t [] [] := ⟨rfl, by simp, by simp⟩
/-- a list of lists of one's own -/
def OwnsRR (w : World) (base : Nat) (to t : TypeId) (v : Value) (zss : List (List Int)) : Prop := ∃ vals, w.ownsRow base to 1 v zss.length vals ∧ Inner w base t vals zss
/-- a list of lists that reads -/
def ReadsRR (w : World) (B : Nat) (A : Option Addr) (zss : List (List Int)) : Prop :=
  ∃ vals, Reads w B 1 A zss.length vals ∧ ∀ (i : Nat) (u : Value) (zs : List Int), vals[i]? = some u → zss[i]? = some zs → ∃ A' c', u = .slice A' zs.length c' ∧ Reads w B 1 A' zs.length (ints zs)
theorem OwnsRR.below (h : OwnsRR w base to t v zss) (hb : Below B w w') (hB : w.heap.size ≤ B) : OwnsRR w' base to t v zss := by
  obtain ⟨vals, h1, h2⟩ := h
  exact ⟨vals, own_below h1 hb hB, h2.below hb hB⟩
theorem OwnsRR.base' (h : OwnsRR w base to t v zss) (hb : B ≤ base) : OwnsRR w B to t v zss := by
  obtain ⟨vals, h1, h2⟩ := h
  exact ⟨vals, own_base h1 hb, h2.base' hb⟩
theorem OwnsRR.slice (h : OwnsRR w base to t v zss) : ∃ A c, v = .slice A zss.length c := by
  obtain ⟨vals, h1, h2⟩ := h
  exact own_slice h1
theorem ReadsRR.of_own {A : Option Addr} {c : Nat} (h : OwnsRR w base to t (.slice A zss.length c) zss) : ReadsRR w w.heap.size A zss := by
  obtain ⟨vals, h1, h2⟩ := h
  refine ⟨vals, Reads.of_own h1, fun i u zs hu hz => ?_⟩
  have ho := h2.own i u zs hu hz
  obtain ⟨A', c', rfl⟩ := own_slice ho
  exact ⟨A', c', rfl, Reads.of_own ho⟩
theorem ReadsRR.below {A : Option Addr} (h : ReadsRR w B A zss) (hb : Below B w w') : ReadsRR w' B A zss := by
  obtain ⟨vals, h1, h2⟩ := h
  refine ⟨vals, h1.below hb, fun i u zs hu hz => ?_⟩
  obtain ⟨A', c', e, hr⟩ := h2 i u zs hu hz
  exact ⟨A', c', e, hr.below hb⟩
theorem ReadsRR.more {A : Option Addr} (h : ReadsRR w B A zss) (hB : B ≤ C) : ReadsRR w C A zss := by
  obtain ⟨vals, h1, h2⟩ := h
  refine ⟨vals, h1.more hB, fun i u zs hu hz => ?_⟩
  obtain ⟨A', c', e, hr⟩ := h2 i u zs hu hz
  exact ⟨A', c', e, hr.more hB⟩
theorem ReadsRR.drewN {A : Option Addr} (h : ReadsRR w B A zss) (n : Nat) : ReadsRR (w.drewN n) B A zss := h
theorem ReadsRR.at_ {A : Option Addr} (h : ReadsRR w B A zss) {k : Nat} (hk : k < zss.length) : ∃ ad A' c', A = some ad ∧ w.cell? (ad.add k) = some (.slice A' zss[k].length c') ∧ Reads w B 1 A' zss[k].length (ints zss[k]) := by
  obtain ⟨vals, h1, h2⟩ := h
  obtain ⟨ad, u, rfl, _, hu, hc⟩ := h1.at_ hk
  obtain ⟨A', c', rfl, hr⟩ := h2 k u zss[k] hu (List.getElem?_eq_getElem hk)
  exact ⟨ad, A', c', rfl, hc, hr⟩
/-- only the blocks from B to C have turned -/
structure Mid (B C : Nat) (w w' : World) : Prop where
  os : w'.os = w.os
  tape : w'.tape = w.tape
  output : w'.output = w.output
  size : w.heap.size ≤ w'.heap.size
  block : ∀ k, k < w.heap.size → (k < B ∨ C ≤ k) → w'.heap[k]? = w.heap[k]?
theorem Mid.refl : Mid B C w w := ⟨rfl, rfl, rfl, Nat.le_refl _, fun _ _ _ => rfl⟩
theorem Mid.grown {w2 : World} {row : Option Nat} (h : Mid B C w w') (hg : w'.grownBy w2 row) (hr : ∀ k, row = some k → B ≤ k ∧ k < C) : Mid B C w w2 :=
  ⟨hg.os.trans h.os, hg.tape.trans h.tape, hg.output.trans h.output, Nat.le_trans h.size hg.size, fun k hk hkb => (hg.block k (Nat.lt_of_lt_of_le hk h.size) (fun e => by have := hr k e.symm; omega)).trans (h.block k hk hkb)⟩
theorem Mid.below (h : Mid B C w w') (hB : B ≤ w.heap.size) : Below B w w' := ⟨h.os, h.tape, h.output, h.size, fun k hk => h.block k (by omega) (.inl hk)⟩
theorem Mid.own {e : TypeId} {size n : Nat} (h : w.ownsRow base e size v n xs) (hm : Mid B C w w') (hv : ∀ k, v.ownBlock = some k → k < B ∨ C ≤ k) : w'.ownsRow base e size v n xs := by
  refine ⟨h.1, ?_⟩
  rcases h.2 with h0 | ⟨g, cap, cur, rfl, hb, hg, r⟩
  · exact .inl h0
  · exact .inr ⟨g, cap, cur, rfl, hb, (hm.block g (Array.getElem?_eq_some_iff.1 hg).1 (hv g rfl)).trans hg, r⟩
theorem Mid.own_old {w1 : World} {base1 : Nat} {e : TypeId} {size n : Nat} {xs' : List Value} (h1 : w1.ownsRow base1 e size v n xs') (h : w.ownsRow base e size v n xs) (hm : Mid B C w w') (hb : w1.heap.size ≤ B) : w'.ownsRow base e size v n xs :=
  hm.own h fun k hk => .inl (Nat.lt_of_lt_of_le (own_lt h1 k hk).2 hb)
theorem Mid.own_new {e : TypeId} {size n : Nat} (h : w.ownsRow base e size v n xs) (hm : Mid B C w w') (hb : C ≤ base) : w'.ownsRow base e size v n xs :=
  hm.own h fun k hk => .inr (Nat.le_trans hb (own_lt h k hk).1)
theorem Mid.rr (h : OwnsRR w base to t v zss) (hm : Mid B C w w') (hv : ∀ k, base ≤ k → k < w.heap.size → k < B ∨ C ≤ k) : OwnsRR w' base to t v zss := by
  obtain ⟨vals, h1, h2⟩ := h
  exact ⟨vals, hm.own h1 fun k hk => hv k (own_lt h1 k hk).1 (own_lt h1 k hk).2, h2.map fun u zs _ ho => hm.own ho fun k hk => hv k (own_lt ho k hk).1 (own_lt ho k hk).2⟩
end
theorem rr_put {w w3 : World} {base : Nat} {to t : TypeId} {g n c k : Nat} {vals : List Value} {zss : List (List Int)} {u u' : Value} {zs' : List Int} (ho : w.ownsRow base to 1 (.slice (some ⟨g, 0, none⟩) n c) n vals) (hin : Inner w base t vals zss) (hne : t ≠ to)
    (hu : vals[k]? = some u) (hg : w.grownBy w3 u.ownBlock) (h3 : w3.ownsRow base t 1 u' zs'.length (ints zs')) (hat : u'.ownBlock = u.ownBlock ∨ ∀ j, u'.ownBlock = some j → w.heap.size ≤ j) :
    (w3.setCell ⟨g, k, none⟩ u').ownsRow base to 1 (.slice (some ⟨g, 0, none⟩) n c) n (vals.set k u') ∧ Inner (w3.setCell ⟨g, k, none⟩ u') base t (vals.set k u') (zss.set k zs') := by
  obtain ⟨zs, hz, hown⟩ := hin.at_ hu
  have ho3 := ho.kept hg (own_ne_type ho hown (fun e => hne e.symm))
  have hi3 := hin.set hu hg h3 hat
  have hs := ho3.stored k u'
  refine ⟨hs.1, hi3.kept hs.2 fun x hx => ?_⟩
  obtain ⟨i, hi, rfl⟩ := List.mem_iff_getElem.1 hx
  obtain ⟨ys, _, hy⟩ := hi3.at_ (List.getElem?_eq_getElem hi)
  exact own_ne_type hy ho3 hne
/-- the marks of a list of lists -/
def rmarks (k : Int) : List Nat → List (List Int)
  | [] => []
  | n :: r => imarks k n :: rmarks (k + n) r
theorem rmarks_len : ∀ (ls : List Nat) (k : Int), (rmarks k ls).length = ls.length
  | [], _ => rfl
  | n :: r, k => by simp [rmarks, rmarks_len r]
theorem rmarks_get : ∀ (ls : List Nat) (k : Int) (i : Nat) (hi : i < ls.length), (rmarks k ls)[i]'(by rw [rmarks_len]; exact hi) = imarks (k + ((ls.take i).sum : Nat)) ls[i]
  | [], _, i, hi => by simp at hi
  | n :: r, k, 0, _ => by simp [rmarks]
  | n :: r, k, i + 1, hi => by
    simp only [rmarks, List.getElem_cons_succ, List.take_succ_cons, List.sum_cons]
    rw [rmarks_get r (k + n) i (by simpa using hi)]
    congr 1
    omega
theorem sum_take_succ {ls : List Nat} {i : Nat} (hi : i < ls.length) : (ls.take (i + 1)).sum = (ls.take i).sum + ls[i] := by
  rw [List.take_succ_eq_append_getElem hi, List.sum_append]; simp
theorem sum_take_le : ∀ (ls : List Nat) (i : Nat), (ls.take i).sum ≤ ls.sum
  | [], i => by simp
  | n :: r, 0 => by simp
  | n :: r, i + 1 => by have := sum_take_le r i; simp; omega
theorem le_sum {ls : List Nat} {i : Nat} (hi : i < ls.length) : ls[i] ≤ ls.sum := by
  have h1 := sum_take_succ hi
  have h2 := sum_take_le ls (i + 1)
  omega
theorem List.set_getElem_self_eq {α : Type} {l : List α} {k : Nat} {x : α} (h : l[k]? = some x) : l.set k x = l := by
  obtain ⟨hk, rfl⟩ := List.getElem?_eq_some_iff.1 h
  simp
set_option maxRecDepth 100000 in
set_option maxHeartbeats 800000 in
theorem eqIntSS_any (A B : Option Addr) (xss yss : List (List Int)) (c d : Nat) (w : World) (hx : ReadsRR w w.heap.size A xss) (hy : ReadsRR w w.heap.size B yss)
    (hl : xss.length ≤ 1048576) (hl' : yss.length ≤ 1048576) (hs : (xss.map List.length).sum ≤ 1048576) (hs' : (yss.map List.length).sum ≤ 1048576) :
    Calls Try.prog 15 #[.slice A xss.length c, .slice B yss.length d] w fun e w' => e = .returned (.bool (decide (xss = yss))) ∧ ∃ n, w' = w.drewN n := by
  by_cases hne : xss.length = yss.length
  case neg =>
    have hd : ((xss.length : Int) == (yss.length : Int)) = false := by simp; omega
    have hd' : ((xss.length : Int) != (yss.length : Int)) = true := by simp; omega
    go_enter Try.func15, Try.ntmps15
    go_wp2_with fail
    go_ret
    exact ⟨retb (by symm; simp; intro h; exact hne (by rw [h])), 0, rfl⟩
  have hd : ((xss.length : Int) == (yss.length : Int)) = true := by simp; omega
  have hd' : ((xss.length : Int) != (yss.length : Int)) = false := by simp; omega
  have Hne := Lib.hid hne; clear hne
  go_enter Try.func15, Try.ntmps15
  go_wp2_with fail
  go_loopw [5] (fun i wr => ∃ k n : Nat, k ≤ xss.length ∧ i = .int .i64 k ∧ wr = w.drewN n ∧ xss.take k = yss.take k) (fun i _ => xss.length - (intOf i).toNat)
  case atStart => exact ⟨0, 0, by omega, rfl, rfl, by simp⟩
  case round =>
    obtain ⟨k, n, hk, rfl, rfl, heq⟩ := hrel
    have HE := Lib.hid heq; clear heq
    by_cases hlt : k < xss.length
    · have hlt' : k < yss.length := by have := Hne.out; omega
      obtain ⟨ad, A', c', rfl, hc, hr⟩ := hx.at_ hlt
      obtain ⟨bd, B', d', rfl, hc', hr'⟩ := hy.at_ hlt'
      have hb1 : xss[k].length ≤ 1048576 := by have := le_sum (ls := xss.map List.length) (i := k) (by simpa using hlt); simp at this; omega
      have hb2 : yss[k].length ≤ 1048576 := by have := le_sum (ls := yss.map List.length) (i := k) (by simpa using hlt'); simp at this; omega
      have HC := fun m => Lib.hid (eqIntS_any A' B' xss[k] yss[k] c' d' ((w.drewN n).drewN m) (by exact hr) (by exact hr') (by omega) (by omega))
      have HV : Hid ((decide (xss[k] = yss[k])) = true → xss.take (k + 1) = yss.take (k + 1)) := Lib.hid fun h => take_succ_eq HE.out hlt hlt' (by simpa using h)
      have HF : Hid ((decide (xss[k] = yss[k])) = false → decide (xss = yss) = false) := Lib.hid fun h => by simp at h ⊢; intro e; subst e; exact h rfl
      clear hr hr'
      have k1 : (w.drewN n).cell? (ad.add k) = some (.slice A' xss[k].length c') := hc
      have k2 : (w.drewN n).cell? (bd.add k) = some (.slice B' yss[k].length d') := hc'
      clear hc hc'
      generalize hwn : w.drewN n = wn at *
      have HWN := Lib.hid hwn; clear hwn
      cases hdec : decide (xss[k] = yss[k])
      · rw [hdec] at HC
        have HF2 := Lib.hid (HF.out hdec)
        clear hdec HF HV
        generalize xss[k].length = la at *
        generalize yss[k].length = lb at *
        go_wp2_with fail
        go_quiet (first | (go_at_call 10; refine Calls.quiet_of (HC _).out))
        go_wp2_with fail
        go_ret
        exact ⟨retb HF2.out.symm, _, by rw [← HWN.out, World.drewN_drewN]⟩
      · rw [hdec] at HC
        have HV2 := Lib.hid (HV.out hdec)
        clear hdec HF HV
        generalize xss[k].length = la at *
        generalize yss[k].length = lb at *
        go_wp2_with fail
        go_quiet (first | (go_at_call 10; refine Calls.quiet_of (HC _).out))
        go_wp2_with fail
        go_roundw
        case rel => exact ⟨k + 1, n + nq, by omega, by go_num, by rw [← HWN.out, World.drewN_drewN], HV2.out⟩
        case measure => simp [intOf]; omega
    · go_wp2_with fail
      go_ret
      refine ⟨retb (by symm; simp only [decide_eq_true_eq]; have h := HE.out; have hk' := Hne.out; rwa [List.take_of_length_le (by omega), List.take_of_length_le (by omega)] at h), n, rfl⟩
theorem eqIntSS_b (A B : Option Addr) (xss yss : List (List Int)) (c d : Nat) (w : World) (hx : ReadsRR w w.heap.size A xss) (hy : ReadsRR w w.heap.size B yss)
    (hl : xss.length ≤ 1048576) (hl' : yss.length ≤ 1048576) (hs : (xss.map List.length).sum ≤ 1048576) (hs' : (yss.map List.length).sum ≤ 1048576) :
    Calls Try.prog 15 #[.slice A xss.length c, .slice B yss.length d] w fun e w' => e = .returned (.bool (decide (xss = yss))) ∧ Below w.heap.size w w' :=
  (eqIntSS_any A B xss yss c d w hx hy hl hl' hs hs').mono fun e w' h => ⟨h.1, below_of_drewN h.2⟩
set_option maxRecDepth 100000 in
set_option maxHeartbeats 1600000 in
theorem markIntSS_v (B C : Nat) (A : Option Addr) (css : List (List Int)) (vals : List Value) (c : Nat) (k0 : Int) (w : World) (hl : css.length ≤ 1048576) (hs : (css.map List.length).sum ≤ 1048576) (h0 : 0 ≤ k0) (h1 : k0 ≤ 1099510579200)
    (hCv : ∀ u ∈ vals, ∀ k, u.ownBlock = some k → k < C) (hov : w.ownsRow B 22 1 (.slice A css.length c) css.length vals) (hin : Inner w B 3 vals css) :
    Calls Try.prog 16 #[.slice A css.length c, .int .i64 k0] w fun e w' => e = .returned (.int .i64 (k0 + ((css.map List.length).sum : Nat))) ∧
      w'.ownsRow B 22 1 (.slice A css.length c) (rmarks k0 (css.map List.length)).length vals ∧ Inner w' B 3 vals (rmarks k0 (css.map List.length)) ∧ Mid B C w w' := by
  have HCV := Lib.hid hCv; clear hCv
  have hml : (css.map List.length).length = css.length := by simp
  have HML := Lib.hid hml; clear hml
  generalize hls : css.map List.length = ls at *
  have HLS := Lib.hid hls; clear hls
  go_enter Try.func16, Try.ntmps16
  go_wp2_with fail
  go_loopw [1, 5] (fun kv i wr => ∃ (k : Nat) (xss : List (List Int)), k ≤ css.length ∧ i = .int .i64 k ∧ kv = .int .i64 (k0 + ((ls.take k).sum : Nat)) ∧ Hid (xss.length = css.length ∧ xss.take k = (rmarks k0 ls).take k ∧ xss.drop k = css.drop k) ∧
      wr.ownsRow B 22 1 (.slice A css.length c) css.length vals ∧ Inner wr B 3 vals xss ∧ Hid (Mid B C w wr)) (fun _ i _ => css.length - (intOf i).toNat)
  case atStart => exact ⟨0, css, by omega, rfl, by simp, Lib.hid ⟨rfl, by simp, rfl⟩, hov, hin, Lib.hid Mid.refl⟩
  case round =>
    clear hov hin
    obtain ⟨k, xss, hk, rfl, rfl, HX, hov, hin, HM⟩ := hrel
    by_cases hlt : k < css.length
    · obtain ⟨g, rfl, hBg, hgl⟩ := own_at hov (by omega)
      have hvl : vals.length = css.length := by rw [hin.len, HX.out.1]
      have hkv : k < vals.length := by omega
      have hkx : k < xss.length := by rw [HX.out.1]; exact hlt
      have c1 := hov.cellAt k (by omega)
      rw [List.getElem?_eq_getElem hkv] at c1
      have ho := hin.own k vals[k] xss[k] (List.getElem?_eq_getElem hkv) (List.getElem?_eq_getElem hkx)
      have hxk : xss[k] = css[k] := by
        have h := congrArg (fun l => l[0]?) HX.out.2.2
        simp only [List.getElem?_drop, Nat.add_zero] at h
        rw [List.getElem?_eq_getElem hkx, List.getElem?_eq_getElem hlt] at h
        exact Option.some.inj h
      have hkl : k < ls.length := by rw [HML.out]; exact hlt
      have hlk : css[k].length = ls[k] := by simp [← HLS.out]
      have hsle := le_sum hkl
      have hssl := sum_take_le ls k
      have hss := sum_take_succ hkl
      have hlb : css[k].length ≤ 1048576 := by omega
      rw [hxk] at ho
      have hu := List.getElem?_eq_getElem hkv
      have hun := HCV.out vals[k] (List.getElem_mem hkv)
      have hub := own_lt ho
      have hne : ∀ x, x ≠ vals[k] → True := fun _ _ => trivial
      generalize hvk : vals[k] = u at *
      obtain ⟨A', c', rfl⟩ := own_slice ho
      have HC := Lib.hid (markIntS_b B A' css[k] c' (k0 + ((ls.take k).sum : Nat)) wr hlb (by omega) (by omega) ho)
      have HK1 := Lib.hid hlk
      have HSS := Lib.hid hss
      have HKX := Lib.hid hkx
      have HU := Lib.hid hu
      have HUN := Lib.hid hun
      have HUB := Lib.hid hub
      have HOV := Lib.hid hov
      have HIN := Lib.hid hin
      have HGB := Lib.hid (own_lt hov)
      clear hun hub hu hov hin hne hss hlk hxk hvl hkv hkx hvk
      go_wp2_with fail
      refine HC.out.mono ?_
      rintro e w1 ⟨rfl, ho1, hg1⟩
      go_wp2_with fail
      go_roundw
      case rel =>
        have hml := imarks_length (k0 + ((ls.take k).sum : Nat)) css[k].length
        refine ⟨k + 1, xss.set k (imarks (k0 + ((ls.take k).sum : Nat)) css[k].length), by omega, by go_num, ?_, Lib.hid ⟨by simp [HX.out.1], ?_, ?_⟩, ?_, ?_, Lib.hid (HM.out.grown hg1 (fun j hj => ⟨(HUB.out j hj).1, HUN.out j hj⟩))⟩
        · rw [HSS.out, HK1.out]; congr 1; omega
        · have hr := rmarks_get ls k0 k hkl
          have e := set_take_succ (ys := xss) (zs := rmarks k0 ls) (k := k) (by rw [rmarks_len, HX.out.1, HML.out]) HX.out.2.1 (by rw [rmarks_len]; exact hkl)
          rw [hr] at e
          rw [HK1.out]
          exact e
        · rw [List.drop_set_of_lt (by omega)]
          have h := congrArg (List.drop 1) HX.out.2.2
          simpa [List.drop_drop] using h
        · exact HOV.out.kept hg1 (own_ne_type HOV.out ho (by decide))
        · have := HIN.out.set (w' := w1) HU.out hg1 (u' := .slice A' css[k].length c') (zs' := imarks (k0 + ((ls.take k).sum : Nat)) css[k].length) (by rw [hml]; exact ho1) (.inl rfl)
          rwa [List.set_getElem_self_eq HU.out] at this
      case measure => simp [intOf]; omega
    · have hke : k = css.length := by omega
      have e1 : xss = rmarks k0 ls := take_all_eq (by rw [rmarks_len, HX.out.1, HML.out]) (by rw [rmarks_len, HML.out]; omega) HX.out.2.1
      have e2 : (ls.take k).sum = ls.sum := by rw [List.take_of_length_le (by rw [HML.out]; omega)]
      have HE1 := Lib.hid e1
      have HE2 := Lib.hid e2
      clear e1 e2
      go_wp2_with fail
      go_ret
      refine ⟨by rw [HE2.out]; rfl, ?_, by rw [← HE1.out]; exact hin, HM.out⟩
      rw [rmarks_len, HML.out]; exact hov
set_option maxRecDepth 100000 in
set_option maxHeartbeats 800000 in
theorem heldIntSS_b (A : Option Addr) (ls : List Nat) (c : Nat) (k0 : Int) (w : World) (hl : ls.length ≤ 1048576) (hs : ls.sum ≤ 1048576) (h0 : 0 ≤ k0) (h1 : k0 ≤ 1099510579200)
    (hx : ReadsRR w w.heap.size A (rmarks k0 ls)) :
    Calls Try.prog 17 #[.slice A ls.length c, .int .i64 k0] w fun e w' => e = .returned (.int .i64 (k0 + (ls.sum : Nat))) ∧ Below w.heap.size w w' := by
  go_enter Try.func17, Try.ntmps17
  go_wp2_with fail
  go_loopw [1, 5] (fun kv i wr => ∃ (k : Nat), k ≤ ls.length ∧ i = .int .i64 k ∧ kv = .int .i64 (k0 + ((ls.take k).sum : Nat)) ∧ Below w.heap.size w wr) (fun _ i _ => ls.length - (intOf i).toNat)
  case atStart => exact ⟨0, by omega, rfl, by simp, Below.refl _ _⟩
  case round =>
    obtain ⟨k, hk, rfl, rfl, hb⟩ := hrel
    by_cases hlt : k < ls.length
    · have hml := rmarks_len ls k0
      obtain ⟨ad, A', c', rfl, c1, hr⟩ := (hx.below hb).at_ (k := k) (by rw [hml]; exact hlt)
      rw [rmarks_get ls k0 k hlt, imarks_length] at c1 hr
      have hssl := sum_take_le ls k
      have hsle := le_sum hlt
      have hss := sum_take_succ hlt
      have hsz := hb.size
      have HC := Lib.hid (heldIntS_b A' ls[k] c' (k0 + ((ls.take k).sum : Nat)) wr (by omega) (by omega) (by omega) (hr.more hsz))
      have HSS := Lib.hid hss
      have hb1 : ls[k] ≤ 1048576 := by omega
      clear hss hr hml
      generalize ls[k] = lk at *
      go_wp2_with fail
      refine HC.out.mono ?_
      rintro e w1 ⟨rfl, hb1⟩
      have hpos : ¬ (k0 + ((ls.take k).sum : Nat) + lk : Int) < 0 := by omega
      go_wp2_with fail
      go_roundw
      case rel => exact ⟨k + 1, by omega, by go_num, by rw [HSS.out]; congr 1; omega, bthen hb hb1⟩
      case measure => simp [intOf]; omega
    · have e2 : (ls.take k).sum = ls.sum := by rw [List.take_of_length_le (by omega)]
      have HE2 := Lib.hid e2
      clear e2
      go_wp2_with fail
      go_ret
      exact ⟨by rw [HE2.out]; rfl, hb⟩
end Go.Proofs.Ytecbagdljgnloaa
