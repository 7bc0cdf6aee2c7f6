/- Lists of lists of pairs: owned, read, compared, marked, held (turned by gen_nestq.py). -/
import Derived.Test.YtifjihpnhmemgaaNest
import Derived.Test.YtifjihpnhmemgaaRec
import Derived.Test.YtifjihpnhmemgaaPush
import Derived.Deep.RegionHeld3
namespace Go.Proofs.Ytifjihpnhmemgaa
open Go.RowKit
set_option linter.unusedVariables false
/-- the rows behind the values vals: each the list at its place, each in a block of its own -/
structure InnerQ (w : World) (base : Nat) (t : TypeId) (vals : List Value) (zss : List (List (Int × Int))) : Prop where
  len : vals.length = zss.length
  own : ∀ (i : Nat) (u : Value) (zs : List (Int × Int)), vals[i]? = some u → zss[i]? = some zs → w.ownsRow base t 2 u zs.length (cmps zs)
  ne : ∀ (i j : Nat) (u u' : Value), i ≠ j → vals[i]? = some u → vals[j]? = some u' → u.ownBlock = none ∨ u.ownBlock ≠ u'.ownBlock
section
variable {w w' : World} {base B C : Nat} {t to : TypeId} {vals xs : List Value} {zss : List (List (Int × Int))} {v : Value}
theorem InnerQ.at_ (h : InnerQ w base t vals zss) {i : Nat} {u : Value} (hu : vals[i]? = some u) : ∃ zs, zss[i]? = some zs ∧ w.ownsRow base t 2 u zs.length (cmps zs) := by
  have hi := (List.getElem?_eq_some_iff.1 hu).1
  have hz : i < zss.length := by rw [← h.len]; exact hi
  exact ⟨zss[i], List.getElem?_eq_getElem hz, h.own i u _ hu (List.getElem?_eq_getElem hz)⟩
theorem InnerQ.map (h : InnerQ w base t vals zss) (f : ∀ (u : Value) (zs : List (Int × Int)), u ∈ vals → w.ownsRow base t 2 u zs.length (cmps zs) → w'.ownsRow B t 2 u zs.length (cmps zs)) : InnerQ w' B t vals zss :=
  ⟨h.len, fun i u zs hu hz => f u zs (List.mem_of_getElem? hu) (h.own i u zs hu hz), h.ne⟩
theorem InnerQ.below (h : InnerQ w base t vals zss) (hb : Below B w w') (hB : w.heap.size ≤ B) : InnerQ w' base t vals zss := h.map fun _ _ _ o => own_below o hb hB
theorem InnerQ.alloc (h : InnerQ w base t vals zss) (o : Obj) : InnerQ (w.alloc o) base t vals zss := h.map fun _ _ _ k => World.ownsRow.alloc k o
theorem InnerQ.drew (h : InnerQ w base t vals zss) : InnerQ w.drew base t vals zss := h.map fun _ _ _ k => own_drew_ k
theorem InnerQ.base' (h : InnerQ w base t vals zss) (hb : B ≤ base) : InnerQ w B t vals zss := h.map fun _ _ _ k => own_base k hb
theorem InnerQ.kept {row : Option Nat} (h : InnerQ w base t vals zss) (hg : w.grownBy w' row) (hne : ∀ u ∈ vals, u.ownBlock = none ∨ u.ownBlock ≠ row) : InnerQ w' base t vals zss := h.map fun u _ hu k => k.kept hg (hne u hu)
theorem InnerQ.lt (h : InnerQ w base t vals zss) {u : Value} (hu : u ∈ vals) : ∀ k, u.ownBlock = some k → base ≤ k ∧ k < w.heap.size := by
  obtain ⟨i, hi, rfl⟩ := List.mem_iff_getElem.1 hu
  obtain ⟨zs, _, ho⟩ := h.at_ (List.getElem?_eq_getElem hi)
  exact own_lt ho
theorem InnerQ.set {i : Nat} {u u' : Value} {zs' : List (Int × Int)} (h : InnerQ w base t vals zss) (hu : vals[i]? = some u) (hg : w.grownBy w' u.ownBlock) (ho : w'.ownsRow base t 2 u' zs'.length (cmps zs'))
    (hat : u'.ownBlock = u.ownBlock ∨ ∀ k, u'.ownBlock = some k → w.heap.size ≤ k) : InnerQ w' base t (vals.set i u') (zss.set i zs') := by
  have hi := (List.getElem?_eq_some_iff.1 hu).1
  have hz : i < zss.length := by rw [← h.len]; exact hi
  have hne1 : ∀ (j : Nat) (x : Value), i ≠ j → vals[j]? = some x → u'.ownBlock = none ∨ u'.ownBlock ≠ x.ownBlock := by
    intro j x hij hx
    rcases hat with e | e
    · rw [e]; exact h.ne i j u x hij hu hx
    · cases hk : u'.ownBlock with
      | none => exact .inl rfl
      | some k =>
        refine .inr fun e' => ?_
        have h1 := e k hk
        have h2 := (h.lt (List.mem_of_getElem? hx) k e'.symm).2
        omega
  refine ⟨by simp [h.len], fun j x zs hx hzs => ?_, fun a b x y hab hx hy => ?_⟩
  · rw [List.getElem?_set] at hx hzs
    by_cases hij : i = j
    · rw [if_pos hij, if_pos (by omega)] at hx hzs
      cases hx; cases hzs
      exact ho
    · rw [if_neg hij] at hx hzs
      exact (h.own j x zs hx hzs).kept hg (h.ne j i x u (fun e => hij e.symm) hx hu)
  · rw [List.getElem?_set] at hx hy
    by_cases ha : i = a
    · rw [if_pos ha, if_pos (by omega)] at hx
      rw [if_neg (by omega)] at hy
      cases hx
      exact hne1 b y (by omega) hy
    · rw [if_neg ha] at hx
      by_cases hb : i = b
      · rw [if_pos hb, if_pos (by omega)] at hy
        cases hy
        rcases hne1 a x ha hx with e | e
        · cases hk : x.ownBlock with
          | none => exact .inl rfl
          | some k => exact .inr (by rw [e]; simp)
        · exact .inr fun e' => e e'.symm
      · rw [if_neg hb] at hy
        exact h.ne a b x y hab hx hy
theorem InnerQ.push {u : Value} {zs : List (Int × Int)} (h : InnerQ w base t vals zss) (ho : w.ownsRow base t 2 u zs.length (cmps zs)) (hne : ∀ x ∈ vals, x.ownBlock = none ∨ x.ownBlock ≠ u.ownBlock) :
    InnerQ w base t (vals ++ [u]) (zss ++ [zs]) := by
  have hl := h.len
  refine ⟨by simp [hl], fun i x ys hx hy => ?_, fun i j x y hij hx hy => ?_⟩
  · rcases Nat.lt_or_ge i vals.length with hi | hi
    · rw [List.getElem?_append_left hi] at hx
      rw [List.getElem?_append_left (by omega)] at hy
      exact h.own i x ys hx hy
    · rw [List.getElem?_append_right hi] at hx
      rw [List.getElem?_append_right (by omega), ← hl] at hy
      cases hj : i - vals.length with
      | zero => rw [hj] at hx hy; simp at hx hy; subst hx hy; exact ho
      | succ n => rw [hj] at hx; simp at hx
  · have key : ∀ (k : Nat) (z : Value), (vals ++ [u])[k]? = some z → (k < vals.length ∧ vals[k]? = some z) ∨ (k = vals.length ∧ z = u) := by
      intro k z hz
      rcases Nat.lt_or_ge k vals.length with hi | hi
      · rw [List.getElem?_append_left hi] at hz; exact .inl ⟨hi, hz⟩
      · rw [List.getElem?_append_right hi] at hz
        cases hj : k - vals.length with
        | zero => rw [hj] at hz; simp at hz; exact .inr ⟨by omega, hz.symm⟩
        | succ n => rw [hj] at hz; simp at hz
    rcases key i x hx with ⟨_, h1⟩ | ⟨e1, rfl⟩ <;> rcases key j y hy with ⟨_, h2⟩ | ⟨e2, rfl⟩
    · exact h.ne i j x y hij h1 h2
    · exact hne x (List.mem_of_getElem? h1)
    · rcases hne y (List.mem_of_getElem? h2) with e | e
      · cases hk : x.ownBlock with
        | none => exact .inl rfl
        | some k => exact .inr (by rw [e]; simp)
      · exact .inr fun e' => e e'.symm
    · omega
theorem InnerQ.fresh {u : Value} (h : InnerQ w base t vals zss) (hu : ∀ k, u.ownBlock = some k → w.heap.size ≤ k) : ∀ x ∈ vals, x.ownBlock = none ∨ x.ownBlock ≠ u.ownBlock := by
  intro x hx
  cases hk : x.ownBlock with
  | none => exact .inl rfl
  | some q =>
    refine .inr fun e => ?_
    have h1 := (h.lt hx q hk).2
    have h2 := hu q e.symm
    omega
theorem InnerQ.other {n : Nat} (h : InnerQ w base t vals zss) (ho : w.ownsRow B to 1 v n xs) (hne : t ≠ to) : ∀ u ∈ vals, u.ownBlock = none ∨ u.ownBlock ≠ v.ownBlock := by
  intro u hu
  obtain ⟨i, hi, rfl⟩ := List.mem_iff_getElem.1 hu
  obtain ⟨ys, _, hy⟩ := h.at_ (List.getElem?_eq_getElem hi)
  exact own_ne_type hy ho hne
/-- a row of one's own is appended to the outer list -/
theorem InnerQ.add {n : Nat} {u : Value} {zs : List (Int × Int)} (h : InnerQ w base t vals zss) (ho : w.ownsRow B to 1 v n xs) (hne : t ≠ to) (hrow : w.ownsRow base t 2 u zs.length (cmps zs))
    (hx : ∀ x ∈ vals, x.ownBlock = none ∨ x.ownBlock ≠ u.ownBlock) (hg : w.grownBy w' v.ownBlock) : InnerQ w' base t (vals ++ [u]) (zss ++ [zs]) :=
  (h.kept hg (h.other ho hne)).push (hrow.kept hg (own_ne_type hrow ho hne)) hx
theorem InnerQ.nil : InnerQ w base t [] [] := ⟨rfl, by simp, by simp⟩
/-- a list of lists of one's own -/
def OwnsQQ (w : World) (base : Nat) (to t : TypeId) (v : Value) (zss : List (List (Int × Int))) : Prop := ∃ vals, w.ownsRow base to 1 v zss.length vals ∧ InnerQ w base t vals zss
/-- a list of lists that reads -/
def ReadsQQ (w : World) (B : Nat) (A : Option Addr) (zss : List (List (Int × Int))) : Prop :=
  ∃ vals, Reads w B 1 A zss.length vals ∧ ∀ (i : Nat) (u : Value) (zs : List (Int × Int)), vals[i]? = some u → zss[i]? = some zs → ∃ A' c', u = .slice A' zs.length c' ∧ Reads w B 2 A' zs.length (cmps zs)
theorem OwnsQQ.below (h : OwnsQQ w base to t v zss) (hb : Below B w w') (hB : w.heap.size ≤ B) : OwnsQQ w' base to t v zss := by
  obtain ⟨vals, h1, h2⟩ := h
  exact ⟨vals, own_below h1 hb hB, h2.below hb hB⟩
theorem OwnsQQ.base' (h : OwnsQQ w base to t v zss) (hb : B ≤ base) : OwnsQQ w B to t v zss := by
  obtain ⟨vals, h1, h2⟩ := h
  exact ⟨vals, own_base h1 hb, h2.base' hb⟩
theorem OwnsQQ.slice (h : OwnsQQ w base to t v zss) : ∃ A c, v = .slice A zss.length c := by
  obtain ⟨vals, h1, h2⟩ := h
  exact own_slice h1
theorem ReadsQQ.of_own {A : Option Addr} {c : Nat} (h : OwnsQQ w base to t (.slice A zss.length c) zss) : ReadsQQ w w.heap.size A zss := by
  obtain ⟨vals, h1, h2⟩ := h
  refine ⟨vals, Reads.of_own h1, fun i u zs hu hz => ?_⟩
  have ho := h2.own i u zs hu hz
  obtain ⟨A', c', rfl⟩ := own_slice ho
  exact ⟨A', c', rfl, Reads.of_own ho⟩
theorem ReadsQQ.below {A : Option Addr} (h : ReadsQQ w B A zss) (hb : Below B w w') : ReadsQQ w' B A zss := by
  obtain ⟨vals, h1, h2⟩ := h
  refine ⟨vals, h1.below hb, fun i u zs hu hz => ?_⟩
  obtain ⟨A', c', e, hr⟩ := h2 i u zs hu hz
  exact ⟨A', c', e, hr.below hb⟩
theorem ReadsQQ.more {A : Option Addr} (h : ReadsQQ w B A zss) (hB : B ≤ C) : ReadsQQ w C A zss := by
  obtain ⟨vals, h1, h2⟩ := h
  refine ⟨vals, h1.more hB, fun i u zs hu hz => ?_⟩
  obtain ⟨A', c', e, hr⟩ := h2 i u zs hu hz
  exact ⟨A', c', e, hr.more hB⟩
theorem ReadsQQ.drewN {A : Option Addr} (h : ReadsQQ w B A zss) (n : Nat) : ReadsQQ (w.drewN n) B A zss := h
theorem ReadsQQ.at_ {A : Option Addr} (h : ReadsQQ w B A zss) {k : Nat} (hk : k < zss.length) : ∃ ad A' c', A = some ad ∧ w.cell? (ad.add k) = some (.slice A' zss[k].length c') ∧ Reads w B 2 A' zss[k].length (cmps zss[k]) := by
  obtain ⟨vals, h1, h2⟩ := h
  obtain ⟨ad, u, rfl, _, hu, hc⟩ := h1.at_ hk
  obtain ⟨A', c', rfl, hr⟩ := h2 k u zss[k] hu (List.getElem?_eq_getElem hk)
  exact ⟨ad, A', c', rfl, hc, hr⟩
theorem Mid.qq (h : OwnsQQ w base to t v zss) (hm : Mid B C w w') (hv : ∀ k, base ≤ k → k < w.heap.size → k < B ∨ C ≤ k) : OwnsQQ w' base to t v zss := by
  obtain ⟨vals, h1, h2⟩ := h
  exact ⟨vals, hm.own h1 fun k hk => hv k (own_lt h1 k hk).1 (own_lt h1 k hk).2, h2.map fun u zs _ ho => hm.own ho fun k hk => hv k (own_lt ho k hk).1 (own_lt ho k hk).2⟩
end
theorem qq_put {w w3 : World} {base : Nat} {to t : TypeId} {g n c k : Nat} {vals : List Value} {zss : List (List (Int × Int))} {u u' : Value} {zs' : List (Int × Int)} (ho : w.ownsRow base to 1 (.slice (some ⟨g, 0, none⟩) n c) n vals) (hin : InnerQ w base t vals zss) (hne : t ≠ to)
    (hu : vals[k]? = some u) (hg : w.grownBy w3 u.ownBlock) (h3 : w3.ownsRow base t 2 u' zs'.length (cmps zs')) (hat : u'.ownBlock = u.ownBlock ∨ ∀ j, u'.ownBlock = some j → w.heap.size ≤ j) :
    (w3.setCell ⟨g, k, none⟩ u').ownsRow base to 1 (.slice (some ⟨g, 0, none⟩) n c) n (vals.set k u') ∧ InnerQ (w3.setCell ⟨g, k, none⟩ u') base t (vals.set k u') (zss.set k zs') := by
  obtain ⟨zs, hz, hown⟩ := hin.at_ hu
  have ho3 := ho.kept hg (own_ne_type ho hown (fun e => hne e.symm))
  have hi3 := hin.set hu hg h3 hat
  have hs := ho3.stored k u'
  refine ⟨hs.1, hi3.kept hs.2 fun x hx => ?_⟩
  obtain ⟨i, hi, rfl⟩ := List.mem_iff_getElem.1 hx
  obtain ⟨ys, _, hy⟩ := hi3.at_ (List.getElem?_eq_getElem hi)
  exact own_ne_type hy ho3 hne
/-- the marks of a list of lists -/
def qmarks (k : Int) : List Nat → List (List (Int × Int))
  | [] => []
  | n :: r => cmarks k n :: qmarks (k + 2 * n) r
theorem qmarks_len : ∀ (ls : List Nat) (k : Int), (qmarks k ls).length = ls.length
  | [], _ => rfl
  | n :: r, k => by simp [qmarks, qmarks_len r]
theorem qmarks_get : ∀ (ls : List Nat) (k : Int) (i : Nat) (hi : i < ls.length), (qmarks k ls)[i]'(by rw [qmarks_len]; exact hi) = cmarks (k + 2 * ((ls.take i).sum : Nat)) ls[i]
  | [], _, i, hi => by simp at hi
  | n :: r, k, 0, _ => by simp [qmarks]
  | n :: r, k, i + 1, hi => by
    simp only [qmarks, List.getElem_cons_succ, List.take_succ_cons, List.sum_cons]
    rw [qmarks_get r (k + 2 * n) i (by simpa using hi)]
    congr 1
    omega
set_option maxRecDepth 100000 in
set_option maxHeartbeats 800000 in
theorem eqRecordSS_b (A B : Option Addr) (xss yss : List (List (Int × Int))) (c d : Nat) (w : World) (hx : ReadsQQ w w.heap.size A xss) (hy : ReadsQQ w w.heap.size B yss)
    (hl : xss.length ≤ 1048576) (hl' : yss.length ≤ 1048576) (hs : (xss.map List.length).sum ≤ 1048576) (hs' : (yss.map List.length).sum ≤ 1048576) :
    Calls Try.prog 10 #[.slice A xss.length c, .slice B yss.length d] w fun e w' => e = .returned (.bool (decide (xss = yss))) ∧ Below w.heap.size w w' := by
  by_cases hne : xss.length = yss.length
  case neg =>
    have hd : ((xss.length : Int) == (yss.length : Int)) = false := by simp; omega
    have hd' : ((xss.length : Int) != (yss.length : Int)) = true := by simp; omega
    go_enter Try.func10, Try.ntmps10
    go_wp2_with fail
    go_ret
    exact ⟨retb (by symm; simp; intro h; exact hne (by rw [h])), Below.refl _ _⟩
  have hd : ((xss.length : Int) == (yss.length : Int)) = true := by simp; omega
  have hd' : ((xss.length : Int) != (yss.length : Int)) = false := by simp; omega
  have Hne := Lib.hid hne; clear hne
  go_enter Try.func10, Try.ntmps10
  go_wp2_with fail
  go_loopw [5] (fun i wr => ∃ k : Nat, k ≤ xss.length ∧ i = .int .i64 k ∧ Below w.heap.size w wr ∧ xss.take k = yss.take k) (fun i _ => xss.length - (intOf i).toNat)
  case atStart => exact ⟨0, by omega, rfl, Below.refl _ _, by simp⟩
  case round =>
    obtain ⟨k, hk, rfl, hb, heq⟩ := hrel
    have HE := Lib.hid heq; clear heq
    by_cases hlt : k < xss.length
    · have hlt' : k < yss.length := by have := Hne.out; omega
      obtain ⟨ad, A', c', rfl, hc, hr⟩ := (hx.below hb).at_ hlt
      obtain ⟨bd, B', d', rfl, hc', hr'⟩ := (hy.below hb).at_ hlt'
      have hsz := hb.size
      have had1 := World.block_lt_of_cell? _ _ hc
      have hbd1 := World.block_lt_of_cell? _ _ hc'
      have hb1 : xss[k].length ≤ 1048576 := by have := le_sum (ls := xss.map List.length) (i := k) (by simpa using hlt); simp at this; omega
      have hb2 : yss[k].length ≤ 1048576 := by have := le_sum (ls := yss.map List.length) (i := k) (by simpa using hlt'); simp at this; omega
      have HC := fun w' (h : Below wr.heap.size wr w') => Lib.hid (eqRecordS_any A' B' xss[k] yss[k] c' d' w' (((hr.more hsz).below h).more h.size) (((hr'.more hsz).below h).more h.size) (by omega) (by omega))
      have HV : Hid ((decide (xss[k] = yss[k])) = true → xss.take (k + 1) = yss.take (k + 1)) := Lib.hid fun h => take_succ_eq HE.out hlt hlt' (by simpa using h)
      have HF : Hid ((decide (xss[k] = yss[k])) = false → decide (xss = yss) = false) := Lib.hid fun h => by simp at h ⊢; intro e; subst e; exact h rfl
      clear hr hr'
      cases hdec : decide (xss[k] = yss[k])
      · rw [hdec] at HC
        have HF2 := Lib.hid (HF.out hdec)
        clear hdec HF HV
        generalize xss[k].length = la at *
        generalize yss[k].length = lb at *
        go_wp2_with fail
        go_region_held3 (fun w' => w'.cell? (ad.add k) = some (.slice A' la c') ∧ w'.cell? (bd.add k) = some (.slice B' lb d')) (first | go_keep | (go_split_ands; refine ⟨?_, ?_⟩ <;> (rw [Below.cell hb9 (by simp; omega)]; assumption)))
          (first | (go_at_call 9; refine (HC _ (below_drewN (Below.refl _ _) 1)).out.mono ?_; rintro e w1 ⟨rfl, hb9⟩))
        go_wp2_with fail
        go_ret
        exact ⟨retb HF2.out.symm, bthen hb (bthen (below_drewN (Below.refl _ _) 1) hb9)⟩
      · rw [hdec] at HC
        have HV2 := Lib.hid (HV.out hdec)
        clear hdec HF HV
        generalize xss[k].length = la at *
        generalize yss[k].length = lb at *
        go_wp2_with fail
        go_region_held3 (fun w' => w'.cell? (ad.add k) = some (.slice A' la c') ∧ w'.cell? (bd.add k) = some (.slice B' lb d')) (first | go_keep | (go_split_ands; refine ⟨?_, ?_⟩ <;> (rw [Below.cell hb9 (by simp; omega)]; assumption)))
          (first | (go_at_call 9; refine (HC _ (below_drewN (Below.refl _ _) 1)).out.mono ?_; rintro e w1 ⟨rfl, hb9⟩))
        go_wp2_with fail
        go_roundw
        case rel => exact ⟨k + 1, by omega, by go_num, bthen hb (bthen (below_drewN (Below.refl _ _) 1) hb9), HV2.out⟩
        case measure => simp [intOf]; omega
    · go_wp2_with fail
      go_ret
      exact ⟨retb (by symm; simp only [decide_eq_true_eq]; have h := HE.out; have hk' := Hne.out; rwa [List.take_of_length_le (by omega), List.take_of_length_le (by omega)] at h), hb⟩
set_option maxRecDepth 100000 in
set_option maxHeartbeats 1600000 in
theorem markRecordSS_v (B C : Nat) (A : Option Addr) (css : List (List (Int × Int))) (vals : List Value) (c : Nat) (k0 : Int) (w : World) (hl : css.length ≤ 1048576) (hs : (css.map List.length).sum ≤ 1048576) (h0 : 0 ≤ k0) (h1 : k0 ≤ 1099509530624)
    (hCv : ∀ u ∈ vals, ∀ k, u.ownBlock = some k → k < C) (hov : w.ownsRow B 24 1 (.slice A css.length c) css.length vals) (hin : InnerQ w B 47 vals css) :
    Calls Try.prog 11 #[.slice A css.length c, .int .i64 k0] w fun e w' => e = .returned (.int .i64 (k0 + 2 * ((css.map List.length).sum : Nat))) ∧
      w'.ownsRow B 24 1 (.slice A css.length c) (qmarks k0 (css.map List.length)).length vals ∧ InnerQ w' B 47 vals (qmarks k0 (css.map List.length)) ∧ Mid B C w w' := by
  have HCV := Lib.hid hCv; clear hCv
  have hml : (css.map List.length).length = css.length := by simp
  have HML := Lib.hid hml; clear hml
  generalize hls : css.map List.length = ls at *
  have HLS := Lib.hid hls; clear hls
  go_enter Try.func11, Try.ntmps11
  go_wp2_with fail
  go_loopw [1, 5] (fun kv i wr => ∃ (k : Nat) (xss : List (List (Int × Int))), k ≤ css.length ∧ i = .int .i64 k ∧ kv = .int .i64 (k0 + 2 * ((ls.take k).sum : Nat)) ∧ Hid (xss.length = css.length ∧ xss.take k = (qmarks k0 ls).take k ∧ xss.drop k = css.drop k) ∧
      wr.ownsRow B 24 1 (.slice A css.length c) css.length vals ∧ InnerQ wr B 47 vals xss ∧ Hid (Mid B C w wr)) (fun _ i _ => css.length - (intOf i).toNat)
  case atStart => exact ⟨0, css, by omega, rfl, by simp, Lib.hid ⟨rfl, by simp, rfl⟩, hov, hin, Lib.hid Mid.refl⟩
  case round =>
    clear hov hin
    obtain ⟨k, xss, hk, rfl, rfl, HX, hov, hin, HM⟩ := hrel
    by_cases hlt : k < css.length
    · obtain ⟨g, rfl, hBg, hgl⟩ := own_at hov (by omega)
      have hvl : vals.length = css.length := by rw [hin.len, HX.out.1]
      have hkv : k < vals.length := by omega
      have hkx : k < xss.length := by rw [HX.out.1]; exact hlt
      have c1 := hov.cellAt k (by omega)
      rw [List.getElem?_eq_getElem hkv] at c1
      have ho := hin.own k vals[k] xss[k] (List.getElem?_eq_getElem hkv) (List.getElem?_eq_getElem hkx)
      have hxk : xss[k] = css[k] := by
        have h := congrArg (fun l => l[0]?) HX.out.2.2
        simp only [List.getElem?_drop, Nat.add_zero] at h
        rw [List.getElem?_eq_getElem hkx, List.getElem?_eq_getElem hlt] at h
        exact Option.some.inj h
      have hkl : k < ls.length := by rw [HML.out]; exact hlt
      have hlk : css[k].length = ls[k] := by simp [← HLS.out]
      have hsle := le_sum hkl
      have hssl := sum_take_le ls k
      have hss := sum_take_succ hkl
      have hlb : css[k].length ≤ 1048576 := by omega
      rw [hxk] at ho
      have hu := List.getElem?_eq_getElem hkv
      have hun := HCV.out vals[k] (List.getElem_mem hkv)
      have hub := own_lt ho
      have hne : ∀ x, x ≠ vals[k] → True := fun _ _ => trivial
      generalize hvk : vals[k] = u at *
      obtain ⟨A', c', rfl⟩ := own_slice ho
      have HC := Lib.hid (markRecordS_any B A' css[k] c' (k0 + 2 * ((ls.take k).sum : Nat)) wr hlb (by omega) (by omega) ho)
      have HK1 := Lib.hid hlk
      have HSS := Lib.hid hss
      have HKX := Lib.hid hkx
      have HU := Lib.hid hu
      have HUN := Lib.hid hun
      have HUB := Lib.hid hub
      have HOV := Lib.hid hov
      have HIN := Lib.hid hin
      have HGB := Lib.hid (own_lt hov)
      clear hun hub hu hov hin hne hss hlk hxk hvl hkv hkx hvk
      go_wp2_with fail
      refine HC.out.mono ?_
      rintro e w1 ⟨rfl, ho1, hg1⟩
      go_wp2_with fail
      go_roundw
      case rel =>
        have hml := cmarks_length (k0 + 2 * ((ls.take k).sum : Nat)) css[k].length
        refine ⟨k + 1, xss.set k (cmarks (k0 + 2 * ((ls.take k).sum : Nat)) css[k].length), by omega, by go_num, ?_, Lib.hid ⟨by simp [HX.out.1], ?_, ?_⟩, ?_, ?_, Lib.hid (HM.out.grown hg1 (fun j hj => ⟨(HUB.out j hj).1, HUN.out j hj⟩))⟩
        · rw [HSS.out, HK1.out]; congr 1; omega
        · have hr := qmarks_get ls k0 k hkl
          have e := set_take_succ (ys := xss) (zs := qmarks k0 ls) (k := k) (by rw [qmarks_len, HX.out.1, HML.out]) HX.out.2.1 (by rw [qmarks_len]; exact hkl)
          rw [hr] at e
          rw [HK1.out]
          exact e
        · rw [List.drop_set_of_lt (by omega)]
          have h := congrArg (List.drop 1) HX.out.2.2
          simpa [List.drop_drop] using h
        · exact HOV.out.kept hg1 (own_ne_type HOV.out ho (by decide))
        · have := HIN.out.set (w' := w1) HU.out hg1 (u' := .slice A' css[k].length c') (zs' := cmarks (k0 + 2 * ((ls.take k).sum : Nat)) css[k].length) (by rw [hml]; exact ho1) (.inl rfl)
          rwa [List.set_getElem_self_eq HU.out] at this
      case measure => simp [intOf]; omega
    · have hke : k = css.length := by omega
      have e1 : xss = qmarks k0 ls := take_all_eq (by rw [qmarks_len, HX.out.1, HML.out]) (by rw [qmarks_len, HML.out]; omega) HX.out.2.1
      have e2 : (ls.take k).sum = ls.sum := by rw [List.take_of_length_le (by rw [HML.out]; omega)]
      have HE1 := Lib.hid e1
      have HE2 := Lib.hid e2
      clear e1 e2
      go_wp2_with fail
      go_ret
      refine ⟨by rw [HE2.out]; rfl, ?_, by rw [← HE1.out]; exact hin, HM.out⟩
      rw [qmarks_len, HML.out]; exact hov
set_option maxRecDepth 100000 in
set_option maxHeartbeats 800000 in
theorem heldRecordSS_b (A : Option Addr) (ls : List Nat) (c : Nat) (k0 : Int) (w : World) (hl : ls.length ≤ 1048576) (hs : ls.sum ≤ 1048576) (h0 : 0 ≤ k0) (h1 : k0 ≤ 1099509530624)
    (hx : ReadsQQ w w.heap.size A (qmarks k0 ls)) :
    Calls Try.prog 18 #[.slice A ls.length c, .int .i64 k0] w fun e w' => e = .returned (.int .i64 (k0 + 2 * (ls.sum : Nat))) ∧ Below w.heap.size w w' := by
  go_enter Try.func18, Try.ntmps18
  go_wp2_with fail
  go_loopw [1, 5] (fun kv i wr => ∃ (k : Nat), k ≤ ls.length ∧ i = .int .i64 k ∧ kv = .int .i64 (k0 + 2 * ((ls.take k).sum : Nat)) ∧ Below w.heap.size w wr) (fun _ i _ => ls.length - (intOf i).toNat)
  case atStart => exact ⟨0, by omega, rfl, by simp, Below.refl _ _⟩
  case round =>
    obtain ⟨k, hk, rfl, rfl, hb⟩ := hrel
    by_cases hlt : k < ls.length
    · have hml := qmarks_len ls k0
      obtain ⟨ad, A', c', rfl, c1, hr⟩ := (hx.below hb).at_ (k := k) (by rw [hml]; exact hlt)
      rw [qmarks_get ls k0 k hlt, cmarks_length] at c1 hr
      have hssl := sum_take_le ls k
      have hsle := le_sum hlt
      have hss := sum_take_succ hlt
      have hsz := hb.size
      have HC := Lib.hid (heldRecordS_b A' ls[k] c' (k0 + 2 * ((ls.take k).sum : Nat)) wr (by omega) (by omega) (by omega) (hr.more hsz))
      have HSS := Lib.hid hss
      have hb1 : ls[k] ≤ 1048576 := by omega
      clear hss hr hml
      generalize ls[k] = lk at *
      go_wp2_with fail
      refine HC.out.mono ?_
      rintro e w1 ⟨rfl, hb1⟩
      have hpos : ¬ (k0 + 2 * ((ls.take k).sum : Nat) + 2 * lk : Int) < 0 := by omega
      go_wp2_with fail
      go_roundw
      case rel => exact ⟨k + 1, by omega, by go_num, by rw [HSS.out]; congr 1; omega, bthen hb hb1⟩
      case measure => simp [intOf]; omega
    · have e2 : (ls.take k).sum = ls.sum := by rw [List.take_of_length_le (by omega)]
      have HE2 := Lib.hid e2
      clear e2
      go_wp2_with fail
      go_ret
      exact ⟨by rw [HE2.out]; rfl, hb⟩
end Go.Proofs.Ytifjihpnhmemgaa
