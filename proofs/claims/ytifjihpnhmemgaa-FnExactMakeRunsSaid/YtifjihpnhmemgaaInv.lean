/- A region that draws its order, by an invariant over the set of the operations done: each operation is shown once, not once an order. -/
import Derived.Orders
import Derived.RegionTactic
namespace Go.Proofs.Ytifjihpnhmemgaa
open Go
/-- operation i has come up -/
def upd (L : Nat → Bool) (i : Nat) : Nat → Bool := fun j => if j = i then true else L j
theorem upd_self (L : Nat → Bool) (i : Nat) : upd L i i = true := by simp [upd]
theorem upd_ne {L : Nat → Bool} {i j : Nat} (h : j ≠ i) : upd L i j = L j := by simp [upd, h]
def depsB (md : Region.Mode) (L : Nat → Bool) (o : Oper) : Prop := ∀ e ∈ o.after.toList, Region.binds md e = true → L e.on = true
section
variable {P : Program} {ops : Array Oper} {Q : Exit → Act → World → Prop} {md : Region.Mode}
theorem countP_lt {p q : Nat → Bool} {l : List Nat} (h : ∀ x ∈ l, q x = true → p x = true) {i : Nat} (hi : i ∈ l) (h1 : p i = true) (h2 : q i = false) : l.countP q < l.countP p := by
  induction l with
  | nil => cases hi
  | cons x l ih =>
    rw [List.countP_cons, List.countP_cons]
    have hm : l.countP q ≤ l.countP p := List.countP_mono_left fun y hy => h y (List.mem_cons_of_mem _ hy)
    rcases List.mem_cons.1 hi with rfl | hi
    · rw [h1, h2]; simp; omega
    · have hlt := ih (fun y hy => h y (List.mem_cons_of_mem _ hy)) hi
      have hx := h x List.mem_cons_self
      cases hq : q x
      · simp; omega
      · rw [hx hq]; simp; omega
/-- each operation waits for earlier ones alone -/
def wellB (md : Region.Mode) (ops : Array Oper) : Bool :=
  (List.range ops.size).all fun i => match ops[i]? with
    | some o => o.after.all fun e => !Region.binds md e || decide (e.on < i)
    | none => true
theorem all_listed (hw : wellB md ops = true) {listed : Array Bool} (hs : listed.size = ops.size) (hr : Region.ready md ops listed = []) :
    ∀ i, i < ops.size → listed.getD i false = true := by
  intro i
  induction i using Nat.strongRecOn with
  | _ i ih =>
    intro hi
    cases hl : listed.getD i true
    · exfalso
      have hm : i ∈ Region.ready md ops listed := by
        rw [mem_ready]
        refine ⟨hl, ops[i], Array.getElem?_eq_getElem hi, fun e he hb => ?_⟩
        have h1 := List.all_eq_true.1 hw i (List.mem_range.2 hi)
        rw [Array.getElem?_eq_getElem hi] at h1
        have h2 := Array.all_eq_true_iff_forall_mem.1 h1 e he
        rw [hb] at h2
        simp at h2
        exact ih e.on h2 (by omega)
      rw [hr] at hm
      cases hm
    · rw [Array.getD_eq_getD_getElem?, Array.getElem?_eq_getElem (by omega)] at hl ⊢
      exact hl
theorem wpAny_inv (J : (Nat → Bool) → Act → World → Prop) (hw : wellB md ops = true)
    (hstep : ∀ i o, ops[i]? = some o → ∀ L a w, J L a w → L i = false → depsB md L o → wpOp P ops Q i (J (upd L i)) a w)
    (hend : ∀ L a w, J L a w → (∀ i, i < ops.size → L i = true) → Q .normal a w) :
    ∀ (fuel : Nat) (listed : Array Bool) (a : Act) (w : World), listed.size = ops.size → (List.range ops.size).countP (fun i => !listed.getD i true) ≤ fuel →
      J (fun i => listed.getD i false) a w → wpAny P md ops Q fuel listed a w := by
  intro fuel
  induction fuel with
  | zero =>
    intro listed a w hs hc hJ
    have hr : Region.ready md ops listed = [] := by
      cases hr : Region.ready md ops listed with
      | nil => rfl
      | cons x xs =>
        have hm : x ∈ Region.ready md ops listed := by rw [hr]; exact List.mem_cons_self
        obtain ⟨h0, o, ho, _⟩ := mem_ready.1 hm
        have hlt : x < ops.size := (Array.getElem?_eq_some_iff.1 ho).1
        have := List.countP_eq_zero.1 (Nat.le_zero.1 hc) x (List.mem_range.2 hlt)
        simp [h0] at this
    exact ⟨hr, hend _ a w hJ (all_listed hw hs hr)⟩
  | succ fuel ih =>
    intro listed a w hs hc hJ
    refine ⟨fun hr => hend _ a w hJ (all_listed hw hs hr), fun i hi => ?_⟩
    obtain ⟨h0, o, ho, hall⟩ := mem_ready.1 hi
    have hlt : i < ops.size := (Array.getElem?_eq_some_iff.1 ho).1
    have hlt' : i < listed.size := by omega
    have h0' : listed.getD i false = false := by
      rw [Array.getD_eq_getD_getElem?, Array.getElem?_eq_getElem hlt'] at h0 ⊢
      exact h0
    have hse : (fun j => (listed.setIfInBounds i true).getD j false) = upd (fun j => listed.getD j false) i := by
      funext j
      by_cases hj : j = i
      · subst hj; rw [upd_self, Array.getD_eq_getD_getElem?, Array.getElem?_setIfInBounds_self_of_lt hlt']; rfl
      · rw [upd_ne hj]; exact getD_set_ne false (Ne.symm hj)
    refine wpOp_mono (fun a' w' h' => ?_) (hstep i o ho _ a w hJ h0' fun e he hb => hall e (by simpa using he) hb)
    refine ih _ a' w' (by simpa using hs) ?_ (by rw [hse]; exact h')
    have := countP_lt (p := fun j => !listed.getD j true) (q := fun j => !(listed.setIfInBounds i true).getD j true) (l := List.range ops.size) (fun x _ hx => by
        by_cases hxi : x = i
        · subst hxi; simp [Array.getD_eq_getD_getElem?, Array.getElem?_setIfInBounds_self_of_lt hlt'] at hx
        · rw [getD_set_ne true (Ne.symm hxi)] at hx; exact hx) (List.mem_range.2 hlt) (by rw [h0]; rfl) (by rw [Array.getD_eq_getD_getElem?, Array.getElem?_setIfInBounds_self_of_lt hlt']; rfl)
    omega
/-- the steps, one an operation -/
def StepsAll (P : Program) (md : Region.Mode) (ops : Array Oper) (Q : Exit → Act → World → Prop) (J : (Nat → Bool) → Act → World → Prop) : List Oper → Nat → Prop
  | [], _ => True
  | o :: rest, n => (∀ L a w, J L a w → L n = false → depsB md L o → ∀ K : Act → World → Prop, (∀ a w, J (upd L n) a w → K a w) →
      if Region.wanted o (yielded ops a.tmps) = true then Oper.wp P o a w K Q else K (a.put o.dst undef) w) ∧ StepsAll P md ops Q J rest (n + 1)
theorem StepsAll.at_ {J : (Nat → Bool) → Act → World → Prop} : ∀ {l : List Oper} {n : Nat}, StepsAll P md ops Q J l n → ∀ i o, l[i]? = some o →
    ∀ L a w, J L a w → L (n + i) = false → depsB md L o → ∀ K : Act → World → Prop, (∀ a w, J (upd L (n + i)) a w → K a w) →
      if Region.wanted o (yielded ops a.tmps) = true then Oper.wp P o a w K Q else K (a.put o.dst undef) w
  | [], _, _, i, o, h => by simp at h
  | x :: rest, n, h, 0, o, ho => by
    simp at ho; subst ho; exact h.1
  | x :: rest, n, h, i + 1, o, ho => by
    have := StepsAll.at_ h.2 i o (by simpa using ho)
    rwa [show n + 1 + i = n + (i + 1) by omega] at this
theorem wp_region_inv {id : Nat} {a : Act} {w : World} {l : List Oper} (J : (Nat → Bool) → Act → World → Prop) (hm : P.follows .mixedOrders = true)
    (hw : wellB .any l.toArray = true) (h0 : J (fun _ => false) a w.drew)
    (hs : StepsAll P .any l.toArray Q J l 0)
    (hend : ∀ L a w, J L a w → (∀ i, i < l.length → L i = true) → Q .normal a w) : (Code.region id l.toArray true).wp P Q a w := by
  refine wp_region_any hm ?_
  refine wpAny_inv J hw (fun i o ho L a w hJ hL hd => wpOp_step ho fun K hK => ?_) (fun L a w hJ h => hend L a w hJ (by simpa using h)) _ _ _ _ (by simp) ?_ ?_
  · have := hs.at_ i o (by simpa using ho) L a w hJ (by simpa using hL) hd K (by simpa using hK)
    exact this
  · refine Nat.le_trans List.countP_le_length (by simp)
  · have he : (fun i => (Array.replicate l.toArray.size false).getD i false) = fun _ => false := by
      funext i
      rw [Array.getD_eq_getD_getElem?, Array.getElem?_replicate]
      split <;> rfl
    rw [he]
    exact h0
theorem wp_region_inv' {id : Nat} {a : Act} {w : World} {l : List Oper} (J : Act → (Nat → Bool) → Act → World → Prop) (hm : P.follows .mixedOrders = true)
    (hw : wellB .any l.toArray = true) (h0 : J a (fun _ => false) a w.drew)
    (hs : StepsAll P .any l.toArray Q (J a) l 0)
    (hend : ∀ L a' w, J a L a' w → (∀ i, i < l.length → L i = true) → Q .normal a' w) : (Code.region id l.toArray true).wp P Q a w := wp_region_inv (J a) hm hw h0 hs hend
/-- but for the slots ds the frame is a0's -/
def St (a0 a : Act) (ds : List Nat) : Prop := a.defers = a0.defers ∧ a.tmps.size = a0.tmps.size ∧ ∀ t, t ∉ ds → a.tmps[t]? = a0.tmps[t]?
theorem St.refl (a0 : Act) (ds : List Nat) : St a0 a0 ds := ⟨rfl, rfl, fun _ _ => rfl⟩
theorem St.put {a0 a : Act} {ds : List Nat} (h : St a0 a ds) (d : Nat) (v : Value) (hd : d ∈ ds) : St a0 (a.put (some d) v) ds := by
  refine ⟨h.1, by simpa [Act.put] using h.2.1, fun t ht => ?_⟩
  rw [← h.2.2 t ht]
  show (a.tmps.setIfInBounds d v)[t]? = _
  rw [Array.getElem?_setIfInBounds_ne]
  rintro rfl
  exact ht hd
theorem St.put_none {a0 a : Act} {ds : List Nat} (h : St a0 a ds) (v : Value) : St a0 (a.put none v) ds := h
theorem eval_tmp (a : Act) (t : Nat) : a.eval (.tmp t) = a.tmps.getD t undef := rfl
theorem St.eval {a0 a : Act} {ds : List Nat} (h : St a0 a ds) (t : Nat) (ht : t ∉ ds) : a.eval (.tmp t) = a0.eval (.tmp t) := by
  rw [eval_tmp, eval_tmp, Array.getD_eq_getD_getElem?, Array.getD_eq_getD_getElem?, h.2.2 t ht]
theorem eval_put (a : Act) (d t : Nat) (v : Value) (hd : d < a.tmps.size) : (a.put (some d) v).eval (.tmp t) = if t = d then v else a.eval (.tmp t) := by
  rw [eval_tmp, eval_tmp]
  show (a.tmps.setIfInBounds d v).getD t undef = _
  rw [Array.getD_eq_getD_getElem?, Array.getD_eq_getD_getElem?]
  split
  · rename_i h; subst h; rw [Array.getElem?_setIfInBounds_self_of_lt hd]; rfl
  · rename_i h; rw [Array.getElem?_setIfInBounds_ne (Ne.symm h)]
theorem St.lt {a0 a : Act} {ds : List Nat} {n : Nat} (h : St a0 a ds) (hn : n < a0.tmps.size) : n < a.tmps.size := by rw [h.2.1]; exact hn
theorem foldl_put_size (f : Nat → Value) (l : List Nat) (b : Act) : (l.foldl (fun b d => b.put (some d) (f d)) b).tmps.size = b.tmps.size ∧ (l.foldl (fun b d => b.put (some d) (f d)) b).defers = b.defers := by
  induction l generalizing b with
  | nil => exact ⟨rfl, rfl⟩
  | cons x l ih =>
    rw [List.foldl_cons]
    obtain ⟨h1, h2⟩ := ih (b.put (some x) (f x))
    exact ⟨h1.trans (by simp [Act.put]), h2.trans rfl⟩
theorem foldl_put_get (f : Nat → Value) (l : List Nat) (b : Act) (t : Nat) (ht : t < b.tmps.size) :
    (l.foldl (fun b d => b.put (some d) (f d)) b).tmps[t]? = if t ∈ l then some (f t) else b.tmps[t]? := by
  induction l generalizing b with
  | nil => simp
  | cons x l ih =>
    rw [List.foldl_cons, ih _ (by simpa [Act.put] using ht)]
    by_cases hl : t ∈ l
    · simp [hl]
    · rw [if_neg hl]
      show (b.tmps.setIfInBounds x (f x))[t]? = _
      by_cases hx : t = x
      · subst hx; rw [Array.getElem?_setIfInBounds_self_of_lt ht]; simp
      · rw [Array.getElem?_setIfInBounds_ne (Ne.symm hx)]; simp [hl, hx]
/-- the frame laid out again -/
theorem St.eq {a0 a : Act} {ds : List Nat} (h : St a0 a ds) : a = ds.foldl (fun b d => b.put (some d) (a.eval (.tmp d))) a0 := by
  obtain ⟨h1, h2, h3⟩ := h
  obtain ⟨g1, g2⟩ := foldl_put_size (fun d => a.eval (.tmp d)) ds a0
  have ht : a.tmps = (ds.foldl (fun b d => b.put (some d) (a.eval (.tmp d))) a0).tmps := by
    apply Array.ext_getElem?
    intro t
    by_cases hlt : t < a0.tmps.size
    · rw [foldl_put_get _ _ _ _ hlt]
      split
      · rw [eval_tmp, Array.getD_eq_getD_getElem?, Array.getElem?_eq_getElem (by omega)]; rfl
      · rename_i hn; exact h3 t hn
    · rw [Array.getElem?_eq_none (by omega), Array.getElem?_eq_none (by omega)]
  have hd : a.defers = (ds.foldl (fun b d => b.put (some d) (a.eval (.tmp d))) a0).defers := h1.trans g2.symm
  generalize (ds.foldl (fun b d => b.put (some d) (a.eval (.tmp d))) a0) = b at *
  cases a; cases b
  simp only at ht hd
  rw [ht, hd]
theorem step_value {o : Oper} {a : Act} {w w' : World} {v : Value} {K : Act → World → Prop} {E : Prop} (hg : o.guard = none) (hrun : (execOp a.eval o).run P w = .ok (.value v) w') (h : K (a.put o.dst v) w') :
    if Region.wanted o (yielded ops a.tmps) = true then Oper.wp P o a w K Q else E := by
  rw [if_pos (by simp [Region.wanted, hg])]
  unfold Oper.wp
  rw [hrun]
  exact h
theorem step_skip {o : Oper} {a : Act} {w w' : World} {K : Act → World → Prop} {E : Prop} (hg : o.guard = none) (hrun : (execOp a.eval o).run P w = .ok .skip w') (h : K (a.put o.dst undef) w') :
    if Region.wanted o (yielded ops a.tmps) = true then Oper.wp P o a w K Q else E := by
  rw [if_pos (by simp [Region.wanted, hg])]
  unfold Oper.wp
  rw [hrun]
  exact h
theorem step_enter {o : Oper} {a : Act} {w w' : World} {f : FuncId} {args : Array Value} {K : Act → World → Prop} {E : Prop} (hg : o.guard = none) (hrun : (execOp a.eval o).run P w = .ok (.enter f args) w')
    (h : Calls P f args w' fun e w'' => ∃ v, e = .returned v ∧ K (a.put o.dst v) w'') :
    if Region.wanted o (yielded ops a.tmps) = true then Oper.wp P o a w K Q else E := by
  rw [if_pos (by simp [Region.wanted, hg])]
  unfold Oper.wp
  rw [hrun]
  refine h.mono ?_
  rintro e w'' ⟨v, rfl, hk⟩
  exact hk
end
end Go.Proofs.Ytifjihpnhmemgaa
