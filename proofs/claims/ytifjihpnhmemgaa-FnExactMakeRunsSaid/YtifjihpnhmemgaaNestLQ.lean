/- Lists of lists of records, as the walks of the laws use them. -/
import Derived.Test.YtifjihpnhmemgaaNestL
import Derived.Test.YtifjihpnhmemgaaNestQ
namespace Go.Proofs.Ytifjihpnhmemgaa
open Go.RowKit
set_option linter.unusedVariables false
/-- a list of lists of one's own, all its blocks from base to C -/
def OwnsQC (w : World) (base C : Nat) (to t : TypeId) (v : Value) (zss : List (List (Int × Int))) : Prop :=
  ∃ vals, w.ownsRow base to 1 v zss.length vals ∧ InnerQ w base t vals zss ∧ (∀ k, v.ownBlock = some k → k < C) ∧ ∀ u ∈ vals, ∀ k, u.ownBlock = some k → k < C
section
variable {w w' w1 : World} {base base' B C D : Nat} {t to e : TypeId} {zss : List (List (Int × Int))} {v : Value}
theorem OwnsQC.born (h : OwnsQQ w base to t v zss) (hb : base' ≤ base) : OwnsQC w base' w.heap.size to t v zss := by
  obtain ⟨vals, h1, h2⟩ := h
  exact ⟨vals, own_base h1 hb, h2.base' hb, fun k hk => (own_lt h1 k hk).2, fun u hu k hk => (h2.lt hu k hk).2⟩
theorem OwnsQC.below (h : OwnsQC w base C to t v zss) (hb : Below B w w') (hB : w.heap.size ≤ B) : OwnsQC w' base C to t v zss := by
  obtain ⟨vals, h1, h2, h3, h4⟩ := h
  exact ⟨vals, own_below h1 hb hB, h2.below hb hB, h3, h4⟩
theorem ReadsQQ.of_qc {A : Option Addr} {n c : Nat} (h : OwnsQC w base C to t (.slice A n c) zss) : ReadsQQ w w.heap.size A zss := by
  obtain ⟨vals, h1, h2, _, _⟩ := h
  obtain ⟨A', c', hv⟩ := own_slice h1
  simp only [Value.slice.injEq] at hv
  obtain ⟨rfl, rfl, rfl⟩ := hv
  exact ReadsQQ.of_own ⟨vals, h1, h2⟩
theorem OwnsQC.kept {row : Option Nat} (h : OwnsQC w base C to t v zss) (hg : w.grownBy w' row) (hr : ∀ k, row = some k → k < base ∨ C ≤ k) : OwnsQC w' base C to t v zss := by
  obtain ⟨vals, h1, h2, h3, h4⟩ := h
  have key : ∀ x : Value, (∀ k, x.ownBlock = some k → base ≤ k ∧ k < C) → x.ownBlock = none ∨ x.ownBlock ≠ row := by
    intro x hx
    cases hk : x.ownBlock with
    | none => exact .inl rfl
    | some k => exact .inr fun e => by have := hr k e.symm; have := hx k hk; omega
  exact ⟨vals, h1.kept hg (key v fun k hk => ⟨(own_lt h1 k hk).1, h3 k hk⟩), h2.kept hg (fun u hu => key u fun k hk => ⟨(h2.lt hu k hk).1, h4 u hu k hk⟩), h3, h4⟩
/-- kept while an older row turns -/
theorem OwnsQC.kept_old {size n base1 : Nat} {x : Value} {xs : List Value} (h : OwnsQC w base C to t v zss) (h1 : w1.ownsRow base1 e size x n xs) (hg : w.grownBy w' x.ownBlock) (hb : w1.heap.size ≤ base) : OwnsQC w' base C to t v zss :=
  h.kept hg fun k hk => .inl (Nat.lt_of_lt_of_le (own_lt h1 k hk).2 hb)
theorem OwnsQC.kept_new {size n base1 : Nat} {x : Value} {xs : List Value} (h : OwnsQC w base C to t v zss) (h1 : w1.ownsRow base1 e size x n xs) (hg : w.grownBy w' x.ownBlock) (hb : C ≤ base1) : OwnsQC w' base C to t v zss :=
  h.kept hg fun k hk => .inr (Nat.le_trans hb (own_lt h1 k hk).1)
theorem OwnsQC.mid (h : OwnsQC w base C to t v zss) (hm : Mid B D w w') (hv : C ≤ B ∨ D ≤ base) : OwnsQC w' base C to t v zss := by
  obtain ⟨vals, h1, h2, h3, h4⟩ := h
  have key : ∀ k, base ≤ k → k < C → k < B ∨ D ≤ k := fun k h5 h6 => by omega
  exact ⟨vals, hm.own h1 fun k hk => key k (own_lt h1 k hk).1 (h3 k hk), h2.map fun u zs hu ho => hm.own ho fun k hk => key k (own_lt ho k hk).1 (h4 u hu k hk), h3, h4⟩
end
theorem markRecordSS_c (B C : Nat) (A : Option Addr) (css : List (List (Int × Int))) (c : Nat) (k0 : Int) (w : World) (hl : css.length ≤ 1048576) (hs : (css.map List.length).sum ≤ 1048576) (h0 : 0 ≤ k0) (h1 : k0 ≤ 1099509530624)
    (hown : OwnsQC w B C 24 47 (.slice A css.length c) css) :
    Calls Try.prog 11 #[.slice A css.length c, .int .i64 k0] w fun e w' => e = .returned (.int .i64 (k0 + 2 * ((css.map List.length).sum : Nat))) ∧
      OwnsQC w' B C 24 47 (.slice A css.length c) (qmarks k0 (css.map List.length)) ∧ Mid B C w w' := by
  obtain ⟨vals, hov, hin, h3, h4⟩ := hown
  refine (markRecordSS_v B C A css vals c k0 w hl hs h0 h1 h4 hov hin).mono ?_
  rintro e w' ⟨he, ho, hi, hm⟩
  exact ⟨he, ⟨vals, ho, hi, h3, h4⟩, hm⟩
theorem heldRecordSS_c (A : Option Addr) (css : List (List (Int × Int))) (c : Nat) (k0 : Int) (w : World) (hl : css.length ≤ 1048576) (hs : (css.map List.length).sum ≤ 1048576) (h0 : 0 ≤ k0) (h1 : k0 ≤ 1099509530624)
    (hx : ReadsQQ w w.heap.size A (qmarks k0 (css.map List.length))) :
    Calls Try.prog 18 #[.slice A css.length c, .int .i64 k0] w fun e w' => e = .returned (.int .i64 (k0 + 2 * ((css.map List.length).sum : Nat))) ∧ Below w.heap.size w w' := by
  have h := heldRecordSS_b A (css.map List.length) c k0 w (by simpa using hl) hs h0 h1 hx
  simpa using h
end Go.Proofs.Ytifjihpnhmemgaa
