/- Rows of two-cell elements: a number and a mark; cells stored in a stretch; clear of one such element. -/
import Derived.Test.YtecbagdljgnloaaRsM
import Derived.Test.YtecbagdljgnloaaPush
import Derived.Laws.IdiomCopy
namespace Go.Proofs.Ytecbagdljgnloaa
open Go.RowKit
set_option linter.unusedVariables false
/-- the cells of the slots -/
def sls (sl : List Slt) : List Value := sl.flatMap fun s => [.int .i64 s.1, .bool s.2]
@[simp] theorem sls_nil : sls [] = [] := rfl
@[simp] theorem sls_cons (c : Slt) (cs : List Slt) : sls (c :: cs) = .int .i64 c.1 :: .bool c.2 :: sls cs := rfl
@[simp] theorem sls_append (xs ys : List Slt) : sls (xs ++ ys) = sls xs ++ sls ys := by simp [sls]
@[simp] theorem sls_length (cs : List Slt) : (sls cs).length = cs.length * 2 := by
  induction cs with
  | nil => rfl
  | cons c cs ih => simp [ih]; omega
theorem sls_take (cs : List Slt) (k : Nat) : (sls cs).take (k * 2) = sls (cs.take k) := by
  induction cs generalizing k with
  | nil => simp
  | cons c cs ih =>
    cases k with
    | zero => simp
    | succ k => rw [show (k + 1) * 2 = k * 2 + 1 + 1 from by omega]; simpa using ih k
theorem sls_drop (cs : List Slt) (k : Nat) : (sls cs).drop (k * 2) = sls (cs.drop k) := by
  induction cs generalizing k with
  | nil => simp
  | cons c cs ih =>
    cases k with
    | zero => simp
    | succ k => rw [show (k + 1) * 2 = k * 2 + 1 + 1 from by omega]; simpa using ih k
theorem sls_get {cs : List Slt} {k : Nat} (h : k < cs.length) : (sls cs)[k * 2]? = some (.int .i64 (ky cs k)) ∧ (sls cs)[k * 2 + 1]? = some (.bool (mkd cs k)) := by
  rw [(mkd_get h).1, (mkd_get h).2]
  induction cs generalizing k with
  | nil => simp at h
  | cons c cs ih =>
    cases k with
    | zero => simp
    | succ k =>
      have := ih (k := k) (by simpa using h)
      rw [show (k + 1) * 2 = k * 2 + 1 + 1 from by omega]
      simpa using this
theorem sls_one (cs : List Slt) : ∀ u ∈ sls cs, u.oneCell' = true := by
  induction cs with
  | nil => simp
  | cons c cs ih => intro u hu; simp at hu; rcases hu with rfl | rfl | hu
                    · rfl
                    · rfl
                    · exact ih u hu
theorem sls_set (cs : List Slt) (k : Nat) (s : Slt) (h : k < cs.length) : ((sls cs).set (k * 2) (.int .i64 s.1)).set (k * 2 + 1) (.bool s.2) = sls (cs.set k s) := by
  induction cs generalizing k with
  | nil => simp at h
  | cons c cs ih =>
    cases k with
    | zero => simp
    | succ k =>
      rw [show (k + 1) * 2 = k * 2 + 1 + 1 from by omega]
      simpa using ih k (by simpa using h)
theorem sls_set2 (cs : List Slt) (k : Nat) (b : Bool) (h : k < cs.length) : (sls cs).set (k * 2 + 1) (.bool b) = sls (cs.set k (ky cs k, b)) := by
  rw [(mkd_get h).2]
  induction cs generalizing k with
  | nil => simp at h
  | cons c cs ih =>
    cases k with
    | zero => simp
    | succ k =>
      rw [show (k + 1) * 2 = k * 2 + 1 + 1 from by omega]
      simpa using ih k (by simpa using h)
theorem Reads.slt {w : World} {B : Nat} {A : Option Addr} {cs : List Slt} {k : Nat} (h : Reads w B 2 A cs.length (sls cs)) (hk : k < cs.length) :
    ∃ ad, A = some ad ∧ ad.block < B ∧ w.cell? (ad.add (k * 2)) = some (.int .i64 (ky cs k)) ∧ w.cell? ⟨(ad.add (k * 2)).block, (ad.add (k * 2)).off + 1, none⟩ = some (.bool (mkd cs k)) := by
  obtain ⟨ad, e, hb, hc⟩ := h.2 (by omega)
  refine ⟨ad, e, hb, hc _ _ (sls_get hk).1, ?_⟩
  have := hc _ _ (sls_get hk).2
  rw [← add_of_add] at this
  exact this
theorem sls_push {w : World} {B : Nat} {e : TypeId} {v : Value} {acc : List Slt} {a : Int} {b : Bool} (h : w.ownsRow B e 2 v (acc.length + 1) (sls acc ++ #[Value.int .i64 a, .bool b].toList)) :
    w.ownsRow B e 2 v (acc ++ [(a, b)]).length (sls (acc ++ [(a, b)])) := by simpa using h
theorem own_setCellsN {base n c g size : Nat} {e : TypeId} (vs : List Value) : ∀ (w : World) (o : Nat) (xs : List Value), w.ownsRow base e size (.slice (some ⟨g, 0, none⟩) n c) n xs → o + vs.length ≤ n * size →
    (w.setCells g o vs).ownsRow base e size (.slice (some ⟨g, 0, none⟩) n c) n (xs.take o ++ vs ++ xs.drop (o + vs.length)) ∧ w.grownBy (w.setCells g o vs) (some g) := by
  induction vs with
  | nil => intro w o xs h ho; exact ⟨by simpa [World.setCells] using h, by simpa [World.setCells] using World.grownBy.refl w _⟩
  | cons v vs ih =>
    intro w o xs h ho
    simp only [List.length_cons] at ho
    have hs := h.stored o v
    have h2 := ih (w.setCell ⟨g, o, none⟩ v) (o + 1) (xs.set o v) hs.1 (by omega)
    have hxl : xs.length = n * size := h.1
    refine ⟨?_, ?_⟩
    · have e1 : (xs.set o v).take (o + 1) ++ vs ++ (xs.set o v).drop (o + 1 + vs.length) = xs.take o ++ (v :: vs) ++ xs.drop (o + (vs.length + 1)) := by
        rw [List.take_succ_eq_append_getElem (by simp; omega), List.take_set_of_le (Nat.le_refl _), List.drop_set_of_lt (by omega)]
        simp [Nat.add_assoc, Nat.add_comm 1]
      have := h2.1
      rw [e1] at this
      exact this
    · exact hs.2.trans h2.2
theorem own_cutN {w : World} {base n m c size : Nat} {e : TypeId} {A : Option Addr} {xs : List Value} (h : w.ownsRow base e size (.slice A n c) n xs) (hm : m ≤ n) : w.ownsRow base e size (.slice A m c) m (xs.take (m * size)) := by
  have hl := h.1
  have hmn : m * size ≤ n * size := Nat.mul_le_mul_right _ hm
  refine ⟨by rw [List.length_take, hl]; omega, ?_⟩
  rcases h.2 with ⟨h1, h2⟩ | ⟨g, cap, cur, hv, hb, hg, hn, hc, hsz, ht⟩
  · subst h2
    have : m = 0 := by omega
    subst this
    cases h1
    exact .inl ⟨rfl, rfl⟩
  · cases hv
    refine .inr ⟨g, c, cur, rfl, hb, hg, by omega, hc, hsz, ?_⟩
    rw [← ht, List.take_take]
    congr 1
    omega
theorem zero_at {P : Program} {t : TypeId} {i0 : TypeInfo} {z : Value} (hi : P.info? t = some i0) (hz0 : i0.zero = some z) : ∀ w, (zeroValue t).run P w = .ok z w := by
  intro w
  simp [zeroValue, typeInfo, hi, hz0]
/-- 'clear' of one element of two cells -/
theorem run_clear_two {P : Program} (w : World) (t e ty : TypeId) (z z0 z1 : Value) (ht : P.underlying t = some (.slice e)) (hv : ∀ w, (zeroValue e).run P w = .ok z w) (hz : z.cells = #[z0, z1]) (h0 : z0.oneCell' = true) (h1 : z1.oneCell' = true) (b o c : Nat)
    (hc : ∀ j, j < 2 → (w.cell? ⟨b, o + j, none⟩).isSome = true) (hf : ∀ j, j < 2 → w.frozen? ⟨b, o + j, none⟩ = false) :
    (Builtin.clear_ #[t] ty #[.slice (some ⟨b, o, none⟩) 1 c]).run P w = .ok (.tuple #[]) (w.setCells b o [z0, z1]) := by
  have hzc : (Builtin.zeroCells z.cells 1).toList = [z0, z1] := by
    rw [hz]
    simp [Builtin.zeroCells, List.range, List.range.loop]
  have hst := run_storeCells_cells (P := P) b o [z0, z1] 0 w (by simpa using hc) (by simpa using hf) (by intro v hv'; simp at hv'; rcases hv' with rfl | rfl <;> assumption)
  simp only [Nat.add_zero] at hst
  simp [Builtin.clear_, run_underlying ht, hv, hzc, hst]
/-- the cells behind the deletion of one slot -/
theorem sls_erase (cs : List Slt) (k : Nat) (hk : k < cs.length) :
    ((((sls cs).take (k * 2) ++ (sls cs).drop ((k + 1) * 2) ++ (sls cs).drop (k * 2 + ((sls cs).drop ((k + 1) * 2)).length)).take ((cs.length - 1) * 2)) = sls (cs.eraseIdx k)) := by
  rw [List.take_append_of_le_length (by simp; omega), List.take_of_length_le (by simp; omega), sls_take, sls_drop, ← sls_append, List.eraseIdx_eq_take_drop_succ]
end Go.Proofs.Ytecbagdljgnloaa
