/- slices.Delete of one element, onto a row of the call's own. -/
import Derived.Test.YtcecdodagmdnkaaPush
import Derived.Test.YtcecdodagmdnkaaShelf
import Derived.Laws.IdiomCopy
namespace Go.Proofs.Ytcecdodagmdnkaa
open Go.RowKit
set_option linter.unusedVariables false
theorem own_setCells {base n c g : Nat} {e : TypeId} (vs : List Value) : ∀ (w : World) (o : Nat) (xs : List Value), w.ownsRow base e 1 (.slice (some ⟨g, 0, none⟩) n c) n xs → o + vs.length ≤ n →
    (w.setCells g o vs).ownsRow base e 1 (.slice (some ⟨g, 0, none⟩) n c) n (xs.take o ++ vs ++ xs.drop (o + vs.length)) ∧ w.grownBy (w.setCells g o vs) (some g) := by
  induction vs with
  | nil => intro w o xs h ho; exact ⟨by simpa [World.setCells] using h, by simpa [World.setCells] using World.grownBy.refl w _⟩
  | cons v vs ih =>
    intro w o xs h ho
    simp only [List.length_cons] at ho
    have hs := h.stored o v
    have h2 := ih (w.setCell ⟨g, o, none⟩ v) (o + 1) (xs.set o v) hs.1 (by omega)
    have hxl : xs.length = n := by have := h.1; simpa using this
    refine ⟨?_, ?_⟩
    · have e1 : (xs.set o v).take (o + 1) ++ vs ++ (xs.set o v).drop (o + 1 + vs.length) = xs.take o ++ (v :: vs) ++ xs.drop (o + (vs.length + 1)) := by
        rw [List.take_succ_eq_append_getElem (by simp; omega), List.take_set_of_le (Nat.le_refl _), List.drop_set_of_lt (by omega)]
        simp [Nat.add_assoc, Nat.add_comm 1]
      have := h2.1
      rw [e1] at this
      exact this
    · exact hs.2.trans h2.2
theorem own_cut {w : World} {base n m c size : Nat} {e : TypeId} {A : Option Addr} {xs : List Value} (h : w.ownsRow base e size (.slice A n c) n xs) (hm : m ≤ n) : w.ownsRow base e size (.slice A m c) m (xs.take (m * size)) := by
  have hl := h.1
  have hmn : m * size ≤ n * size := Nat.mul_le_mul_right _ hm
  refine ⟨by rw [List.length_take, hl]; omega, ?_⟩
  rcases h.2 with ⟨h1, h2⟩ | ⟨g, cap, cur, hv, hb, hg, hn, hc, hsz, ht⟩
  · subst h2
    have : m = 0 := by omega
    subst this
    cases h1
    exact .inl ⟨rfl, rfl⟩
  · cases hv
    refine .inr ⟨g, c, cur, rfl, hb, hg, by omega, hc, hsz, ?_⟩
    rw [← ht, List.take_take]
    congr 1
    omega
theorem delete_any (base n c k : Nat) (A : Option Addr) (zs : List Int) (w : World) (h : w.ownsRow base 3 1 (.slice A n c) n (ints zs)) (hk : k < n) :
    Calls Try.prog 36 #[.slice A n c, .int .i64 (k : Nat), .int .i64 ((k : Int) + 1)] w fun e w' => e = .returned (.slice A (n - 1) c) ∧ w'.ownsRow base 3 1 (.slice A (n - 1) c) (n - 1) (ints (zs.eraseIdx k)) ∧ w.grownBy w' (Value.slice A n c).ownBlock := by
  obtain ⟨g, c', e, hbg, hgl, hnc, hcm⟩ := own_some h (by omega)
  cases e
  have hzl : zs.length = n := by have := h.1; simpa [ints] using this
  have hget : ∀ j, j < zs.length → w.cell? ⟨g, 0 + j, none⟩ = some (.int .i64 (zs.getD j 0)) := by
    intro j hj
    rw [Nat.zero_add, h.cellAt j (by omega), ints_get hj, List.getD_eq_getElem?_getD, List.getElem?_eq_getElem hj]; rfl
  have e1 : ((k : Int) + 1) = ((k + 1 : Nat) : Int) := by omega
  rw [e1]
  refine (Try.slices_Delete_int_cells g 0 n c k (k + 1) zs w (by omega) hnc (by unfold maxLen at hcm; exact hcm) (by omega) (by omega) hget (fun j hj => by rw [Nat.zero_add]; exact h.frozenAt j)).mono ?_
  rintro e w' ⟨rfl, q, rfl⟩
  have hd : (w.drewN q).ownsRow base 3 1 (.slice (some ⟨g, 0, none⟩) n c) n (ints zs) := h
  obtain ⟨h1, h2⟩ := own_setCells (((zs.take n).take k ++ (zs.take n).drop (k + 1) ++ List.replicate (k + 1 - k) 0).map (Value.int .i64)) (w.drewN q) 0 (ints zs) hd (by simp; omega)
  have h3 := own_cut h1 (m := n - 1) (by omega)
  refine ⟨by rw [show n - (k + 1 - k) = n - 1 by omega], ?_, ?_⟩
  · have e2 : ((ints zs).take 0 ++ ((zs.take n).take k ++ (zs.take n).drop (k + 1) ++ List.replicate (k + 1 - k) 0).map (Value.int .i64) ++ (ints zs).drop (0 + (((zs.take n).take k ++ (zs.take n).drop (k + 1) ++ List.replicate (k + 1 - k) 0).map (Value.int .i64)).length)).take ((n - 1) * 1) = ints (zs.eraseIdx k) := by
      rw [List.eraseIdx_eq_take_drop_succ, List.take_of_length_le (show zs.length ≤ n by omega), List.take_zero, List.nil_append, List.map_append, List.append_assoc, List.take_append_of_le_length (by simp; omega)]
      rw [List.take_of_length_le (by simp; omega)]
      rfl
    rw [e2] at h3
    exact h3
  · exact ⟨h2.os, h2.tape, h2.output, h2.size, h2.block⟩
end Go.Proofs.Ytcecdodagmdnkaa
