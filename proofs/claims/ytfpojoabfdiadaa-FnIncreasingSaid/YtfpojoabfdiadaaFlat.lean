/- The elements of a list of lists, one behind the other: slices.Grow of nothing, slices.Concat, and the reference's. -/
import Derived.Test.YtfpojoabfdiadaaNest
import Derived.Test.YtfpojoabfdiadaaPad
namespace Go.Proofs.Ytfpojoabfdiadaa
open Go.RowKit
set_option linter.unusedVariables false
theorem flat_succ {zss : List (List Int)} {k : Nat} (h : k < zss.length) : (zss.take (k + 1)).flatten = (zss.take k).flatten ++ zss[k] := by
  rw [List.take_succ_eq_append_getElem h, List.flatten_append]; simp
theorem flat_len (zss : List (List Int)) : zss.flatten.length = (zss.map List.length).sum := by simp [List.length_flatten]
theorem flat_take_len (zss : List (List Int)) (k : Nat) : (zss.take k).flatten.length = ((zss.map List.length).take k).sum := by rw [flat_len, List.map_take]
theorem own_cut0 {w : World} {base n c : Nat} {e : TypeId} {A : Option Addr} {xs : List Value} (h : w.ownsRow base e 1 (.slice A n c) n xs) : w.ownsRow base e 1 (.slice A 0 c) 0 [] := by
  refine ⟨rfl, ?_⟩
  rcases h.2 with ⟨hv, hn⟩ | ⟨g, cap, cur, hv, hb, hg, hnc, hcm, hs, _⟩
  · simp only [Value.slice.injEq] at hv
    obtain ⟨rfl, rfl, rfl⟩ := hv
    exact .inl ⟨rfl, rfl⟩
  · simp only [Value.slice.injEq] at hv
    obtain ⟨rfl, _, rfl⟩ := hv
    exact .inr ⟨g, c, cur, rfl, hb, hg, Nat.zero_le _, hcm, hs, by simp⟩
end Go.Proofs.Ytfpojoabfdiadaa
