/- BuildTree, the program's side. -/
import Derived.Test.YtifjihpnhmemgaaTreeEq
namespace Go.Proofs.Ytifjihpnhmemgaa
open Go.RowKit
set_option linter.unusedVariables false
theorem own4 {w : World} {B n g : Nat} {t T : TypeId} {v : Value} {xs : List Value} {cs : Array Value} (h : w.ownsRow B t 1 v n xs) (hb : Blk w g T cs) (ht : t ≠ T) (a b c d : Value) :
    ((((w.setCell ⟨g, 0, none⟩ a).setCell ⟨g, 1, none⟩ b).setCell ⟨g, 2, none⟩ c).setCell ⟨g, 3, none⟩ d).ownsRow B t 1 v n xs := by
  have hn := own_blk_ne h hb ht
  exact own_setCell (own_setCell (own_setCell (own_setCell h (p := ⟨g, 0, none⟩) hn _) (p := ⟨g, 1, none⟩) hn _) (p := ⟨g, 2, none⟩) hn _) (p := ⟨g, 3, none⟩) hn _
theorem below4 {w w1 : World} {B g : Nat} (h : Below B w w1) (hg : B ≤ g) (a b c d : Value) : Below B w ((((w1.setCell ⟨g, 0, none⟩ a).setCell ⟨g, 1, none⟩ b).setCell ⟨g, 2, none⟩ c).setCell ⟨g, 3, none⟩ d) :=
  Below.setCell (Below.setCell (Below.setCell (Below.setCell h (p := ⟨g, 0, none⟩) hg a) (p := ⟨g, 1, none⟩) hg b) (p := ⟨g, 2, none⟩) hg c) (p := ⟨g, 3, none⟩) hg d
theorem blk4 {w : World} {g : Nat} {T : TypeId} {a b c d a' b' c' d' : Value} (h : Blk w g T #[a, b, c, d]) :
    Blk ((((w.setCell ⟨g, 0, none⟩ a').setCell ⟨g, 1, none⟩ b').setCell ⟨g, 2, none⟩ c').setCell ⟨g, 3, none⟩ d') g T #[a', b', c', d'] := by
  have := (((h.set_ 0 a').set_ 1 b').set_ 2 c').set_ 3 d'
  simpa using this
theorem TreeRC.of_own {w : World} {base base' tI tB k cK cD cL : Nat} {AK AD AL : Option Addr} {ks ls : List Int} {ds : List Bool} (h : TreeOwn w base tI tB k AK cK AD cD AL cL ks ds ls) (hb : base' ≤ base) :
    TreeRC w base' w.heap.size tI tB AK k cK AD k cD AL k cL ks ds ls := TreeRC.born h hb
theorem TreeRC.put4 {w : World} {base C g tI tB T nK cK nD cD nL cL : Nat} {AK AD AL : Option Addr} {ks ls : List Int} {ds : List Bool} {cs : Array Value} (h : TreeRC w base C tI tB AK nK cK AD nD cD AL nL cL ks ds ls) (hb : Blk w g T cs) (h1 : tI ≠ T) (h2 : tB ≠ T) (a b c d : Value) :
    TreeRC ((((w.setCell ⟨g, 0, none⟩ a).setCell ⟨g, 1, none⟩ b).setCell ⟨g, 2, none⟩ c).setCell ⟨g, 3, none⟩ d) base C tI tB AK nK cK AD nD cD AL nL cL ks ds ls :=
  ⟨own4 h.k hb h1 a b c d, own4 h.d hb h2 a b c d, own4 h.l hb h1 a b c d, h.ne, h.kC, h.dC, h.lC⟩
theorem TreeRC.grownC {w : World} {base tI tB nK cK nD cD nL cL C : Nat} {AK AD AL : Option Addr} {ks ls : List Int} {ds : List Bool} (h : TreeRC w base C tI tB AK nK cK AD nD cD AL nL cL ks ds ls) : TreeRC w base w.heap.size tI tB AK nK cK AD nD cD AL nL cL ks ds ls :=
  ⟨h.k, h.d, h.l, h.ne, fun q hq => (own_lt h.k q hq).2, fun q hq => (own_lt h.d q hq).2, fun q hq => (own_lt h.l q hq).2⟩
theorem TreeRC.nil (w : World) (base tI tB : Nat) : TreeRC w base w.heap.size tI tB none 0 0 none 0 0 none 0 0 [] [] [] :=
  ⟨World.ownsRow_nil _ _ _ _, World.ownsRow_nil _ _ _ _, World.ownsRow_nil _ _ _ _, .inl rfl, (by intro q hq; cases hq), (by intro q hq; cases hq), (by intro q hq; cases hq)⟩
def btOk (ks : List Int) : Bool := inB ks.length 1 16 && ks.all keyB
def btK (ks : List Int) : List Int := if btOk ks then ks else []
def btD (ks : List Int) : List Bool := if btOk ks then List.replicate ks.length false else []
def btL (ks : List Int) : List Int := if btOk ks then loserI ks (List.replicate ks.length false) else []
def btW (ks : List Int) : Int := if btOk ks then (winnerV ks (List.replicate ks.length false) : Nat) else 0
theorem bt_lens (ks : List Int) : (btK ks).length ≤ 16 ∧ (btD ks).length ≤ 16 ∧ (btL ks).length ≤ 16 := by
  unfold btK btD btL
  cases h : btOk ks
  · simp
  · simp only [btOk, Bool.and_eq_true] at h
    have := (inB_iff.1 h.1).2
    simp [loserI_len]; omega
end Go.Proofs.Ytifjihpnhmemgaa
