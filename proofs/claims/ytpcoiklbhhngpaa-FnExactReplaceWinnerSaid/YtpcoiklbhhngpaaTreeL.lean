/- Trees, as the walks of the laws use them. -/
import Derived.Test.YtpcoiklbhhngpaaTreeSz
import Derived.Test.YtpcoiklbhhngpaaTreeBS
namespace Go.Proofs.Ytpcoiklbhhngpaa
open Go.RowKit
set_option linter.unusedVariables false
theorem TreeRC.rebase {w : World} {base base' tI tB nK cK nD cD nL cL C : Nat} {AK AD AL : Option Addr} {ks ls : List Int} {ds : List Bool} (h : TreeRC w base C tI tB AK nK cK AD nD cD AL nL cL ks ds ls) (hb : base' ≤ base) :
    TreeRC w base' C tI tB AK nK cK AD nD cD AL nL cL ks ds ls := ⟨own_base h.k hb, own_base h.d hb, own_base h.l hb, h.ne, h.kC, h.dC, h.lC⟩
theorem Blk.mid {w w' : World} {g B C : Nat} {T : TypeId} {cs : Array Value} (h : Blk w g T cs) (hm : Mid B C w w') (hv : g < B ∨ C ≤ g) : Blk w' g T cs := (hm.block g h.lt hv).trans h
end Go.Proofs.Ytpcoiklbhhngpaa
