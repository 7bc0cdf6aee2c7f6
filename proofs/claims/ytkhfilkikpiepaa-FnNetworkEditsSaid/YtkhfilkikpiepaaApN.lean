/- ApplyNetwork at a list whose length goes by another name. -/
import Derived.Test.YtkhfilkikpiepaaApplyW
namespace Go.Proofs.Ytkhfilkikpiepaa
open Go.RowKit
set_option linter.unusedVariables false
/-- a valid network on a valid list of its width -/
theorem ApplyNetwork_n (W n : Nat) (A : Option Addr) (cs : List (Int × Int)) (c : Nat) (D : Option Addr) (zs : List Int) (d : Nat) (w : World) (hok : netOk (W : Int) cs = true) (hv : vList zs = true) (hn : zs.length = n) (hW : n = W) (hx : Reads w w.heap.size 2 A cs.length (cmps cs)) (hx1 : Reads w w.heap.size 1 D n (ints zs)) :
    Calls Try.prog 16 #[.agg #[.int .i64 (W : Nat), .slice A cs.length c], .slice D n d] w fun e w' => ∃ A c, e = .returned (.tuple #[.slice A n c, .bool true]) ∧
      w'.ownsRow w.heap.size 3 1 (.slice A n c) n (ints (netRun cs zs)) ∧ Below w.heap.size w w' := by
  subst hn
  have hap : apOk (W : Int) cs zs = true := by
    simp only [apOk, Bool.and_eq_true, decide_eq_true_eq]
    exact ⟨hok, hv, by omega⟩
  have hav : apV (W : Int) cs zs = netRun cs zs := by rw [apV, if_pos hap]
  have hl : cs.length ≤ 200 := by simp [netOk] at hok; exact hok.2.1
  have h64 : zs.length ≤ 64 := vList_len' hv
  refine (ApplyNetwork_any (W : Int) A cs c D zs d w hx (by omega) hx1 (by omega)).mono ?_
  rintro e w' ⟨P, p, rfl, o, b⟩
  rw [hav, netRun_len] at o
  exact ⟨P, p, by rw [hav, netRun_len, hap], o, b⟩
end Go.Proofs.Ytkhfilkikpiepaa
