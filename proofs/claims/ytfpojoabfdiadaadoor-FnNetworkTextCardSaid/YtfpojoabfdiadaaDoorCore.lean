/- Contracts of the small helpers: bounds, 'all', copies and comparisons of integer lists. -/
import Derived.Test.YtfpojoabfdiadaaDoorLib
import Derived.Test.YtfpojoabfdiadaaDoorProg
import Derived.WalkKit
import Derived.ProofKit
import Derived.WalkSpells
import Derived.WalkLawsBesides
import Derived.Deep.QuietTactic
import Derived.BigQuiet
import Derived.Deep.LoopGhost
import Derived.Deep.Light
import Derived.Handy
namespace Go.Proofs.YtfpojoabfdiadaaDoor
open Go.RowKit
set_option linter.unusedVariables false

theorem in_any (n lo hi : Int) (w : World) :
    Calls Tryd.prog 40 #[.int .i64 n, .int .i64 lo, .int .i64 hi] w fun e w' => e = .returned (.bool (inB n lo hi)) ∧ w = w' := by
  go_enter Tryd.func40, Tryd.ntmps40
  go_wp2
  all_goals
    go_ret
    refine ⟨retb ?_, rfl⟩
    first | exact inB_t (by assumption) | exact inB_f (by assumption)

theorem l1In_any (n lo hi : Int) (w : World) :
    Calls Tryd.prog 37 #[.int .i64 n, .int .i64 lo, .int .i64 hi] w fun e w' => e = .returned (.bool (inB n lo hi)) ∧ w = w' := by
  go_enter Tryd.func37, Tryd.ntmps37
  go_wp2
  all_goals
    go_ret
    refine ⟨retb ?_, rfl⟩
    first | exact inB_t (by assumption) | exact inB_f (by assumption)

end Go.Proofs.YtfpojoabfdiadaaDoor
