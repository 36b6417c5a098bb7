/-
  A chunk that was evacuated while a thread is pinned: the cases, worked out.
-/
import Derived.Test.YtfjnkneoddankaaGreatPinL
set_option linter.unusedVariables false
set_option maxRecDepth 1000000
namespace Go.Proofs.YtfjnkneoddankaaGreat
open Go Go.FL Go.Proofs

theorem pnAll_1 : pnAll 1 = true := by kernel_rfl

theorem pnAll_2 : pnAll 2 = true := by kernel_rfl

theorem pnAll_3 : pnAll 3 = true := by kernel_rfl

theorem pnAll_4 : pnAll 4 = true := by kernel_rfl

end Go.Proofs.YtfjnkneoddankaaGreat
