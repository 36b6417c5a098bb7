/-
  A chunk that was evacuated while a thread is pinned: the cases, worked out.
-/
import Derived.Test.YtfjnkneoddankaaGreatPinL
set_option linter.unusedVariables false
set_option maxRecDepth 1000000
namespace Go.Proofs.YtfjnkneoddankaaGreat
open Go Go.FL Go.Proofs

theorem pnAll_9 : pnAll 9 = true := by kernel_rfl

theorem pnAll_10 : pnAll 10 = true := by kernel_rfl

theorem pnAll_11 : pnAll 11 = true := by kernel_rfl

theorem pnAll_12 : pnAll 12 = true := by kernel_rfl

end Go.Proofs.YtfjnkneoddankaaGreat
