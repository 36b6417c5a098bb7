/-
  A chunk that was evacuated while a thread is pinned: the cases, worked out.
-/
import Derived.Test.YtfjnkneoddankaaGreatPinL
set_option linter.unusedVariables false
set_option maxRecDepth 1000000
namespace Go.Proofs.YtfjnkneoddankaaGreat
open Go Go.FL Go.Proofs

theorem pnAll_13 : pnAll 13 = true := by kernel_rfl

theorem pnAll_14 : pnAll 14 = true := by kernel_rfl

theorem pnAll_15 : pnAll 15 = true := by kernel_rfl

theorem pnAll_16 : pnAll 16 = true := by kernel_rfl

end Go.Proofs.YtfjnkneoddankaaGreat
