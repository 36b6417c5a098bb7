/-
  A chunk that was evacuated while a thread is pinned: the cases, worked out.
-/
import Derived.Test.YtfjnkneoddankaaGreatPinL
set_option linter.unusedVariables false
set_option maxRecDepth 1000000
namespace Go.Proofs.YtfjnkneoddankaaGreat
open Go Go.FL Go.Proofs

theorem pnAll_5 : pnAll 5 = true := by kernel_rfl

theorem pnAll_6 : pnAll 6 = true := by kernel_rfl

theorem pnAll_7 : pnAll 7 = true := by kernel_rfl

theorem pnAll_8 : pnAll 8 = true := by kernel_rfl

end Go.Proofs.YtfjnkneoddankaaGreat
