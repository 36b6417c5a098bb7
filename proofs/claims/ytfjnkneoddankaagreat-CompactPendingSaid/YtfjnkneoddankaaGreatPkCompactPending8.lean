/-
  A chunk in which somebody is about to show an object: the cases, worked out.
-/
import Derived.Test.YtfjnkneoddankaaGreatPkCompactPending5
set_option linter.unusedVariables false
set_option maxRecDepth 1000000
namespace Go.Proofs.YtfjnkneoddankaaGreat
open Go Go.FL Go.Proofs

theorem pdAll_9 : pdAll 9 = true := by kernel_rfl

theorem pdAll_10 : pdAll 10 = true := by kernel_rfl

theorem pdAll_11 : pdAll 11 = true := by kernel_rfl

theorem pdAll_12 : pdAll 12 = true := by kernel_rfl

end Go.Proofs.YtfjnkneoddankaaGreat
