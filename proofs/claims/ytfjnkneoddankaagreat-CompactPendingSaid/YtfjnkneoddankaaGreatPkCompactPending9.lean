/-
  A chunk in which somebody is about to show an object: the cases, worked out.
-/
import Derived.Test.YtfjnkneoddankaaGreatPkCompactPending5
set_option linter.unusedVariables false
set_option maxRecDepth 1000000
namespace Go.Proofs.YtfjnkneoddankaaGreat
open Go Go.FL Go.Proofs

theorem pdAll_13 : pdAll 13 = true := by kernel_rfl

theorem pdAll_14 : pdAll 14 = true := by kernel_rfl

theorem pdAll_15 : pdAll 15 = true := by kernel_rfl

theorem pdAll_16 : pdAll 16 = true := by kernel_rfl

end Go.Proofs.YtfjnkneoddankaaGreat
