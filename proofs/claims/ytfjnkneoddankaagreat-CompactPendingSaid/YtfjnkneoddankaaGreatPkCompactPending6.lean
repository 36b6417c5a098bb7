/-
  A chunk in which somebody is about to show an object: the cases, worked out.
-/
import Derived.Test.YtfjnkneoddankaaGreatPkCompactPending5
set_option linter.unusedVariables false
set_option maxRecDepth 1000000
namespace Go.Proofs.YtfjnkneoddankaaGreat
open Go Go.FL Go.Proofs

theorem pdAll_1 : pdAll 1 = true := by kernel_rfl

theorem pdAll_2 : pdAll 2 = true := by kernel_rfl

theorem pdAll_3 : pdAll 3 = true := by kernel_rfl

theorem pdAll_4 : pdAll 4 = true := by kernel_rfl

end Go.Proofs.YtfjnkneoddankaaGreat
