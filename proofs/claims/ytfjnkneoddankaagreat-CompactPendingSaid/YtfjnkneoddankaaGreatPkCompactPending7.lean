/-
  A chunk in which somebody is about to show an object: the cases, worked out.
-/
import Derived.Test.YtfjnkneoddankaaGreatPkCompactPending5
set_option linter.unusedVariables false
set_option maxRecDepth 1000000
namespace Go.Proofs.YtfjnkneoddankaaGreat
open Go Go.FL Go.Proofs

theorem pdAll_5 : pdAll 5 = true := by kernel_rfl

theorem pdAll_6 : pdAll 6 = true := by kernel_rfl

theorem pdAll_7 : pdAll 7 = true := by kernel_rfl

theorem pdAll_8 : pdAll 8 = true := by kernel_rfl

end Go.Proofs.YtfjnkneoddankaaGreat
