/-
  Numbers cut to their width, with the widths written out.
-/
import GoSem.Core.Code
import GoSem.Core.Next
set_option linter.unusedVariables false
namespace Go.FL

def wrI (n : Int) : Int :=
  let m := n % (18446744073709551616 : Int)
  if true && m ≥ (9223372036854775808 : Int) then m - (18446744073709551616 : Int) else m

def wrU (n : Int) : Int :=
  let m := n % (18446744073709551616 : Int)
  if false && m ≥ (9223372036854775808 : Int) then m - (18446744073709551616 : Int) else m

theorem wrI_eq (n : Int) : wrI n = IntKind.wrap .i64 n := rfl
theorem wrU_eq (n : Int) : wrU n = IntKind.wrap .u64 n := rfl

end Go.FL
