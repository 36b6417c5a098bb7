/-
  The pins: the walk.
-/
import Derived.Test.YtmhakaeahefmbaaPin2
set_option linter.unusedVariables false
set_option linter.unusedSimpArgs false
set_option maxRecDepth 100000
namespace Go.FL

def whoM (w : Int) : Int := IntKind.wrap IntKind.i64 ↑(BitVec.toNat (BitVec.ofInt (IntKind.bits IntKind.i64) w &&& BitVec.ofInt (IntKind.bits IntKind.i64) 3))

end Go.FL

namespace Go.Proofs.Ytmhakaeahefmbaa
open Go Go.FL Go.Proofs

theorem pinLo : LoOK Try.prog (tmpsF Try.prog pinF) (fun _ => some lhPin) (loopsF Try.prog pinF) := by
  have h : loopsF Try.prog pinF = [loopF Try.prog pinF 0] := by kernel_rfl
  rw [h]
  intro c hc hd he
  have hc : c = loopF Try.prog pinF 0 := by simpa using hc
  subst hc
  cases he
  exact lhPin_ok

theorem pins_ev (x1 x2 x3 x4 x5 x6 : Int) (x7 : Bool) (w : Int) (K : Bool → Prop) :
    evL Try.prog own11 (fun _ => some lhPin) 10 20 pinF [.agg [.int .i64 x1, .int .i64 x2, .int .u64 x3, .int .i64 x4, .int .i64 x5, .int .i64 x6, .bool x7], .c (.int .i64 w)] ⟨[], []⟩ (fun v H₁ => match v with
      | .c (.bool b) => K b
      | _ => False) =
    (bif actOk (cutKind x1) (cutVal x5) (cutVal x6) then
      bif !decide (PMem.peek (arM 4 6 4 40) (IntKind.wrap .i64 (6 + whoM w)) = 0) then K false
      else pinsGood ⟨4, 6, 4, 40, 100, 600, 3⟩ (whoM w) 300 0 (actMk (cutKind x1) x2 x3 x4 (cutVal x5) (cutVal x6) x7) (arM 4 6 4 40) = true ∧ ∀ bl : List LB, K true
    else K false) := by kernel_rfl

end Go.Proofs.Ytmhakaeahefmbaa
