/-
  Steps of the program's objects, as the evaluator has them.
-/
import Derived.Test.YtfjnkneoddankaaGreatModP
import Derived.Test.YtfjnkneoddankaaGreatModM
import Derived.Test.YtfjnkneoddankaaGreatSh4
import Derived.Test.YtfjnkneoddankaaGreatTw
set_option linter.unusedVariables false
set_option linter.unusedSimpArgs false
set_option maxRecDepth 100000
namespace Go.FL

def inStepK {R : Type} (bot : R) (tw : (Prop → Prop) → R → R) (c : PCfg) (who : Int) (x : PIn) (m : PMem) (K : Bool → PIn → PMem → R) : R :=
  bif decide (x.pc = 0) then
   K false ⟨1, ((PMem.eLoad m who 0).fst)⟩ ((PMem.eLoad m who 0).snd)
  else
   bif decide (x.pc = 1) then
    K false ⟨2, (x.epoch)⟩ (PMem.eStore m who (wrI (6 + who)) (wrU (x.epoch + 1)))
   else
    bif decide ((PMem.eLoad m who 0).fst = x.epoch) then
     K true ⟨(x.pc), (x.epoch)⟩ ((PMem.eLoad m who 0).snd)
    else
     K false ⟨1, ((PMem.eLoad m who 0).fst)⟩ ((PMem.eLoad m who 0).snd)

def inStep (c : PCfg) (who : Int) (x : PIn) (m : PMem) : Bool × PIn × PMem := inStepK (false, x, m) twV c who x m fun r x m => (r, x, m)

theorem inStepK_eq (c : PCfg) (who : Int) (x : PIn) (m : PMem) (K : Bool → PIn → PMem → Prop) : inStepK False twP c who x m K = K (inStep c who x m).1 (inStep c who x m).2.1 (inStep c who x m).2.2 := by
  show _ = app3 K (inStepK (false, x, m) twV c who x m fun r x m => (r, x, m))
  unfold inStepK
  repeat' first
    | refine cond3 ?_ ?_
    | refine tw3 (fun p => by simp only [and_self]) ?_
    | exact rfl

end Go.FL
