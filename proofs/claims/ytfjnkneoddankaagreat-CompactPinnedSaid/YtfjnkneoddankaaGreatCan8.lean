/-
  The contracts of steps.
-/
import Derived.Test.YtfjnkneoddankaaGreatAw14
import Derived.Test.YtfjnkneoddankaaGreatModS5
set_option linter.unusedVariables false
set_option linter.unusedSimpArgs false
set_option maxRecDepth 100000
namespace Go.Proofs.YtfjnkneoddankaaGreat
open Go Go.FL Go.Proofs

theorem inStep_ev (c : PCfg) (who : Int) (x : PIn) (m : PMem) (K : Bool → PIn → PMem → Prop) : evF Tryz.prog ownK9 10 20 27 [.c (.ptr 0 0), envV c 1 who] ⟨cat [(true, .in_ x), (false, .mem m)] 0, []⟩ (fun v H₁ => match v with | .c (.bool r) => (shIn H₁ 0 fun x' c' => shF H₁ 1 fun o c2 => match o with | .mem m' => (match chkAll [(true, .in_ x), (false, .mem m)] [c', c2] [] with | true => K r x' m' | false => False) | _ => False) | _ => False) = inStepK False twP c who x m K := by kernel_rfl

def h_inStep0 : Hd := fun args H K => match args with
  | [.c (.ptr p0 0), .agg [.int .i64 c1, .int .i64 c2, .int .i64 c3, .int .i64 c4, .int .i64 c5, .int .i64 c6, .int .i64 c7, .ptr m 0, .int .i64 who]] => match H.get p0, H.get m with
    | some (.obj (.in_ x)), some (.obj (.mem pm)) => K (.c (.bool (inStep ⟨c1, c2, c3, c4, c5, c6, c7⟩ who x pm).1)) ((H.put p0 (.obj (.in_ (inStep ⟨c1, c2, c3, c4, c5, c6, c7⟩ who x pm).2.1))).put m (.obj (.mem (inStep ⟨c1, c2, c3, c4, c5, c6, c7⟩ who x pm).2.2)))
    | _, _ => False
  | _ => False

theorem h_inStep0_ok : HOK 27 h_inStep0 := by
  intro args H K h
  unfold h_inStep0 at h
  split at h
  · rename_i p0 c1 c2 c3 c4 c5 c6 c7 m who
    split at h
    · rename_i x pm hp hm
      have e := (inStep_ev ⟨c1, c2, c3, c4, c5, c6, c7⟩ who x pm (fun r x' m' => K (.c (.bool r)) ((H.put p0 (.obj (.in_ x'))).put m (.obj (.mem m'))))).mpr (by rw [inStepK_eq]; exact h)
      exact step_ok ownK9_ok (c := ⟨c1, c2, c3, c4, c5, c6, c7⟩) (mk := .in_) (fun _ _ _ => shIn_ok) (by intro hh; cases hh) hp hm e
    · exact h.elim
  · exact h.elim

def h_inStep : Hd := orNil h_inStep0

theorem h_inStep_ok : HOK 27 h_inStep := orNil_ok ownK9_ok h_inStep0_ok (fuel := 10) (d := 20) (fun c who pm K h => cast (by kernel_rfl) h)

def tabK10 : List (FuncId × Hd) := [(27, h_inStep)] ++ tabK9

def ownK10 : FuncId → Option Hd := look tabK10

theorem allK10 : AllOK tabK10 := ⟨h_inStep_ok, allK9⟩

theorem ownK10_ok : OwnOK Tryz.prog ownK10 := look_ok allK10

end Go.Proofs.YtfjnkneoddankaaGreat
