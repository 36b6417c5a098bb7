/-
  What awakes.
-/
import Derived.Test.YtmhakaeahefmbaaAr1
set_option linter.unusedVariables false
set_option linter.unusedSimpArgs false
set_option maxRecDepth 100000
namespace Go.Proofs.Ytmhakaeahefmbaa
open Go Go.FL Go.Proofs

theorem awake_ev (K : Bool → Prop) : evF Try.prog own9 10 20 10 [] ⟨[], []⟩ (fun v H₁ => match v with
    | .c (.bool b) => K b
    | _ => False) = K true := by kernel_rfl

def h_awake : Hd := fun args H K => match args with
  | [] => K (.c (.bool true)) H
  | _ => False

theorem h_awake_ok : HOK 10 h_awake := by
  intro args H K h
  unfold h_awake at h
  split at h
  · have e := awake_ev (fun x => K (.c (.bool x)) H)
    have e := e.mpr h
    refine pure_ok (fuel := 10) (d := 20) own9_ok rfl e ?_
    intro v H₁ hv
    split at hv
    · exact ⟨rfl, hv⟩
    · exact hv.elim
  · exact h.elim

def tab10 : List (FuncId × Hd) := (10, h_awake) :: tab9

def own10 : FuncId → Option Hd := look tab10

theorem all10 : AllOK tab10 := ⟨h_awake_ok, all9⟩

theorem own10_ok : OwnOK Try.prog own10 := look_ok all10

def tabC : List (FuncId × Hd) := [(10, h_awake), (14, h_actNew)]

def ownC : FuncId → Option Hd := look tabC

theorem allC : AllOK tabC := ⟨h_awake_ok, h_actNew_ok, trivial⟩

theorem ownC_ok : OwnOK Try.prog ownC := look_ok allC

end Go.Proofs.Ytmhakaeahefmbaa
