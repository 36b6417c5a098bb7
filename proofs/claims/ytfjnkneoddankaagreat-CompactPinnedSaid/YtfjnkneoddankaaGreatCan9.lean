/-
  A pin as a block by itself.
-/
import Derived.Test.YtfjnkneoddankaaGreatCan8
set_option linter.unusedVariables false
set_option linter.unusedSimpArgs false
set_option maxRecDepth 100000
namespace Go.Proofs.YtfjnkneoddankaaGreat
open Go Go.FL Go.Proofs

def h_inRaw : Hd := fun args H K => match args with
  | .c (.ptr p 0) :: r => match H.get p with
    | some (.cells 59 [.int .i64 a, .int .u64 b]) => h_inStep (.c (.ptr p 0) :: r) ⟨lset H.bl p (.obj (.in_ ⟨a, b⟩)), H.wr⟩ K
    | _ => h_inStep (.c (.ptr p 0) :: r) H K
  | args => h_inStep args H K

theorem h_inRaw_ok : HOK 27 h_inRaw := by
  intro args H K h
  unfold h_inRaw at h
  split at h
  · rename_i p r
    split at h
    · rename_i a b hg
      obtain ⟨h1, h2⟩ := h_inStep_ok _ _ _ h
      exact ⟨h1, CSpec.fold (x := .in_ ⟨a, b⟩) hg rfl rfl h2⟩
    · exact h_inStep_ok _ _ _ h
  · exact h_inStep_ok _ _ _ h

def tabK11 : List (FuncId × Hd) := (27, h_inRaw) :: tabK10
def ownK11 : FuncId → Option Hd := look tabK11
theorem allK11 : AllOK tabK11 := ⟨h_inRaw_ok, allK10⟩
theorem ownK11_ok : OwnOK Tryz.prog ownK11 := look_ok allK11

end Go.Proofs.YtfjnkneoddankaaGreat
