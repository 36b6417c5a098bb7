/-
  A chunk of which nothing lives is free in the end: the laws' own watch.
-/
import Derived.Test.YtfjnkneoddankaaGreatBld
set_option linter.unusedVariables false
set_option linter.unusedSimpArgs false
set_option maxRecDepth 100000
namespace Go.Proofs.YtfjnkneoddankaaGreat
open Go Go.FL Go.Proofs

abbrev awC : PCfg := ⟨1, 20, 4, 20, 100, 600, 3⟩
def awB : Nat × (Nat → Int) × PMem := bldRun awC 0 2 false 7 0 (fun _ => 0) (arM 1 20 4 20)
def awD : PMem := dropRun2 awC 0 awB.2.1 6 0 awB.2.2

def awLo : Nat → Option LHd := fun k => match Nat.beq k 6 with
  | true => some lh_ab
  | false => some lh_ad

theorem awLoOK : LoOK Tryz.prog (tmpsF Tryz.prog 10) awLo (loopsF Tryz.prog 10) := by
  have h : loopsF Tryz.prog abF = [loopF Tryz.prog abF 0, loopF Tryz.prog abF 1] := by kernel_rfl
  have h0 : awLo (keyC (loopF Tryz.prog abF 0)) = some lh_ab := by kernel_rfl
  have h1 : awLo (keyC (loopF Tryz.prog abF 1)) = some lh_ad := by kernel_rfl
  show LoOK Tryz.prog (tmpsF Tryz.prog abF) awLo (loopsF Tryz.prog abF)
  rw [h]
  intro c hc hd he
  rcases List.mem_cons.1 hc with rfl | hc
  · rw [h0] at he; cases he; exact lh_ab_ok
  · have hc : c = loopF Tryz.prog abF 1 := by simpa using hc
    subst hc
    rw [h1] at he; cases he; exact lh_ad_ok

theorem awake_ev (K : Bool → Prop) : evL Tryz.prog ownK8 awLo 10 20 10 [] ⟨[], []⟩ (fun v _ => match v with | .c (.bool x) => K x | _ => False) =
    (((27 = 27 ∧ 32 = 32 ∧ (0 : Int) = 0) ∧ Nat.beq awB.1 0 = false) ∧ ∀ cap : Nat,
      ((27 = 27 ∧ 32 = 32 ∧ 32 = 32 ∧ (0 : Int) = 0 ∧ awB.1 = awB.1 ∧ cap = cap) ∧ Nat.ble 6 awB.1 = true ∧ awB.1 ≤ 1048576) ∧
      ((((0 : Int) ≤ 4 ∧ (4 : Int) ≤ 1000) ∧ roundsOk awC 4 comp0 awD = true) ∧ ∀ cap' : Nat, K true)) := by kernel_rfl

theorem aw_holds (K : Bool → Prop) (h : K true) : evL Tryz.prog ownK8 awLo 10 20 10 [] ⟨[], []⟩ (fun v _ => match v with | .c (.bool x) => K x | _ => False) := by
  have a1 : Nat.beq awB.1 0 = false := by kernel_rfl
  have a2 : Nat.ble 6 awB.1 = true := by kernel_rfl
  have a3 : Nat.ble awB.1 1048576 = true := by kernel_rfl
  have a4 : roundsOk awC 4 comp0 awD = true := by kernel_rfl
  exact (awake_ev K).mpr ⟨⟨⟨rfl, rfl, rfl⟩, a1⟩, fun cap => ⟨⟨⟨rfl, rfl, rfl, rfl, rfl, rfl⟩, a2, Nat.le_of_ble_eq_true a3⟩, ⟨⟨by decide, by decide⟩, a4⟩, fun _ => h⟩⟩

def h_awake : Hd := fun args H K => match args with
  | [] => K (.c (.bool true)) H
  | _ => False

theorem h_awake_ok : HOK 10 h_awake := by
  intro args H K h
  unfold h_awake at h
  split at h
  case h_2 => exact h.elim
  refine objs_of (ns := []) (xs := []) rfl (by simp) List.nodup_nil (args₁ := []) (fun s s₁ vs _ h => RelVs.low rfl h) (evL_ok fnOK mixed ownK8_ok awLoOK (aw_holds (fun x => K (.c (.bool x)) H) h)) ?_
  intro v H₁ hk
  split at hk
  · exact ⟨[], [], [], [], _, rfl, trivial, trivial, fun s₁ s' v' _ _ hr => RelV.low rfl hr, hk⟩
  · exact hk.elim

def tabK9 : List (FuncId × Hd) := (10, h_awake) :: tabK8
def ownK9 : FuncId → Option Hd := look tabK9
theorem allK9 : AllOK tabK9 := ⟨h_awake_ok, allK8⟩
theorem ownK9_ok : OwnOK Tryz.prog ownK9 := look_ok allK9

end Go.Proofs.YtfjnkneoddankaaGreat
