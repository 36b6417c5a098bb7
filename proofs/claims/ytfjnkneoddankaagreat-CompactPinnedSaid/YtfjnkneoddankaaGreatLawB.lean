/-
  What laws share: from a walk that ends in 'true' to a row.
-/
import Derived.Test.YtfjnkneoddankaaGreatLaw
import Derived.Test.YtfjnkneoddankaaGreatStepOk
import Derived.Lib.SmallJoins
import Derived.IntWalk
set_option linter.unusedVariables false
set_option linter.unusedSimpArgs false
set_option maxRecDepth 100000
namespace Go.FL
open Go

theorem and_small (x : Int) (n : Nat) (hn : n < 2 ^ 63) : ∃ t : Nat, t ≤ n ∧ IntKind.wrap IntKind.i64 ↑(BitVec.toNat (BitVec.ofInt (IntKind.bits IntKind.i64) x &&& BitVec.ofInt (IntKind.bits IntKind.i64) (n : Int))) = (t : Int) := by
  have h : (BitVec.ofInt (IntKind.bits IntKind.i64) x &&& BitVec.ofInt (IntKind.bits IntKind.i64) (n : Int)).toNat ≤ n := by
    rw [BitVec.toNat_and]
    refine Nat.le_trans Nat.and_le_right ?_
    rw [BitVec.toNat_ofInt]
    have : ((n : Int) % ((2 ^ IntKind.bits IntKind.i64 : Nat) : Int)).toNat = n % 2 ^ IntKind.bits IntKind.i64 := by
      rw [← Int.natCast_emod, Int.toNat_natCast]
    rw [this]
    exact Nat.mod_le _ _
  refine ⟨_, h, ?_⟩
  generalize (BitVec.ofInt (IntKind.bits IntKind.i64) x &&& BitVec.ofInt (IntKind.bits IntKind.i64) (n : Int)).toNat = t at h
  exact IntWalk.i64_in _ (by omega)

end Go.FL

namespace Go.Proofs.YtfjnkneoddankaaGreat
open Go Go.FL Go.Proofs Go.ChangeShapes Go.WideShapes Go.ChangeAt Go.RowKit

theorem Tryz.own : ownKnob Tryz.prog.godebug = none := by kernel_rfl
theorem Tryz.laidOut : laidOutB Tryz.prog = true := by kernel_rfl

theorem evL_use {own : FuncId → Option Hd} (hown : OwnOK Tryz.prog own) {lo : Nat → Option LHd} {fuel d : Nat} {f : FuncId} {args : List LV} {H : LH} {K : LV → LH → Prop} {B : Prop} (hlo : LoOK Tryz.prog (tmpsF Tryz.prog f) lo (loopsF Tryz.prog f))
    (e : evL Tryz.prog own lo fuel d f args H K = B) (hB : B) : (∃ fn, Tryz.prog.funcs[f]? = some fn ∧ fn.body.isSome = true) ∧ CSpec Tryz.prog f args H K := evL_ok fnOK mixed hown hlo (e.mpr hB)

/-- What a law's walk ends in. -/
def isTrue : Bool → Prop
  | true => True
  | false => False

theorem bool_calls {f : FuncId} {args : List LV} {vs : List Value} {W : World} (h : (∃ fn, Tryz.prog.funcs[f]? = some fn ∧ fn.body.isSome = true) ∧ CSpec Tryz.prog f args ⟨[], []⟩ (fun v _ => match v with
      | .c (.bool b) => isTrue b
      | _ => False)) (hr : RelVs [] args vs) :
    Calls Tryz.prog f vs.toArray W fun e W' => e = .returned (.bool true) ∧ Below W.heap.size W W' := by
  refine law_calls ⟨h.1, fun s vs w hr hH => Calls.mono (h.2 s vs w hr hH) ?_⟩ hr
  intro e W' he
  match e, he with
  | .returned v', ⟨s', v, H', hk, hv, hH, hp⟩ =>
    refine ⟨s', v, H', ?_, hv, hH, hp⟩
    dsimp only at hk ⊢
    split at hk
    · rename_i b
      cases b with
      | true => trivial
      | false => exact hk.elim
    · exact hk.elim

end Go.Proofs.YtfjnkneoddankaaGreat
