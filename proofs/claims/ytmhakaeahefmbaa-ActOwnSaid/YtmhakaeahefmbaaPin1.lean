/-
  A cut of an act; the pins: the walk of a round.
-/
import Derived.Test.YtmhakaeahefmbaaAw1
set_option linter.unusedVariables false
set_option linter.unusedSimpArgs false
set_option maxRecDepth 100000
namespace Go.FL

def cutKind (x : Int) : Int := IntKind.wrap IntKind.i64 (1 + Int.tmod (IntKind.wrap IntKind.i64 (Int.tmod x 5 + 5)) 5)

def cutVal (x : Int) : Int := IntKind.wrap IntKind.i64 ↑(BitVec.toNat (BitVec.ofInt (IntKind.bits IntKind.i64) x &&& BitVec.ofInt (IntKind.bits IntKind.i64) 1099511627775))

end Go.FL

namespace Go.Proofs.Ytmhakaeahefmbaa
open Go Go.FL Go.Proofs

theorem cut_ev (x1 x2 x3 x4 x5 x6 : Int) (x7 : Bool) (K : Int → Int → Int → Int → Int → Int → Bool → Prop) : evF Try.prog own10 10 20 11 [.agg [.int .i64 x1, .int .i64 x2, .int .u64 x3, .int .i64 x4, .int .i64 x5, .int .i64 x6, .bool x7]] ⟨[], []⟩ (fun v H₁ => match v with
    | .agg [.int .i64 x1, .int .i64 x2, .int .u64 x3, .int .i64 x4, .int .i64 x5, .int .i64 x6, .bool x7] => K x1 x2 x3 x4 x5 x6 x7
    | _ => False) = K (cutKind x1) x2 x3 x4 (cutVal x5) (cutVal x6) x7 := by kernel_rfl

def h_cut : Hd := fun args H K => match args with
  | [.agg [.int .i64 x1, .int .i64 x2, .int .u64 x3, .int .i64 x4, .int .i64 x5, .int .i64 x6, .bool x7]] =>
    K (.agg [.int .i64 (cutKind x1), .int .i64 x2, .int .u64 x3, .int .i64 x4, .int .i64 (cutVal x5), .int .i64 (cutVal x6), .bool x7]) H
  | _ => False

theorem h_cut_ok : HOK 11 h_cut := by
  intro args H K h
  unfold h_cut at h
  split at h
  · rename_i x1 x2 x3 x4 x5 x6 x7
    have e := (cut_ev x1 x2 x3 x4 x5 x6 x7 (fun x1 x2 x3 x4 x5 x6 x7 => K (.agg [.int .i64 x1, .int .i64 x2, .int .u64 x3, .int .i64 x4, .int .i64 x5, .int .i64 x6, .bool x7]) H)).mpr h
    refine pure_ok (fuel := 10) (d := 20) own10_ok rfl e ?_
    intro v H₁ hv
    split at hv
    · exact ⟨rfl, hv⟩
    · exact hv.elim
  · exact h.elim

def tab11 : List (FuncId × Hd) := (11, h_cut) :: tab10

def own11 : FuncId → Option Hd := look tab11

theorem all11 : AllOK tab11 := ⟨h_cut_ok, all10⟩

theorem own11_ok : OwnOK Try.prog own11 := look_ok all11

end Go.Proofs.Ytmhakaeahefmbaa
