/-
  What is Own: the walk, and the plain law.
-/
import Derived.Test.YtmhakaeahefmbaaPin1
import Derived.IntWalk
set_option linter.unusedVariables false
set_option linter.unusedSimpArgs false
set_option maxRecDepth 100000
namespace Go.FL
open Go

abbrev oc : PCfg := ⟨1, 4, 4, 40, 100, 600, 3⟩

def ownSz (z : Int) : Int := IntKind.wrap .i64 (1 + IntKind.wrap .i64 ↑(BitVec.toNat (BitVec.ofInt (IntKind.bits IntKind.i64) z &&& BitVec.ofInt (IntKind.bits IntKind.i64) 15)))

def ownKind (k : Int) : Int := IntKind.wrap .i64 (2 + Int.tmod (IntKind.wrap .i64 (Int.tmod k 4 + 4)) 4)

def ownsA (z : Int) : PDone × PMem := doM oc 0 (arM 1 4 4 40) 1 z 0 0 0 0 false
def ownsB (z : Int) : PDone × PMem := doM oc 0 (ownsA z).2 1 z 0 0 0 0 true
def ownsP (z k x2 v : Int) : PDone × PMem := doM oc 0 (ownsB z).2 k x2 (ownsA z).1.h 0 v 0 true
def ownsQ (z k x2 v : Int) : PDone × PMem := doM oc 0 (ownsP z k x2 v).2 k x2 (ownsB z).1.h 0 v 0 false
def ownsR (z k x2 v : Int) : PDone × PMem := doM oc 0 (ownsQ z k x2 v).2 k x2 (ownsB z).1.h 0 v 0 true
def ownsS (z k x2 v : Int) : PDone × PMem := doM oc 0 (ownsR z k x2 v).2 k x2 (ownsA z).1.h 0 v 0 false

end Go.FL

namespace Go.Proofs.Ytmhakaeahefmbaa
open Go Go.FL Go.Proofs

theorem own_ev (z x1 x2 x3 x4 x5 x6 : Int) (x7 : Bool) (K : Bool → Prop) : evF Try.prog own11 10 20 8 [.c (.int .i64 z), .agg [.int .i64 x1, .int .i64 x2, .int .u64 x3, .int .i64 x4, .int .i64 x5, .int .i64 x6, .bool x7]] ⟨[], []⟩ (fun v H₁ => match v with
    | .c (.bool b) => K b
    | _ => False) =
    (bif decide ((ownsP (ownSz z) (ownKind (cutKind x1)) x2 (cutVal x5)).1.e = 3) then bif decide ((ownsQ (ownSz z) (ownKind (cutKind x1)) x2 (cutVal x5)).1.e = 3) then
      bif decide ((ownsR (ownSz z) (ownKind (cutKind x1)) x2 (cutVal x5)).1.e = 0) then K (decide ((ownsS (ownSz z) (ownKind (cutKind x1)) x2 (cutVal x5)).1.e = 0)) else K false else K false else K false) := by kernel_rfl

end Go.Proofs.Ytmhakaeahefmbaa
