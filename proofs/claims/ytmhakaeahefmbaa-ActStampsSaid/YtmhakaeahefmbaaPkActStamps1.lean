/-
  Numbers cut to their width, with the widths written out.
-/
import GoSem.Core.Code
import GoSem.Core.Next
import GoSem.Step
import Derived.Control
import Derived.Orders
import Derived.Laws.CopyRow
import Derived.Laws.Cells
import Derived.Tactics
import Derived.Laws.AppendOwn
import Derived.Great.BuildSlice
import Derived.OrdersHeld
set_option linter.unusedVariables false
namespace Go.FL

def wrI (n : Int) : Int :=
  let m := n % (18446744073709551616 : Int)
  if true && m ≥ (9223372036854775808 : Int) then m - (18446744073709551616 : Int) else m

def wrU (n : Int) : Int :=
  let m := n % (18446744073709551616 : Int)
  if false && m ≥ (9223372036854775808 : Int) then m - (18446744073709551616 : Int) else m

theorem wrI_eq (n : Int) : wrI n = IntKind.wrap .i64 n := rfl
theorem wrU_eq (n : Int) : wrU n = IntKind.wrap .u64 n := rfl

end Go.FL

/-
  The program's functions of plain words, as the evaluator has them.
-/
set_option linter.unusedVariables false
namespace Go.FL

def fitK {R : Type} (bot : R) (a b : Int) (K : Int → R) : R :=
  K (wrU (if b < if 0 > a then 0 else a then b else if 0 > a then 0 else a))

def fit (a b : Int) : Int := fitK (0) a b fun x0 => (x0)

theorem fitK_eq {R : Type} (bot : R) (a b : Int) (K : Int → R) : fitK bot a b K = K (fit a b) := by
  rfl

def putHandleK {R : Type} (bot : R) (a b : Int) (K : Int → R) : R :=
  K (wrU ↑(BitVec.toNat (BitVec.ofInt (IntKind.bits IntKind.u64) (wrU (if 65535 < if 0 > a then 0 else a then 65535 else if 0 > a then 0 else a)) ||| BitVec.ofInt (IntKind.bits IntKind.u64) (wrU (wrU (if 65535 < if 0 > b then 0 else b then 65535 else if 0 > b then 0 else b) * 65536)))))

def putHandle (a b : Int) : Int := putHandleK (0) a b fun x0 => (x0)

theorem putHandleK_eq {R : Type} (bot : R) (a b : Int) (K : Int → R) : putHandleK bot a b K = K (putHandle a b) := by
  rfl

def handleK {R : Type} (bot : R) (a : Int) (K : Int → Int → Bool → R) : R :=
  bif !decide (Int.fdiv a 4294967296 = 0) then
   K 0 0 false
  else
   bif decide (Int.fdiv a 65536 = 0) then
    K 0 0 false
   else
    K (wrI (wrU ↑(BitVec.toNat (BitVec.ofInt (IntKind.bits IntKind.u64) a &&& BitVec.ofInt (IntKind.bits IntKind.u64) 65535)))) (wrI (Int.fdiv a 65536)) true

def handle (a : Int) : Int × Int × Bool := handleK (0, 0, false) a fun x0 x1 x2 => (x0, x1, x2)

theorem handleK_eq {R : Type} (bot : R) (a : Int) (K : Int → Int → Bool → R) : handleK bot a K = K (handle a).1 (handle a).2.1 (handle a).2.2 := by
  unfold handle handleK
  simp only [Bool.cond_eq_ite]
  repeat' split
  all_goals first
    | rfl
    | (exfalso; simp_all; done)
    | (exfalso; omega)

def putSlotK {R : Type} (bot : R) (a b c d : Int) (K : Int → R) : R :=
  K (wrU ↑(BitVec.toNat (BitVec.ofInt (IntKind.bits IntKind.u64) (wrU ↑(BitVec.toNat (BitVec.ofInt (IntKind.bits IntKind.u64) (wrU ↑(BitVec.toNat (BitVec.ofInt (IntKind.bits IntKind.u64) (wrU (if 7 < if 0 > a then 0 else a then 7 else if 0 > a then 0 else a)) ||| BitVec.ofInt (IntKind.bits IntKind.u64) (wrU (wrU (if 1048575 < if 0 > b then 0 else b then 1048575 else if 0 > b then 0 else b) * 8))))) ||| BitVec.ofInt (IntKind.bits IntKind.u64) (wrU (wrU (if 65535 < if 0 > c then 0 else c then 65535 else if 0 > c then 0 else c) * 8388608))))) ||| BitVec.ofInt (IntKind.bits IntKind.u64) (wrU (wrU (if 4194303 < if 0 > d then 0 else d then 4194303 else if 0 > d then 0 else d) * 549755813888)))))

def putSlot (a b c d : Int) : Int := putSlotK (0) a b c d fun x0 => (x0)

theorem putSlotK_eq {R : Type} (bot : R) (a b c d : Int) (K : Int → R) : putSlotK bot a b c d K = K (putSlot a b c d) := by
  rfl

def slotOfK {R : Type} (bot : R) (a : Int) (K : Int → Int → Int → Int → R) : R :=
  K (wrI (wrU ↑(BitVec.toNat (BitVec.ofInt (IntKind.bits IntKind.u64) a &&& BitVec.ofInt (IntKind.bits IntKind.u64) 7)))) (wrI (wrU ↑(BitVec.toNat (BitVec.ofInt (IntKind.bits IntKind.u64) (Int.fdiv a 8) &&& BitVec.ofInt (IntKind.bits IntKind.u64) 1048575)))) (wrI (wrU ↑(BitVec.toNat (BitVec.ofInt (IntKind.bits IntKind.u64) (Int.fdiv a 8388608) &&& BitVec.ofInt (IntKind.bits IntKind.u64) 65535)))) (wrI (wrU ↑(BitVec.toNat (BitVec.ofInt (IntKind.bits IntKind.u64) (Int.fdiv a 549755813888) &&& BitVec.ofInt (IntKind.bits IntKind.u64) 4194303))))

def slotOf (a : Int) : Int × Int × Int × Int := slotOfK (0, 0, 0, 0) a fun x0 x1 x2 x3 => (x0, x1, x2, x3)

theorem slotOfK_eq {R : Type} (bot : R) (a : Int) (K : Int → Int → Int → Int → R) : slotOfK bot a K = K (slotOf a).1 (slotOf a).2.1 (slotOf a).2.2.1 (slotOf a).2.2.2 := by
  rfl

def putChunkK {R : Type} (bot : R) (a b c d : Int) (K : Int → R) : R :=
  K (wrU ↑(BitVec.toNat (BitVec.ofInt (IntKind.bits IntKind.u64) (wrU ↑(BitVec.toNat (BitVec.ofInt (IntKind.bits IntKind.u64) (wrU ↑(BitVec.toNat (BitVec.ofInt (IntKind.bits IntKind.u64) (wrU (if 3 < if 0 > a then 0 else a then 3 else if 0 > a then 0 else a)) ||| BitVec.ofInt (IntKind.bits IntKind.u64) (wrU (wrU (if 63 < if 0 > b then 0 else b then 63 else if 0 > b then 0 else b) * 4))))) ||| BitVec.ofInt (IntKind.bits IntKind.u64) (wrU (wrU (if 1048575 < if 0 > c then 0 else c then 1048575 else if 0 > c then 0 else c) * 256))))) ||| BitVec.ofInt (IntKind.bits IntKind.u64) (wrU (wrU (if 68719476735 < if 0 > d then 0 else d then 68719476735 else if 0 > d then 0 else d) * 268435456)))))

def putChunk (a b c d : Int) : Int := putChunkK (0) a b c d fun x0 => (x0)

theorem putChunkK_eq {R : Type} (bot : R) (a b c d : Int) (K : Int → R) : putChunkK bot a b c d K = K (putChunk a b c d) := by
  rfl

def chunkOfK {R : Type} (bot : R) (a : Int) (K : Int → Int → Int → Int → R) : R :=
  K (wrI (wrU ↑(BitVec.toNat (BitVec.ofInt (IntKind.bits IntKind.u64) a &&& BitVec.ofInt (IntKind.bits IntKind.u64) 3)))) (wrI (wrU ↑(BitVec.toNat (BitVec.ofInt (IntKind.bits IntKind.u64) (Int.fdiv a 4) &&& BitVec.ofInt (IntKind.bits IntKind.u64) 63)))) (wrI (wrU ↑(BitVec.toNat (BitVec.ofInt (IntKind.bits IntKind.u64) (Int.fdiv a 256) &&& BitVec.ofInt (IntKind.bits IntKind.u64) 1048575)))) (wrI (wrU ↑(BitVec.toNat (BitVec.ofInt (IntKind.bits IntKind.u64) (Int.fdiv a 268435456) &&& BitVec.ofInt (IntKind.bits IntKind.u64) 68719476735))))

def chunkOf (a : Int) : Int × Int × Int × Int := chunkOfK (0, 0, 0, 0) a fun x0 x1 x2 x3 => (x0, x1, x2, x3)

theorem chunkOfK_eq {R : Type} (bot : R) (a : Int) (K : Int → Int → Int → Int → R) : chunkOfK bot a K = K (chunkOf a).1 (chunkOf a).2.1 (chunkOf a).2.2.1 (chunkOf a).2.2.2 := by
  rfl

def putHeadK {R : Type} (bot : R) (a b c d : Int) (o : Bool) (K : Int → R) : R :=
  bif o then
   K (wrU ↑(BitVec.toNat (BitVec.ofInt (IntKind.bits IntKind.u64) (wrU ↑(BitVec.toNat (BitVec.ofInt (IntKind.bits IntKind.u64) (wrU ↑(BitVec.toNat (BitVec.ofInt (IntKind.bits IntKind.u64) (wrU ↑(BitVec.toNat (BitVec.ofInt (IntKind.bits IntKind.u64) (wrU (if 3 < if 0 > a then 0 else a then 3 else if 0 > a then 0 else a)) ||| BitVec.ofInt (IntKind.bits IntKind.u64) (wrU (wrU (if 65535 < if 0 > b then 0 else b then 65535 else if 0 > b then 0 else b) * 4))))) ||| BitVec.ofInt (IntKind.bits IntKind.u64) (wrU (wrU (if 65535 < if 0 > c then 0 else c then 65535 else if 0 > c then 0 else c) * 262144))))) ||| BitVec.ofInt (IntKind.bits IntKind.u64) (wrU (wrU (if 65535 < if 0 > d then 0 else d then 65535 else if 0 > d then 0 else d) * 17179869184))))) ||| BitVec.ofInt (IntKind.bits IntKind.u64) 1125899906842624)))
  else
   K (wrU ↑(BitVec.toNat (BitVec.ofInt (IntKind.bits IntKind.u64) (wrU ↑(BitVec.toNat (BitVec.ofInt (IntKind.bits IntKind.u64) (wrU ↑(BitVec.toNat (BitVec.ofInt (IntKind.bits IntKind.u64) (wrU (if 3 < if 0 > a then 0 else a then 3 else if 0 > a then 0 else a)) ||| BitVec.ofInt (IntKind.bits IntKind.u64) (wrU (wrU (if 65535 < if 0 > b then 0 else b then 65535 else if 0 > b then 0 else b) * 4))))) ||| BitVec.ofInt (IntKind.bits IntKind.u64) (wrU (wrU (if 65535 < if 0 > c then 0 else c then 65535 else if 0 > c then 0 else c) * 262144))))) ||| BitVec.ofInt (IntKind.bits IntKind.u64) (wrU (wrU (if 65535 < if 0 > d then 0 else d then 65535 else if 0 > d then 0 else d) * 17179869184)))))

def putHead (a b c d : Int) (o : Bool) : Int := putHeadK (0) a b c d o fun x0 => (x0)

theorem putHeadK_eq {R : Type} (bot : R) (a b c d : Int) (o : Bool) (K : Int → R) : putHeadK bot a b c d o K = K (putHead a b c d o) := by
  unfold putHead putHeadK
  simp only [Bool.cond_eq_ite]
  repeat' split
  all_goals first
    | rfl
    | (exfalso; simp_all; done)
    | (exfalso; omega)

def headOfK {R : Type} (bot : R) (a : Int) (K : Int → Int → Int → Int → Bool → R) : R :=
  K (wrI (wrU ↑(BitVec.toNat (BitVec.ofInt (IntKind.bits IntKind.u64) a &&& BitVec.ofInt (IntKind.bits IntKind.u64) 3)))) (wrI (wrU ↑(BitVec.toNat (BitVec.ofInt (IntKind.bits IntKind.u64) (Int.fdiv a 4) &&& BitVec.ofInt (IntKind.bits IntKind.u64) 65535)))) (wrI (wrU ↑(BitVec.toNat (BitVec.ofInt (IntKind.bits IntKind.u64) (Int.fdiv a 262144) &&& BitVec.ofInt (IntKind.bits IntKind.u64) 65535)))) (wrI (wrU ↑(BitVec.toNat (BitVec.ofInt (IntKind.bits IntKind.u64) (Int.fdiv a 17179869184) &&& BitVec.ofInt (IntKind.bits IntKind.u64) 65535)))) (decide (wrU ↑(BitVec.toNat (BitVec.ofInt (IntKind.bits IntKind.u64) (Int.fdiv a 1125899906842624) &&& BitVec.ofInt (IntKind.bits IntKind.u64) 1)) = 1))

def headOf (a : Int) : Int × Int × Int × Int × Bool := headOfK (0, 0, 0, 0, false) a fun x0 x1 x2 x3 x4 => (x0, x1, x2, x3, x4)

theorem headOfK_eq {R : Type} (bot : R) (a : Int) (K : Int → Int → Int → Int → Bool → R) : headOfK bot a K = K (headOf a).1 (headOf a).2.1 (headOf a).2.2.1 (headOf a).2.2.2.1 (headOf a).2.2.2.2 := by
  rfl

def putCellK {R : Type} (bot : R) (a : Int) (o : Bool) (c : Int) (K : Int → R) : R :=
  bif o then
   K (wrU ↑(BitVec.toNat (BitVec.ofInt (IntKind.bits IntKind.u64) (wrU (if 1099511627775 < if 0 > a then 0 else a then 1099511627775 else if 0 > a then 0 else a)) ||| BitVec.ofInt (IntKind.bits IntKind.u64) (wrU ↑(BitVec.toNat (BitVec.ofInt (IntKind.bits IntKind.u64) 9223372036854775808 ||| BitVec.ofInt (IntKind.bits IntKind.u64) (wrU (wrU (if 4194303 < if 0 > c then 0 else c then 4194303 else if 0 > c then 0 else c) * 1099511627776))))))))
  else
   K (wrU (if 1099511627775 < if 0 > a then 0 else a then 1099511627775 else if 0 > a then 0 else a))

def putCell (a : Int) (o : Bool) (c : Int) : Int := putCellK (0) a o c fun x0 => (x0)

theorem putCellK_eq {R : Type} (bot : R) (a : Int) (o : Bool) (c : Int) (K : Int → R) : putCellK bot a o c K = K (putCell a o c) := by
  unfold putCell putCellK
  simp only [Bool.cond_eq_ite]
  repeat' split
  all_goals first
    | rfl
    | (exfalso; simp_all; done)
    | (exfalso; omega)

def cellOfK {R : Type} (bot : R) (a : Int) (K : Int → Bool → Int → R) : R :=
  bif decide (Int.fdiv a 9223372036854775808 = 1) then
   K (wrI (wrU ↑(BitVec.toNat (BitVec.ofInt (IntKind.bits IntKind.u64) a &&& BitVec.ofInt (IntKind.bits IntKind.u64) 1099511627775)))) (decide (Int.fdiv a 9223372036854775808 = 1)) (wrI (wrU ↑(BitVec.toNat (BitVec.ofInt (IntKind.bits IntKind.u64) (Int.fdiv a 1099511627776) &&& BitVec.ofInt (IntKind.bits IntKind.u64) 4194303))))
  else
   K (wrI (wrU ↑(BitVec.toNat (BitVec.ofInt (IntKind.bits IntKind.u64) a &&& BitVec.ofInt (IntKind.bits IntKind.u64) 1099511627775)))) (decide (Int.fdiv a 9223372036854775808 = 1)) 0

def cellOf (a : Int) : Int × Bool × Int := cellOfK (0, false, 0) a fun x0 x1 x2 => (x0, x1, x2)

theorem cellOfK_eq {R : Type} (bot : R) (a : Int) (K : Int → Bool → Int → R) : cellOfK bot a K = K (cellOf a).1 (cellOf a).2.1 (cellOf a).2.2 := by
  unfold cellOf cellOfK
  simp only [Bool.cond_eq_ite]
  repeat' split
  all_goals first
    | rfl
    | (exfalso; simp_all; done)
    | (exfalso; omega)

def putTopK {R : Type} (bot : R) (a b : Int) (K : Int → R) : R :=
  K (wrU ↑(BitVec.toNat (BitVec.ofInt (IntKind.bits IntKind.u64) (wrU (if 65536 < if 0 > wrI ((if 65535 < a then 65535 else a) + 1) then 0 else wrI ((if 65535 < a then 65535 else a) + 1) then 65536 else if 0 > wrI ((if 65535 < a then 65535 else a) + 1) then 0 else wrI ((if 65535 < a then 65535 else a) + 1))) ||| BitVec.ofInt (IntKind.bits IntKind.u64) (wrU (wrU (if 68719476735 < if 0 > b then 0 else b then 68719476735 else if 0 > b then 0 else b) * 131072)))))

def putTop (a b : Int) : Int := putTopK (0) a b fun x0 => (x0)

theorem putTopK_eq {R : Type} (bot : R) (a b : Int) (K : Int → R) : putTopK bot a b K = K (putTop a b) := by
  rfl

def topOfK {R : Type} (bot : R) (a : Int) (K : Int → Int → R) : R :=
  K (wrI (wrI (wrU ↑(BitVec.toNat (BitVec.ofInt (IntKind.bits IntKind.u64) a &&& BitVec.ofInt (IntKind.bits IntKind.u64) 131071))) - 1)) (wrI (wrU ↑(BitVec.toNat (BitVec.ofInt (IntKind.bits IntKind.u64) (Int.fdiv a 131072) &&& BitVec.ofInt (IntKind.bits IntKind.u64) 68719476735))))

def topOf (a : Int) : Int × Int := topOfK (0, 0) a fun x0 x1 => (x0, x1)

theorem topOfK_eq {R : Type} (bot : R) (a : Int) (K : Int → Int → R) : topOfK bot a K = K (topOf a).1 (topOf a).2 := by
  rfl

def lOpenK {R : Type} (bot : R) (a : Int) (K : Int → R) : R :=
  K (wrI (2 + a))

def lOpen (a : Int) : Int := lOpenK (0) a fun x0 => (x0)

theorem lOpenK_eq {R : Type} (bot : R) (a : Int) (K : Int → R) : lOpenK bot a K = K (lOpen a) := by
  rfl

def lPinK {R : Type} (bot : R) (a : Int) (K : Int → R) : R :=
  K (wrI (6 + a))

def lPin (a : Int) : Int := lPinK (0) a fun x0 => (x0)

theorem lPinK_eq {R : Type} (bot : R) (a : Int) (K : Int → R) : lPinK bot a K = K (lPin a) := by
  rfl

def lSlotK {R : Type} (bot : R) (c1 c2 c3 c4 c5 c6 c7 : Int) (a : Int) (K : Int → R) : R :=
  K (wrI (wrI (6 + c1) + wrI (2 * a)))

def lSlot (c1 c2 c3 c4 c5 c6 c7 : Int) (a : Int) : Int := lSlotK (0) c1 c2 c3 c4 c5 c6 c7 a fun x0 => (x0)

theorem lSlotK_eq {R : Type} (bot : R) (c1 c2 c3 c4 c5 c6 c7 : Int) (a : Int) (K : Int → R) : lSlotK bot c1 c2 c3 c4 c5 c6 c7 a K = K (lSlot c1 c2 c3 c4 c5 c6 c7 a) := by
  rfl

def lChunkK {R : Type} (bot : R) (c1 c2 c3 c4 c5 c6 c7 : Int) (a : Int) (K : Int → R) : R :=
  K (wrI (wrI (wrI (6 + c1) + wrI (2 * c2)) + wrI (3 * a)))

def lChunk (c1 c2 c3 c4 c5 c6 c7 : Int) (a : Int) : Int := lChunkK (0) c1 c2 c3 c4 c5 c6 c7 a fun x0 => (x0)

theorem lChunkK_eq {R : Type} (bot : R) (c1 c2 c3 c4 c5 c6 c7 : Int) (a : Int) (K : Int → R) : lChunkK bot c1 c2 c3 c4 c5 c6 c7 a K = K (lChunk c1 c2 c3 c4 c5 c6 c7 a) := by
  rfl

def lBaseK {R : Type} (bot : R) (c1 c2 c3 c4 c5 c6 c7 : Int) (a : Int) (K : Int → R) : R :=
  K (wrI (wrI (wrI (wrI (6 + c1) + wrI (2 * c2)) + wrI (3 * c3)) + wrI (c4 * a)))

def lBase (c1 c2 c3 c4 c5 c6 c7 : Int) (a : Int) : Int := lBaseK (0) c1 c2 c3 c4 c5 c6 c7 a fun x0 => (x0)

theorem lBaseK_eq {R : Type} (bot : R) (c1 c2 c3 c4 c5 c6 c7 : Int) (a : Int) (K : Int → R) : lBaseK bot c1 c2 c3 c4 c5 c6 c7 a K = K (lBase c1 c2 c3 c4 c5 c6 c7 a) := by
  rfl

def lLenK {R : Type} (bot : R) (c1 c2 c3 c4 c5 c6 c7 : Int) (K : Int → R) : R :=
  K (wrI (wrI (wrI (wrI (6 + c1) + wrI (2 * c2)) + wrI (3 * c3)) + wrI (c4 * c3)))

def lLen (c1 c2 c3 c4 c5 c6 c7 : Int) : Int := lLenK (0) c1 c2 c3 c4 c5 c6 c7 fun x0 => (x0)

theorem lLenK_eq {R : Type} (bot : R) (c1 c2 c3 c4 c5 c6 c7 : Int) (K : Int → R) : lLenK bot c1 c2 c3 c4 c5 c6 c7 K = K (lLen c1 c2 c3 c4 c5 c6 c7) := by
  rfl

def lOfK {R : Type} (bot : R) (c1 c2 c3 c4 c5 c6 c7 : Int) (a : Int) (K : Int → R) : R :=
  bif decide (a < wrI (wrI (wrI (wrI (6 + c1) + wrI (2 * c2)) + wrI (3 * c3)) + wrI (c4 * 0))) then
   K (-1)
  else
   bif decide (wrI (wrI (wrI (wrI (6 + c1) + wrI (2 * c2)) + wrI (3 * c3)) + wrI (c4 * c3)) ≤ a) then
    K (-1)
   else
    bif decide (c4 = 0) then
     bot
    else
     K (wrI (Int.tdiv (wrI (a - wrI (wrI (wrI (wrI (6 + c1) + wrI (2 * c2)) + wrI (3 * c3)) + wrI (c4 * 0)))) c4))

def lOf (c1 c2 c3 c4 c5 c6 c7 : Int) (a : Int) : Int := lOfK (0) c1 c2 c3 c4 c5 c6 c7 a fun x0 => (x0)

theorem lOfK_eq {R : Type} (bot : R) (c1 c2 c3 c4 c5 c6 c7 : Int) (a : Int) (hc : c4 ≠ 0) (K : Int → R) : lOfK bot c1 c2 c3 c4 c5 c6 c7 a K = K (lOf c1 c2 c3 c4 c5 c6 c7 a) := by
  unfold lOf lOfK
  simp only [Bool.cond_eq_ite]
  repeat' split
  all_goals first
    | rfl
    | (exfalso; simp_all; done)
    | (exfalso; omega)

def lClassK {R : Type} (bot : R) (a : Int) (K : Int → R) : R :=
  bif decide (1 ≤ a) then
   bif decide (a ≤ wrI (2 * 2 ^ min (Int.toNat 0) (IntKind.bits IntKind.i64))) then
    K 0
   else
    bif decide (1 ≤ a) then
     bif decide (a ≤ wrI (2 * 2 ^ min (Int.toNat (wrI (0 + 1))) (IntKind.bits IntKind.i64))) then
      K 1
     else
      bif decide (1 ≤ a) then
       bif decide (a ≤ wrI (2 * 2 ^ min (Int.toNat (wrI (wrI (0 + 1) + 1))) (IntKind.bits IntKind.i64))) then
        K 2
       else
        bif decide (1 ≤ a) then
         bif decide (a ≤ wrI (2 * 2 ^ min (Int.toNat (wrI (wrI (wrI (0 + 1) + 1) + 1))) (IntKind.bits IntKind.i64))) then
          K 3
         else
          K (-1)
        else
         K (-1)
      else
       bif decide (1 ≤ a) then
        bif decide (a ≤ wrI (2 * 2 ^ min (Int.toNat (wrI (wrI (wrI (0 + 1) + 1) + 1))) (IntKind.bits IntKind.i64))) then
         K 3
        else
         K (-1)
       else
        K (-1)
    else
     bif decide (1 ≤ a) then
      bif decide (a ≤ wrI (2 * 2 ^ min (Int.toNat (wrI (wrI (0 + 1) + 1))) (IntKind.bits IntKind.i64))) then
       K 2
      else
       bif decide (1 ≤ a) then
        bif decide (a ≤ wrI (2 * 2 ^ min (Int.toNat (wrI (wrI (wrI (0 + 1) + 1) + 1))) (IntKind.bits IntKind.i64))) then
         K 3
        else
         K (-1)
       else
        K (-1)
     else
      bif decide (1 ≤ a) then
       bif decide (a ≤ wrI (2 * 2 ^ min (Int.toNat (wrI (wrI (wrI (0 + 1) + 1) + 1))) (IntKind.bits IntKind.i64))) then
        K 3
       else
        K (-1)
      else
       K (-1)
  else
   bif decide (1 ≤ a) then
    bif decide (a ≤ wrI (2 * 2 ^ min (Int.toNat (wrI (0 + 1))) (IntKind.bits IntKind.i64))) then
     K 1
    else
     bif decide (1 ≤ a) then
      bif decide (a ≤ wrI (2 * 2 ^ min (Int.toNat (wrI (wrI (0 + 1) + 1))) (IntKind.bits IntKind.i64))) then
       K 2
      else
       bif decide (1 ≤ a) then
        bif decide (a ≤ wrI (2 * 2 ^ min (Int.toNat (wrI (wrI (wrI (0 + 1) + 1) + 1))) (IntKind.bits IntKind.i64))) then
         K 3
        else
         K (-1)
       else
        K (-1)
     else
      bif decide (1 ≤ a) then
       bif decide (a ≤ wrI (2 * 2 ^ min (Int.toNat (wrI (wrI (wrI (0 + 1) + 1) + 1))) (IntKind.bits IntKind.i64))) then
        K 3
       else
        K (-1)
      else
       K (-1)
   else
    bif decide (1 ≤ a) then
     bif decide (a ≤ wrI (2 * 2 ^ min (Int.toNat (wrI (wrI (0 + 1) + 1))) (IntKind.bits IntKind.i64))) then
      K 2
     else
      bif decide (1 ≤ a) then
       bif decide (a ≤ wrI (2 * 2 ^ min (Int.toNat (wrI (wrI (wrI (0 + 1) + 1) + 1))) (IntKind.bits IntKind.i64))) then
        K 3
       else
        K (-1)
      else
       K (-1)
    else
     bif decide (1 ≤ a) then
      bif decide (a ≤ wrI (2 * 2 ^ min (Int.toNat (wrI (wrI (wrI (0 + 1) + 1) + 1))) (IntKind.bits IntKind.i64))) then
       K 3
      else
       K (-1)
     else
      K (-1)

def lClass (a : Int) : Int := lClassK (0) a fun x0 => (x0)

theorem lClassK_eq {R : Type} (bot : R) (a : Int) (K : Int → R) : lClassK bot a K = K (lClass a) := by
  unfold lClass lClassK
  simp only [Bool.cond_eq_ite]
  repeat' split
  all_goals first
    | rfl
    | (exfalso; simp_all; done)
    | (exfalso; omega)

def lRoomK {R : Type} (bot : R) (a : Int) (K : Int → R) : R :=
  bif decide (a < 0) then
   K 0
  else
   bif decide (a < 0) then
    bot
   else
    K (wrI (1 + wrI (2 * 2 ^ min (Int.toNat a) (IntKind.bits IntKind.i64))))

def lRoom (a : Int) : Int := lRoomK (0) a fun x0 => (x0)

theorem lRoomK_eq {R : Type} (bot : R) (a : Int) (K : Int → R) : lRoomK bot a K = K (lRoom a) := by
  unfold lRoom lRoomK
  simp only [Bool.cond_eq_ite]
  repeat' split
  all_goals first
    | rfl
    | (exfalso; simp_all; done)
    | (exfalso; omega)

def liveK {R : Type} (bot : R) (a b c d p q : Int) (K : Bool → R) : R :=
  bif decide (a = 1) then
   K (decide (c = q))
  else
   bif decide (a = 2) then
    K (decide (c = q))
   else
    bif decide (a = 4) then
     K (decide (c = q))
    else
     K false

def live (a b c d p q : Int) : Bool := liveK (false) a b c d p q fun x0 => (x0)

theorem liveK_eq {R : Type} (bot : R) (a b c d p q : Int) (K : Bool → R) : liveK bot a b c d p q K = K (live a b c d p q) := by
  unfold live liveK
  simp only [Bool.cond_eq_ite]
  repeat' split
  all_goals first
    | rfl
    | (exfalso; simp_all; done)
    | (exfalso; omega)

end Go.FL

/-
  The words of slots, chunks, heads, cells and tops: what is put in comes out.
-/
set_option linter.unusedVariables false
set_option linter.unusedSimpArgs false
set_option maxRecDepth 20000
namespace Go.FL
open Go

theorem wrU_id {n : Int} (h0 : 0 ≤ n) (h1 : n < 18446744073709551616) : wrU n = n := by
  unfold wrU
  simp only [Bool.false_and, Bool.false_eq_true, if_false]
  exact Int.emod_eq_of_lt h0 h1

theorem wrI_id {n : Int} (h0 : 0 ≤ n) (h1 : n < 9223372036854775808) : wrI n = n := by
  unfold wrI
  have h : n % 18446744073709551616 = n := Int.emod_eq_of_lt h0 (by omega)
  simp only [h, Bool.true_and, ge_iff_le, decide_eq_true_eq]
  rw [if_neg (by omega)]

theorem ofInt_nat (n : Nat) (h : n < 18446744073709551616) : (BitVec.ofInt (IntKind.bits .u64) (n : Int)).toNat = n := by
  have hb : IntKind.bits .u64 = 64 := rfl
  rw [hb, BitVec.toNat_ofInt]
  omega

/-- Bits laid beside each other. -/
theorem or_add (a b k : Nat) (ha : a < 2 ^ k) (hb : b % 2 ^ k = 0) (hs : a + b < 18446744073709551616) :
    wrU ↑(BitVec.toNat (BitVec.ofInt (IntKind.bits IntKind.u64) (a : Int) ||| BitVec.ofInt (IntKind.bits IntKind.u64) (b : Int))) = ((a + b : Nat) : Int) := by
  rw [BitVec.toNat_or, ofInt_nat a (by omega), ofInt_nat b (by omega)]
  have h : a ||| b = a + b := by
    obtain ⟨q, rfl⟩ : ∃ q, b = 2 ^ k * q := ⟨b / 2 ^ k, by have := Nat.div_add_mod b (2 ^ k); omega⟩
    rw [Nat.or_comm, ← Nat.two_pow_add_eq_or_of_lt ha, Nat.add_comm]
  rw [h]
  exact wrU_id (by omega) (by omega)

theorem or_addI {a b : Int} (k : Nat) (p : Int) (hp : p = ((2 ^ k : Nat) : Int)) (h0 : 0 ≤ a) (h1 : a < p) (h2 : 0 ≤ b) (h3 : b % p = 0) (hs : a + b < 18446744073709551616) :
    wrU ↑(BitVec.toNat (BitVec.ofInt (IntKind.bits IntKind.u64) a ||| BitVec.ofInt (IntKind.bits IntKind.u64) b)) = a + b := by
  obtain ⟨a, rfl⟩ := Int.eq_ofNat_of_zero_le h0
  obtain ⟨b, rfl⟩ := Int.eq_ofNat_of_zero_le h2
  subst hp
  rw [or_add a b k (by omega) (by omega) (by omega)]
  rfl

/-- The lowest bits. -/
theorem and_mod (a mask p k : Nat) (hp : p = 2 ^ k) (hm : mask + 1 = p) (ha : a < 18446744073709551616) (hk : p ≤ 18446744073709551616) :
    wrU ↑(BitVec.toNat (BitVec.ofInt (IntKind.bits IntKind.u64) (a : Int) &&& BitVec.ofInt (IntKind.bits IntKind.u64) (mask : Int))) = ((a % p : Nat) : Int) := by
  have h1 : 0 < p := by rw [hp]; exact Nat.two_pow_pos k
  have hmask : mask = 2 ^ k - 1 := by omega
  rw [BitVec.toNat_and, ofInt_nat a ha, ofInt_nat mask (by omega), hmask, Nat.and_two_pow_sub_one_eq_mod, ← hp]
  have := Nat.mod_le a p
  exact wrU_id (by omega) (by omega)

theorem fdiv_nat (a b : Nat) : Int.fdiv (a : Int) (b : Int) = ((a / b : Nat) : Int) := by
  rw [Int.fdiv_eq_ediv_of_nonneg _ (by omega)]
  rfl

theorem fitted {a b : Int} (h0 : 0 ≤ a) (h1 : a ≤ b) : (if b < if 0 > a then 0 else a then b else if 0 > a then 0 else a) = a := by
  rw [if_neg (show ¬ (0 > a) by omega), if_neg (by omega)]

theorem putSlot_eq {a b c d : Int} (ha : 0 ≤ a ∧ a ≤ 7) (hb : 0 ≤ b ∧ b ≤ 1048575) (hc : 0 ≤ c ∧ c ≤ 65535) (hd : 0 ≤ d ∧ d ≤ 4194303) :
    putSlot a b c d = a + b * 8 + c * 8388608 + d * 549755813888 := by
  unfold putSlot putSlotK
  rw [fitted ha.1 ha.2, fitted hb.1 hb.2, fitted hc.1 hc.2, fitted hd.1 hd.2]
  rw [wrU_id (n := a) (by omega) (by omega), wrU_id (n := b) (by omega) (by omega), wrU_id (n := c) (by omega) (by omega), wrU_id (n := d) (by omega) (by omega)]
  rw [wrU_id (n := b * 8) (by omega) (by omega), wrU_id (n := c * 8388608) (by omega) (by omega), wrU_id (n := d * 549755813888) (by omega) (by omega)]
  rw [or_addI (a := a) (b := b * 8) 3 8 rfl (by omega) (by omega) (by omega) (by omega) (by omega), or_addI (a := a + b * 8) (b := c * 8388608) 23 8388608 rfl (by omega) (by omega) (by omega) (by omega) (by omega),
    or_addI (a := a + b * 8 + c * 8388608) (b := d * 549755813888) 39 549755813888 rfl (by omega) (by omega) (by omega) (by omega) (by omega)]

theorem and_modI {a : Int} (mask p : Int) (k : Nat) (hp : p = ((2 ^ k : Nat) : Int)) (hm : mask + 1 = p) (h0 : 0 ≤ a) (ha : a < 18446744073709551616) (hk : p ≤ 18446744073709551616) :
    wrU ↑(BitVec.toNat (BitVec.ofInt (IntKind.bits IntKind.u64) a &&& BitVec.ofInt (IntKind.bits IntKind.u64) mask)) = a % p := by
  obtain ⟨a, rfl⟩ := Int.eq_ofNat_of_zero_le h0
  have hpos : 0 < 2 ^ k := Nat.two_pow_pos k
  obtain ⟨mask, rfl⟩ := Int.eq_ofNat_of_zero_le (show 0 ≤ mask by omega)
  subst hp
  rw [and_mod a mask (2 ^ k) k rfl (by omega) (by omega) (by omega)]
  rfl

theorem fdiv_ediv {a : Int} (b : Int) (h : 0 ≤ b) : Int.fdiv a b = a / b := Int.fdiv_eq_ediv_of_nonneg _ h

theorem slotOf_eq {w : Int} (h0 : 0 ≤ w) (hw : w < 18446744073709551616) :
    slotOf w = (w % 8, w / 8 % 1048576, w / 8388608 % 65536, w / 549755813888 % 4194304) := by
  unfold slotOf slotOfK
  rw [fdiv_ediv 8 (by omega), fdiv_ediv 8388608 (by omega), fdiv_ediv 549755813888 (by omega)]
  rw [and_modI 7 8 3 rfl rfl h0 hw (by omega), and_modI 1048575 1048576 20 rfl rfl (by omega) (by omega) (by omega), and_modI 65535 65536 16 rfl rfl (by omega) (by omega) (by omega), and_modI 4194303 4194304 22 rfl rfl (by omega) (by omega) (by omega)]
  rw [wrI_id (n := w % 8) (by omega) (by omega), wrI_id (n := w / 8 % 1048576) (by omega) (by omega), wrI_id (n := w / 8388608 % 65536) (by omega) (by omega), wrI_id (n := w / 549755813888 % 4194304) (by omega) (by omega)]

theorem slotOf_put {a b c d : Int} (ha : 0 ≤ a ∧ a ≤ 7) (hb : 0 ≤ b ∧ b ≤ 1048575) (hc : 0 ≤ c ∧ c ≤ 65535) (hd : 0 ≤ d ∧ d ≤ 4194303) : slotOf (putSlot a b c d) = (a, b, c, d) := by
  rw [putSlot_eq ha hb hc hd, slotOf_eq (by omega) (by omega)]
  simp only [Prod.mk.injEq]
  refine ⟨?_, ?_, ?_, ?_⟩ <;> omega

theorem putChunk_eq {a b c d : Int} (ha : 0 ≤ a ∧ a ≤ 3) (hb : 0 ≤ b ∧ b ≤ 63) (hc : 0 ≤ c ∧ c ≤ 1048575) (hd : 0 ≤ d ∧ d ≤ 68719476735) :
    putChunk a b c d = a + b * 4 + c * 256 + d * 268435456 := by
  unfold putChunk putChunkK
  rw [fitted ha.1 ha.2, fitted hb.1 hb.2, fitted hc.1 hc.2, fitted hd.1 hd.2]
  rw [wrU_id (n := a) (by omega) (by omega), wrU_id (n := b) (by omega) (by omega), wrU_id (n := c) (by omega) (by omega), wrU_id (n := d) (by omega) (by omega)]
  rw [wrU_id (n := b * 4) (by omega) (by omega), wrU_id (n := c * 256) (by omega) (by omega), wrU_id (n := d * 268435456) (by omega) (by omega)]
  rw [or_addI (a := a) (b := b * 4) 2 4 rfl (by omega) (by omega) (by omega) (by omega) (by omega), or_addI (a := a + b * 4) (b := c * 256) 8 256 rfl (by omega) (by omega) (by omega) (by omega) (by omega),
    or_addI (a := a + b * 4 + c * 256) (b := d * 268435456) 28 268435456 rfl (by omega) (by omega) (by omega) (by omega) (by omega)]

theorem chunkOf_eq {w : Int} (h0 : 0 ≤ w) (hw : w < 18446744073709551616) :
    chunkOf w = (w % 4, w / 4 % 64, w / 256 % 1048576, w / 268435456) := by
  unfold chunkOf chunkOfK
  rw [fdiv_ediv 4 (by omega), fdiv_ediv 256 (by omega), fdiv_ediv 268435456 (by omega)]
  rw [and_modI 3 4 2 rfl rfl h0 hw (by omega), and_modI 63 64 6 rfl rfl (by omega) (by omega) (by omega), and_modI 1048575 1048576 20 rfl rfl (by omega) (by omega) (by omega), and_modI 68719476735 68719476736 36 rfl rfl (by omega) (by omega) (by omega)]
  rw [wrI_id (n := w % 4) (by omega) (by omega), wrI_id (n := w / 4 % 64) (by omega) (by omega), wrI_id (n := w / 256 % 1048576) (by omega) (by omega), wrI_id (n := w / 268435456 % 68719476736) (by omega) (by omega)]
  have : w / 268435456 % 68719476736 = w / 268435456 := by omega
  rw [this]

theorem chunkOf_put {a b c d : Int} (ha : 0 ≤ a ∧ a ≤ 3) (hb : 0 ≤ b ∧ b ≤ 63) (hc : 0 ≤ c ∧ c ≤ 1048575) (hd : 0 ≤ d ∧ d ≤ 68719476735) : chunkOf (putChunk a b c d) = (a, b, c, d) := by
  rw [putChunk_eq ha hb hc hd, chunkOf_eq (by omega) (by omega)]
  simp only [Prod.mk.injEq]
  refine ⟨?_, ?_, ?_, ?_⟩ <;> omega

theorem putHead_eq {a b c d : Int} (o : Bool) (ha : 0 ≤ a ∧ a ≤ 3) (hb : 0 ≤ b ∧ b ≤ 65535) (hc : 0 ≤ c ∧ c ≤ 65535) (hd : 0 ≤ d ∧ d ≤ 65535) :
    putHead a b c d o = a + b * 4 + c * 262144 + d * 17179869184 + (if o = true then 1125899906842624 else 0) := by
  unfold putHead putHeadK
  rw [fitted ha.1 ha.2, fitted hb.1 hb.2, fitted hc.1 hc.2, fitted hd.1 hd.2]
  rw [wrU_id (n := a) (by omega) (by omega), wrU_id (n := b) (by omega) (by omega), wrU_id (n := c) (by omega) (by omega), wrU_id (n := d) (by omega) (by omega)]
  rw [wrU_id (n := b * 4) (by omega) (by omega), wrU_id (n := c * 262144) (by omega) (by omega), wrU_id (n := d * 17179869184) (by omega) (by omega)]
  rw [or_addI (a := a) (b := b * 4) 2 4 rfl (by omega) (by omega) (by omega) (by omega) (by omega), or_addI (a := a + b * 4) (b := c * 262144) 18 262144 rfl (by omega) (by omega) (by omega) (by omega) (by omega),
    or_addI (a := a + b * 4 + c * 262144) (b := d * 17179869184) 34 17179869184 rfl (by omega) (by omega) (by omega) (by omega) (by omega)]
  cases o with
  | true =>
    simp only [cond_true, if_true]
    rw [or_addI (a := a + b * 4 + c * 262144 + d * 17179869184) (b := 1125899906842624) 50 1125899906842624 rfl (by omega) (by omega) (by omega) (by omega) (by omega)]
  | false =>
    simp only [cond_false, Bool.false_eq_true, if_false]
    omega

theorem headOf_eq {w : Int} (h0 : 0 ≤ w) (hw : w < 18446744073709551616) :
    headOf w = (w % 4, w / 4 % 65536, w / 262144 % 65536, w / 17179869184 % 65536, decide (w / 1125899906842624 % 2 = 1)) := by
  unfold headOf headOfK
  rw [fdiv_ediv 4 (by omega), fdiv_ediv 262144 (by omega), fdiv_ediv 17179869184 (by omega), fdiv_ediv 1125899906842624 (by omega)]
  rw [and_modI 3 4 2 rfl rfl h0 hw (by omega), and_modI (a := w / 4) 65535 65536 16 rfl rfl (by omega) (by omega) (by omega), and_modI (a := w / 262144) 65535 65536 16 rfl rfl (by omega) (by omega) (by omega), and_modI (a := w / 17179869184) 65535 65536 16 rfl rfl (by omega) (by omega) (by omega),
    and_modI 1 2 1 rfl rfl (by omega) (by omega) (by omega)]
  rw [wrI_id (n := w % 4) (by omega) (by omega), wrI_id (n := w / 4 % 65536) (by omega) (by omega), wrI_id (n := w / 262144 % 65536) (by omega) (by omega), wrI_id (n := w / 17179869184 % 65536) (by omega) (by omega)]

theorem headOf_put {a b c d : Int} (o : Bool) (ha : 0 ≤ a ∧ a ≤ 3) (hb : 0 ≤ b ∧ b ≤ 65535) (hc : 0 ≤ c ∧ c ≤ 65535) (hd : 0 ≤ d ∧ d ≤ 65535) : headOf (putHead a b c d o) = (a, b, c, d, o) := by
  rw [putHead_eq o ha hb hc hd]
  cases o with
  | true =>
    simp only [if_true]
    rw [headOf_eq (by omega) (by omega)]
    simp only [Prod.mk.injEq, decide_eq_true_eq]
    refine ⟨?_, ?_, ?_, ?_, ?_⟩ <;> omega
  | false =>
    simp only [Bool.false_eq_true, if_false]
    rw [headOf_eq (by omega) (by omega)]
    simp only [Prod.mk.injEq, decide_eq_false_iff_not]
    refine ⟨?_, ?_, ?_, ?_, ?_⟩ <;> omega

/-- A cell that is not frozen. -/
theorem putCell_eq {a c : Int} (ha : 0 ≤ a ∧ a ≤ 1099511627775) : putCell a false c = a := by
  unfold putCell putCellK
  simp only [cond_false]
  rw [fitted ha.1 ha.2, wrU_id (by omega) (by omega)]

theorem putCell_frozen {a c : Int} (ha : 0 ≤ a ∧ a ≤ 1099511627775) (hc : 0 ≤ c ∧ c ≤ 4194303) : putCell a true c = a + 9223372036854775808 + c * 1099511627776 := by
  unfold putCell putCellK
  simp only [cond_true]
  rw [fitted ha.1 ha.2, fitted hc.1 hc.2, wrU_id (n := a) (by omega) (by omega), wrU_id (n := c) (by omega) (by omega), wrU_id (n := c * 1099511627776) (by omega) (by omega)]
  have e : wrU ↑(BitVec.toNat (BitVec.ofInt (IntKind.bits IntKind.u64) 9223372036854775808 ||| BitVec.ofInt (IntKind.bits IntKind.u64) (c * 1099511627776))) = c * 1099511627776 + 9223372036854775808 := by
    rw [BitVec.or_comm]
    exact or_addI (a := c * 1099511627776) (b := 9223372036854775808) 63 9223372036854775808 rfl (by omega) (by omega) (by omega) (by omega) (by omega)
  rw [e, or_addI (a := a) (b := c * 1099511627776 + 9223372036854775808) 40 1099511627776 rfl (by omega) (by omega) (by omega) (by omega) (by omega)]
  omega

theorem cellOf_eq {w : Int} (h0 : 0 ≤ w) (hw : w < 18446744073709551616) :
    cellOf w = (w % 1099511627776, decide (w / 9223372036854775808 = 1), if w / 9223372036854775808 = 1 then w / 1099511627776 % 4194304 else 0) := by
  unfold cellOf cellOfK
  rw [fdiv_ediv 9223372036854775808 (by omega), fdiv_ediv 1099511627776 (by omega)]
  rw [and_modI 1099511627775 1099511627776 40 rfl rfl h0 hw (by omega), and_modI 4194303 4194304 22 rfl rfl (by omega) (by omega) (by omega)]
  rw [wrI_id (n := w % 1099511627776) (by omega) (by omega), wrI_id (n := w / 1099511627776 % 4194304) (by omega) (by omega)]
  by_cases h : w / 9223372036854775808 = 1 <;> simp [h]

theorem cellOf_plain {a : Int} (ha : 0 ≤ a ∧ a ≤ 1099511627775) : cellOf a = (a, false, 0) := by
  rw [cellOf_eq (by omega) (by omega)]
  have h : a / 9223372036854775808 = 0 := by omega
  simp only [h, Prod.mk.injEq]
  refine ⟨by omega, by decide, by simp⟩

theorem putTop_eq {a b : Int} (ha : -1 ≤ a ∧ a ≤ 65535) (hb : 0 ≤ b ∧ b ≤ 68719476735) : putTop a b = a + 1 + b * 131072 := by
  unfold putTop putTopK
  rw [if_neg (show ¬ (65535 < a) by omega), wrI_id (n := a + 1) (by omega) (by omega), fitted (a := a + 1) (by omega) (by omega), fitted hb.1 hb.2, wrU_id (n := a + 1) (by omega) (by omega), wrU_id (n := b) (by omega) (by omega), wrU_id (n := b * 131072) (by omega) (by omega)]
  rw [or_addI (a := a + 1) (b := b * 131072) 17 131072 rfl (by omega) (by omega) (by omega) (by omega) (by omega)]

theorem wrI_pred {n : Int} (h0 : 0 ≤ n) (h1 : n < 9223372036854775808) : wrI (n - 1) = n - 1 := by
  unfold wrI
  by_cases h : n = 0
  · subst h; decide
  · have h2 : (n - 1) % 18446744073709551616 = n - 1 := Int.emod_eq_of_lt (by omega) (by omega)
    simp only [h2, Bool.true_and, ge_iff_le, decide_eq_true_eq]
    rw [if_neg (by omega)]

theorem topOf_eq {w : Int} (h0 : 0 ≤ w) (hw : w < 18446744073709551616) : topOf w = (w % 131072 - 1, w / 131072 % 68719476736) := by
  unfold topOf topOfK
  rw [fdiv_ediv 131072 (by omega)]
  rw [and_modI 131071 131072 17 rfl rfl h0 hw (by omega), and_modI 68719476735 68719476736 36 rfl rfl (by omega) (by omega) (by omega)]
  rw [wrI_id (n := w % 131072) (by omega) (by omega), wrI_pred (n := w % 131072) (by omega) (by omega), wrI_id (n := w / 131072 % 68719476736) (by omega) (by omega)]

theorem topOf_put {a b : Int} (ha : -1 ≤ a ∧ a ≤ 65535) (hb : 0 ≤ b ∧ b ≤ 68719476735) : topOf (putTop a b) = (a, b) := by
  rw [putTop_eq ha hb, topOf_eq (by omega) (by omega)]
  simp only [Prod.mk.injEq]
  refine ⟨?_, ?_⟩ <;> omega

theorem putHandle_eq {a b : Int} (ha : 0 ≤ a ∧ a ≤ 65535) (hb : 0 ≤ b ∧ b ≤ 65535) : putHandle a b = a + b * 65536 := by
  unfold putHandle putHandleK
  rw [fitted ha.1 ha.2, fitted hb.1 hb.2, wrU_id (n := a) (by omega) (by omega), wrU_id (n := b) (by omega) (by omega), wrU_id (n := b * 65536) (by omega) (by omega)]
  rw [or_addI (a := a) (b := b * 65536) 16 65536 rfl (by omega) (by omega) (by omega) (by omega) (by omega)]

theorem handle_eq {w : Int} (h0 : 0 ≤ w) (hw : w < 18446744073709551616) :
    handle w = if w / 4294967296 = 0 ∧ w / 65536 ≠ 0 then (w % 65536, w / 65536, true) else (0, 0, false) := by
  unfold handle handleK
  rw [fdiv_ediv 4294967296 (by omega), fdiv_ediv 65536 (by omega)]
  by_cases h1 : w / 4294967296 = 0
  · by_cases h2 : w / 65536 = 0
    · simp [h1, h2]
    · rw [and_modI 65535 65536 16 rfl rfl h0 hw (by omega), wrI_id (n := w % 65536) (by omega) (by omega), wrI_id (n := w / 65536) (by omega) (by omega)]
      simp [h1, h2]
  · simp [h1]

theorem handle_put {a b : Int} (ha : 0 ≤ a ∧ a ≤ 65535) (hb : 1 ≤ b ∧ b ≤ 65535) : handle (putHandle a b) = (a, b, true) := by
  rw [putHandle_eq ha (by omega), handle_eq (by omega) (by omega), if_pos (by omega)]
  simp only [Prod.mk.injEq, and_true]
  refine ⟨?_, ?_⟩ <;> omega

end Go.FL

/-
  The program's objects as plain records.
-/
namespace Go.FL

/-- mem.Mem: so many words, when each was another one last; steps; who; the last touch. -/
structure PMem where
  n : Nat
  w : Nat → Int
  t : Nat → Int
  steps : Int
  who : Int
  la : Int
  lw : Int
  lc : Bool

structure PTake where
  pc : Int
  top : Int
  next : Int
  slot : Int
  ok : Bool

structure PGive where
  pc : Int
  slot : Int
  top : Int

structure PPlace where
  cls : Int
  pc : Int
  opn : Int
  at_ : Int
  w : Int
  sa : Int
  sc : Int
  ok : Bool

structure PDone where
  e : Int
  h : Int
  v : Int
  st : Int
deriving DecidableEq

structure PAlloc where
  size : Int
  own : Bool
  pc : Int
  take : PTake
  at_ : Int
  gen : Int
  p : Option PPlace
  sa : Int
  sc : Int
  give : Option PGive
  out : PDone

structure PHelp where
  slot : Int
  w : Int
  size : Int
  i : Int
  cell : Int
  read : Bool
  won : Bool

structure PDrop where
  n : Int
  own : Bool
  hs : Int
  hg : Int
  pc : Int
  w : Int
  size : Int
  help : Option PHelp
  give : Option PGive
  out : PDone

structure PWant where
  kind : Int
  handle : Int
  index : Int
  value : Int
  old : Int

structure PAccess where
  x : PWant
  own : Bool
  hs : Int
  hg : Int
  pc : Int
  w : Int
  cell : Int
  seen : Int
  read : Int
  size : Int
  help : Option PHelp
  out : PDone

inductive PWork where
  | alloc (a : PAlloc)
  | drop (d : PDrop)
  | access (a : PAccess)

structure PIn where
  pc : Int
  epoch : Int

structure PAct where
  in_ : PIn
  pc : Int
  work : PWork
  out : PDone

structure PHead where
  kind : Int
  size : Int
  slot : Int
  gen : Int
  own : Bool

structure PMove where
  addr : Int
  head : PHead
  pc : Int
  w : Int
  p : Option PPlace
  sa : Int
  sc : Int
  got : Bool
  i : Int
  cell : Int
  n : Int
  out : Int

structure PAdv where
  pc : Int
  now : Int
  at_ : Int
  went : Bool

structure PSettle where
  chunk : Int
  pc : Int
  w : Int
  since : Int
  at_ : Int
  freed : Bool

/-- compact.Compactor's list of what was seen, column by column. -/
structure PSeenL where
  len : Nat
  st : Nat → Int
  cl : Nat → Int
  us : Nat → Int
  sp : Nat → Int
  lv : Nat → Int
  op : Nat → Bool

structure PWk where
  ev : Int
  lf : Int
  fr : Int
  mv : Int
  rd : Int
deriving DecidableEq

structure PComp where
  pc : Int
  seen : Option PSeenL
  at_ : Int
  pos : Int
  w : Int
  now : Int
  m : Option PMove
  a : Option PAdv
  s : Option PSettle
  work : PWk
  was : PWk
  idle : Int

/-- An object: what the abstract heap has under one name. -/
inductive Ob where
  | mem (m : PMem)
  | in_ (p : PIn)
  | give (g : PGive)
  | place (p : PPlace)
  | alloc (a : PAlloc)
  | help (h : PHelp)
  | drop (d : PDrop)
  | access (a : PAccess)
  | act (a : PAct)
  | move (m : PMove)
  | adv (a : PAdv)
  | settle (s : PSettle)
  | comp (c : PComp) (cap : Nat)

end Go.FL

/-
  The memory's operations, as the evaluator has them and in short.
-/
set_option linter.unusedVariables false
set_option linter.unusedSimpArgs false
namespace Go.FL

def upd (f : Nat → Int) (i : Nat) (v : Int) : Nat → Int := fun j => bif Nat.beq j (i) then v else f j

def PMem.by_ (m : PMem) (who : Int) : PMem := { m with who := who }

def PMem.touch (m : PMem) (who a : Int) : PMem := { m with steps := wrI (m.steps + 1), who := who, la := a, lw := who, lc := false }

def PMem.lay (m : PMem) (who a x : Int) : PMem :=
  { m with w := upd m.w a.toNat x, t := if m.w a.toNat = x then m.t else upd m.t a.toNat (wrI (m.steps + 1)), steps := wrI (m.steps + 1), who := who, la := a, lw := who, lc := !decide (m.w a.toNat = x) }

def PMem.eLoad (m : PMem) (who a : Int) : Int × PMem :=
  if a < 0 then (0, m.by_ who) else if (m.n : Int) ≤ a then (0, m.by_ who) else (m.w a.toNat, m.touch who a)

def PMem.eStore (m : PMem) (who a b : Int) : PMem :=
  if a < 0 then m.by_ who else if (m.n : Int) ≤ a then m.by_ who else m.lay who a b

def PMem.eCas (m : PMem) (who a b d : Int) : Bool × PMem :=
  if a < 0 then (false, m.by_ who) else if (m.n : Int) ≤ a then (false, m.by_ who) else if m.w a.toNat = b then (true, m.lay who a d) else (false, m.touch who a)

def PMem.eAdd (m : PMem) (who a b : Int) : PMem :=
  if a < 0 then m.by_ who else if (m.n : Int) ≤ a then m.by_ who else m.lay who a (wrU (m.w a.toNat + wrU b))

def PMem.peek (m : PMem) (a : Int) : Int :=
  if a < 0 then 0 else if (m.n : Int) ≤ a then 0 else m.w a.toNat

def PMem.when_ (m : PMem) (a : Int) : Int :=
  if a < 0 then 0 else if (m.n : Int) ≤ a then 0 else m.t a.toNat

def eLoadT (m : PMem) (who a b d : Int) (bot : Prop) (K : Int → PMem → Prop) : Prop :=
  bif decide (a < 0) then
   (m.n = m.n ∧ m.n = m.n ∧ m.n = m.n ∧ m.n = m.n ∧ m.n = m.n) ∧
   K 0 ⟨(m.n), (m.w), (m.t), (m.steps), (who), (m.la), (m.lw), (m.lc)⟩
  else
   bif decide (↑m.n ≤ a) then
    (m.n = m.n ∧ m.n = m.n ∧ m.n = m.n ∧ m.n = m.n ∧ m.n = m.n) ∧
    K 0 ⟨(m.n), (m.w), (m.t), (m.steps), (who), (m.la), (m.lw), (m.lc)⟩
   else
    bif decide (0 ≤ a ∧ a < ↑m.n) then
     (Int.toNat a < m.n) ∧
     (m.n = m.n ∧ m.n = m.n ∧ m.n = m.n ∧ m.n = m.n ∧ m.n = m.n) ∧
     K (m.w (Int.toNat a)) ⟨(m.n), (m.w), (m.t), (wrI (m.steps + 1)), (who), (a), (who), false⟩
    else
     bot

theorem eLoadT_of (m : PMem) (who a b d : Int) {K : Int → PMem → Prop} (h : K (m.eLoad who a).1 (m.eLoad who a).2) : eLoadT m who a b d False K := by
  unfold eLoadT
  by_cases h1 : a < 0
  · simp [PMem.eLoad, h1] at h ⊢
    exact h
  · by_cases h2 : (m.n : Int) ≤ a
    · simp [PMem.eLoad, h1, h2] at h ⊢
      exact h
    · have h3 : 0 ≤ a ∧ a < (m.n : Int) := by omega
      have h4 : a.toNat < m.n := by omega
      simp [PMem.eLoad, h1, h2, h3, h4] at h ⊢
      exact h

def eStoreT (m : PMem) (who a b d : Int) (bot : Prop) (K : PMem → Prop) : Prop :=
  bif decide (a < 0) then
   (m.n = m.n ∧ m.n = m.n ∧ m.n = m.n ∧ m.n = m.n ∧ m.n = m.n) ∧
   K ⟨(m.n), (m.w), (m.t), (m.steps), (who), (m.la), (m.lw), (m.lc)⟩
  else
   bif decide (↑m.n ≤ a) then
    (m.n = m.n ∧ m.n = m.n ∧ m.n = m.n ∧ m.n = m.n ∧ m.n = m.n) ∧
    K ⟨(m.n), (m.w), (m.t), (m.steps), (who), (m.la), (m.lw), (m.lc)⟩
   else
    bif decide (0 ≤ a ∧ a < ↑m.n) then
     (Int.toNat a < m.n) ∧
     bif !decide (m.w (Int.toNat a) = b) then
      bif decide (0 ≤ a ∧ a < ↑m.n) then
       (Int.toNat a < m.n) ∧
       bif decide (0 ≤ a ∧ a < ↑m.n) then
        (Int.toNat a < m.n) ∧
        (m.n = m.n ∧ m.n = m.n ∧ m.n = m.n ∧ m.n = m.n ∧ m.n = m.n) ∧
        K ⟨(m.n), (fun j => bif Nat.beq j (Int.toNat a) then b else m.w j), (fun j => bif Nat.beq j (Int.toNat a) then wrI (m.steps + 1) else m.t j), (wrI (m.steps + 1)), (who), (a), (who), (!decide (m.w (Int.toNat a) = b))⟩
       else
        bot
      else
       bot
     else
      bif decide (0 ≤ a ∧ a < ↑m.n) then
       (Int.toNat a < m.n) ∧
       (m.n = m.n ∧ m.n = m.n ∧ m.n = m.n ∧ m.n = m.n ∧ m.n = m.n) ∧
       K ⟨(m.n), (fun j => bif Nat.beq j (Int.toNat a) then b else m.w j), (m.t), (wrI (m.steps + 1)), (who), (a), (who), (!decide (m.w (Int.toNat a) = b))⟩
      else
       bot
    else
     bot

theorem eStoreT_of (m : PMem) (who a b d : Int) {K : PMem → Prop} (h : K (m.eStore who a b)) : eStoreT m who a b d False K := by
  unfold eStoreT
  by_cases h1 : a < 0
  · simp [PMem.eStore, h1] at h ⊢
    exact h
  · by_cases h2 : (m.n : Int) ≤ a
    · simp [PMem.eStore, h1, h2] at h ⊢
      exact h
    · have h3 : 0 ≤ a ∧ a < (m.n : Int) := by omega
      have h4 : a.toNat < m.n := by omega
      by_cases h5 : m.w a.toNat = b
      · simp [PMem.eStore, PMem.lay, upd, h1, h2, h3, h4, h5] at h ⊢
        exact h
      · simp [PMem.eStore, PMem.lay, upd, h1, h2, h3, h4, h5] at h ⊢
        exact h

def eCasT (m : PMem) (who a b d : Int) (bot : Prop) (K : Bool → PMem → Prop) : Prop :=
  bif decide (a < 0) then
   (m.n = m.n ∧ m.n = m.n ∧ m.n = m.n ∧ m.n = m.n ∧ m.n = m.n) ∧
   K false ⟨(m.n), (m.w), (m.t), (m.steps), (who), (m.la), (m.lw), (m.lc)⟩
  else
   bif decide (↑m.n ≤ a) then
    (m.n = m.n ∧ m.n = m.n ∧ m.n = m.n ∧ m.n = m.n ∧ m.n = m.n) ∧
    K false ⟨(m.n), (m.w), (m.t), (m.steps), (who), (m.la), (m.lw), (m.lc)⟩
   else
    bif decide (0 ≤ a ∧ a < ↑m.n) then
     (Int.toNat a < m.n) ∧
     bif !decide (m.w (Int.toNat a) = b) then
      (m.n = m.n ∧ m.n = m.n ∧ m.n = m.n ∧ m.n = m.n ∧ m.n = m.n) ∧
      K false ⟨(m.n), (m.w), (m.t), (wrI (m.steps + 1)), (who), (a), (who), false⟩
     else
      bif decide (0 ≤ a ∧ a < ↑m.n) then
       (Int.toNat a < m.n) ∧
       bif !decide (m.w (Int.toNat a) = d) then
        bif decide (0 ≤ a ∧ a < ↑m.n) then
         (Int.toNat a < m.n) ∧
         bif decide (0 ≤ a ∧ a < ↑m.n) then
          (Int.toNat a < m.n) ∧
          (m.n = m.n ∧ m.n = m.n ∧ m.n = m.n ∧ m.n = m.n ∧ m.n = m.n) ∧
          K true ⟨(m.n), (fun j => bif Nat.beq j (Int.toNat a) then d else m.w j), (fun j => bif Nat.beq j (Int.toNat a) then wrI (m.steps + 1) else m.t j), (wrI (m.steps + 1)), (who), (a), (who), (!decide (m.w (Int.toNat a) = d))⟩
         else
          bot
        else
         bot
       else
        bif decide (0 ≤ a ∧ a < ↑m.n) then
         (Int.toNat a < m.n) ∧
         (m.n = m.n ∧ m.n = m.n ∧ m.n = m.n ∧ m.n = m.n ∧ m.n = m.n) ∧
         K true ⟨(m.n), (fun j => bif Nat.beq j (Int.toNat a) then d else m.w j), (m.t), (wrI (m.steps + 1)), (who), (a), (who), (!decide (m.w (Int.toNat a) = d))⟩
        else
         bot
      else
       bot
    else
     bot

theorem eCasT_of (m : PMem) (who a b d : Int) {K : Bool → PMem → Prop} (h : K (m.eCas who a b d).1 (m.eCas who a b d).2) : eCasT m who a b d False K := by
  unfold eCasT
  by_cases h1 : a < 0
  · simp [PMem.eCas, h1] at h ⊢
    exact h
  · by_cases h2 : (m.n : Int) ≤ a
    · simp [PMem.eCas, h1, h2] at h ⊢
      exact h
    · have h3 : 0 ≤ a ∧ a < (m.n : Int) := by omega
      have h4 : a.toNat < m.n := by omega
      by_cases h5 : m.w a.toNat = b
      · by_cases h6 : m.w a.toNat = d
        · have h7 : b = d := by rw [← h5, h6]
          subst h7
          simp only [PMem.eCas, PMem.lay, upd, h1, h2, h3, h4, h5, if_true, if_false, decide_true, decide_false, Bool.not_true, Bool.not_false, cond_true, cond_false, and_self, true_and] at h ⊢
          exact h
        · have h7 : ¬ b = d := by rw [← h5]; exact h6
          simp only [PMem.eCas, PMem.lay, upd, h1, h2, h3, h4, h5, h7, if_true, if_false, decide_true, decide_false, Bool.not_true, Bool.not_false, cond_true, cond_false, and_self, true_and] at h ⊢
          exact h
      · simp [PMem.eCas, PMem.touch, h1, h2, h3, h4, h5] at h ⊢
        exact h

def eAddT (m : PMem) (who a b d : Int) (bot : Prop) (K : PMem → Prop) : Prop :=
  bif decide (a < 0) then
   (m.n = m.n ∧ m.n = m.n ∧ m.n = m.n ∧ m.n = m.n ∧ m.n = m.n) ∧
   K ⟨(m.n), (m.w), (m.t), (m.steps), (who), (m.la), (m.lw), (m.lc)⟩
  else
   bif decide (↑m.n ≤ a) then
    (m.n = m.n ∧ m.n = m.n ∧ m.n = m.n ∧ m.n = m.n ∧ m.n = m.n) ∧
    K ⟨(m.n), (m.w), (m.t), (m.steps), (who), (m.la), (m.lw), (m.lc)⟩
   else
    bif decide (0 ≤ a ∧ a < ↑m.n) then
     (Int.toNat a < m.n) ∧
     bif decide (0 ≤ a ∧ a < ↑m.n) then
      (Int.toNat a < m.n) ∧
      bif !decide (m.w (Int.toNat a) = wrU (m.w (Int.toNat a) + wrU b)) then
       bif decide (0 ≤ a ∧ a < ↑m.n) then
        (Int.toNat a < m.n) ∧
        bif decide (0 ≤ a ∧ a < ↑m.n) then
         (Int.toNat a < m.n) ∧
         (m.n = m.n ∧ m.n = m.n ∧ m.n = m.n ∧ m.n = m.n ∧ m.n = m.n) ∧
         K ⟨(m.n), (fun j => bif Nat.beq j (Int.toNat a) then wrU (m.w (Int.toNat a) + wrU b) else m.w j), (fun j => bif Nat.beq j (Int.toNat a) then wrI (m.steps + 1) else m.t j), (wrI (m.steps + 1)), (who), (a), (who), (!decide (m.w (Int.toNat a) = wrU (m.w (Int.toNat a) + wrU b)))⟩
        else
         bot
       else
        bot
      else
       bif decide (0 ≤ a ∧ a < ↑m.n) then
        (Int.toNat a < m.n) ∧
        (m.n = m.n ∧ m.n = m.n ∧ m.n = m.n ∧ m.n = m.n ∧ m.n = m.n) ∧
        K ⟨(m.n), (fun j => bif Nat.beq j (Int.toNat a) then wrU (m.w (Int.toNat a) + wrU b) else m.w j), (m.t), (wrI (m.steps + 1)), (who), (a), (who), (!decide (m.w (Int.toNat a) = wrU (m.w (Int.toNat a) + wrU b)))⟩
       else
        bot
     else
      bot
    else
     bot

theorem eAddT_of (m : PMem) (who a b d : Int) {K : PMem → Prop} (h : K (m.eAdd who a b)) : eAddT m who a b d False K := by
  unfold eAddT
  by_cases h1 : a < 0
  · simp [PMem.eAdd, h1] at h ⊢
    exact h
  · by_cases h2 : (m.n : Int) ≤ a
    · simp [PMem.eAdd, h1, h2] at h ⊢
      exact h
    · have h3 : 0 ≤ a ∧ a < (m.n : Int) := by omega
      have h4 : a.toNat < m.n := by omega
      by_cases h5 : m.w a.toNat = wrU (m.w a.toNat + wrU b)
      · simp only [PMem.eAdd, PMem.lay, upd, h1, h2, h3, h4, ← h5, if_true, if_false, decide_true, decide_false, Bool.not_true, Bool.not_false, cond_true, cond_false, and_self, true_and] at h ⊢
        exact h
      · simp only [PMem.eAdd, PMem.lay, upd, h1, h2, h3, h4, h5, if_true, if_false, decide_true, decide_false, Bool.not_true, Bool.not_false, cond_true, cond_false, and_self, true_and] at h ⊢
        exact h

def eNowT (m : PMem) (who a b d : Int) (bot : Prop) (K : Int → PMem → Prop) : Prop :=
  (m.n = m.n ∧ m.n = m.n ∧ m.n = m.n ∧ m.n = m.n ∧ m.n = m.n) ∧
  K (m.steps) ⟨(m.n), (m.w), (m.t), (m.steps), (m.who), (m.la), (m.lw), (m.lc)⟩

theorem eNowT_of (m : PMem) (who a b d : Int) {K : Int → PMem → Prop} (h : K m.steps m) : eNowT m who a b d False K := by
  unfold eNowT
  exact ⟨⟨rfl, rfl, rfl, rfl, rfl⟩, h⟩

def mPeekT (m : PMem) (who a b d : Int) (bot : Prop) (K : Int → PMem → Prop) : Prop :=
  bif decide (a < 0) then
   (m.n = m.n ∧ m.n = m.n ∧ m.n = m.n ∧ m.n = m.n ∧ m.n = m.n) ∧
   K 0 ⟨(m.n), (m.w), (m.t), (m.steps), (m.who), (m.la), (m.lw), (m.lc)⟩
  else
   bif decide (↑m.n ≤ a) then
    (m.n = m.n ∧ m.n = m.n ∧ m.n = m.n ∧ m.n = m.n ∧ m.n = m.n) ∧
    K 0 ⟨(m.n), (m.w), (m.t), (m.steps), (m.who), (m.la), (m.lw), (m.lc)⟩
   else
    bif decide (0 ≤ a ∧ a < ↑m.n) then
     (Int.toNat a < m.n) ∧
     (m.n = m.n ∧ m.n = m.n ∧ m.n = m.n ∧ m.n = m.n ∧ m.n = m.n) ∧
     K (m.w (Int.toNat a)) ⟨(m.n), (m.w), (m.t), (m.steps), (m.who), (m.la), (m.lw), (m.lc)⟩
    else
     bot

theorem mPeekT_of (m : PMem) (who a b d : Int) {K : Int → PMem → Prop} (h : K (m.peek a) m) : mPeekT m who a b d False K := by
  unfold mPeekT
  by_cases h1 : a < 0
  · simp [PMem.peek, h1] at h ⊢
    exact h
  · by_cases h2 : (m.n : Int) ≤ a
    · simp [PMem.peek, h1, h2] at h ⊢
      exact h
    · have h3 : 0 ≤ a ∧ a < (m.n : Int) := by omega
      have h4 : a.toNat < m.n := by omega
      simp [PMem.peek, h1, h2, h3, h4] at h ⊢
      exact h

def mWhenT (m : PMem) (who a b d : Int) (bot : Prop) (K : Int → PMem → Prop) : Prop :=
  bif decide (a < 0) then
   (m.n = m.n ∧ m.n = m.n ∧ m.n = m.n ∧ m.n = m.n ∧ m.n = m.n) ∧
   K 0 ⟨(m.n), (m.w), (m.t), (m.steps), (m.who), (m.la), (m.lw), (m.lc)⟩
  else
   bif decide (↑m.n ≤ a) then
    (m.n = m.n ∧ m.n = m.n ∧ m.n = m.n ∧ m.n = m.n ∧ m.n = m.n) ∧
    K 0 ⟨(m.n), (m.w), (m.t), (m.steps), (m.who), (m.la), (m.lw), (m.lc)⟩
   else
    bif decide (0 ≤ a ∧ a < ↑m.n) then
     (Int.toNat a < m.n) ∧
     (m.n = m.n ∧ m.n = m.n ∧ m.n = m.n ∧ m.n = m.n ∧ m.n = m.n) ∧
     K (m.t (Int.toNat a)) ⟨(m.n), (m.w), (m.t), (m.steps), (m.who), (m.la), (m.lw), (m.lc)⟩
    else
     bot

theorem mWhenT_of (m : PMem) (who a b d : Int) {K : Int → PMem → Prop} (h : K (m.when_ a) m) : mWhenT m who a b d False K := by
  unfold mWhenT
  by_cases h1 : a < 0
  · simp [PMem.when_, h1] at h ⊢
    exact h
  · by_cases h2 : (m.n : Int) ≤ a
    · simp [PMem.when_, h1, h2] at h ⊢
      exact h
    · have h3 : 0 ≤ a ∧ a < (m.n : Int) := by omega
      have h4 : a.toNat < m.n := by omega
      simp [PMem.when_, h1, h2, h3, h4] at h ⊢
      exact h

end Go.FL

/-
  An abstract evaluator over the program's code, continuation style, into Prop: names of blocks are concrete numbers, leaves are symbolic.
-/
namespace Go.FL

/-- A column of a block of rows. -/
inductive LCol where
  | int (k : IntKind) (f : Nat → Int)
  | bool (f : Nat → Bool)

/-- What is known of one cell. 'vsl', 'vpt': a slice that was handed in, whose rows are known; a place in it. -/
inductive LC where
  | any
  | int (k : IntKind) (n : Int)
  | bool (b : Bool)
  | str (s : ByteArray)
  | nilp
  | ptr (n off : Nat)
  | idx (n row w col : Nat)
  | nils
  | slice (n off len cap : Nat)
  | vsl (p : Option Addr) (len cap w : Nat) (cs : List LCol)
  | vpt (p : Option Addr) (len w : Nat) (cs : List LCol) (row col : Nat)
  | iface (t : TypeId) (v : LC)
  | nili
  | fn (f : FuncId)
  | nilf

inductive LP where
  | c (x : LC)
  | agg (l : List LC)

/-- What is known of a value. -/
inductive LV where
  | un
  | c (x : LC)
  | agg (l : List LC)
  | tup (l : List LP)

/-- What is known of a block. 'rows': 'n' of 'cap' rows are known, column by column. -/
inductive LB where
  | any
  | cells (e : TypeId) (l : List LC)
  | ints (e : TypeId) (k : IntKind) (n : Nat) (f : Nat → Int)
  | rows (e : TypeId) (w n cap : Nat) (cs : List LCol)
  | obj (x : Ob)

/-- The heap: the blocks by their names, and the names that were written. -/
structure LH where
  bl : List LB
  wr : List Nat

abbrev Tm := List (Nat × LV)

def lget {α : Type} : List α → Nat → Option α
  | [], _ => none
  | x :: r, n => match n with
    | 0 => some x
    | n + 1 => lget r n

def lset {α : Type} : List α → Nat → α → List α
  | [], _, _ => []
  | x :: r, n, y => match n with
    | 0 => y :: r
    | n + 1 => x :: lset r n y

def llen {α : Type} : List α → Nat
  | [] => 0
  | _ :: r => Nat.succ (llen r)

/-- 'n' elements from the place 'off' on. -/
def lsub {α : Type} : List α → Nat → Nat → Option (List α)
  | l, 0, n => ltake l n
  | [], _ + 1, 0 => none
  | [], _ + 1, _ + 1 => none
  | _ :: r, off + 1, n => lsub r off n
where ltake : List α → Nat → Option (List α)
  | _, 0 => some []
  | [], _ + 1 => none
  | x :: r, n + 1 => match ltake r n with
    | some l => some (x :: l)
    | none => none

/-- 'new' laid over 'l' from the place 'off' on. -/
def lover {α : Type} : List α → Nat → List α → Option (List α)
  | l, 0, new => lay l new
  | [], _ + 1, _ => none
  | x :: r, off + 1, new => match lover r off new with
    | some l => some (x :: l)
    | none => none
where lay : List α → List α → Option (List α)
  | l, [] => some l
  | [], _ :: _ => none
  | _ :: r, y :: new => match lay r new with
    | some l => some (y :: l)
    | none => none

def LCol.get : LCol → Nat → LC
  | .int k f, i => .int k (f i)
  | .bool f, i => .bool (f i)

def rowAt : List LCol → Nat → List LC
  | [], _ => []
  | c :: r, i => c.get i :: rowAt r i

def LCol.set : LCol → Nat → LC → Option LCol
  | .int k f, i, x => match x with
    | .int k' v => match decide (k' = k) with
      | true => some (.int k fun j => bif Nat.beq j (i) then v else f j)
      | false => none
    | _ => none
  | .bool f, i, x => match x with
    | .bool v => some (.bool fun j => bif Nat.beq j (i) then v else f j)
    | _ => none

/-- 'new' laid over row 'i' of the columns from the one numbered 'off' on. -/
def setCols : List LCol → Nat → Nat → List LC → Option (List LCol)
  | cs, i, 0, new => lay cs i new
  | [], _, _ + 1, _ => none
  | c :: r, i, off + 1, new => match setCols r i off new with
    | some l => some (c :: l)
    | none => none
where lay : List LCol → Nat → List LC → Option (List LCol)
  | cs, _, [] => some cs
  | [], _, _ :: _ => none
  | c :: r, i, x :: new => match c.set i x with
    | some c' => match lay r i new with
      | some l => some (c' :: l)
      | none => none
    | none => none

/-- Columns that have that row everywhere. -/
def newCols : List LC → Option (List LCol)
  | [] => some []
  | x :: r => match newCols r with
    | none => none
    | some l => match x with
      | .int k v => some (.int k (fun _ => v) :: l)
      | .bool v => some (.bool (fun _ => v) :: l)
      | _ => none

def Tm.get : Tm → Nat → LV
  | [], _ => .un
  | (d, v) :: r, t => match Nat.beq d t with
    | true => v
    | false => Tm.get r t

def LH.get (H : LH) (n : Nat) : Option LB := lget H.bl n
def LH.put (H : LH) (n : Nat) (b : LB) : LH := ⟨lset H.bl n b, n :: H.wr⟩
def LH.new (H : LH) (b : LB) : LH := ⟨H.bl ++ [b], H.wr⟩
def LH.len (H : LH) : Nat := llen H.bl

def ofConstC : Value → Option LC
  | .int k n => some (.int k n)
  | .bool b => some (.bool b)
  | .string s => some (.str s)
  | .pointer none => some .nilp
  | .slice none 0 0 => some .nils
  | .nilIface => some .nili
  | .nilFunc => some .nilf
  | _ => none

def ofConstL : List Value → Option (List LC)
  | [] => some []
  | v :: r => match ofConstC v with
    | none => none
    | some x => match ofConstL r with
      | none => none
      | some l => some (x :: l)

def ofConst (v : Value) : LV :=
  match v with
  | .agg cs => match ofConstL cs.toList with
    | some l => .agg l
    | none => .un
  | v => match ofConstC v with
    | some x => .c x
    | none => .un

def opnd (T : Tm) : Operand → LV
  | .tmp t => Tm.get T t
  | .const v => ofConst v
  | .func f => .c (.fn f)
  | .global _ => .un

def LV.cells : LV → Option (List LC)
  | .c x => some [x]
  | .agg l => some l
  | _ => none

def LV.part : LV → Option LP
  | .c x => some (.c x)
  | .agg l => some (.agg l)
  | _ => none

def LP.lv : LP → LV
  | .c x => .c x
  | .agg l => .agg l

section
variable (P : Program)

/-- Whether a type's values are rows of cells. -/
def aggT (t : TypeId) : Option Bool :=
  match P.underlying t with
  | some (.struct _) => some true
  | some (.array _ _) => some true
  | some _ => some false
  | none => none

def sizeT (t : TypeId) : Option Nat :=
  match P.info? t with
  | some i => some i.size
  | none => none

def zeroT (t : TypeId) : Option (List LC) :=
  match P.info? t with
  | some i => match i.zero with
    | some v => (ofConst v).cells
    | none => none
  | none => none

def fieldT (t : TypeId) (f : Nat) : Option Field :=
  match P.underlying t with
  | some (.struct fs) => lget fs.toList f
  | _ => none

def loadRow (t : TypeId) (l : List LC) (off : Nat) (K : LV → Prop) : Prop :=
  match aggT P t with
  | some true => match sizeT P t with
    | some n => match lsub l off n with
      | some cs => K (.agg cs)
      | none => False
    | none => False
  | some false => match lget l off with
    | some x => K (.c x)
    | none => False
  | none => False

def loadA (t : TypeId) (x : LV) (H : LH) (K : LV → Prop) : Prop :=
  match x with
  | .c (.ptr n off) => match H.get n with
    | some (.cells _ l) => loadRow P t l off K
    | _ => False
  | .c (.idx n row w col) => match H.get n with
    | some (.cells _ l) => loadRow P t l (row * w + col) K
    | some (.ints _ k m f) => match aggT P t with
      | some false => match w, col with
        | 1, 0 => row < m ∧ K (.c (.int k (f row)))
        | _, _ => False
      | _ => False
    | some (.rows _ w' m _ cs) => match Nat.beq w w' with
      | true => row < m ∧ loadRow P t (rowAt cs row) col K
      | false => False
    | _ => False
  | .c (.vpt _ _ _ cs row col) => loadRow P t (rowAt cs row) col K
  | _ => False

def storeA (t : TypeId) (x v : LV) (H : LH) (K : LH → Prop) : Prop :=
  match v.cells with
  | none => False
  | some cs => match sizeT P t with
    | none => False
    | some n => match Nat.beq (llen cs) n with
      | false => False
      | true => match x with
        | .c (.ptr b off) => match H.get b with
          | some (.cells e l) => match lover l off cs with
            | some l' => K (H.put b (.cells e l'))
            | none => False
          | _ => False
        | .c (.idx b row w col) => match H.get b with
          | some (.cells e l) => match lover l (row * w + col) cs with
            | some l' => K (H.put b (.cells e l'))
            | none => False
          | some (.ints e k m f) => match cs, w, col with
            | [.int k' i], 1, 0 => match decide (k' = k) with
              | true => row < m ∧ K (H.put b (.ints e k m fun j => bif Nat.beq j (row) then i else f j))
              | false => False
            | _, _, _ => False
          | some (.rows e w' m cap cols) => match Nat.beq w w' with
            | true => match setCols cols row col cs with
              | some cols' => row < m ∧ K (H.put b (.rows e w' m cap cols'))
              | none => False
            | false => False
          | _ => False
        | _ => False

def intA (op : BinOp) (k : IntKind) (a b : Int) (K : LV → Prop) : Prop :=
  match op with
  | .add => K (.c (.int k (k.wrap (a + b))))
  | .sub => K (.c (.int k (k.wrap (a - b))))
  | .mul => K (.c (.int k (k.wrap (a * b))))
  | .quo => match decide (b = 0) with
    | true => False
    | false => K (.c (.int k (k.wrap (a.tdiv b))))
  | .rem => match decide (b = 0) with
    | true => False
    | false => K (.c (.int k (a.tmod b)))
  | .and => K (.c (.int k (k.wrap (BitVec.ofInt k.bits a &&& BitVec.ofInt k.bits b).toNat)))
  | .or => K (.c (.int k (k.wrap (BitVec.ofInt k.bits a ||| BitVec.ofInt k.bits b).toNat)))
  | .xor => K (.c (.int k (k.wrap (BitVec.ofInt k.bits a ^^^ BitVec.ofInt k.bits b).toNat)))
  | .andNot => K (.c (.int k (k.wrap (BitVec.ofInt k.bits a &&& ~~~BitVec.ofInt k.bits b).toNat)))
  | .eql => K (.c (.bool (decide (a = b))))
  | .neq => K (.c (.bool (!decide (a = b))))
  | .lss => K (.c (.bool (decide (a < b))))
  | .leq => K (.c (.bool (decide (a ≤ b))))
  | .gtr => K (.c (.bool (decide (b < a))))
  | .geq => K (.c (.bool (decide (b ≤ a))))
  | _ => False

def shiftA (op : BinOp) (k : IntKind) (a b : Int) (K : LV → Prop) : Prop :=
  match decide (b < 0) with
  | true => False
  | false => match op with
    | .shl => K (.c (.int k (k.wrap (a * 2 ^ (min b.toNat k.bits)))))
    | .shr => K (.c (.int k (a.fdiv (2 ^ (min b.toNat k.bits)))))
    | _ => False

def isShift : BinOp → Bool
  | .shl | .shr => true
  | _ => false

/-- Held against nil, of a type that has one. -/
def nilA (d : TypeDesc) (a b : LC) : Option Bool :=
  match d with
  | .pointer _ => match a, b with
    | .nilp, .nilp => some true
    | .nilp, .ptr _ _ | .nilp, .idx _ _ _ _ | .ptr _ _, .nilp | .idx _ _ _ _, .nilp => some false
    | _, _ => none
  | .slice _ => match a, b with
    | .nils, .nils => some true
    | .nils, .slice _ _ _ _ | .slice _ _ _ _, .nils => some false
    | _, _ => none
  | .interface _ => match a, b with
    | .nili, .nili => some true
    | .nili, .iface _ _ | .iface _ _, .nili => some false
    | _, _ => none
  | .func _ _ _ => match a, b with
    | .nilf, .nilf => some true
    | .nilf, .fn _ | .fn _, .nilf => some false
    | _, _ => none
  | _ => none

def isConst : Operand → Bool
  | .const _ => true
  | _ => false

def binA (op : BinOp) (t : TypeId) (ox oy : Operand) (x y : LV) (K : LV → Prop) : Prop :=
  match x, y with
  | .c (.int k a), .c (.int k' b) => match isShift op with
    | true => shiftA op k a b K
    | false => match decide (k = k') with
      | true => intA op k a b K
      | false => False
  | .c (.bool a), .c (.bool b) => match P.underlying t with
    | some .bool => match op with
      | .eql => K (.c (.bool (a == b)))
      | .neq => K (.c (.bool (!(a == b))))
      | _ => False
    | _ => False
  | .c a, .c b => match P.underlying t with
    | some d => match nilA d a b with
      | some q => match isConst ox || isConst oy with
        | true => match op with
          | .eql => K (.c (.bool q))
          | .neq => K (.c (.bool (!q)))
          | _ => False
        | false => False
      | none => False
    | none => False
  | _, _ => False

def unA (op : UnOp) (x : LV) (K : LV → Prop) : Prop :=
  match op, x with
  | .not, .c (.bool b) => K (.c (.bool (!b)))
  | .neg, .c (.int k n) => K (.c (.int k (k.wrap (0 - n))))
  | _, _ => False

def convA (src dst : TypeId) (x : LV) (K : LV → Prop) : Prop :=
  match x with
  | .c (.int _ n) => match P.underlying src, P.underlying dst with
    | some (.int _), some (.int k) => K (.c (.int k (k.wrap n)))
    | _, _ => False
  | _ => False

def fieldAddrA (s : TypeId) (x : LV) (f : Nat) (K : LV → Prop) : Prop :=
  match fieldT P s f with
  | none => False
  | some fd => match sizeT P fd.type with
    | none => False
    | some 0 => False
    | some (_ + 1) => match x with
      | .c (.ptr n off) => K (.c (.ptr n (off + fd.offset)))
      | .c (.idx n row w col) => K (.c (.idx n row w (col + fd.offset)))
      | .c (.vpt p len w cs row col) => K (.c (.vpt p len w cs row (col + fd.offset)))
      | _ => False

def fieldA (s : TypeId) (x : LV) (f : Nat) (K : LV → Prop) : Prop :=
  match fieldT P s f with
  | none => False
  | some fd => match x with
    | .agg l => loadRow P fd.type l fd.offset K
    | _ => False

def indexAddrA (t : TypeId) (x i : LV) (K : LV → Prop) : Prop :=
  match i with
  | .c (.int _ i) => match P.underlying t, x with
    | some (.slice e), .c (.slice n off len _) => match sizeT P e with
      | some w => match decide (0 ≤ i ∧ i < len) with
        | true => K (.c (.idx n i.toNat w off))
        | false => False
      | none => False
    | some (.slice e), .c (.vsl p len _ w cs) => match sizeT P e with
      | some w' => match Nat.beq w' w with
        | true => match decide (0 ≤ i ∧ i < len) with
          | true => K (.c (.vpt p len w cs i.toNat 0))
          | false => False
        | false => False
      | none => False
    | some (.array len e), .c (.ptr n off) => match sizeT P e with
      | some w => match decide (0 ≤ i ∧ i < len) with
        | true => K (.c (.idx n i.toNat w off))
        | false => False
      | none => False
    | _, _ => False
  | _ => False

/-- Where the fields of a struct lie, and how many cells each has. -/
def placesA : List Field → Option (List (Nat × Nat))
  | [] => some []
  | f :: r => match sizeT P f.type with
    | none => none
    | some n => match placesA r with
      | none => none
      | some l => some ((f.offset, n) :: l)

/-- A struct's parts laid over its zero. -/
def fillA (fs : List (Nat × Nat)) (l : List LC) : List (Nat × LV) → Option (List LC)
  | [] => some l
  | (i, v) :: r => match lget fs i with
    | none => none
    | some (off, n) => match v.cells with
      | none => none
      | some cs => match Nat.beq (llen cs) n with
        | false => none
        | true => match lover l off cs with
          | none => none
          | some l' => fillA fs l' r

def buildA (t : TypeId) (parts : List (Nat × LV)) (K : LV → Prop) : Prop :=
  match P.underlying t with
  | some (.struct fs) => match zeroT P t with
    | none => False
    | some z => match placesA P fs.toList with
      | none => False
      | some ps => match fillA ps z parts with
        | some l => K (.agg l)
        | none => False
  | _ => False

def minmax (isMin : Bool) : List LV → Option LV
  | [] => none
  | x :: r => go x r
where go : LV → List LV → Option LV
  | x, [] => some x
  | .c (.int k a), .c (.int _ b) :: r =>
    match isMin with
    | true => go (.c (.int k (if b < a then b else a))) r
    | false => go (.c (.int k (if b > a then b else a))) r
  | _, _ => none

def lenA (t : TypeId) (x : LV) (K : LV → Prop) : Prop :=
  match P.underlying t, x with
  | some (.slice _), .c (.slice _ _ n _) => K (.c (.int .i64 n))
  | some (.slice _), .c (.vsl _ n _ _ _) => K (.c (.int .i64 n))
  | some (.slice _), .c .nils => K (.c (.int .i64 0))
  | some .string, .c (.str s) => K (.c (.int .i64 s.size))
  | some (.array n _), _ => K (.c (.int .i64 n))
  | _, _ => False

def makeSliceA (t : TypeId) (l c : LV) (H : LH) (K : LV → LH → Prop) : Prop :=
  match P.underlying t with
  | some (.slice e) => match P.underlying e, P.info? e with
    | some (.int k), some info => match info.zero, l, c with
      | some (.int k' 0), .c (.int _ n), .c (.int _ m) =>
        ((k' = k ∧ info.size = 1 ∧ info.bytes ≤ 8) ∧ n = m ∧ 0 ≤ n ∧ n ≤ 1048576) ∧
          K (.c (.slice H.len 0 n.toNat n.toNat)) (H.new (.ints e k n.toNat fun _ => 0))
      | _, _, _ => False
    | _, _ => False
  | _ => False

/-- The same cells so many times. -/
def timesL : Nat → List LC → List LC
  | 0, _ => []
  | n + 1, l => l ++ timesL n l

/-- A slice literal's parts laid over its noughts. -/
def fillS (w : Nat) (l : List LC) : List (Nat × LV) → Option (List LC)
  | [] => some l
  | (i, v) :: r => match v.cells with
    | none => none
    | some cs => match Nat.beq (llen cs) w with
      | false => none
      | true => match lover l (i * w) cs with
        | none => none
        | some l' => fillS w l' r

def buildSliceA (t : TypeId) (n : Nat) (parts : List (Nat × LV)) (H : LH) (K : LV → LH → Prop) : Prop :=
  match P.underlying t with
  | some (.slice e) => match sizeT P e, zeroT P e with
    | some (w + 1), some z => match Nat.beq (llen z) (w + 1) && Nat.ble (n * (w + 1)) 4096 with
      | true => match fillS (w + 1) (timesL n z) parts with
        | some l => K (.c (.slice H.len 0 n n)) (H.new (.cells e l))
        | none => False
      | false => False
    | _, _ => False
  | _ => False

/-- One more element. -/
def appendA (t t' : TypeId) (s x : LV) (H : LH) (K : LV → LH → Prop) : Prop :=
  match Nat.beq t t' with
  | false => False
  | true => match P.underlying t with
    | some (.slice e) => match P.info? e with
      | some info => match Nat.ble 1 info.size && Nat.ble info.bytes 4096 with
        | true => match info.zero, x with
          | some z, .c (.slice m 0 1 _) => match Nat.beq z.cells.size info.size, H.get m with
            | true, some (.cells _ l) => match lsub l 0 info.size with
              | some new => match s with
                | .c .nils => match newCols new with
                  | some cs => ∀ more : Nat, K (.c (.slice H.len 0 1 (1 + more))) (H.new (.rows e info.size 1 (1 + more) cs))
                  | none => False
                | .c (.slice b 0 n cap) => match H.get b with
                  | some (.cells _ []) => match newCols new with
                    | some cs => (n = 0 ∧ cap = 0) ∧ ∀ more : Nat, K (.c (.slice H.len 0 1 (1 + more))) (H.new (.rows e info.size 1 (1 + more) cs))
                    | none => False
                  | some (.rows e' w n' cap' cols) => match Nat.beq e e' && Nat.beq w info.size, setCols cols n 0 new with
                    | true, some cs => ((n' = n ∧ cap' = cap) ∧ n ≤ 1048576) ∧ (match decide (n + 1 ≤ cap) with
                      | true => K (.c (.slice b 0 (n + 1) cap)) (H.put b (.rows e w (n + 1) cap cs))
                      | false => ∀ more : Nat, K (.c (.slice H.len 0 (n + 1) (n + 1 + more))) (H.new (.rows e w (n + 1) (n + 1 + more) cs)))
                    | _, _ => False
                  | _ => False
                | _ => False
              | none => False
            | _, _ => False
          | _, _ => False
        | false => False
      | none => False
    | _ => False

/-- The method of that name of a pointer type. -/
def methodA (t : TypeId) (name : String) : Option FuncId :=
  match P.underlying t with
  | some (.pointer _) => match P.info? t with
    | some i => find i.methods.toList
    | none => none
  | _ => none
where find : List Method → Option FuncId
  | [] => none
  | m :: r => match m.name == name with
    | true => match m.path.toList, m.func with
      | [], some (f, true) => some f
      | _, _ => none
    | false => find r

variable (call : FuncId → List LV → LH → (LV → LH → Prop) → Prop)

def callA (c : Call) (T : Tm) (H : LH) (K : LV → LH → Prop) : Prop :=
  match c.callee with
  | .value f => match opnd T f with
    | .c (.fn f) => call f (c.args.toList.map (opnd T)) H K
    | _ => False
  | .invoke r name => match opnd T r with
    | .c (.iface t v) => match methodA P t name with
      | some f => call f (.c v :: c.args.toList.map (opnd T)) H K
      | none => False
    | _ => False
  | .builtin b => match b with
    | .len => match c.argTypes.toList, c.args.toList with
      | t :: _, x :: _ => lenA P t (opnd T x) fun v => K v H
      | _, _ => False
    | .min => match minmax true (c.args.toList.map (opnd T)) with
      | some v => K v H
      | none => False
    | .max => match minmax false (c.args.toList.map (opnd T)) with
      | some v => K v H
      | none => False
    | .append => match c.argTypes.toList, c.args.toList with
      | [t, t'], [x, y] => appendA P t t' (opnd T x) (opnd T y) H K
      | _, _ => False
    | _ => False

def opA (o : Oper) (T : Tm) (H : LH) (K : LV → LH → Prop) : Prop :=
  match o.op with
  | .move x | .assign x => K (opnd T x) H
  | .pick c a b => match opnd T c with
    | .c (.bool q) => match q with
      | true => K (opnd T a) H
      | false => K (opnd T b) H
    | _ => False
  | .alloc e => match zeroT P e with
    | some l => K (.c (.ptr H.len 0)) (H.new (.cells e l))
    | none => False
  | .box e x => match (opnd T x).cells with
    | some l => K (.c (.ptr H.len 0)) (H.new (.cells e l))
    | none => False
  | .build t parts => buildA P t (parts.toList.map fun p => (p.1, opnd T p.2)) fun v => K v H
  | .load t a => loadA P t (opnd T a) H fun v => K v H
  | .store t a x => storeA P t (opnd T a) (opnd T x) H fun H' => K .un H'
  | .nilCheck x => match opnd T x with
    | .c (.ptr n off) => K (.c (.ptr n off)) H
    | .c (.idx n r w c) => K (.c (.idx n r w c)) H
    | _ => False
  | .binOp op t x y _ => binA P op t x y (opnd T x) (opnd T y) fun v => K v H
  | .unOp op _ x => unA op (opnd T x) fun v => K v H
  | .convert src dst x => convA P src dst (opnd T x) fun v => K v H
  | .makeInterface t x => match opnd T x with
    | .c y => match P.underlying t with
      | some (.interface _) => False
      | some _ => K (.c (.iface t y)) H
      | none => False
    | _ => False
  | .fieldAddr s x f => fieldAddrA P s (opnd T x) f fun v => K v H
  | .field s x f => fieldA P s (opnd T x) f fun v => K v H
  | .indexAddr t x i => indexAddrA P t (opnd T x) (opnd T i) fun v => K v H
  | .extract x i => match opnd T x with
    | .tup l => match lget l i with
      | some p => K p.lv H
      | none => False
    | _ => False
  | .makeSlice t l c => makeSliceA P t (opnd T l) (opnd T c) H K
  | .buildSlice t n parts => buildSliceA P t n (parts.toList.map fun p => (p.1, opnd T p.2)) H K
  | .call c => callA P call c T H K
  | _ => False

variable (nt : Nat)

def putA (dst : Option Tmp) (v : LV) (T : Tm) (K : Tm → Prop) : Prop :=
  match dst with
  | none => K T
  | some d => match Nat.ble (d + 1) nt with
    | true => match v with
      | .un => K ((d, .un) :: T)
      | .c x => K ((d, .c x) :: T)
      | .agg l => K ((d, .agg l) :: T)
      | .tup l => K ((d, .tup l) :: T)
    | false => False

/-- Whether a guarded operation is wanted: its guard's value is split, and laid as what it is. -/
def guardA (all : List Oper) (g : Option (Nat × Bool)) (T : Tm) (K : Bool → Tm → Prop) : Prop :=
  match g with
  | none => K true T
  | some (j, want) => match lget all j with
    | none => False
    | some oj => match oj.dst with
      | none => False
      | some d => match Tm.get T d with
        | .c (.bool b) => match b with
          | true => K want ((d, .c (.bool true)) :: T)
          | false => K (!want) ((d, .c (.bool false)) :: T)
        | .tup [] => K false T
        | _ => False

def execA (all : List Oper) (o : Oper) (T : Tm) (H : LH) (K : Tm → LH → Prop) : Prop :=
  guardA all o.guard T fun wanted T => match wanted with
    | true => opA P call o T H fun v H => putA nt o.dst v T fun T => K T H
    | false => putA nt o.dst (.tup []) T fun T => K T H

def regA (all : List Oper) : List Oper → Tm → LH → (Tm → LH → Prop) → Prop
  | [], T, H, K => K T H
  | o :: r, T, H, K => execA P call nt all o T H fun T H => regA all r T H K

end

/-! ### A region whose order is drawn: quiet operations first; then whichever comes up. -/

def quietOp : Op → Bool
  | .move _ | .assign _ | .pick _ _ _ | .build _ _ | .load _ _ | .nilCheck _ | .binOp _ _ _ _ _ | .unOp _ _ _ | .convert _ _ _
  | .makeInterface _ _ | .fieldAddr _ _ _ | .field _ _ _ | .indexAddr _ _ _ | .extract _ _ => true
  | .call { callee := .builtin .len, .. } | .call { callee := .builtin .min, .. } | .call { callee := .builtin .max, .. } => true
  | _ => false

def noSelA : List Oper → Bool
  | [] => true
  | o :: r => match o.op with
    | .select _ _ => false
    | _ => noSelA r

def depMask (es : List Edge) : Nat :=
  match es with
  | [] => 0
  | e :: r => match Region.binds .any e with
    | true => Nat.lor (Nat.shiftLeft 1 e.on) (depMask r)
    | false => depMask r

inductive Nxt where
  | done
  | quiet (i : Nat)
  | any (l : List Nat)
  | stuck

/-- Which operations may come up: not listed, and all that they wait for is. -/
def readyA (m : Nat) : List Oper → Nat → List Nat
  | [], _ => []
  | o :: r, i => match Nat.testBit m i with
    | true => readyA m r (i + 1)
    | false => match Nat.beq (Nat.land (depMask o.after.toList) m) (depMask o.after.toList) with
      | true => i :: readyA m r (i + 1)
      | false => readyA m r (i + 1)

def pickQuiet (l : List Oper) : List Nat → Option Nat
  | [] => none
  | i :: r => match lget l i with
    | some o => match quietOp o.op with
      | true => some i
      | false => pickQuiet l r
    | none => none

/-- Nobody that could come ahead of number 'i' touches its temporaries. -/
def freeA (ops : Array Oper) (m i : Nat) (oi : Oper) : List Oper → Nat → Bool
  | [], _ => true
  | o :: r, j => match Nat.beq i j || Nat.testBit m j || Nat.testBit (depMask o.after.toList) i with
    | true => freeA ops m i oi r (j + 1)
    | false => match oi.apart ops o with
      | true => freeA ops m i oi r (j + 1)
      | false => false

def nextA (ops : Array Oper) (m : Nat) : Nxt :=
  match readyA m ops.toList 0 with
  | [] => .done
  | i :: r => match pickQuiet ops.toList (i :: r) with
    | some q => match lget ops.toList q with
      | some oq => match freeA ops m q oq ops.toList 0 with
        | true => .quiet q
        | false => .stuck
      | none => .stuck
    | none => .any (i :: r)

def andA : List Nat → (Nat → Prop) → Prop
  | [], _ => True
  | [i], f => f i
  | i :: r, f => f i ∧ andA r f

/-- The block that an address is in. -/
def addrOf : LV → Option Nat
  | .c (.ptr n _) => some n
  | .c (.idx n _ _ _) => some n
  | _ => none

/-- The block that a load reads. -/
def loadsOf (o : Oper) (T : Tm) : Option Nat :=
  match o.op with
  | .load _ a => addrOf (opnd T a)
  | _ => none

/-- Whether an address is in a slice that was handed in. -/
def isView : LV → Bool
  | .c (.vpt _ _ _ _ _ _) => true
  | _ => false

/-- Whether a load is of a slice that was handed in. -/
def loadsView (o : Oper) (T : Tm) : Bool :=
  match o.op with
  | .load _ a => isView (opnd T a)
  | _ => false

def noLoad : Op → Bool
  | .load _ _ => false
  | _ => true

/-- No load that does not stand ahead of the operation read what it wrote. -/
def clashA (mk : Nat) (wr : List Nat) : List (Nat × Nat) → Bool
  | [] => false
  | (j, n) :: r => match Nat.testBit mk j with
    | true => clashA mk wr r
    | false => match wr.contains n with
      | true => true
      | false => clashA mk wr r

/-- What is waited for, and what that waits for. -/
def closeM (l : List Oper) : Nat → Nat → Nat
  | 0, m => m
  | k + 1, m => match Nat.testBit m k with
    | true => match lget l k with
      | some o => closeM l k (Nat.lor m (depMask o.after.toList))
      | none => closeM l k m
    | false => closeM l k m

section
variable (P : Program) (call : FuncId → List LV → LH → (LV → LH → Prop) → Prop) (nt : Nat)

def drawA (ops : Array Oper) : Nat → Nat → List (Nat × Nat) → Tm → LH → (Tm → LH → Prop) → Prop
  | 0, _, _, _, _, _ => False
  | f + 1, m, lds, T, H, K => match nextA ops m with
    | .done => K T H
    | .stuck => False
    | .quiet i => match lget ops.toList i with
      | none => False
      | some o => guardA ops.toList o.guard T fun wanted T => match wanted with
        | true => opA P call o T H fun v _ => putA nt o.dst v T fun T' =>
            match noLoad o.op with
            | true => drawA ops f (Nat.lor m (Nat.shiftLeft 1 i)) lds T' H K
            | false => match loadsOf o T with
              | some n => drawA ops f (Nat.lor m (Nat.shiftLeft 1 i)) ((i, n) :: lds) T' H K
              | none => match loadsView o T with
                | true => drawA ops f (Nat.lor m (Nat.shiftLeft 1 i)) lds T' H K
                | false => False
        | false => putA nt o.dst (.tup []) T fun T' => drawA ops f (Nat.lor m (Nat.shiftLeft 1 i)) lds T' H K
    | .any l => andA l fun i => match lget ops.toList i with
      | none => False
      | some o => execA P call nt ops.toList o T ⟨H.bl, []⟩ fun T' H' =>
          match clashA (closeM ops.toList ops.size (depMask o.after.toList)) H'.wr lds with
          | true => False
          | false => drawA ops f (Nat.lor m (Nat.shiftLeft 1 i)) lds T' ⟨H'.bl, H'.wr ++ H.wr⟩ K

inductive X where
  | normal
  | exit (id : Nat)
  | ret

def iterA (body : Tm → LH → (X → Tm → LH → Prop) → Prop) : Nat → Tm → LH → (X → Tm → LH → Prop) → Prop
  | 0, _, _, _ => False
  | n + 1, T, H, K => body T H fun x T H => match x with
    | .normal => iterA body n T H K
    | x => K x T H

/-- A loop by an invariant, and a measure. -/
def loopInv (body : Tm → LH → (X → Tm → LH → Prop) → Prop) (T : Tm) (H : LH) (K : X → Tm → LH → Prop) : Prop :=
  ∃ I : Nat → Tm → LH → Prop, (∃ n, I n T H) ∧ ∀ n T H, I n T H → body T H fun x T H => match x with
    | .normal => ∃ n', n' < n ∧ I n' T H
    | x => K x T H

def loopA (body : Tm → LH → (X → Tm → LH → Prop) → Prop) : Nat → Tm → LH → (X → Tm → LH → Prop) → Prop
  | 0, T, H, K => loopInv body T H K
  | n + 1, T, H, K => iterA body (n + 1) T H K

/-- What a piece of code is known by: the first region's number. -/
def keyC : Code → Nat
  | .region id _ _ => id
  | .seq a _ => keyC a
  | .block _ c => keyC c
  | .loop c => keyC c
  | .scope c => keyC c
  | _ => 0

abbrev LHd := Tm → LH → (X → Tm → LH → Prop) → Prop

def noLo : Nat → Option LHd := fun _ => none

def evC (lo : Nat → Option LHd) (fuel : Nat) : Code → Tm → LH → (X → Tm → LH → Prop) → Prop
  | .skip, T, H, K => K .normal T H
  | .label _, T, H, K => K .normal T H
  | .region _ ops draw, T, H, K => match draw with
    | false => regA P call nt ops.toList ops.toList T H (K .normal)
    | true => match noSelA ops.toList with
      | true => drawA P call nt ops (ops.size + 1) 0 [] T H (K .normal)
      | false => False
  | .seq a b, T, H, K => evC lo fuel a T H fun x T H => match x with
    | .normal => evC lo fuel b T H K
    | x => K x T H
  | .cond c a b, T, H, K => match opnd T c with
    | .c (.bool q) => match q with
      | true => evC lo fuel a T H K
      | false => evC lo fuel b T H K
    | _ => False
  | .block id c, T, H, K => evC lo fuel c T H fun x T H => match x with
    | .exit id' => match Nat.beq id' id with
      | true => K .normal T H
      | false => K (.exit id') T H
    | x => K x T H
  | .loop c, T, H, K => match lo (keyC c) with
    | some h => h T H K
    | none => loopA (evC lo fuel c) fuel T H K
  | .scope c, T, H, K => evC lo fuel c T H K
  | .exit id, T, H, K => K (.exit id) T H
  | .ret, T, H, K => K .ret T H
  | _, _, _, _ => False

end

section
variable (P : Program)

def resA (T : Tm) (H : LH) : List ResultVar → (List LV → Prop) → Prop
  | [], K => K []
  | .tmp t :: r, K => resA T H r fun l => K (Tm.get T t :: l)
  | .cell a t :: r, K => loadA P t (Tm.get T a) H fun v => resA T H r fun l => K (v :: l)

def parts : List LV → Option (List LP)
  | [] => some []
  | v :: r => match v.part with
    | none => none
    | some p => match parts r with
      | none => none
      | some l => some (p :: l)

def params : List LV → Nat → Tm
  | [], _ => []
  | v :: r, i => (i, v) :: params r (i + 1)

/-- A function's body. -/
def evFn (call : FuncId → List LV → LH → (LV → LH → Prop) → Prop) (lo : Nat → Option LHd) (fuel : Nat) (fn : Func) (args : List LV) (H : LH) (K : LV → LH → Prop) : Prop :=
  match fn.body with
  | none => False
  | some c => match Nat.ble (llen args) fn.ntmps with
    | false => False
    | true => evC P call fn.ntmps lo fuel c (params args 0) H fun x T H => match x with
      | .exit _ => False
      | _ => resA P T H fn.results.toList fun l => match l with
        | [v] => K v H
        | l => match parts l with
          | some ps => K (.tup ps) H
          | none => False

/-- A function, its callees walked into, so deep. -/
def evF (own : FuncId → Option (List LV → LH → (LV → LH → Prop) → Prop)) (fuel : Nat) : Nat → FuncId → List LV → LH → (LV → LH → Prop) → Prop
  | 0, _, _, _, _ => False
  | d + 1, f, args, H, K => match own f with
    | some h => h args H K
    | none => match lget P.funcs.toList f with
      | none => False
      | some fn => evFn P (evF own fuel d) noLo fuel fn args H K

/-- A function, its loops by their laws. -/
def evL (own : FuncId → Option (List LV → LH → (LV → LH → Prop) → Prop)) (lo : Nat → Option LHd) (fuel d : Nat) (f : FuncId) (args : List LV) (H : LH) (K : LV → LH → Prop) : Prop :=
  match lget P.funcs.toList f with
  | none => False
  | some fn => evFn P (evF P own fuel d) lo fuel fn args H K

def loopsC : Code → List Code
  | .seq a b => loopsC a ++ loopsC b
  | .cond _ a b => loopsC a ++ loopsC b
  | .block _ c => loopsC c
  | .loop c => c :: loopsC c
  | .scope c => loopsC c
  | _ => []

/-- A function's loops. -/
def loopsF (f : FuncId) : List Code := match lget P.funcs.toList f with
  | none => []
  | some fn => match fn.body with
    | none => []
    | some c => loopsC c

def tmpsF (f : FuncId) : Nat := match lget P.funcs.toList f with
  | none => 0
  | some fn => fn.ntmps

def loopF (f : FuncId) (k : Nat) : Code := match lget (loopsF P f) k with
  | some c => c
  | none => .skip

def Tm.norm (ts : List Nat) (T : Tm) : Tm := match ts with
  | [] => []
  | t :: r => (t, Tm.get T t) :: Tm.norm r T

end

end Go.FL

/-
  How the program's objects lie in memory: each as a few blocks, the first one its own; pointers go by the blocks' places in the list.
-/
namespace Go.FL

abbrev cI (n : Int) : LC := .int .i64 n
abbrev cU (n : Int) : LC := .int .u64 n

def exDone (d : PDone) (r : List LC) : List LC := cI d.e :: cU d.h :: cI d.v :: cI d.st :: r

def exMemC (m : PMem) (i j : Nat) : LB := .cells 71 [.slice i 0 m.n m.n, .slice j 0 m.n m.n, cI m.steps, cI m.who, cI m.la, cI m.lw, .bool m.lc]

def exPlaceC (p : PPlace) : LB := .cells 146 [cI p.cls, cI p.pc, cU p.opn, cI p.at_, cU p.w, cI p.sa, cI p.sc, .bool p.ok]

def exGiveC (g : PGive) : LB := .cells 153 [cI g.pc, cI g.slot, cU g.top]

def exInC (p : PIn) : LB := .cells 65 [cI p.pc, cU p.epoch]

def exHelpC (h : PHelp) : LB := .cells 164 [cI h.slot, cU h.w, cI h.size, cI h.i, cU h.cell, .bool h.read, .bool h.won]

def exAllocC (a : PAlloc) (p g : LC) : LB := .cells 102
  (cI a.size :: .bool a.own :: cI a.pc :: cI a.take.pc :: cU a.take.top :: cI a.take.next :: cI a.take.slot :: .bool a.take.ok :: cI a.at_ :: cI a.gen :: p :: cI a.sa :: cI a.sc :: g :: exDone a.out [])

def exDropC (d : PDrop) (h g : LC) : LB := .cells 107
  (cU d.n :: .bool d.own :: cI d.hs :: cI d.hg :: cI d.pc :: cU d.w :: cI d.size :: h :: g :: exDone d.out [])

def exAccessC (a : PAccess) (h : LC) : LB := .cells 109
  (cI a.x.kind :: cU a.x.handle :: cI a.x.index :: cI a.x.value :: cI a.x.old :: .bool a.own :: cI a.hs :: cI a.hg :: cI a.pc :: cU a.w :: cU a.cell :: cI a.seen :: cI a.read :: cI a.size :: h :: exDone a.out [])

def exActC (a : PAct) (w : LC) : LB := .cells 67 (cI a.in_.pc :: cU a.in_.epoch :: cI a.pc :: w :: exDone a.out [])

def exMoveC (x : PMove) (p : LC) : LB := .cells 999999
  [cI x.addr, cI x.head.kind, cI x.head.size, cI x.head.slot, cI x.head.gen, .bool x.head.own, cI x.pc, cU x.w, p, cI x.sa, cI x.sc, .bool x.got, cI x.i, cU x.cell, cI x.n, cI x.out]

def exAdvC (x : PAdv) : LB := .cells 999999 [cI x.pc, cU x.now, cI x.at_, .bool x.went]

def exSettleC (x : PSettle) : LB := .cells 999999 [cI x.chunk, cI x.pc, cU x.w, cU x.since, cI x.at_, .bool x.freed]

def exWk (w : PWk) (r : List LC) : List LC := cI w.ev :: cI w.lf :: cI w.fr :: cI w.mv :: cI w.rd :: r

def exCompC (x : PComp) (s m a t : LC) : LB := .cells 999999
  (cI x.pc :: s :: cI x.at_ :: cI x.pos :: cU x.w :: cU x.now :: m :: a :: t :: exWk x.work (exWk x.was [cI x.idle]))

def exSeenC (s : PSeenL) (cap : Nat) : LB := .rows 999999 6 s.len cap [.int .i64 s.st, .int .i64 s.cl, .int .i64 s.us, .int .i64 s.sp, .int .i64 s.lv, .bool s.op]

def ex : Ob → List LB
  | .mem m => [exMemC m 1 2, .ints 34 .u64 m.n m.w, .ints 3 .i64 m.n m.t]
  | .in_ p => [exInC p]
  | .give g => [exGiveC g]
  | .place p => [exPlaceC p]
  | .help h => [exHelpC h]
  | .alloc a => match a.p, a.give with
    | none, none => [exAllocC a .nilp .nilp]
    | some p, none => [exAllocC a (.ptr 1 0) .nilp, .obj (.place p)]
    | none, some g => [exAllocC a .nilp (.ptr 1 0), .obj (.give g)]
    | some p, some g => [exAllocC a (.ptr 1 0) (.ptr 2 0), .obj (.place p), .obj (.give g)]
  | .drop d => match d.help, d.give with
    | none, none => [exDropC d .nilp .nilp]
    | some h, none => [exDropC d (.ptr 1 0) .nilp, .obj (.help h)]
    | none, some g => [exDropC d .nilp (.ptr 1 0), .obj (.give g)]
    | some h, some g => [exDropC d (.ptr 1 0) (.ptr 2 0), .obj (.help h), .obj (.give g)]
  | .access a => match a.help with
    | none => [exAccessC a .nilp]
    | some h => [exAccessC a (.ptr 1 0), .obj (.help h)]
  | .act a => match a.work with
    | .alloc x => [exActC a (.iface 83 (.ptr 1 0)), .obj (.alloc x)]
    | .drop x => [exActC a (.iface 85 (.ptr 1 0)), .obj (.drop x)]
    | .access x => [exActC a (.iface 87 (.ptr 1 0)), .obj (.access x)]
  | .move x => match x.p with
    | none => [exMoveC x .nilp]
    | some p => [exMoveC x (.ptr 1 0), .obj (.place p)]
  | .adv x => [exAdvC x]
  | .settle x => [exSettleC x]
  | .comp x cap => match x.seen with
    | none => match x.m with
      | none => match x.a with
        | none => match x.s with
          | none => [exCompC x .nils .nilp .nilp .nilp]
          | some t => [exCompC x .nils .nilp .nilp (.ptr 1 0), .obj (.settle t)]
        | some a => match x.s with
          | none => [exCompC x .nils .nilp (.ptr 1 0) .nilp, .obj (.adv a)]
          | some t => [exCompC x .nils .nilp (.ptr 1 0) (.ptr 2 0), .obj (.adv a), .obj (.settle t)]
      | some m => match x.a with
        | none => match x.s with
          | none => [exCompC x .nils (.ptr 1 0) .nilp .nilp, .obj (.move m)]
          | some t => [exCompC x .nils (.ptr 1 0) .nilp (.ptr 2 0), .obj (.move m), .obj (.settle t)]
        | some a => match x.s with
          | none => [exCompC x .nils (.ptr 1 0) (.ptr 2 0) .nilp, .obj (.move m), .obj (.adv a)]
          | some t => [exCompC x .nils (.ptr 1 0) (.ptr 2 0) (.ptr 3 0), .obj (.move m), .obj (.adv a), .obj (.settle t)]
    | some l => match x.m with
      | none => match x.a with
        | none => match x.s with
          | none => [exCompC x (.slice 1 0 l.len cap) .nilp .nilp .nilp, exSeenC l cap]
          | some t => [exCompC x (.slice 1 0 l.len cap) .nilp .nilp (.ptr 2 0), exSeenC l cap, .obj (.settle t)]
        | some a => match x.s with
          | none => [exCompC x (.slice 1 0 l.len cap) .nilp (.ptr 2 0) .nilp, exSeenC l cap, .obj (.adv a)]
          | some t => [exCompC x (.slice 1 0 l.len cap) .nilp (.ptr 2 0) (.ptr 3 0), exSeenC l cap, .obj (.adv a), .obj (.settle t)]
      | some m => match x.a with
        | none => match x.s with
          | none => [exCompC x (.slice 1 0 l.len cap) (.ptr 2 0) .nilp .nilp, exSeenC l cap, .obj (.move m)]
          | some t => [exCompC x (.slice 1 0 l.len cap) (.ptr 2 0) .nilp (.ptr 3 0), exSeenC l cap, .obj (.move m), .obj (.settle t)]
        | some a => match x.s with
          | none => [exCompC x (.slice 1 0 l.len cap) (.ptr 2 0) (.ptr 3 0) .nilp, exSeenC l cap, .obj (.move m), .obj (.adv a)]
          | some t => [exCompC x (.slice 1 0 l.len cap) (.ptr 2 0) (.ptr 3 0) (.ptr 4 0), exSeenC l cap, .obj (.move m), .obj (.adv a), .obj (.settle t)]

end Go.FL

/-
  What the evaluator's values, blocks and heaps say of a real world, under a list of block numbers.
-/
set_option linter.unusedSectionVars false
namespace Go.FL

theorem lget_eq {α : Type} (l : List α) (n : Nat) : lget l n = l[n]? := by
  induction l generalizing n with
  | nil => simp [lget]
  | cons x r ih => cases n with
    | zero => simp [lget]
    | succ n => simp [lget, ih]

theorem llen_eq {α : Type} (l : List α) : llen l = l.length := by
  induction l with
  | nil => rfl
  | cons x r ih => simp [llen, ih]

theorem lset_eq {α : Type} (l : List α) (n : Nat) (y : α) : lset l n y = l.set n y := by
  induction l generalizing n with
  | nil => simp [lset]
  | cons x r ih => cases n with
    | zero => simp [lset]
    | succ n => simp [lset, ih]

theorem ltake_eq {α : Type} (l : List α) (n : Nat) {r : List α} (h : lsub.ltake l n = some r) : n ≤ l.length ∧ r = l.take n := by
  induction n generalizing l r with
  | zero => cases l <;> simp_all [lsub.ltake]
  | succ n ih =>
    cases l with
    | nil => simp [lsub.ltake] at h
    | cons x l =>
      simp only [lsub.ltake] at h
      split at h
      · rename_i r' hr
        cases h
        have := ih _ hr
        simp [this]
      · cases h

theorem lsub_eq {α : Type} (l : List α) (off n : Nat) {r : List α} (h : lsub l off n = some r) : off + n ≤ l.length ∧ r = (l.drop off).take n := by
  induction off generalizing l with
  | zero =>
    have h' : lsub.ltake l n = some r := by cases l <;> simpa [lsub] using h
    have := ltake_eq _ _ h'
    simp [this]
  | succ off ih =>
    cases l with
    | nil => cases n <;> simp [lsub] at h
    | cons x l =>
      simp only [lsub] at h
      have h2 := ih _ h
      refine ⟨?_, by simpa using h2.2⟩
      simp only [List.length_cons]
      omega

theorem lay_eq {α : Type} (l new : List α) {r : List α} (h : lover.lay l new = some r) : new.length ≤ l.length ∧ r = new ++ l.drop new.length := by
  induction new generalizing l r with
  | nil => cases l <;> simp_all [lover.lay]
  | cons y new ih =>
    cases l with
    | nil => simp [lover.lay] at h
    | cons x l =>
      simp only [lover.lay] at h
      split at h
      · rename_i r' hr
        cases h
        have := ih _ hr
        simp [this]
      · cases h

theorem lover_eq {α : Type} (l : List α) (off : Nat) (new : List α) {r : List α} (h : lover l off new = some r) :
    off + new.length ≤ l.length ∧ r = l.take off ++ new ++ l.drop (off + new.length) := by
  induction off generalizing l r with
  | zero =>
    have h' : lover.lay l new = some r := by cases l <;> simpa [lover] using h
    have := lay_eq _ _ h'
    simp [this]
  | succ off ih =>
    cases l with
    | nil => cases new <;> simp [lover] at h
    | cons x l =>
      simp only [lover] at h
      split at h
      · rename_i r' hr
        cases h
        have := ih _ hr
        refine ⟨?_, by simp [this, Nat.succ_add]⟩
        simp only [List.length_cons]
        omega
      · cases h

/-! ### The relation -/

def oneC : Value → Bool
  | .agg _ | .tuple _ => false
  | _ => true


/-- Which block a name stands for, and which other blocks belong to it. -/
abbrev Mp := List (Nat × List Nat)

def hd (s : Mp) (n : Nat) : Option Nat := (s[n]?).map (·.1)

def ownB (s : Mp) (n y : Nat) : Prop := ∃ r f, s[n]? = some (r, f) ∧ (y = r ∨ y ∈ f)

def Disj (s : Mp) : Prop := ∀ n m y, ownB s n y → ownB s m y → n = m

/-- Blocks that nobody touches: what was handed in. -/
class Fz where
  F : Nat → Obj → Prop

/-- Rows of plain cells that a block has from a place on. -/
def ViewOk (o : Obj) (off w len : Nat) (cs : List LCol) : Prop :=
  ∃ (c : Array Value) (e : TypeId), (∃ fz, o = .cells c e fz) ∧ cs.length = w ∧ ∀ i, i < len → ∃ vs : List Value, vs.length = w ∧ (∀ (j : Nat) (v : Value), vs[j]? = some v → c[off + i * w + j]? = some v) ∧
    ∀ (j : Nat) (x : LCol), cs[j]? = some x → ∃ v, vs[j]? = some v ∧ (match x with
      | .int k f => v = .int k (f i)
      | .bool f => v = .bool (f i))

variable [Fz]

def HExt (s s' : Mp) : Prop := ∀ n r, hd s n = some r → hd s' n = some r

theorem HExt.refl (s : Mp) : HExt s s := fun _ _ h => h
theorem HExt.trans {s s' s'' : Mp} (h : HExt s s') (h' : HExt s' s'') : HExt s s'' := fun n r hr => h' n r (h n r hr)
theorem HExt.app (s e : Mp) : HExt s (s ++ e) := fun n r h => by
  unfold hd at *
  cases hx : s[n]? with
  | none => rw [hx] at h; cases h
  | some p =>
    rw [List.getElem?_append_left (List.getElem?_eq_some_iff.1 hx).1, hx]
    rw [hx] at h; exact h

def RelC (s : Mp) : LC → Value → Prop
  | .any, v => oneC v = true
  | .int k n, v => v = .int k n
  | .bool b, v => v = .bool b
  | .str b, v => v = .string b
  | .nilp, v => v = .pointer none
  | .ptr n off, v => ∃ r, hd s n = some r ∧ v = .pointer (some ⟨r, off, none⟩)
  | .idx n row w col, v => ∃ r, hd s n = some r ∧ v = .pointer (some ⟨r, row * w + col, none⟩)
  | .nils, v => v = .slice none 0 0
  | .slice n off len cap, v => ∃ r, hd s n = some r ∧ v = .slice (some ⟨r, off, none⟩) len cap
  | .vsl p len cap w cs, v => v = .slice p len cap ∧ (0 < len → ∃ q off o, p = some ⟨q, off, none⟩ ∧ Fz.F q o ∧ ViewOk o off w len cs)
  | .vpt p len w cs row col, v => ∃ q off o, p = some ⟨q, off, none⟩ ∧ Fz.F q o ∧ ViewOk o off w len cs ∧ row < len ∧ v = .pointer (some ⟨q, off + row * w + col, none⟩)
  | .iface t x, v => ∃ u, v = .iface t u ∧ RelC s x u
  | .nili, v => v = .nilIface
  | .fn f, v => v = .func (.func f) #[] #[]
  | .nilf, v => v = .nilFunc

def RelL (s : Mp) : List LC → List Value → Prop
  | [], [] => True
  | x :: l, v :: vs => RelC s x v ∧ RelL s l vs
  | _, _ => False

def RelP (s : Mp) : LP → Value → Prop
  | .c x, v => RelC s x v
  | .agg l, v => ∃ cs, v = .agg cs ∧ RelL s l cs.toList

def RelPs (s : Mp) : List LP → List Value → Prop
  | [], [] => True
  | x :: l, v :: vs => RelP s x v ∧ RelPs s l vs
  | _, _ => False

def RelV (s : Mp) : LV → Value → Prop
  | .un, _ => True
  | .c x, v => RelC s x v
  | .agg l, v => ∃ cs, v = .agg cs ∧ RelL s l cs.toList
  | .tup l, v => ∃ vs, v = .tuple vs ∧ RelPs s l vs.toList

def RelVs (s : Mp) : List LV → List Value → Prop
  | [], [] => True
  | x :: l, v :: vs => RelV s x v ∧ RelVs s l vs
  | _, _ => False

inductive RelB : Mp → LB → Nat → List Nat → Array Obj → Prop
  | any {s : Mp} {r : Nat} {f : List Nat} {h : Array Obj} : RelB s .any r f h
  | cells {s : Mp} {e : TypeId} {l : List LC} {r : Nat} {h : Array Obj} (c : Array Value) (ho : h[r]? = some (.cells c e (0, 0))) (hl : RelL s l c.toList) : RelB s (.cells e l) r [] h
  | ints {s : Mp} {e : TypeId} {k : IntKind} {n : Nat} {g : Nat → Int} {r : Nat} {h : Array Obj} (ho : h[r]? = some (.cells ((List.range n).map fun i => Value.int k (g i)).toArray e (0, 0))) : RelB s (.ints e k n g) r [] h
  | rows {s : Mp} {e : TypeId} {w n cap : Nat} {cs : List LCol} {r : Nat} {h : Array Obj} (c : Array Value) (ho : h[r]? = some (.cells c e (0, 0))) (hn : n ≤ cap) (hc : c.size = cap * w) (hw : cs.length = w)
      (hl : ∀ i, i < n → RelL s (rowAt cs i) ((c.toList.drop (i * w)).take w)) : RelB s (.rows e w n cap cs) r [] h
  | obj {s : Mp} {x : Ob} {r : Nat} {f : List Nat} {h : Array Obj} (s₁ : Mp) (h0 : hd s₁ 0 = some r) (hf : ∀ y, (y = r ∨ y ∈ f) ↔ ∃ n, ownB s₁ n y) (hlen : s₁.length = (ex x).length) (hd : Disj s₁)
      (hb : ∀ (i : Nat) (b : LB) (q : Nat) (g : List Nat), (ex x)[i]? = some b → s₁[i]? = some (q, g) → RelB s₁ b q g h) : RelB s (.obj x) r f h

structure Rel (s : Mp) (H : LH) (w : World) : Prop where
  len : s.length = H.bl.length
  blk : ∀ (n : Nat) (b : LB) (r : Nat) (f : List Nat), H.bl[n]? = some b → s[n]? = some (r, f) → RelB s b r f w.heap
  dis : Disj s
  bnd : ∀ n y, ownB s n y → y < w.heap.size
  frz : ∀ q o, Fz.F q o → w.heap[q]? = some o ∧ ∀ n, ¬ ownB s n q

def RelT (s : Mp) (nt : Nat) (T : Tm) (a : Act) : Prop :=
  (a.tmps.size = nt ∧ a.defers = []) ∧ ∀ t, RelV s (T.get t) (a.tmps.getD t undef)

/-- What a piece of the run does: new names, new blocks, and which old blocks are as they were. -/
structure Post (s : Mp) (H : LH) (w : World) (s' : Mp) (H' : LH) (w' : World) : Prop where
  hext : HExt s s'
  len : s.length ≤ s'.length
  fresh : ∀ n y, ownB s' n y → y < w.heap.size → n < s.length ∧ ownB s n y
  keep : ∀ n, n < s.length → n ∉ H'.wr → s'[n]? = s[n]?
  wr : ∀ n ∈ H.wr, n ∈ H'.wr
  size : w.heap.size ≤ w'.heap.size
  frame : ∀ (y : Nat), y < w.heap.size → (∀ n ∈ H'.wr, ¬ ownB s n y) → w'.heap[y]? = w.heap[y]?
  tape : w'.tape = w.tape
  os : w'.os = w.os
  output : w'.output = w.output

theorem RelC.mono {s s' : Mp} (he : HExt s s') : ∀ {x : LC} {v : Value}, RelC s x v → RelC s' x v := by
  intro x
  induction x with
  | ptr n off => rintro v ⟨r, h, rfl⟩; exact ⟨r, he _ _ h, rfl⟩
  | idx n row w col => rintro v ⟨r, h, rfl⟩; exact ⟨r, he _ _ h, rfl⟩
  | slice n off len cap => rintro v ⟨r, h, rfl⟩; exact ⟨r, he _ _ h, rfl⟩
  | iface t x ih => rintro v ⟨u, rfl, h⟩; exact ⟨u, rfl, ih h⟩
  | _ => intro v h; exact h

theorem RelL.mono {s s' : Mp} (he : HExt s s') : ∀ {l : List LC} {vs : List Value}, RelL s l vs → RelL s' l vs
  | [], [], _ => trivial
  | _ :: _, _ :: _, h => ⟨h.1.mono he, RelL.mono he h.2⟩
  | [], _ :: _, h => h.elim
  | _ :: _, [], h => h.elim

theorem RelP.mono {s s' : Mp} (he : HExt s s') : ∀ {x : LP} {v : Value}, RelP s x v → RelP s' x v
  | .c _, _, h => RelC.mono he h
  | .agg _, _, ⟨cs, hv, h⟩ => ⟨cs, hv, h.mono he⟩

theorem RelPs.mono {s s' : Mp} (he : HExt s s') : ∀ {l : List LP} {vs : List Value}, RelPs s l vs → RelPs s' l vs
  | [], [], _ => trivial
  | _ :: _, _ :: _, h => ⟨h.1.mono he, RelPs.mono he h.2⟩
  | [], _ :: _, h => h.elim
  | _ :: _, [], h => h.elim

theorem RelV.mono {s s' : Mp} (he : HExt s s') : ∀ {x : LV} {v : Value}, RelV s x v → RelV s' x v
  | .un, _, _ => trivial
  | .c _, _, h => RelC.mono he h
  | .agg _, _, ⟨cs, hv, h⟩ => ⟨cs, hv, h.mono he⟩
  | .tup _, _, ⟨cs, hv, h⟩ => ⟨cs, hv, h.mono he⟩

theorem RelVs.mono {s s' : Mp} (he : HExt s s') : ∀ {l : List LV} {vs : List Value}, RelVs s l vs → RelVs s' l vs
  | [], [], _ => trivial
  | _ :: _, _ :: _, h => ⟨h.1.mono he, RelVs.mono he h.2⟩
  | [], _ :: _, h => h.elim
  | _ :: _, [], h => h.elim

theorem RelB.mono {s s' : Mp} (he : HExt s s') {b : LB} {r : Nat} {f : List Nat} {h : Array Obj} (hb : RelB s b r f h) : RelB s' b r f h := by
  cases hb with
  | any => exact .any
  | cells c ho hl => exact .cells c ho (hl.mono he)
  | ints ho => exact .ints ho
  | rows c ho hn hc hw hl => exact .rows c ho hn hc hw fun i hi => (hl i hi).mono he
  | obj s₁ h0 hf hlen hd hb => exact .obj s₁ h0 hf hlen hd hb

/-- A block's reading hangs on the blocks that belong to it alone. -/
theorem RelB.local {s : Mp} {b : LB} {r : Nat} {f : List Nat} {h : Array Obj} (hb : RelB s b r f h) : ∀ {h' : Array Obj}, (∀ y, y = r ∨ y ∈ f → h'[y]? = h[y]?) → RelB s b r f h' := by
  induction hb with
  | any => intros; exact .any
  | cells c ho hl => intro h' he; exact .cells c (by rw [he _ (.inl rfl)]; exact ho) hl
  | ints ho => intro h' he; exact .ints (by rw [he _ (.inl rfl)]; exact ho)
  | rows c ho hn hc hw hl => intro h' he; exact .rows c (by rw [he _ (.inl rfl)]; exact ho) hn hc hw hl
  | obj s₁ h0 hf hlen hd hb ih =>
    intro h' he
    refine .obj s₁ h0 hf hlen hd fun i b q g hi hs => ih i b q g hi hs fun y hy => he y ((hf y).2 ⟨i, q, g, hs, hy⟩)

theorem RelT.mono {s s' : Mp} (he : HExt s s') {nt : Nat} {T : Tm} {a : Act} (h : RelT s nt T a) : RelT s' nt T a :=
  ⟨h.1, fun t => (h.2 t).mono he⟩

theorem Post.refl (s : Mp) (H : LH) (w : World) (hs : ∀ n y, ownB s n y → n < s.length) : Post s H w s H w :=
  ⟨.refl s, Nat.le_refl _, fun n y h _ => ⟨hs n y h, h⟩, fun _ _ _ => rfl, fun _ h => h, Nat.le_refl _, fun _ _ _ => rfl, rfl, rfl, rfl⟩

theorem ownB_lt {s : Mp} {n y : Nat} (h : ownB s n y) : n < s.length := by
  obtain ⟨r, f, h, _⟩ := h
  exact (List.getElem?_eq_some_iff.1 h).1

theorem Post.rfl' {s : Mp} {H : LH} {w : World} : Post s H w s H w := Post.refl s H w fun _ _ => ownB_lt

theorem Post.trans {s s₁ s₂ : Mp} {H H₁ H₂ : LH} {w w₁ w₂ : World} (h : Post s H w s₁ H₁ w₁) (h' : Post s₁ H₁ w₁ s₂ H₂ w₂) : Post s H w s₂ H₂ w₂ where
  hext := h.hext.trans h'.hext
  len := Nat.le_trans h.len h'.len
  fresh n y hy hlt := by
    have := h'.fresh n y hy (Nat.lt_of_lt_of_le hlt h.size)
    exact h.fresh n y this.2 hlt
  keep n hn hw := by
    rw [h'.keep n (Nat.lt_of_lt_of_le hn h.len) hw, h.keep n hn (fun h0 => hw (h'.wr n h0))]
  wr n hn := h'.wr n (h.wr n hn)
  size := Nat.le_trans h.size h'.size
  frame y hy hno := by
    rw [h'.frame y (Nat.lt_of_lt_of_le hy h.size) ?_, h.frame y hy (fun n hn => hno n (h'.wr n hn))]
    intro n hn ho
    exact hno n hn (h.fresh n y ho hy).2
  tape := h'.tape.trans h.tape
  os := h'.os.trans h.os
  output := h'.output.trans h.output

theorem RelL.length {s : Mp} : ∀ {l : List LC} {vs : List Value}, RelL s l vs → vs.length = l.length
  | [], [], _ => rfl
  | _ :: _, _ :: _, h => by simp [RelL.length h.2]
  | [], _ :: _, h => h.elim
  | _ :: _, [], h => h.elim

theorem RelL.get {s : Mp} : ∀ {l : List LC} {vs : List Value}, RelL s l vs → ∀ {i : Nat} {x : LC}, l[i]? = some x → ∃ v, vs[i]? = some v ∧ RelC s x v
  | [], [], _, i, x, hx => by simp at hx
  | y :: l, v :: vs, h, 0, x, hx => by simp at hx; subst hx; exact ⟨v, rfl, h.1⟩
  | _ :: l, _ :: vs, h, i + 1, x, hx => by simpa using RelL.get h.2 (by simpa using hx)
  | [], _ :: _, h, _, _, _ => h.elim
  | _ :: _, [], h, _, _, _ => h.elim

theorem RelL.take {s : Mp} : ∀ {l : List LC} {vs : List Value}, RelL s l vs → ∀ n, RelL s (l.take n) (vs.take n)
  | [], [], _, n => by simp [RelL]
  | _ :: _, _ :: _, _, 0 => by simp [RelL]
  | _ :: _, _ :: _, h, n + 1 => by simpa [RelL] using ⟨h.1, RelL.take h.2 n⟩
  | [], _ :: _, h, _ => h.elim
  | _ :: _, [], h, _ => h.elim

theorem RelL.drop {s : Mp} : ∀ {l : List LC} {vs : List Value}, RelL s l vs → ∀ n, RelL s (l.drop n) (vs.drop n)
  | [], [], _, n => by simp [RelL]
  | _ :: _, _ :: _, h, 0 => h
  | _ :: _, _ :: _, h, n + 1 => by simpa using RelL.drop h.2 n
  | [], _ :: _, h, _ => h.elim
  | _ :: _, [], h, _ => h.elim

theorem RelL.append {s : Mp} : ∀ {l : List LC} {vs : List Value}, RelL s l vs → ∀ {m : List LC} {us : List Value}, RelL s m us → RelL s (l ++ m) (vs ++ us)
  | [], [], _, _, _, h => h
  | _ :: _, _ :: _, h, _, _, h' => ⟨h.1, RelL.append h.2 h'⟩
  | [], _ :: _, h, _, _, _ => h.elim
  | _ :: _, [], h, _, _, _ => h.elim

theorem rowAt_length (i : Nat) : ∀ cs : List LCol, (rowAt cs i).length = cs.length
  | [] => rfl
  | _ :: r => by simp [rowAt, rowAt_length i r]

theorem LCol.get_free {s s' : Mp} {c : LCol} {i : Nat} {v : Value} (h : RelC s (c.get i) v) : RelC s' (c.get i) v := by
  cases c <;> exact h

theorem rowAt_free {s s' : Mp} {i : Nat} : ∀ {cs : List LCol} {vs : List Value}, RelL s (rowAt cs i) vs → RelL s' (rowAt cs i) vs
  | [], [], h => h
  | _ :: _, _ :: _, h => ⟨LCol.get_free h.1, rowAt_free h.2⟩
  | [], _ :: _, h => h.elim
  | _ :: _, [], h => h.elim

theorem bcond_eq {α : Type} (j i : Nat) (a b : α) : (bif Nat.beq j i then a else b) = if j = i then a else b := by
  by_cases h : j = i
  · subst h; rw [Nat.beq_refl, if_pos rfl]; rfl
  · have : Nat.beq j i = false := Bool.eq_false_iff.2 fun hc => h (Nat.eq_of_beq_eq_true hc)
    rw [this, if_neg h]; rfl

theorem LCol.set_get {c c' : LCol} {i : Nat} {x : LC} (h : c.set i x = some c') (j : Nat) : c'.get j = if j = i then x else c.get j := by
  cases c with
  | int k f =>
    cases x <;> simp only [LCol.set, reduceCtorEq] at h
    split at h
    · rename_i hk
      have hk := of_decide_eq_true hk
      subst hk
      cases h
      simp only [LCol.get, bcond_eq]
      split <;> rfl
    · cases h
  | bool f =>
    cases x <;> simp only [LCol.set, reduceCtorEq, Option.some.injEq] at h
    subst h
    simp only [LCol.get, bcond_eq]
    split <;> rfl

theorem lay_cols {i : Nat} : ∀ {new : List LC} {cs cs' : List LCol}, setCols.lay cs i new = some cs' → new.length ≤ cs.length ∧ cs'.length = cs.length ∧
    ∀ j, rowAt cs' j = if j = i then new ++ (rowAt cs j).drop new.length else rowAt cs j
  | [], cs, cs', h => by
    have : cs = cs' := by cases cs <;> simpa [setCols.lay] using h
    subst this
    simp
  | x :: new, [], cs', h => by simp [setCols.lay] at h
  | x :: new, c :: cs, cs', h => by
    simp only [setCols.lay] at h
    split at h
    · rename_i c1 hc1
      split at h
      · rename_i l hl
        cases h
        obtain ⟨h1, h2, h3⟩ := lay_cols hl
        refine ⟨by simpa using h1, by simp [h2], fun j => ?_⟩
        simp only [rowAt, LCol.set_get hc1, h3]
        split <;> simp
      · cases h
    · cases h

theorem setCols_eq {i : Nat} {new : List LC} : ∀ {off : Nat} {cs cs' : List LCol}, setCols cs i off new = some cs' → off + new.length ≤ cs.length ∧ cs'.length = cs.length ∧
    ∀ j, rowAt cs' j = if j = i then (rowAt cs j).take off ++ new ++ (rowAt cs j).drop (off + new.length) else rowAt cs j
  | 0, cs, cs', h => by
    have h' : setCols.lay cs i new = some cs' := by cases cs <;> simpa [setCols] using h
    have := lay_cols h'
    simpa using this
  | off + 1, [], cs', h => by simp [setCols] at h
  | off + 1, c :: cs, cs', h => by
    simp only [setCols] at h
    split at h
    · rename_i l hl
      cases h
      obtain ⟨h1, h2, h3⟩ := setCols_eq hl
      refine ⟨by simp; omega, by simp [h2], fun j => ?_⟩
      simp only [rowAt, h3]
      split
      · simp [Nat.succ_add]
      · rfl
    · cases h

theorem newCols_eq : ∀ {new : List LC} {cs : List LCol}, newCols new = some cs → cs.length = new.length ∧ ∀ j, rowAt cs j = new
  | [], cs, h => by cases h; exact ⟨rfl, fun _ => rfl⟩
  | x :: r, cs, h => by
    simp only [newCols] at h
    split at h
    · cases h
    · rename_i l hl
      obtain ⟨h1, h2⟩ := newCols_eq hl
      split at h
      · cases h; exact ⟨by simp [h1], fun j => by simp [rowAt, h2, LCol.get]⟩
      · cases h; exact ⟨by simp [h1], fun j => by simp [rowAt, h2, LCol.get]⟩
      · cases h

theorem RelC.oneCell {s : Mp} {x : LC} {v : Value} (h : RelC s x v) : oneC v = true := by
  cases x <;> simp only [RelC] at h
  case any => exact h
  case ptr => obtain ⟨r, _, rfl⟩ := h; rfl
  case idx => obtain ⟨r, _, rfl⟩ := h; rfl
  case slice => obtain ⟨r, _, rfl⟩ := h; rfl
  case vsl => obtain ⟨rfl, _⟩ := h; rfl
  case vpt => obtain ⟨q, off, o, _, _, _, _, rfl⟩ := h; rfl
  case iface => obtain ⟨u, rfl, _⟩ := h; rfl
  all_goals subst h; rfl

theorem cells_oneCell {v : Value} (h : oneC v = true) : v.cells = #[v] := by
  cases v <;> first | rfl | (simp [oneC] at h)

theorem RelV.cells {s : Mp} {x : LV} {v : Value} {l : List LC} (h : RelV s x v) (hl : x.cells = some l) : RelL s l v.cells.toList := by
  cases x <;> simp only [LV.cells, Option.some.injEq, reduceCtorEq] at hl
  case c x =>
    subst hl
    rw [cells_oneCell (RelC.oneCell h)]
    exact ⟨h, trivial⟩
  case agg m =>
    subst hl
    obtain ⟨cs, rfl, h⟩ := h
    exact h

theorem RelV.part {s : Mp} {x : LV} {v : Value} {p : LP} (h : RelV s x v) (hp : x.part = some p) : RelP s p v := by
  cases x <;> simp only [LV.part, Option.some.injEq, reduceCtorEq] at hp
  · subst hp; exact h
  · subst hp; exact h

theorem RelP.lv {s : Mp} {p : LP} {v : Value} (h : RelP s p v) : RelV s p.lv v := by
  cases p <;> exact h

theorem ofConstC_rel (s : Mp) : ∀ {v : Value} {x : LC}, ofConstC v = some x → RelC s x v := by
  intro v x h
  unfold ofConstC at h
  split at h <;> first | (cases h; rfl) | cases h

theorem ofConstL_rel (s : Mp) : ∀ {vs : List Value} {l : List LC}, ofConstL vs = some l → RelL s l vs
  | [], l, h => by cases h; trivial
  | v :: vs, l, h => by
    simp only [ofConstL] at h
    split at h
    · cases h
    · rename_i x hx
      split at h
      · cases h
      · rename_i l' hl'
        cases h
        exact ⟨ofConstC_rel s hx, ofConstL_rel s hl'⟩

theorem ofConst_rel (s : Mp) (v : Value) : RelV s (ofConst v) v := by
  unfold ofConst
  split
  · split
    · rename_i cs _ l h
      exact ⟨cs, rfl, ofConstL_rel s h⟩
    · trivial
  · split
    · rename_i x h
      exact ofConstC_rel s h
    · trivial

theorem opnd_rel {s : Mp} {nt : Nat} {T : Tm} {a : Act} (h : RelT s nt T a) (x : Operand) : RelV s (opnd T x) (a.eval x) := by
  cases x with
  | tmp t => exact h.2 t
  | const v => exact ofConst_rel s v
  | global g => trivial
  | func f => rfl

end Go.FL

/-
  The evaluator's operations are sound: what they say of their abstract result holds of the real one.
-/
set_option linter.unusedVariables false
set_option linter.unusedSimpArgs false
set_option linter.unusedSectionVars false
namespace Go.FL

section
variable [Fz] {P : Program}

/-- What the evaluator asks of the program beyond its code: a function with a body is entered. -/
def FnOK (P : Program) : Prop := ∀ f fn, P.funcs[f]? = some fn → fn.body.isSome = true → ∀ args w, (callFunc f args).run P w = .ok (.enter f args) w

def CSpec (P : Program) (f : FuncId) (args : List LV) (H : LH) (K : LV → LH → Prop) : Prop :=
  ∀ s vs w, RelVs s args vs → Rel s H w → Calls P f vs.toArray w fun
    | .returned v', w' => ∃ s' v H', K v H' ∧ RelV s' v v' ∧ Rel s' H' w' ∧ Post s H w s' H' w'
    | _, _ => False

def CallOK (P : Program) (call : FuncId → List LV → LH → (LV → LH → Prop) → Prop) : Prop :=
  ∀ f args H K, call f args H K → (∃ fn, P.funcs[f]? = some fn ∧ fn.body.isSome = true) ∧ CSpec P f args H K

theorem aggT_run {t : TypeId} {b : Bool} (h : aggT P t = some b) (w : World) : (isAgg t).run P w = .ok b w := by
  unfold aggT at h
  unfold isAgg
  split at h
  · rename_i fs hu; cases h; simp [run_underlying hu]
  · rename_i n e hu; cases h; simp [run_underlying hu]
  · rename_i d h1 h2 hu
    cases h
    simp only [Sem.run_bind, run_underlying hu, Result.andThen_ok]
    first
      | rfl
      | (split
         · exact absurd rfl (h1 _)
         · exact absurd rfl (h2 _ _)
         · rfl)
  · cases h

theorem typeInfo_run {t : TypeId} {i : TypeInfo} (h : P.info? t = some i) (w : World) : (typeInfo t).run P w = .ok i w := by
  simp [typeInfo, h]

theorem sizeT_run {t : TypeId} {n : Nat} (h : sizeT P t = some n) (w : World) : (sizeOf t).run P w = .ok n w := by
  unfold sizeT at h
  split at h
  · rename_i i hi; cases h; simp [sizeOf, typeInfo_run hi]
  · cases h

theorem zeroT_run {s : Mp} {t : TypeId} {l : List LC} (h : zeroT P t = some l) : ∃ v, (∀ w, (zeroValue t).run P w = .ok v w) ∧ RelL s l v.cells.toList := by
  unfold zeroT at h
  split at h
  · rename_i i hi
    split at h
    · rename_i v hv
      exact ⟨v, fun w => by simp [zeroValue, typeInfo_run hi, hv], (ofConst_rel s v).cells h⟩
    · cases h
  · cases h

theorem cell_of {w : World} {r : Nat} {c : Array Value} {e : TypeId} {fz : Nat × Nat} (h : w.heap[r]? = some (.cells c e fz)) (o : Nat) :
    w.cell? ⟨r, o, none⟩ = c[o]? := by simp [World.cell?, h]

theorem add_plain (r o n : Nat) : (⟨r, o, none⟩ : Addr).add n = ⟨r, o + n, none⟩ := by
  unfold Addr.add; split <;> simp_all

/-- A load of a part of a row. -/
theorem loadRow_run {s : Mp} {t : TypeId} {l : List LC} {off base : Nat} {K : LV → Prop} {r : Nat} {c : Array Value} {e : TypeId} {fz : Nat × Nat} {vs : List Value}
    (hl : RelL s l vs) (hc : ∀ (i : Nat) (v : Value), vs[i]? = some v → c[base + i]? = some v)
    (h : loadRow P t l off K) : ∃ x v, K x ∧ RelV s x v ∧ ∀ w : World, w.heap[r]? = some (.cells c e fz) → (loadVar t ⟨r, base + off, none⟩).run P w = .ok v w := by
  unfold loadRow at h
  split at h
  · rename_i hagg
    split at h
    · rename_i n hn
      split at h
      · rename_i cs hcs
        obtain ⟨hle, rfl⟩ := lsub_eq _ _ _ hcs
        have hr := (hl.drop off).take n
        have hlen : ((vs.drop off).take n).length = n := by
          rw [hr.length]; simp; omega
        refine ⟨_, .agg ((vs.drop off).take n).toArray, h, ⟨_, rfl, by simpa using hr⟩, fun w hb => ?_⟩
        simp only [loadVar, Sem.run_bind, aggT_run hagg, Result.andThen_ok, if_true, sizeT_run hn]
        have := run_loadCells_list (P := P) w ⟨r, base + off, none⟩ ((vs.drop off).take n) (fun j v hj => by
          rw [add_plain, cell_of hb, Nat.add_assoc]
          refine hc (off + j) v ?_
          rw [List.getElem?_take] at hj
          split at hj
          · simpa using hj
          · cases hj)
        rw [hlen] at this
        rw [this]
        rfl
      · exact h.elim
    · exact h.elim
  · rename_i hagg
    split at h
    · rename_i x hx
      rw [lget_eq] at hx
      obtain ⟨v, hv, hrel⟩ := hl.get hx
      refine ⟨_, v, h, hrel, fun w hb => ?_⟩
      simp only [loadVar, Sem.run_bind, aggT_run hagg, Result.andThen_ok, Bool.false_eq_true, if_false, run_load, cell_of hb, hc off v hv]
    · exact h.elim
  · exact h.elim

theorem LH.get_eq (H : LH) (n : Nat) : H.get n = H.bl[n]? := lget_eq _ _

theorem hd_some {s : Mp} {n r : Nat} (h : hd s n = some r) : ∃ f, s[n]? = some (r, f) := by
  unfold hd at h
  cases hx : s[n]? with
  | none => rw [hx] at h; cases h
  | some p => rw [hx] at h; cases h; exact ⟨p.2, rfl⟩

theorem hd_of {s : Mp} {n r : Nat} {f : List Nat} (h : s[n]? = some (r, f)) : hd s n = some r := by unfold hd; rw [h]; rfl

theorem loadA_run' {s : Mp} {t : TypeId} {x : LV} {H : LH} {K : LV → Prop} {w : World} {u : Value} (hx : RelV s x u) (hH : Rel s H w) (h : loadA P t x H K) :
    ∃ y v r o, K y ∧ RelV s y v ∧ ((∃ n, addrOf x = some n ∧ hd s n = some r) ∨ (addrOf x = none ∧ isView x = true ∧ Fz.F r o)) ∧ w.heap[r]? = some o ∧ ∀ w' : World, w'.heap[r]? = some o → (Instr.loadAt t u).run P w' = .ok v w' := by
  unfold loadA at h
  split at h
  · rename_i n off
    obtain ⟨r, hr, rfl⟩ := hx
    obtain ⟨f, hsf⟩ := hd_some hr
    split at h
    · rename_i e l hg
      rw [LH.get_eq] at hg
      cases hH.blk _ _ _ _ hg hsf with
      | cells c ho hl =>
        obtain ⟨y, v, hK, hrel, hrun⟩ := loadRow_run (base := 0) (r := r) (e := e) hl (fun i v hi => by simpa [Array.getElem?_toList] using hi) h
        refine ⟨y, v, r, _, hK, hrel, .inl ⟨n, rfl, hr⟩, ho, fun w' hw' => ?_⟩
        have hrun := hrun w' hw'
        rw [Nat.zero_add] at hrun
        simp only [Instr.loadAt, Instr.sureAddr, Sem.run_bind, Sem.run_pure, Result.andThen_ok, hrun]
    · exact h.elim
  · rename_i n row wd col
    obtain ⟨r, hr, rfl⟩ := hx
    obtain ⟨f, hsf⟩ := hd_some hr
    split at h
    · rename_i e l hg
      rw [LH.get_eq] at hg
      cases hH.blk _ _ _ _ hg hsf with
      | cells c ho hl =>
        obtain ⟨y, v, hK, hrel, hrun⟩ := loadRow_run (base := 0) (r := r) (e := e) hl (fun i v hi => by simpa [Array.getElem?_toList] using hi) h
        refine ⟨y, v, r, _, hK, hrel, .inl ⟨n, rfl, hr⟩, ho, fun w' hw' => ?_⟩
        have hrun := hrun w' hw'
        rw [Nat.zero_add] at hrun
        simp only [Instr.loadAt, Instr.sureAddr, Sem.run_bind, Sem.run_pure, Result.andThen_ok, hrun]
    · rename_i e k m g hg
      rw [LH.get_eq] at hg
      cases hH.blk _ _ _ _ hg hsf with
      | ints ho =>
        split at h
        · rename_i hagg
          split at h
          · obtain ⟨hlt, hK⟩ := h
            refine ⟨_, .int k (g row), r, _, hK, rfl, .inl ⟨n, rfl, hr⟩, ho, fun w' hw' => ?_⟩
            simp only [Instr.loadAt, Instr.sureAddr, Sem.run_bind, Sem.run_pure, Result.andThen_ok, loadVar, aggT_run hagg, Bool.false_eq_true, if_false, run_load, cell_of hw']
            simp [hlt]
          · exact h.elim
        · exact h.elim
    · rename_i e w' m cap cs hg
      rw [LH.get_eq] at hg
      cases hH.blk _ _ _ _ hg hsf with
      | rows c ho hnc hc hw0 hl =>
        split at h
        · rename_i hw
          have hw : wd = w' := by simpa using hw
          subst hw
          obtain ⟨hlt, h⟩ := h
          have hrow := hl row hlt
          obtain ⟨y, v, hK, hrel, hrun⟩ := loadRow_run (base := row * wd) (r := r) (e := e) (c := c) hrow (fun i v hi => by
            rw [List.getElem?_take] at hi
            split at hi
            · rw [List.getElem?_drop] at hi
              simpa [Array.getElem?_toList] using hi
            · cases hi) h
          refine ⟨y, v, r, _, hK, hrel, .inl ⟨n, rfl, hr⟩, ho, fun w' hw' => ?_⟩
          have hrun := hrun w' hw'
          simp only [Instr.loadAt, Instr.sureAddr, Sem.run_bind, Sem.run_pure, Result.andThen_ok, hrun]
        · exact h.elim
    · exact h.elim
  · rename_i p len wd cs row col
    obtain ⟨q, off, o, rfl, hF, ⟨c, e, ⟨fz, rfl⟩, hcs, hrow⟩, hlt, rfl⟩ := hx
    obtain ⟨vs, hvl, hvc, hvx⟩ := hrow row hlt
    have hl : RelL s (rowAt cs row) vs := by
      have key : ∀ (cs : List LCol) (vs : List Value), vs.length = cs.length → (∀ (j : Nat) (x : LCol), cs[j]? = some x → ∃ v, vs[j]? = some v ∧ (match x with
          | .int k f => v = .int k (f row)
          | .bool f => v = .bool (f row))) → RelL s (rowAt cs row) vs := by
        intro cs
        induction cs with
        | nil => intro vs hl _; cases vs with
          | nil => trivial
          | cons v vs => cases hl
        | cons x cs ih =>
          intro vs hl hx
          cases vs with
          | nil => cases hl
          | cons v vs =>
            refine ⟨?_, ih vs (by simpa using hl) fun j x hj => by simpa using hx (j + 1) x (by simpa using hj)⟩
            obtain ⟨v', hv', hm⟩ := hx 0 x rfl
            simp at hv'
            subst hv'
            cases x <;> exact hm
      exact key cs vs (by rw [hvl, hcs]) hvx
    obtain ⟨y, v, hK, hrel, hrun⟩ := loadRow_run (base := off + row * wd) (r := q) (e := e) (c := c) hl hvc h
    refine ⟨y, v, q, _, hK, hrel, .inr ⟨rfl, rfl, hF⟩, (hH.frz q _ hF).1, fun w' hw' => ?_⟩
    have hrun := hrun w' hw'
    simp only [Instr.loadAt, Instr.sureAddr, Sem.run_bind, Sem.run_pure, Result.andThen_ok, hrun]
  · exact h.elim

theorem loadA_run {s : Mp} {t : TypeId} {x : LV} {H : LH} {K : LV → Prop} {w : World} {u : Value} (hx : RelV s x u) (hH : Rel s H w) (h : loadA P t x H K) :
    ∃ y v, K y ∧ RelV s y v ∧ (Instr.loadAt t u).run P w = .ok v w := by
  obtain ⟨y, v, r, o, h1, h2, _, h5, h6⟩ := loadA_run' hx hH h
  exact ⟨y, v, h1, h2, h6 w h5⟩

/-! ### Changes of the heap -/

theorem Rel.len_heap {s : Mp} {H : LH} {w : World} (h : Rel s H w) : ∀ (n r : Nat), hd s n = some r → r < w.heap.size := by
  intro n r hr
  obtain ⟨f, hf⟩ := hd_some hr
  exact h.bnd n r ⟨r, f, hf, .inl rfl⟩

theorem LH.len_eq (H : LH) : H.len = H.bl.length := llen_eq _

theorem getElem?_snoc {α : Type} (l : List α) (x : α) (n : Nat) (y : α) (h : (l ++ [x])[n]? = some y) : (l[n]? = some y) ∨ (n = l.length ∧ y = x) := by
  rcases Nat.lt_or_ge n l.length with hlt | hge
  · rw [List.getElem?_append_left hlt] at h; exact .inl h
  · rw [List.getElem?_append_right hge] at h
    right
    rcases Nat.lt_or_ge (n - l.length) 1 with h1 | h1
    · have : n = l.length := by omega
      subst this; simp at h; exact ⟨rfl, h.symm⟩
    · rw [List.getElem?_eq_none (by simpa using h1)] at h; cases h

theorem ownB_snoc {s : Mp} {r n y : Nat} (h : ownB (s ++ [(r, [])]) n y) : ownB s n y ∨ (n = s.length ∧ y = r) := by
  obtain ⟨q, f, hn, hy⟩ := h
  rcases getElem?_snoc _ _ _ _ hn with h1 | ⟨h1, h2⟩
  · exact .inl ⟨q, f, h1, hy⟩
  · cases h2
    right
    exact ⟨h1, by simpa using hy⟩

/-- A new block. -/
theorem Rel.new {s : Mp} {H : LH} {w : World} (h : Rel s H w) {b : LB} {o : Obj} (hb : RelB (s ++ [(w.heap.size, [])]) b w.heap.size [] (w.heap.push o)) :
    Rel (s ++ [(w.heap.size, [])]) (H.new b) { w with heap := w.heap.push o } ∧ Post s H w (s ++ [(w.heap.size, [])]) (H.new b) { w with heap := w.heap.push o } := by
  have hpush : ∀ y, y < w.heap.size → (w.heap.push o)[y]? = w.heap[y]? := fun y hy => by
    simp only [Array.getElem?_push]; rw [if_neg (by omega)]
  refine ⟨⟨by simp [LH.new, h.len], ?_, ?_, ?_, ?_⟩, ⟨.app _ _, by simp, ?_, ?_, fun _ h => h, by simp, fun y hy _ => hpush y hy, rfl, rfl, rfl⟩⟩
  · intro n b' r f hn hs
    simp only [LH.new] at hn
    rcases getElem?_snoc _ _ _ _ hs with hs | ⟨hs', he⟩
    · have hlt := (List.getElem?_eq_some_iff.1 hs).1
      rw [List.getElem?_append_left (by rw [← h.len]; exact hlt)] at hn
      exact ((h.blk n b' r f hn hs).mono (.app _ _)).local fun y hy => hpush y (h.bnd n y ⟨r, f, hs, hy⟩)
    · cases he
      rcases getElem?_snoc _ _ _ _ hn with hn | ⟨_, rfl⟩
      · have h1 := (List.getElem?_eq_some_iff.1 hn).1
        have h2 := h.len
        omega
      · exact hb
  · intro n m y hn hm
    rcases ownB_snoc hn with h1 | ⟨h1, h2⟩ <;> rcases ownB_snoc hm with h3 | ⟨h3, h4⟩
    · exact h.dis n m y h1 h3
    · have := h.bnd n y h1; omega
    · have := h.bnd m y h3; omega
    · omega
  · intro n y hn
    rcases ownB_snoc hn with h1 | ⟨h1, h2⟩
    · have := h.bnd n y h1; simp; omega
    · simp; omega
  · intro q o' hF
    obtain ⟨h1, h2⟩ := h.frz q o' hF
    have hlt : q < w.heap.size := (Array.getElem?_eq_some_iff.1 h1).1
    refine ⟨by rw [hpush q hlt]; exact h1, fun n hn => ?_⟩
    rcases ownB_snoc hn with h3 | ⟨_, h4⟩
    · exact h2 n h3
    · omega
  · intro n y hn hlt
    rcases ownB_snoc hn with h1 | ⟨h1, h2⟩
    · exact ⟨ownB_lt h1, h1⟩
    · omega
  · intro n hn _
    rw [List.getElem?_append_left hn]

/-- A row laid anew in place. -/
theorem Rel.put {s : Mp} {H : LH} {w : World} (h : Rel s H w) {n r : Nat} {f : List Nat} (hs : s[n]? = some (r, f)) {b : LB} {c c' : Array Value} {e : TypeId}
    (ho : w.heap[r]? = some (.cells c e (0, 0))) (hb : RelB s b r f (w.setRow r c').heap) :
    Rel s (H.put n b) (w.setRow r c') ∧ Post s H w s (H.put n b) (w.setRow r c') := by
  refine ⟨⟨by simp [LH.put, lset_eq, h.len], ?_, h.dis, fun n y hy => by simpa using h.bnd n y hy, fun q o' hF => ?_⟩, ⟨.refl s, Nat.le_refl _, fun n y hn _ => ⟨ownB_lt hn, hn⟩, fun _ _ _ => rfl, fun m hm => List.mem_cons_of_mem _ hm, by simp, ?_, rfl, rfl, rfl⟩⟩
  · intro m b' q g hm hsm
    simp only [LH.put, lset_eq, List.getElem?_set] at hm
    split at hm
    · rename_i hnm
      subst hnm
      split at hm
      · cases hm
        rw [hs] at hsm; cases hsm
        exact hb
      · cases hm
    · rename_i hnm
      refine (h.blk m b' q g hm hsm).local fun y hy => ?_
      rw [setRow_other]
      intro he
      subst he
      exact hnm (h.dis n m y ⟨y, f, hs, .inl rfl⟩ ⟨q, g, hsm, hy⟩)
  · obtain ⟨h1, h2⟩ := h.frz q o' hF
    refine ⟨?_, h2⟩
    rw [setRow_other]
    · exact h1
    · intro he
      subst he
      exact h2 n ⟨q, f, hs, .inl rfl⟩
  · intro y hy hno
    rw [setRow_other]
    intro he
    subst he
    exact hno n (by simp [LH.put]) ⟨y, f, hs, .inl rfl⟩

theorem RelL.oneCell {s : Mp} : ∀ {l : List LC} {vs : List Value}, RelL s l vs → ∀ v ∈ vs, v.oneCell' = true
  | [], [], _ => by simp
  | _ :: _, _ :: _, h => by
    intro v hv
    rcases List.mem_cons.1 hv with rfl | hv
    · have := h.1.oneCell
      cases v <;> first | rfl | (simp [oneC] at this)
    · exact RelL.oneCell h.2 v hv
  | [], _ :: _, h => h.elim
  | _ :: _, [], h => h.elim

theorem storeVar_run {t : TypeId} {n : Nat} {v : Value} {w : World} {r off : Nat} {c : Array Value} {e : TypeId} (hn : sizeT P t = some n) (hsz : v.cells.size = n)
    (ho : w.heap[r]? = some (.cells c e (0, 0))) (hle : off + n ≤ c.size) (h1 : ∀ x ∈ v.cells.toList, x.oneCell' = true) :
    (storeVar t ⟨r, off, none⟩ v).run P w = .ok () (w.setRow r (c.toList.take off ++ v.cells.toList ++ c.toList.drop (off + n)).toArray) := by
  simp only [storeVar, Sem.run_bind, sizeT_run hn, Result.andThen_ok, hsz, ne_eq, not_true_eq_false, if_false, Sem.run_pure]
  have := run_storeCells_at (P := P) r off e v.cells.toList 0 c w ho (by simpa [hsz] using hle) h1
  simpa [hsz] using this

theorem patch_get {α : Type} (L new : List α) (off : Nat) (h : off + new.length ≤ L.length) (j : Nat) :
    (L.take off ++ new ++ L.drop (off + new.length))[j]? = if j < off then L[j]? else if j < off + new.length then new[j - off]? else L[j]? := by
  simp only [List.append_assoc, List.getElem?_append, List.length_take, List.getElem?_take, List.getElem?_drop]
  have hm : min off L.length = off := by omega
  rw [hm]
  by_cases h1 : j < off
  · simp [h1]
  · rw [if_neg h1, if_neg h1]
    by_cases h2 : j < off + new.length
    · rw [if_pos (by omega), if_pos h2]
    · rw [if_neg (by omega), if_neg h2]
      congr 1
      omega

theorem row_get {α : Type} (L : List α) (w i j : Nat) : ((L.drop (i * w)).take w)[j]? = if j < w then L[i * w + j]? else none := by
  rw [List.getElem?_take]
  split
  · rw [List.getElem?_drop]
  · rfl

theorem row_patch {α : Type} (L new : List α) (w row col i : Nat) (hcol : col + new.length ≤ w) (hlen : (row + 1) * w ≤ L.length) :
    ((L.take (row * w + col) ++ new ++ L.drop (row * w + col + new.length)).drop (i * w)).take w =
      if i = row then ((L.drop (row * w)).take w).take col ++ new ++ ((L.drop (row * w)).take w).drop (col + new.length) else (L.drop (i * w)).take w := by
  have hs : (row + 1) * w = row * w + w := Nat.succ_mul _ _
  apply List.ext_getElem?
  intro j
  rw [row_get, patch_get _ _ _ (by omega)]
  by_cases hi : i = row
  · subst hi
    rw [if_pos rfl, patch_get _ _ _ (by simp; omega), row_get]
    by_cases hj : j < w
    · simp only [hj, if_true]
      by_cases h1 : j < col
      · rw [if_pos (by omega), if_pos h1]
      · rw [if_neg (by omega), if_neg h1]
        by_cases h2 : j < col + new.length
        · rw [if_pos (by omega), if_pos h2]; congr 1; omega
        · rw [if_neg (by omega), if_neg h2]
    · simp only [hj, if_false]
      rw [if_neg (by omega), if_neg (by omega)]
  · rw [if_neg hi, row_get]
    by_cases hj : j < w
    · simp only [hj, if_true]
      rcases Nat.lt_or_gt_of_ne hi with hlt | hgt
      · have : (i + 1) * w ≤ row * w := Nat.mul_le_mul_right _ hlt
        have h2 : (i + 1) * w = i * w + w := Nat.succ_mul _ _
        rw [if_pos (by omega)]
      · have : (row + 1) * w ≤ i * w := Nat.mul_le_mul_right _ hgt
        rw [if_neg (by omega), if_neg (by omega)]
    · simp only [hj, if_false]

/-- A row laid over a part of a block of rows. -/
theorem rows_patch {s : Mp} {cols cols' : List LCol} {new : List LC} {vs : List Value} {L : List Value} {w n row col : Nat} (hw : cols.length = w) (hlen : (row + 1) * w ≤ L.length)
    (hl : ∀ i, i < n → RelL s (rowAt cols i) ((L.drop (i * w)).take w)) (hv : RelL s new vs) (hset : setCols cols row col new = some cols')
    (i : Nat) (hi : i < n ∨ (i = row ∧ col = 0 ∧ new.length = w)) :
    RelL s (rowAt cols' i) (((L.take (row * w + col) ++ vs ++ L.drop (row * w + col + vs.length)).drop (i * w)).take w) := by
  obtain ⟨h1, h2, h3⟩ := setCols_eq hset
  have hvl := hv.length
  rw [row_patch L vs w row col i (by omega) hlen, h3]
  by_cases he : i = row
  · subst he
    rw [if_pos rfl, if_pos rfl]
    rcases hi with hi | ⟨_, hc, hnw⟩
    · have := hl i hi
      rw [hvl]
      exact ((this.take col).append hv).append (this.drop (col + new.length))
    · subst hc
      have e1 : (rowAt cols i).drop (0 + new.length) = [] := by rw [List.drop_eq_nil_of_le]; rw [rowAt_length]; omega
      have e2 : ((L.drop (i * w)).take w).drop (0 + vs.length) = [] := by rw [List.drop_eq_nil_of_le]; simp; omega
      rw [e1, e2]
      simpa using hv
  · rw [if_neg he, if_neg he]
    rcases hi with hi | ⟨hi, _⟩
    · exact hl i hi
    · exact absurd hi he

theorem storeA_run {s : Mp} {t : TypeId} {x y : LV} {H : LH} {K : LH → Prop} {w : World} {u v : Value} (hx : RelV s x u) (hy : RelV s y v) (hH : Rel s H w)
    (h : storeA P t x y H K) : ∃ H' w', K H' ∧ Rel s H' w' ∧ Post s H w s H' w' ∧ (Instr.storeAt t u v).run P w = .ok () w' := by
  unfold storeA at h
  split at h
  · exact h.elim
  rename_i cs hcs
  split at h
  · exact h.elim
  rename_i n hn
  split at h
  · exact h.elim
  rename_i hlen
  have hlen : cs.length = n := by simpa [llen_eq] using hlen
  have hv := hy.cells hcs
  have hvl : v.cells.size = n := by rw [← Array.length_toList, hv.length, hlen]
  have h1 := hv.oneCell
  -- both kinds of address
  have core : ∀ (b off r : Nat) (e : TypeId) (l l' : List LC), H.bl[b]? = some (.cells e l) → hd s b = some r → lover l off cs = some l' → K (H.put b (.cells e l')) →
      ∃ H' w', K H' ∧ Rel s H' w' ∧ Post s H w s H' w' ∧ (Instr.storeAt t (.pointer (some ⟨r, off, none⟩)) v).run P w = .ok () w' := by
    intro b off r e l l' hg hr hlo hK
    obtain ⟨f, hsf⟩ := hd_some hr
    cases hH.blk _ _ _ _ hg hsf with
    | cells c ho hl =>
      obtain ⟨hle, rfl⟩ := lover_eq _ _ _ hlo
      have hcl : c.size = l.length := by rw [← Array.length_toList, hl.length]
      have hb : RelB s (.cells e (l.take off ++ cs ++ l.drop (off + cs.length))) r [] (w.setRow r (c.toList.take off ++ v.cells.toList ++ c.toList.drop (off + n)).toArray).heap := by
        refine .cells _ (setRow_heap w r c _ e _ ho) ?_
        simp only [List.toList_toArray]
        rw [hlen]
        exact ((hl.take off).append hv).append (hl.drop (off + n))
      obtain ⟨h2, h3⟩ := hH.put hsf ho hb
      refine ⟨_, _, hK, h2, h3, ?_⟩
      simp only [Instr.storeAt, Instr.sureAddr, Sem.run_bind, Sem.run_pure, Result.andThen_ok]
      exact storeVar_run hn hvl ho (by omega) h1
  split at h
  · rename_i b off
    obtain ⟨r, hr, rfl⟩ := hx
    split at h
    · rename_i e l hg
      rw [LH.get_eq] at hg
      split at h
      · rename_i l' hlo
        exact core b off r e l l' hg hr hlo h
      · exact h.elim
    · exact h.elim
  · rename_i b row wd col
    obtain ⟨r, hr, rfl⟩ := hx
    split at h
    · rename_i e l hg
      rw [LH.get_eq] at hg
      split at h
      · rename_i l' hlo
        exact core b _ r e l l' hg hr hlo h
      · exact h.elim
    · rename_i e k m g hg
      rw [LH.get_eq] at hg
      split at h
      · rename_i k' i _
        split at h
        · rename_i hk
          have hk := of_decide_eq_true hk
          subst hk
          obtain ⟨hlt, hK⟩ := h
          obtain ⟨f, hsf⟩ := hd_some hr
          cases hH.blk _ _ _ _ hg hsf with
          | ints ho =>
            have hvc : v.cells.toList = [.int k' i] := by
              generalize v.cells.toList = z at hv
              match z, hv with
              | [a], ⟨ha, _⟩ => have : a = .int k' i := ha; rw [this]
              | [], h => exact h.elim
              | _ :: _ :: _, h => exact h.2.elim
            have hn1 : n = 1 := by rw [← hlen]; rfl
            subst hn1
            have hfun : (fun j => bif Nat.beq j row then i else g j) = fun j => if j = row then i else g j := by
              funext j
              exact bcond_eq _ _ _ _
            rw [hfun] at hK
            have hb : RelB s (.ints e k' m fun j => if j = row then i else g j) r [] (w.setRow r (((List.range m).map fun i => Value.int k' (g i)).toArray.toList.take (row * 1 + 0) ++ v.cells.toList ++ ((List.range m).map fun i => Value.int k' (g i)).toArray.toList.drop (row * 1 + 0 + 1)).toArray).heap := by
              refine .ints ?_
              rw [setRow_heap w r _ _ e _ ho]
              congr 2
              rw [hvc]
              simp only [List.toList_toArray, Nat.mul_one, Nat.add_zero]
              congr 1
              have hset : ((List.range m).map fun i => Value.int k' (g i)).take row ++ [Value.int k' i] ++ ((List.range m).map fun i => Value.int k' (g i)).drop (row + 1) = ((List.range m).map fun i => Value.int k' (g i)).set row (.int k' i) := by
                rw [List.set_eq_take_append_cons_drop, if_pos (by simpa using hlt)]
                simp
              rw [hset]
              apply List.ext_getElem?
              intro j
              rw [List.getElem?_set]
              simp only [List.getElem?_map, List.length_map, List.length_range]
              by_cases hj : row = j
              · subst hj
                simp [hlt]
              · rw [if_neg hj]
                cases hx : (List.range m)[j]? with
                | none => rfl
                | some q =>
                  have hq : q = j := by
                    obtain ⟨h5, h6⟩ := List.getElem?_eq_some_iff.1 hx
                    simpa using h6.symm
                  subst hq
                  simp [Ne.symm hj]
            obtain ⟨h2, h3⟩ := hH.put hsf ho hb
            refine ⟨_, _, hK, h2, h3, ?_⟩
            simp only [Instr.storeAt, Instr.sureAddr, Sem.run_bind, Sem.run_pure, Result.andThen_ok]
            exact storeVar_run hn hvl ho (by simp; omega) h1
        · exact h.elim
      · exact h.elim
    · rename_i e w' m cap cols hg
      rw [LH.get_eq] at hg
      split at h
      · rename_i hwd
        have hwd : wd = w' := by simpa using hwd
        subst hwd
        split at h
        · rename_i cols' hset
          obtain ⟨hlt, hK⟩ := h
          obtain ⟨f, hsf⟩ := hd_some hr
          cases hH.blk _ _ _ _ hg hsf with
          | rows c ho hnc hc hw0 hl =>
            obtain ⟨h5, h6, _⟩ := setCols_eq hset
            have hle : (row + 1) * wd ≤ cap * wd := Nat.mul_le_mul_right _ (by omega)
            have hsu : (row + 1) * wd = row * wd + wd := Nat.succ_mul _ _
            have hvn : v.cells.toList.length = n := by simpa using hvl
            have hb : RelB s (.rows e wd m cap cols') r [] (w.setRow r (c.toList.take (row * wd + col) ++ v.cells.toList ++ c.toList.drop (row * wd + col + n)).toArray).heap := by
              refine .rows _ (setRow_heap w r c _ e _ ho) hnc ?_ (by omega) ?_
              · simp; omega
              · intro i hi
                have := rows_patch (L := c.toList) (row := row) (col := col) hw0 (by simpa [hc] using hle) hl hv hset i (.inl hi)
                rw [hvn] at this
                simpa using this
            obtain ⟨h2, h3⟩ := hH.put hsf ho hb
            refine ⟨_, _, hK, h2, h3, ?_⟩
            simp only [Instr.storeAt, Instr.sureAddr, Sem.run_bind, Sem.run_pure, Result.andThen_ok]
            exact storeVar_run hn hvl ho (by omega) h1
        · exact h.elim
      · exact h.elim
    · exact h.elim
  · exact h.elim

end
end Go.FL

/-
  Every operation of the evaluator is sound.
-/
set_option linter.unusedVariables false
set_option linter.unusedSimpArgs false
set_option linter.unusedSectionVars false
namespace Go.FL
variable [Fz]

section
variable {P : Program}

theorem intA_run {s : Mp} {op : BinOp} {k : IntKind} {a b : Int} {K : LV → Prop} {t : TypeId} (hsh : isShift op = false) (h : intA op k a b K) :
    ∃ y v, K y ∧ RelV s y v ∧ ∀ w, (binOp op t (.int k a) (.int k b)).run P w = .ok v w := by
  unfold intA at h
  cases op <;> simp only [isShift, Bool.true_eq_false, reduceCtorEq] at hsh h
  case add => exact ⟨_, _, h, rfl, fun w => by simp [binOp, Op.intArith]⟩
  case sub => exact ⟨_, _, h, rfl, fun w => by simp [binOp, Op.intArith]⟩
  case mul => exact ⟨_, _, h, rfl, fun w => by simp [binOp, Op.intArith]⟩
  case quo =>
    split at h
    · exact h.elim
    · rename_i h0
      have h0 : ¬ b = 0 := by simpa using h0
      exact ⟨_, _, h, rfl, fun w => by simp [binOp, Op.intDiv, h0]⟩
  case rem =>
    split at h
    · exact h.elim
    · rename_i h0
      have h0 : ¬ b = 0 := by simpa using h0
      exact ⟨_, _, h, rfl, fun w => by simp [binOp, Op.intDiv, h0]⟩
  case and => exact ⟨_, _, h, rfl, fun w => by simp [binOp, Op.intBits]⟩
  case or => exact ⟨_, _, h, rfl, fun w => by simp [binOp, Op.intBits]⟩
  case xor => exact ⟨_, _, h, rfl, fun w => by simp [binOp, Op.intBits]⟩
  case andNot => exact ⟨_, _, h, rfl, fun w => by simp [binOp, Op.intBits]⟩
  case eql => exact ⟨_, _, h, rfl, fun w => by simp [binOp, Op.intCmp]; rfl⟩
  case neq => exact ⟨_, _, h, rfl, fun w => by simp [binOp, Op.intCmp]; rfl⟩
  case lss => exact ⟨_, _, h, rfl, fun w => by simp [binOp, Op.intCmp]⟩
  case leq => exact ⟨_, _, h, rfl, fun w => by simp [binOp, Op.intCmp]⟩
  case gtr => exact ⟨_, _, h, rfl, fun w => by simp [binOp, Op.intCmp]⟩
  case geq => exact ⟨_, _, h, rfl, fun w => by simp [binOp, Op.intCmp]⟩

theorem shiftA_run {s : Mp} {op : BinOp} {k k' : IntKind} {a b : Int} {K : LV → Prop} {t : TypeId} (hsh : isShift op = true) (h : shiftA op k a b K) :
    ∃ y v, K y ∧ RelV s y v ∧ ∀ w, (binOp op t (.int k a) (.int k' b)).run P w = .ok v w := by
  unfold shiftA at h
  split at h
  · exact h.elim
  · rename_i h0
    have h0 : ¬ b < 0 := by simpa using h0
    cases op <;> simp only [isShift, Bool.false_eq_true, reduceCtorEq] at hsh h
    case shl => exact ⟨_, _, h, rfl, fun w => by simp [binOp, Op.shift, h0]⟩
    case shr => exact ⟨_, _, h, rfl, fun w => by simp [binOp, Op.shift, h0]⟩

theorem eqGuard_nilc {op : BinOp} {t : TypeId} {x y : Operand} (h : (isConst x || isConst y) = true) : eqGuard op t x y .nilIface .nilIface = pure () := by
  cases x <;> cases y <;> first
    | exact eqGuard_nil_constR ..
    | exact eqGuard_nil_constL ..
    | (simp [isConst] at h)

theorem eqGuard_one {op : BinOp} {t : TypeId} {x y : Operand} {s : Mp} {d : TypeDesc} {a b : LC} {u v : Value} {q : Bool} (ha : RelC s a u) (hb : RelC s b v)
    (hq : nilA d a b = some q) (hc : (isConst x || isConst y) = true) : eqGuard op t x y u v = pure () := by
  cases a <;> simp only [RelC] at ha
  case nilp => subst ha; exact eqGuard_at_pointer ..
  case ptr => obtain ⟨_, _, rfl⟩ := ha; exact eqGuard_at_pointer ..
  case idx => obtain ⟨_, _, rfl⟩ := ha; exact eqGuard_at_pointer ..
  case nils => subst ha; exact eqGuard_at_slice ..
  case slice => obtain ⟨_, _, rfl⟩ := ha; exact eqGuard_at_slice ..
  case vsl => obtain ⟨rfl, _⟩ := ha; exact eqGuard_at_slice ..
  case vpt => obtain ⟨_, _, _, _, _, _, _, rfl⟩ := ha; exact eqGuard_at_pointer ..
  case iface => obtain ⟨_, rfl, _⟩ := ha; exact eqGuard_at_iface ..
  case nilf => subst ha; exact eqGuard_at_nilFunc ..
  case fn => subst ha; exact eqGuard_at_func ..
  case int => subst ha; exact eqGuard_at_int ..
  case bool => subst ha; exact eqGuard_at_bool ..
  case str => subst ha; exact eqGuard_at_string ..
  case any => cases d <;> simp [nilA] at hq
  case nili =>
    subst ha
    cases b <;> simp only [RelC] at hb <;> first
      | (subst hb; exact eqGuard_nilc hc)
      | (obtain ⟨_, rfl, _⟩ := hb; exact eqGuard_nil_iface ..)
      | (cases d <;> simp [nilA] at hq)

theorem nilA_equalIn {s : Mp} {t : TypeId} {d : TypeDesc} {a b : LC} {u v : Value} {q : Bool} (m : Nat) (ht : P.underlying t = some d) (ha : RelC s a u) (hb : RelC s b v)
    (hq : nilA d a b = some q) (w : World) : (Op.equalIn (m + 1) t u v).run P w = .ok q w := by
  unfold nilA at hq
  split at hq <;> (try split at hq) <;> (try (cases hq; done)) <;> cases hq <;> simp only [RelC] at ha hb
  all_goals
    (try obtain ⟨_, _, rfl⟩ := ha)
    (try obtain ⟨_, rfl, _⟩ := ha)
    (try obtain ⟨_, _, rfl⟩ := hb)
    (try obtain ⟨_, rfl, _⟩ := hb)
    (try subst ha)
    (try subst hb)
    simp [Op.equalIn, run_underlying ht]

theorem bool_equalIn {t : TypeId} (m : Nat) (ht : P.underlying t = some .bool) (a b : Bool) (w : World) : (Op.equalIn (m + 1) t (.bool a) (.bool b)).run P w = .ok (a == b) w := by
  simp [Op.equalIn, run_underlying ht]

theorem binOp_eqlOf {t : TypeId} {u v : Value} {q : Bool} {w : World} (h : (Op.equal t u v).run P w = .ok q w)
    (h2 : binOp .eql t u v = (do pure (.bool (← Op.equal t u v)) : Sem Value)) (h3 : binOp .neq t u v = (do pure (.bool (!(← Op.equal t u v))) : Sem Value)) :
    (binOp .eql t u v).run P w = .ok (.bool q) w ∧ (binOp .neq t u v).run P w = .ok (.bool !q) w := by
  rw [h2, h3]
  simp only [Sem.run_bind, h, Result.andThen_ok, Sem.run_pure]
  exact ⟨trivial, trivial⟩

/-- nil against something, of a type that has one. -/
theorem nilA_run {s : Mp} {t : TypeId} {d : TypeDesc} {ox oy : Operand} {a b : LC} {u v : Value} {q : Bool} (ht : P.underlying t = some d) (ha : RelC s a u) (hb : RelC s b v)
    (hq : nilA d a b = some q) (hc : (isConst ox || isConst oy) = true) :
    (∀ op, eqGuard op t ox oy u v = pure ()) ∧
    ∀ w : World, (binOp .eql t u v).run P w = .ok (.bool q) w ∧ (binOp .neq t u v).run P w = .ok (.bool !q) w := by
  refine ⟨fun op => eqGuard_one ha hb hq hc, fun w => ?_⟩
  have he : (Op.equal t u v).run P w = .ok q w := nilA_equalIn 9999 ht ha hb hq w
  unfold nilA at hq
  split at hq <;> (try split at hq) <;> (try (cases hq; done)) <;> simp only [RelC] at ha hb
  all_goals
    (try obtain ⟨_, _, rfl⟩ := ha)
    (try obtain ⟨_, rfl, _⟩ := ha)
    (try obtain ⟨_, _, rfl⟩ := hb)
    (try obtain ⟨_, rfl, _⟩ := hb)
    (try subst ha)
    (try subst hb)
    exact binOp_eqlOf he rfl rfl

theorem binA_run {s : Mp} {op : BinOp} {t : TypeId} {ox oy : Operand} {x y : LV} {u v : Value} {K : LV → Prop} (hx : RelV s x u) (hy : RelV s y v) (h : binA P op t ox oy x y K) :
    ∃ z r, K z ∧ RelV s z r ∧ ∀ w, (do eqGuard op t ox oy u v; binOp op t u v : Sem Value).run P w = .ok r w := by
  unfold binA at h
  split at h
  · rename_i k a k' b
    have hx : u = .int k a := hx
    have hy : v = .int k' b := hy
    subst hx; subst hy
    split at h
    · rename_i hsh
      obtain ⟨z, r, h1, h2, h3⟩ := shiftA_run (P := P) (s := s) (k' := k') (t := t) hsh h
      exact ⟨z, r, h1, h2, fun w => by rw [eqGuard_at_int]; simpa using h3 w⟩
    · rename_i hsh
      split at h
      · rename_i hk
        have hk : k = k' := by simpa using hk
        subst hk
        obtain ⟨z, r, h1, h2, h3⟩ := intA_run (P := P) (s := s) (t := t) hsh h
        exact ⟨z, r, h1, h2, fun w => by rw [eqGuard_at_int]; simpa using h3 w⟩
      · exact h.elim
  · rename_i a b
    have hx : u = .bool a := hx
    have hy : v = .bool b := hy
    subst hx; subst hy
    split at h
    · rename_i ht
      split at h
      · exact ⟨_, .bool (a == b), h, rfl, fun w => by rw [eqGuard_at_bool]; exact (binOp_eqlOf (bool_equalIn 9999 ht a b w) rfl rfl).1⟩
      · exact ⟨_, .bool (!(a == b)), h, rfl, fun w => by rw [eqGuard_at_bool]; exact (binOp_eqlOf (bool_equalIn 9999 ht a b w) rfl rfl).2⟩
      · exact h.elim
    · exact h.elim
  · split at h
    · rename_i d hd
      split at h
      · rename_i q hq
        split at h
        · rename_i hc
          obtain ⟨h1, h3⟩ := nilA_run (P := P) hd hx hy hq hc
          split at h
          · exact ⟨_, _, h, rfl, fun w => by rw [h1]; exact (h3 w).1⟩
          · exact ⟨_, _, h, rfl, fun w => by rw [h1]; exact (h3 w).2⟩
          · exact h.elim
        · exact h.elim
      · exact h.elim
    · exact h.elim
  · exact h.elim

theorem unA_run {s : Mp} {op : UnOp} {x : LV} {u : Value} {K : LV → Prop} (hx : RelV s x u) (h : unA op x K) :
    ∃ z r, K z ∧ RelV s z r ∧ ∀ w, (Op.unary op u).run P w = .ok r w := by
  unfold unA at h
  split at h
  · have hx : u = _ := hx
    subst hx
    exact ⟨_, _, h, rfl, fun w => rfl⟩
  · have hx : u = _ := hx
    subst hx
    exact ⟨_, _, h, rfl, fun w => rfl⟩
  · exact h.elim

theorem convA_run {s : Mp} {a b : TypeId} {x : LV} {u : Value} {K : LV → Prop} (hx : RelV s x u) (h : convA P a b x K) :
    ∃ z r, K z ∧ RelV s z r ∧ ∀ w, (convert a b u).run P w = .ok r w := by
  unfold convA at h
  split at h
  · have hx : u = _ := hx
    subst hx
    split at h
    · rename_i ha hb
      exact ⟨_, _, h, rfl, fun w => by simp [convert, run_underlying ha, run_underlying hb, Conv.intToInt]⟩
    · exact h.elim
  · exact h.elim

theorem fieldT_spec {t : TypeId} {f : Nat} {fd : Field} (h : fieldT P t f = some fd) : ∃ fs, P.underlying t = some (.struct fs) ∧ fs[f]? = some fd := by
  unfold fieldT at h
  split at h
  · rename_i fs hu
    exact ⟨fs, hu, by rw [lget_eq] at h; simpa [Array.getElem?_toList] using h⟩
  · cases h

theorem fieldAddrA_run {s : Mp} {t : TypeId} {f : Nat} {x : LV} {u : Value} {K : LV → Prop} (hx : RelV s x u) (h : fieldAddrA P t x f K) :
    ∃ z r, K z ∧ RelV s z r ∧ ∀ w, (Instr.fieldAt t u f).run P w = .ok r w := by
  unfold fieldAddrA at h
  split at h
  · exact h.elim
  rename_i fd hfd
  obtain ⟨fs, hu, hf⟩ := fieldT_spec hfd
  split at h
  · exact h.elim
  · exact h.elim
  rename_i m hm
  have hsz := fun w => sizeT_run (P := P) hm w
  split at h
  · obtain ⟨r, hr, rfl⟩ := hx
    exact ⟨_, _, h, ⟨r, hr, rfl⟩, fun w => by simp [Instr.fieldAt, run_underlying hu, hf, Instr.sureAddr, fieldPlace, hsz, add_plain]⟩
  · obtain ⟨r, hr, rfl⟩ := hx
    exact ⟨_, _, h, ⟨r, hr, rfl⟩, fun w => by simp [Instr.fieldAt, run_underlying hu, hf, Instr.sureAddr, fieldPlace, hsz, add_plain, Nat.add_assoc]⟩
  · obtain ⟨q, off, o, hp, hF, hv, hlt, rfl⟩ := hx
    exact ⟨_, _, h, ⟨q, off, o, hp, hF, hv, hlt, rfl⟩, fun w => by simp [Instr.fieldAt, run_underlying hu, hf, Instr.sureAddr, fieldPlace, hsz, add_plain, Nat.add_assoc]⟩
  · exact h.elim

theorem loadRow_part {s : Mp} {t : TypeId} {l : List LC} {off : Nat} {K : LV → Prop} {cs : Array Value} (hl : RelL s l cs.toList) (h : loadRow P t l off K) :
    ∃ x v, K x ∧ RelV s x v ∧ ∀ w, (part t cs off).run P w = .ok v w := by
  unfold loadRow at h
  split at h
  · rename_i hagg
    split at h
    · rename_i n hn
      split at h
      · rename_i cs' hcs
        obtain ⟨hle, rfl⟩ := lsub_eq _ _ _ hcs
        refine ⟨_, .agg (cs.extract off (off + n)), h, ⟨_, rfl, ?_⟩, ?_⟩
        · have := (hl.drop off).take n
          simpa [Array.toList_extract, List.extract_eq_take_drop] using this
        · intro w; simp [part, aggT_run hagg, sizeT_run hn]
      · exact h.elim
    · exact h.elim
  · rename_i hagg
    split at h
    · rename_i x hx
      rw [lget_eq] at hx
      obtain ⟨v, hv, hrel⟩ := hl.get hx
      rw [Array.getElem?_toList] at hv
      exact ⟨_, v, h, hrel, fun w => by simp [part, aggT_run hagg, hv]⟩
    · exact h.elim
  · exact h.elim

theorem fieldA_run {s : Mp} {t : TypeId} {f : Nat} {x : LV} {u : Value} {K : LV → Prop} (hx : RelV s x u) (h : fieldA P t x f K) :
    ∃ z r, K z ∧ RelV s z r ∧ ∀ w, (Instr.field t u f).run P w = .ok r w := by
  unfold fieldA at h
  split at h
  · exact h.elim
  rename_i fd hfd
  obtain ⟨fs, hu, hf⟩ := fieldT_spec hfd
  split at h
  · obtain ⟨cs, rfl, hl⟩ := hx
    obtain ⟨z, r, h1, h2, h3⟩ := loadRow_part hl h
    exact ⟨z, r, h1, h2, fun w => by simp [Instr.field, run_underlying hu, hf, asAgg, h3]⟩
  · exact h.elim

theorem indexAddrA_run {s : Mp} {t : TypeId} {x i : LV} {u j : Value} {K : LV → Prop} (hx : RelV s x u) (hi : RelV s i j) (h : indexAddrA P t x i K) :
    ∃ z r, K z ∧ RelV s z r ∧ ∀ w, (Instr.indexAt t u j).run P w = .ok r w := by
  unfold indexAddrA at h
  split at h
  · have hi : j = _ := hi
    subst hi
    split at h
    · rename_i ht
      obtain ⟨r, hr, rfl⟩ := hx
      split at h
      · rename_i wd hwd
        split at h
        · rename_i hlt
          have hlt := of_decide_eq_true hlt
          refine ⟨_, _, h, ⟨r, hr, rfl⟩, fun w => ?_⟩
          have hs := fun w => sizeT_run (P := P) hwd w
          simp [Instr.indexAt, asIntOf, run_underlying ht, hlt, hs, add_plain, Nat.add_comm]
        · exact h.elim
      · exact h.elim
    · rename_i ht
      obtain ⟨rfl, hv⟩ := hx
      split at h
      · rename_i wd hwd
        split at h
        · rename_i hbeq
          have hbeq := Nat.eq_of_beq_eq_true hbeq
          subst hbeq
          split at h
          · rename_i hlt
            have hlt := of_decide_eq_true hlt
            obtain ⟨q, off, o, rfl, hF, hvo⟩ := hv (by omega)
            refine ⟨_, _, h, ⟨q, off, o, rfl, hF, hvo, by omega, rfl⟩, fun w => ?_⟩
            have hs := fun w => sizeT_run (P := P) hwd w
            simp [Instr.indexAt, asIntOf, run_underlying ht, hlt, hs, add_plain]
          · exact h.elim
        · exact h.elim
      · exact h.elim
    · rename_i ht
      obtain ⟨r, hr, rfl⟩ := hx
      split at h
      · rename_i wd hwd
        split at h
        · rename_i hlt
          have hlt := of_decide_eq_true hlt
          refine ⟨_, _, h, ⟨r, hr, rfl⟩, fun w => ?_⟩
          have hs := fun w => sizeT_run (P := P) hwd w
          simp [Instr.indexAt, asIntOf, run_underlying ht, Instr.sureAddr, hlt, hs, add_plain, Nat.add_comm]
        · exact h.elim
      · exact h.elim
    · exact h.elim
  · exact h.elim

end
end Go.FL

/-
  The evaluator's larger operations, calls, regions in the order of the text.
-/
set_option linter.unusedVariables false
set_option linter.unusedSimpArgs false
set_option linter.unusedSectionVars false
namespace Go.FL
variable [Fz]

section
variable {P : Program}

theorem placesA_run : ∀ {fs : List Field} {ps : List (Nat × Nat)}, placesA P fs = some ps → ∀ w : World,
    (fs.mapM fun f => (do pure (f.offset, ← sizeOf f.type) : Sem (Nat × Nat))).run P w = .ok ps w
  | [], ps, h, w => by cases h; simp
  | f :: fs, ps, h, w => by
    simp only [placesA] at h
    split at h
    · cases h
    · rename_i n hn
      split at h
      · cases h
      · rename_i l hl
        cases h
        have ih := placesA_run hl w
        simp only [List.mapM_cons, Sem.run_bind, sizeT_run hn, Result.andThen_ok, Sem.run_pure, ih]

theorem foldl_lay (off : Nat) : ∀ (vs : List Value) (i : Nat) (cells : Array Value), off + i + vs.length ≤ cells.size →
    ((vs.zipIdx i).foldl (fun cs (c, j) => cs.setIfInBounds (off + j) c) cells).toList = cells.toList.take (off + i) ++ vs ++ cells.toList.drop (off + i + vs.length)
  | [], i, cells, _ => by simp
  | v :: vs, i, cells, h => by
    simp only [List.zipIdx_cons, List.foldl_cons]
    rw [foldl_lay off vs (i + 1) _ (by simp at h ⊢; omega)]
    have hlt : off + i < cells.toList.length := by simp at h ⊢; omega
    simp only [Array.toList_setIfInBounds, List.length_cons]
    rw [List.set_eq_take_append_cons_drop, if_pos hlt]
    have h1 : (List.take (off + i) cells.toList ++ v :: List.drop (off + i + 1) cells.toList).take (off + (i + 1)) = cells.toList.take (off + i) ++ [v] := by
      rw [List.take_append]
      have : (List.take (off + i) cells.toList).length = off + i := by simp; simp at hlt; omega
      rw [this, List.take_of_length_le (by omega), show off + (i + 1) - (off + i) = 1 by omega]
      simp
    have h2 : (List.take (off + i) cells.toList ++ v :: List.drop (off + i + 1) cells.toList).drop (off + (i + 1) + vs.length) = cells.toList.drop (off + i + (vs.length + 1)) := by
      have : (List.take (off + i) cells.toList).length = off + i := by simp; simp at hlt; omega
      rw [List.drop_append, this, List.drop_of_length_le (by omega), show off + (i + 1) + vs.length - (off + i) = vs.length + 1 by omega]
      simp
      congr 1
      omega
    rw [h1, h2]
    simp

theorem fillA_run {s : Mp} {ps : List (Nat × Nat)} {place : Nat → Option (Nat × Nat)} (hp : ∀ i, place i = ps[i]?) : ∀ {parts : List (Nat × LV)} {vs : List (Nat × Value)} {l l' : List LC} {cells : Array Value},
    RelL s l cells.toList → (parts.map (·.1) = vs.map (·.1)) → RelVs s (parts.map (·.2)) (vs.map (·.2)) → fillA ps l parts = some l' →
    ∃ cells', Instr.fill place cells vs = some cells' ∧ RelL s l' cells'.toList
  | [], [], l, l', cells, hl, _, _, h => by cases h; exact ⟨cells, rfl, hl⟩
  | [], _ :: _, _, _, _, _, he, _, _ => by simp at he
  | _ :: _, [], _, _, _, _, he, _, _ => by simp at he
  | (i, x) :: parts, (j, v) :: vs, l, l', cells, hl, he, hr, h => by
    simp only [List.map_cons, List.cons.injEq] at he
    obtain ⟨rfl, he⟩ := he
    simp only [fillA] at h
    split at h
    · cases h
    rename_i off n hg
    rw [lget_eq] at hg
    split at h
    · cases h
    rename_i cs hcs
    split at h
    · cases h
    rename_i hlen
    have hlen : cs.length = n := by simpa [llen_eq] using hlen
    split at h
    · cases h
    rename_i l1 hlo
    obtain ⟨hle, rfl⟩ := lover_eq _ _ _ hlo
    have hv := RelV.cells hr.1 hcs
    have hvl : v.cells.size = n := by rw [← Array.length_toList, hv.length, hlen]
    have hcl : cells.size = l.length := by rw [← Array.length_toList, hl.length]
    have hfl : ∀ k, (v.cells.zipIdx.foldl (fun cs (c, j) => cs.setIfInBounds (off + j) c) cells) = k → k.toList = cells.toList.take off ++ v.cells.toList ++ cells.toList.drop (off + n) := by
      intro k hk
      subst hk
      have := foldl_lay off v.cells.toList 0 cells (by rw [Array.length_toList]; omega)
      rw [← Array.foldl_toList, Array.toList_zipIdx]
      simpa [hvl] using this
    have hrel : RelL s (l.take off ++ cs ++ l.drop (off + cs.length)) ((v.cells.zipIdx.foldl (fun cs (c, j) => cs.setIfInBounds (off + j) c) cells)).toList := by
      rw [hfl _ rfl, hlen]
      exact ((hl.take off).append hv).append (hl.drop (off + n))
    obtain ⟨cells', h1, h2⟩ := fillA_run hp hrel he hr.2 h
    refine ⟨cells', ?_, h2⟩
    have hng : ¬ (v.cells.size ≠ n || off + v.cells.size > cells.size) = true := by
      simp [hvl]; omega
    simp only [Instr.fill, hp, hg]
    rw [if_neg hng]
    exact h1

theorem buildA_run {s : Mp} {t : TypeId} {parts : List (Nat × LV)} {vs : Array (Nat × Value)} {K : LV → Prop} (he : parts.map (·.1) = vs.toList.map (·.1))
    (hr : RelVs s (parts.map (·.2)) (vs.toList.map (·.2))) (h : buildA P t parts K) : ∃ z r, K z ∧ RelV s z r ∧ ∀ w, (Instr.build t vs).run P w = .ok r w := by
  unfold buildA at h
  split at h
  · rename_i fs hu
    split at h
    · exact h.elim
    rename_i z hz
    split at h
    · exact h.elim
    rename_i ps hps
    split at h
    · rename_i l hl
      obtain ⟨v, hv, hvr⟩ := zeroT_run (P := P) (s := s) hz
      have hmap : ∀ w, (fs.mapM fun f => (do pure (f.offset, ← sizeOf f.type) : Sem (Nat × Nat))).run P w = .ok ps.toArray w := by
        intro w
        rw [Array.mapM_eq_mapM_toList]
        have := placesA_run (P := P) hps w
        simp only [Sem.run_map, this, Result.andThen_ok]
      obtain ⟨cells', h1, h2⟩ := fillA_run (s := s) (place := fun i => ps.toArray[i]?) (by simp) hvr he hr hl
      refine ⟨_, .agg cells', h, ⟨_, rfl, h2⟩, fun w => ?_⟩
      simp only [Instr.build, Sem.run_bind, hv, Result.andThen_ok, run_underlying hu, hmap, h1, Sem.run_pure]
    · exact h.elim
  · exact h.elim

theorem minmax_run {s : Mp} (isMin : Bool) : ∀ {r : List LV} {x z : LV} {v : Value} {vs : List Value}, RelV s x v → RelVs s r vs → minmax.go isMin x r = some z →
    ∃ u, RelV s z u ∧ ∀ w, ((vs.foldlM (if isMin then Builtin.min2 else Builtin.max2) v : Sem Value)).run P w = .ok u w
  | [], x, z, v, [], hx, _, h => by
    have h : x = z := by
      have : minmax.go isMin x [] = some x := by cases x <;> first | rfl | (rename_i c; cases c <;> rfl)
      rw [this] at h; exact Option.some.inj h
    subst h
    exact ⟨v, hx, fun w => by simp⟩
  | [], _, _, _, _ :: _, _, hr, _ => hr.elim
  | _ :: _, _, _, _, [], _, hr, _ => hr.elim
  | y :: r, x, z, v, u :: vs, hx, hr, h => by
    unfold minmax.go at h
    split at h
    · rename_i heq; cases heq
    · rename_i k a k' b r' heq
      cases heq
      have hv : v = .int k a := hx
      have hu : u = .int k' b := hr.1
      subst hv; subst hu
      split at h
      · obtain ⟨q, h1, h2⟩ := minmax_run true (x := .c (.int k (if b < a then b else a))) (v := .int k (if b < a then b else a)) rfl hr.2 h
        exact ⟨q, h1, fun w => by simpa [Builtin.min2] using h2 w⟩
      · obtain ⟨q, h1, h2⟩ := minmax_run false (x := .c (.int k (if b > a then b else a))) (v := .int k (if b > a then b else a)) rfl hr.2 h
        exact ⟨q, h1, fun w => by simpa [Builtin.max2] using h2 w⟩
    · cases h

theorem lenA_run {s : Mp} {t ty : TypeId} {x : LV} {u : Value} {K : LV → Prop} {at_ : Array TypeId} {args : Array Value} (hx : RelV s x u) (ha : at_[0]? = some t) (hg : args[0]? = some u)
    (h : lenA P t x K) : ∃ z r, K z ∧ RelV s z r ∧ ∀ w, (Builtin.len_ at_ ty args).run P w = .ok r w := by
  unfold lenA at h
  split at h
  · rename_i hu
    obtain ⟨r, hr, rfl⟩ := hx
    exact ⟨_, _, h, rfl, fun w => by simp [Builtin.len_, ha, hg, run_underlying hu, goInt]⟩
  · rename_i hu
    obtain ⟨rfl, _⟩ := hx
    exact ⟨_, _, h, rfl, fun w => by simp [Builtin.len_, ha, hg, run_underlying hu, goInt]⟩
  · rename_i hu
    have hx : u = _ := hx
    subst hx
    exact ⟨_, _, h, rfl, fun w => by simp [Builtin.len_, ha, hg, run_underlying hu, goInt]⟩
  · rename_i hu
    have hx : u = _ := hx
    subst hx
    exact ⟨_, _, h, rfl, fun w => by simp [Builtin.len_, ha, hg, run_underlying hu, goInt]⟩
  · rename_i hu
    exact ⟨_, _, h, rfl, fun w => by simp [Builtin.len_, ha, hg, run_underlying hu, goInt]⟩
  · exact h.elim

theorem methodA_run {t : TypeId} {name : String} {f : FuncId} {v : Value} (h : methodA P t name = some f) (fuel : Nat) (w : World) :
    (method (fuel + 1) t v name).run P w = .ok (f, v) w := by
  unfold methodA at h
  split at h
  · rename_i e hu
    split at h
    · rename_i i hi
      have key : ∀ l : List Method, methodA.find name l = some f → ∃ m : Method, l.find? (fun m => m.name == name) = some m ∧ m.path.toList = [] ∧ m.func = some (f, true) := by
        intro l
        induction l with
        | nil => intro h; simp [methodA.find] at h
        | cons m r ih =>
          intro h
          simp only [methodA.find] at h
          split at h
          · rename_i hm
            split at h
            · rename_i f' h1 h2
              cases h
              exact ⟨m, by simp [List.find?, hm], h1, h2⟩
            · cases h
          · rename_i hm
            obtain ⟨m', h1, h2⟩ := ih h
            exact ⟨m', by simp [List.find?, hm, h1], h2⟩
      obtain ⟨m, h1, h2, h3⟩ := key _ h
      have h1' : i.methods.find? (fun m => m.name == name) = some m := by rw [← Array.find?_toList]; exact h1
      simp only [method, Sem.run_bind, typeInfo_run hi, Result.andThen_ok, h1', h2, follow, Sem.run_pure, h3]
      simp [receiverAt, run_underlying hu, Place.get]
    · cases h
  · cases h

end
end Go.FL

/-
  Slice literals and one more element: sound.
-/
set_option linter.unusedVariables false
set_option linter.unusedSimpArgs false
set_option linter.unusedSectionVars false
namespace Go.FL
variable [Fz]

section
variable {P : Program}

theorem timesL_rel {s : Mp} {z : List LC} {vz : Array Value} (hz : RelL s z vz.toList) (w : Nat) (hw : vz.size = w) (hw0 : 0 < w) : ∀ n : Nat, RelL s (timesL n z) ((Array.range (n * w)).map (vz[· % vz.size]!)).toList := by
  intro n
  have hz' : z.length = w := by have := hz.length; simp at this; omega
  have key : ∀ n : Nat, ((Array.range (n * w)).map (vz[· % vz.size]!)).toList = (List.replicate n vz.toList).flatten := by
    intro n
    induction n with
    | zero => simp
    | succ n ih =>
      rw [List.replicate_succ', List.flatten_append, ← ih]
      simp only [Array.toList_map, Array.toList_range, Nat.succ_mul]
      rw [List.range_add, List.map_append]
      congr 1
      simp only [List.flatten_cons, List.flatten_nil, List.append_nil, List.map_map]
      apply List.ext_getElem?
      intro i
      simp only [List.getElem?_map]
      by_cases hi : i < w
      · rw [List.getElem?_range hi]
        simp only [Option.map_some, Function.comp]
        rw [hw, Nat.mul_comm n w, Nat.mul_add_mod, Nat.mod_eq_of_lt hi, Array.getElem?_toList, Array.getElem?_eq_getElem (by omega), getElem!_pos _ _ (by omega)]
      · rw [List.getElem?_eq_none (by simp; omega), List.getElem?_eq_none (by simp; omega)]
        rfl
  rw [key]
  clear key
  induction n with
  | zero => simp [timesL, RelL]
  | succ n ih =>
    simp only [timesL, List.replicate_succ, List.flatten_cons]
    exact hz.append ih

theorem fillS_run {s : Mp} {w : Nat} : ∀ {parts : List (Nat × LV)} {vs : List (Nat × Value)} {l l' : List LC} {cells : Array Value},
    RelL s l cells.toList → (parts.map (·.1) = vs.map (·.1)) → RelVs s (parts.map (·.2)) (vs.map (·.2)) → fillS w l parts = some l' →
    ∃ cells', Instr.fill (fun i => some (i * w, w)) cells vs = some cells' ∧ RelL s l' cells'.toList
  | [], [], l, l', cells, hl, _, _, h => by cases h; exact ⟨cells, rfl, hl⟩
  | [], _ :: _, _, _, _, _, he, _, _ => by simp at he
  | _ :: _, [], _, _, _, _, he, _, _ => by simp at he
  | (i, x) :: parts, (j, v) :: vs, l, l', cells, hl, he, hr, h => by
    simp only [List.map_cons, List.cons.injEq] at he
    obtain ⟨rfl, he⟩ := he
    simp only [fillS] at h
    split at h
    · cases h
    rename_i cs hcs
    split at h
    · cases h
    rename_i hlen
    have hlen : cs.length = w := by simpa [llen_eq] using hlen
    split at h
    · cases h
    rename_i l1 hlo
    obtain ⟨hle, rfl⟩ := lover_eq _ _ _ hlo
    have hv := RelV.cells hr.1 hcs
    have hvl : v.cells.size = w := by rw [← Array.length_toList, hv.length, hlen]
    have hcl : cells.size = l.length := by rw [← Array.length_toList, hl.length]
    have hfl : ∀ k, (v.cells.zipIdx.foldl (fun cs (c, j) => cs.setIfInBounds (i * w + j) c) cells) = k → k.toList = cells.toList.take (i * w) ++ v.cells.toList ++ cells.toList.drop (i * w + w) := by
      intro k hk
      subst hk
      have := foldl_lay (i * w) v.cells.toList 0 cells (by rw [Array.length_toList]; omega)
      rw [← Array.foldl_toList, Array.toList_zipIdx]
      simpa [hvl] using this
    have hrel : RelL s (l.take (i * w) ++ cs ++ l.drop (i * w + cs.length)) ((v.cells.zipIdx.foldl (fun cs (c, j) => cs.setIfInBounds (i * w + j) c) cells)).toList := by
      rw [hfl _ rfl, hlen]
      exact ((hl.take (i * w)).append hv).append (hl.drop (i * w + w))
    obtain ⟨cells', h1, h2⟩ := fillS_run hrel he hr.2 h
    refine ⟨cells', ?_, h2⟩
    have hng : ¬ (v.cells.size ≠ w || i * w + v.cells.size > cells.size) = true := by
      simp [hvl]; omega
    simp only [Instr.fill]
    rw [if_neg hng]
    exact h1

theorem buildSliceA_run {s : Mp} {t : TypeId} {n : Nat} {parts : List (Nat × LV)} {vs : Array (Nat × Value)} {H : LH} {K : LV → LH → Prop} {w : World} (he : parts.map (·.1) = vs.toList.map (·.1))
    (hr : RelVs s (parts.map (·.2)) (vs.toList.map (·.2))) (hH : Rel s H w) (h : buildSliceA P t n parts H K) :
    ∃ s' y r H' w', K y H' ∧ RelV s' y r ∧ Rel s' H' w' ∧ Post s H w s' H' w' ∧ (Instr.buildSlice t n vs).run P w = .ok r w' := by
  unfold buildSliceA at h
  split at h
  case h_2 => exact h.elim
  rename_i e hu
  split at h
  case h_2 => exact h.elim
  rename_i wd z hsz hz
  split at h
  case h_2 => exact h.elim
  rename_i hc
  simp only [Bool.and_eq_true] at hc
  have hc1 := Nat.eq_of_beq_eq_true hc.1
  rw [llen_eq] at hc1
  have hc2 := Nat.le_of_ble_eq_true hc.2
  split at h
  case h_2 => exact h.elim
  rename_i l hl
  obtain ⟨v, hv, hvr⟩ := zeroT_run (P := P) (s := s) hz
  have hvs : v.cells.size = wd + 1 := by rw [← Array.length_toList, hvr.length, hc1]
  obtain ⟨cells, h1, h2⟩ := fillS_run (timesL_rel hvr (wd + 1) hvs (by omega) n) he hr hl
  obtain ⟨h3, h4⟩ := hH.new (b := .cells e l) (o := .cells cells e (0, 0)) (.cells cells (by simp) (h2.mono (.app _ _)))
  refine ⟨_, _, .slice (some ⟨w.heap.size, 0, none⟩) n n, _, _, h, ⟨w.heap.size, ?_, rfl⟩, h3, h4, ?_⟩
  · rw [LH.len_eq, ← hH.len]; simp [hd]
  · have hbig : ¬ (n * (wd + 1) > 2 ^ 24) := by
      have : (4096 : Nat) ≤ 2 ^ 24 := by decide
      omega
    simp only [Instr.buildSlice, Sem.run_bind, run_underlying hu, Result.andThen_ok, sizeT_run hsz]
    rw [if_neg hbig]
    by_cases h0 : n * (wd + 1) = 0
    · have hn : n = 0 := by rcases Nat.mul_eq_zero.1 h0 with h | h <;> omega
      subst hn
      have hf : Instr.fill (fun i => some (i * (wd + 1), wd + 1)) ((Array.range (0 * (wd + 1))).map ((#[] : Array Value)[· % (#[] : Array Value).size]!)) vs.toList = some cells := by
        have e1 : ((Array.range (0 * (wd + 1))).map ((#[] : Array Value)[· % (#[] : Array Value).size]!)) = (Array.range (0 * (wd + 1))).map (v.cells[· % v.cells.size]!) := by simp
        rw [e1]; exact h1
      rw [if_pos h0]
      simp only [Sem.run_bind, Sem.run_pure, Result.andThen_ok, hf, newRow, run_newObj]
    · rw [if_neg h0]
      simp only [Sem.run_bind, hv, Result.andThen_ok, Sem.run_pure, h1, newRow, run_newObj]

theorem Rel.drew {s : Mp} {H : LH} {w : World} (h : Rel s H w) : Rel s H w.drew := ⟨h.len, h.blk, h.dis, h.bnd, h.frz⟩

theorem Post.drew {s s' : Mp} {H H' : LH} {w w' : World} (h : Post s H w.drew s' H' w') : Post s H w s' H' w' :=
  ⟨h.hext, h.len, h.fresh, h.keep, h.wr, h.size, h.frame, h.tape, h.os, h.output⟩

/-- A new block of rows, behind old rows and one new one. -/
theorem grow_rows {s : Mp} {H : LH} {w : World} (hH : Rel s H w) {e : TypeId} {cs : List LCol} {n wd cap : Nat} {olds news : List Value} {z : Array Value} (hz : z.size = wd) (ho : olds.length = n * wd) (hnw : news.length = wd)
    (hcap : n + 1 ≤ cap) (hcs : cs.length = wd) (hl : ∀ i, i < n → RelL s (rowAt cs i) ((olds.drop (i * wd)).take wd)) (hlast : RelL s (rowAt cs n) news) :
    ∃ s', Rel s' (H.new (.rows e wd (n + 1) cap cs)) (w.drew.alloc (.cells (olds.toArray ++ news.toArray ++ Builtin.zeroCells z (cap - (n + 1))) e)) ∧
      Post s H w s' (H.new (.rows e wd (n + 1) cap cs)) (w.drew.alloc (.cells (olds.toArray ++ news.toArray ++ Builtin.zeroCells z (cap - (n + 1))) e)) ∧ hd s' H.len = some w.heap.size := by
  have hb : RelB (s ++ [(w.drew.heap.size, [])]) (.rows e wd (n + 1) cap cs) w.drew.heap.size [] (w.drew.heap.push (.cells (olds.toArray ++ news.toArray ++ Builtin.zeroCells z (cap - (n + 1))) e (0, 0))) := by
    refine .rows (olds.toArray ++ news.toArray ++ Builtin.zeroCells z (cap - (n + 1))) Array.getElem?_push_size hcap ?_ hcs ?_
    · simp only [Array.size_append, List.size_toArray, size_zeroCells, hz, ho, hnw]
      rw [← Nat.succ_mul, ← Nat.add_mul]
      congr 1
      omega
    · intro i hi
      have hgo : ((olds.toArray ++ news.toArray ++ Builtin.zeroCells z (cap - (n + 1))).toList.drop (i * wd)).take wd = if i = n then news else (olds.drop (i * wd)).take wd := by
        simp only [Array.toList_append, List.toList_toArray]
        by_cases he : i = n
        · subst he
          rw [if_pos rfl, ← ho, List.append_assoc, List.drop_left, ← hnw, List.take_left]
        · rw [if_neg he]
          have hlt : i < n := by omega
          have h1 : (i + 1) * wd ≤ n * wd := Nat.mul_le_mul_right _ hlt
          have h2 : (i + 1) * wd = i * wd + wd := Nat.succ_mul _ _
          rw [List.append_assoc, List.drop_append_of_le_length (by omega), List.take_append_of_le_length (by simp; omega)]
      rw [hgo]
      by_cases he : i = n
      · subst he; rw [if_pos rfl]; exact rowAt_free hlast
      · rw [if_neg he]; exact rowAt_free (hl i (by omega))
  obtain ⟨h1, h2⟩ := hH.drew.new hb
  refine ⟨_, h1, h2.drew, ?_⟩
  rw [LH.len_eq, ← hH.len]
  show ((s ++ [(w.heap.size, [])])[s.length]?).map (·.1) = _
  simp

theorem appendA_run {s : Mp} {t t' ty : TypeId} {x y : LV} {u v : Value} {H : LH} {K : LV → LH → Prop} {w : World} (hx : RelV s x u) (hy : RelV s y v) (hH : Rel s H w)
    (h : appendA P t t' x y H K) : ∃ s' z r H' w', K z H' ∧ RelV s' z r ∧ Rel s' H' w' ∧ Post s H w s' H' w' ∧ (Builtin.append_ #[t, t'] ty #[u, v]).run P w = .ok r w' := by
  unfold appendA at h
  split at h
  · exact h.elim
  rename_i htt
  have htt := Nat.eq_of_beq_eq_true htt
  subst htt
  split at h
  case h_2 => exact h.elim
  rename_i e hu
  split at h
  case h_2 => exact h.elim
  rename_i info hi
  split at h
  case h_2 => exact h.elim
  rename_i hc
  simp only [Bool.and_eq_true] at hc
  have hsz := Nat.le_of_ble_eq_true hc.1
  have hby := Nat.le_of_ble_eq_true hc.2
  split at h
  case h_2 => exact h.elim
  rename_i z m c0 hz
  split at h
  case h_2 => exact h.elim
  rename_i e0 l hzs hgm
  have hzs := Nat.eq_of_beq_eq_true hzs
  split at h
  case h_2 => exact h.elim
  rename_i new hnew
  obtain ⟨hle, hnew'⟩ := lsub_eq _ _ _ hnew
  obtain ⟨rm, hrm, rfl⟩ := hy
  obtain ⟨fm, hsm⟩ := hd_some hrm
  rw [LH.get_eq] at hgm
  obtain ⟨news, hnl, hnr, hnc⟩ : ∃ news : List Value, news.length = 1 * info.size ∧ RelL s new news ∧ ∀ j u, news[j]? = some u → w.cell? ((⟨rm, 0, none⟩ : Addr).add j) = some u := by
    cases hH.blk _ _ _ _ hgm hsm with
    | cells c ho hl =>
      refine ⟨c.toList.take info.size, ?_, ?_, ?_⟩
      · have := hl.length; simp at this ⊢; omega
      · rw [hnew']; simpa using hl.take info.size
      · intro j u hj
        rw [add_plain, cell_of ho]
        rw [List.getElem?_take] at hj
        split at hj
        · simpa using hj
        · cases hj
  have hnews1 := hnr.oneCell
  have hnl1 : news.length = info.size := by omega
  have fit : ∀ n old : Nat, n ≤ 1048576 → old < n + 1 → ((n + 1 : Nat) : Int) ≤ 9223372036854775807 ∧ Builtin.nextslicecap (n + 1) old * info.bytes ≤ 281474976710656 := by
    intro n old hn ho
    refine ⟨by omega, growslice_fits ho ?_⟩
    calc (n + 1) * info.bytes ≤ 1048577 * 4096 := Nat.mul_le_mul (by omega) hby
      _ ≤ 140737488355328 := by decide
  split at h
  case h_3 => exact h.elim
  · -- nil
    split at h
    case h_2 => exact h.elim
    rename_i cs hcs
    obtain ⟨h1, h2⟩ := newCols_eq hcs
    have hx : u = .slice none 0 0 := hx
    subst hx
    obtain ⟨s', h3, h4, h5⟩ := grow_rows (e := e) (n := 0) (cap := grownCap w 1 0 e) (olds := []) (news := news) (z := z.cells) (cs := cs) hH hzs (by simp) hnl1 (grownCap_ge w 1 0 e) (by rw [h1, ← hnr.length, hnl1]) (fun i hi => absurd hi (by omega)) (by rw [h2]; exact hnr)
    have hce : 1 + (grownCap w 1 0 e - 1) = grownCap w 1 0 e := by have := grownCap_ge w 1 0 e; omega
    have h := h (grownCap w 1 0 e - 1)
    rw [hce] at h
    refine ⟨s', _, _, _, _, h, ⟨w.heap.size, h5, rfl⟩, h3, h4, ?_⟩
    have := run_append_nil (P := P) (w := w) t ty e info z hu hi hz ⟨rm, 0, none⟩ 1 c0 news hnl hnc (by omega) (by omega) (by omega)
    simpa using this
  · rename_i b n cap
    obtain ⟨r, hr, rfl⟩ := hx
    obtain ⟨f, hsf⟩ := hd_some hr
    split at h
    case h_3 => exact h.elim
    · -- an empty literal
      split at h
      case h_2 => exact h.elim
      rename_i cs hcs
      obtain ⟨h1, h2⟩ := newCols_eq hcs
      obtain ⟨⟨rfl, rfl⟩, h⟩ := h
      obtain ⟨s', h3, h4, h5⟩ := grow_rows (e := e) (n := 0) (cap := grownCap w 1 0 e) (olds := []) (news := news) (z := z.cells) (cs := cs) hH hzs (by simp) hnl1 (grownCap_ge w 1 0 e) (by rw [h1, ← hnr.length, hnl1]) (fun i hi => absurd hi (by omega)) (by rw [h2]; exact hnr)
      have hce : 1 + (grownCap w 1 0 e - 1) = grownCap w 1 0 e := by have := grownCap_ge w 1 0 e; omega
      have h := h (grownCap w 1 0 e - 1)
      rw [hce] at h
      refine ⟨s', _, _, _, _, h, ⟨w.heap.size, h5, rfl⟩, h3, h4, ?_⟩
      have hf := fit 0 0 (by omega) (by omega)
      have := run_append_grow (P := P) (w := w) t ty e info z hu hi hz ⟨r, 0, none⟩ 0 0 [] (by simp) (by simp) ⟨rm, 0, none⟩ 1 c0 news hnl hnc (by omega) (by omega) (by simpa using hf.2)
      simpa using this
    · rename_i e' wd n' cap' cols hg
      rw [LH.get_eq] at hg
      split at h
      case h_2 => exact h.elim
      rename_i cs hew hcs
      simp only [Bool.and_eq_true] at hew
      have he := Nat.eq_of_beq_eq_true hew.1
      have hw := Nat.eq_of_beq_eq_true hew.2
      subst he
      subst hw
      obtain ⟨⟨⟨rfl, rfl⟩, hn⟩, h⟩ := h
      obtain ⟨h5, h6, h7⟩ := setCols_eq hcs
      cases hH.blk _ _ _ _ hg hsf with
      | rows c ho hnc' hcsz hw0 hl =>
        have hlen : new.length = info.size := by rw [← hnr.length, hnl1]
        split at h
        · rename_i hroom
          have hroom := of_decide_eq_true hroom
          have hsu : (n' + 1) * info.size = n' * info.size + info.size := Nat.succ_mul _ _
          have hle2 : (n' + 1) * info.size ≤ cap' * info.size := Nat.mul_le_mul_right _ hroom
          have hb : RelB s (.rows e info.size (n' + 1) cap' cs) r [] (w.setRow r (c.toList.take (n' * info.size) ++ news ++ c.toList.drop (n' * info.size + news.length)).toArray).heap := by
            refine .rows _ (setRow_heap w r c _ e _ ho) hroom ?_ (by omega) ?_
            · simp; omega
            · intro i hi
              have := rows_patch (L := c.toList) (row := n') (col := 0) hw0 (by simpa [hcsz] using hle2) hl hnr hcs i (by
                by_cases hin : i = n'
                · exact .inr ⟨hin, rfl, hlen⟩
                · exact .inl (by omega))
              simpa using this
          obtain ⟨h2, h3⟩ := hH.put hsf ho hb
          refine ⟨s, _, _, _, _, h, ⟨r, hr, rfl⟩, h2, h3, ?_⟩
          exact run_append_room (P := P) (w := w) t ty e info hu hi r n' cap' c ho ⟨rm, 0, none⟩ 1 c0 news hnl hnc hnews1 hroom (by rw [hnl1, hcsz]; omega)
        · rename_i hroom
          have hroom := of_decide_eq_false hroom
          have hcap : cap' = n' := by omega
          subst hcap
          have hol : (c.toList.take (cap' * info.size)).length = cap' * info.size := by simp; omega
          obtain ⟨s', h3, h4, h5⟩ := grow_rows (e := e) (n := cap') (cap := grownCap w (cap' + 1) cap' e) (olds := c.toList.take (cap' * info.size)) (news := news) (z := z.cells) (cs := cs) hH hzs hol hnl1 (grownCap_ge w (cap' + 1) cap' e) (by omega)
            (fun i hi => by
              rw [h7, if_neg (by omega)]
              have h8 : (i + 1) * info.size ≤ cap' * info.size := Nat.mul_le_mul_right _ hi
              have h9 : (i + 1) * info.size = i * info.size + info.size := Nat.succ_mul _ _
              rw [List.drop_take, List.take_take, Nat.min_eq_left (by omega)]
              exact hl i hi)
            (by
              rw [h7, if_pos rfl]
              have e1 : (rowAt cols cap').drop (0 + new.length) = [] := by rw [List.drop_eq_nil_of_le]; rw [rowAt_length]; omega
              rw [e1]
              simpa using hnr)
          have hce : cap' + 1 + (grownCap w (cap' + 1) cap' e - (cap' + 1)) = grownCap w (cap' + 1) cap' e := by have := grownCap_ge w (cap' + 1) cap' e; omega
          have h := h (grownCap w (cap' + 1) cap' e - (cap' + 1))
          rw [hce] at h
          refine ⟨s', _, _, _, _, h, ⟨w.heap.size, h5, rfl⟩, h3, h4, ?_⟩
          have hf := fit cap' cap' hn (by omega)
          exact run_append_grow (P := P) (w := w) t ty e info z hu hi hz ⟨r, 0, none⟩ cap' cap' _ hol (fun j u hj => by
            rw [add_plain, cell_of ho]
            rw [List.getElem?_take] at hj
            split at hj
            · simpa using hj
            · cases hj) ⟨rm, 0, none⟩ 1 c0 news hnl hnc (by omega) hf.1 hf.2

end
end Go.FL

/-
  One operation, a region in the order of the text: sound.
-/
set_option linter.unusedVariables false
set_option linter.unusedSimpArgs false
set_option linter.unusedSectionVars false
namespace Go.FL
variable [Fz]

section
variable {P : Program}

theorem makeSliceA_run {s : Mp} {t : TypeId} {l c : LV} {u v : Value} {H : LH} {K : LV → LH → Prop} {w : World} (hl : RelV s l u) (hc : RelV s c v) (hH : Rel s H w)
    (h : makeSliceA P t l c H K) : ∃ s' y r H' w', K y H' ∧ RelV s' y r ∧ Rel s' H' w' ∧ Post s H w s' H' w' ∧ (Instr.makeSlice t u v).run P w = .ok r w' := by
  unfold makeSliceA at h
  split at h
  · rename_i e hu
    split at h
    · rename_i k info he hi
      split at h
      · rename_i k' k1 n k2 m hz
        obtain ⟨⟨⟨rfl, hs, hb⟩, rfl, h0, h1⟩, hK⟩ := h
        have hl : u = .int k1 n := hl
        have hc : v = .int k2 n := hc
        subst hl; subst hc
        have hrep : ((Array.range n.toNat).map fun i => (#[Value.int k' 0])[i % 1]!) = ((List.range n.toNat).map fun _ => Value.int k' 0).toArray := by
          apply Array.ext'
          simp only [Array.toList_map, Array.toList_range, Nat.mod_one]
          rfl
        obtain ⟨h2, h3⟩ := hH.new (b := .ints e k' n.toNat fun _ => 0) (o := .cells ((List.range n.toNat).map fun _ => Value.int k' 0).toArray e (0, 0)) (.ints (by simp))
        refine ⟨_, _, .slice (some ⟨w.heap.size, 0, none⟩) n.toNat n.toNat, _, _, hK, ⟨w.heap.size, ?_, rfl⟩, h2, h3, ?_⟩
        · rw [LH.len_eq, ← hH.len]; simp [hd]
        · have hw : IntKind.i64.wrap n = n := by
            unfold IntKind.wrap; simp [IntKind.bits, IntKind.signed, IntKind.max, IntKind.min] <;> omega
          have hbn : (info.bytes : Int) * n ≤ 2 ^ 48 := by
            have : (info.bytes : Int) ≤ 8 := by exact_mod_cast hb
            calc (info.bytes : Int) * n ≤ 8 * 1048576 := by
                  apply Int.mul_le_mul this h1 h0 (by omega)
              _ ≤ 2 ^ 48 := by decide
          have htl : decide (2 ^ 48 < (info.bytes : Int) * n) = false := by
            simp only [decide_eq_false_iff_not]; omega
          have hlt : decide (n < 0) = false := by simp; omega
          simp only [Instr.makeSlice, Sem.run_bind, run_underlying hu, Result.andThen_ok, asInt, asIntOf, Sem.run_pure, typeInfo_run hi, hw, gt_iff_lt, htl, hlt, Int.lt_irrefl, decide_false, Bool.or_self, Bool.or_false, Bool.false_eq_true, if_false, run_askRoom, sizeOf, hs, zeroValue, hz,
            Nat.mul_one]
          by_cases hn0 : n.toNat = 0
          · rw [if_pos hn0]
            simp only [Sem.run_pure, Result.andThen_ok, newRow, Sem.run_bind, run_newObj, hn0, Array.range_zero', List.range_zero, List.map_nil, Array.map_empty]
          · rw [if_neg hn0]
            simp only [Sem.run_bind, Sem.run_pure, Result.andThen_ok, Value.cells, newRow, run_newObj, typeInfo_run hi, hz]
            rw [← hrep]
            rfl
      · exact h.elim
    · exact h.elim
  · exact h.elim

theorem relVs_map {s : Mp} {nt : Nat} {T : Tm} {a : Act} (hT : RelT s nt T a) : ∀ l : List Operand, RelVs s (l.map (opnd T)) (l.map a.eval)
  | [] => trivial
  | x :: l => ⟨opnd_rel hT x, relVs_map hT l⟩

variable {call : FuncId → List LV → LH → (LV → LH → Prop) → Prop}

/-- The kinds of results: a value; nothing; a call. -/
theorem wp_value {o : Oper} {a : Act} {w w' : World} {next : Act → World → Prop} {Q : Exit → Act → World → Prop} {v : Value} (h : (execOp a.eval o).run P w = .ok (.value v) w')
    (hn : next (a.put o.dst v) w') : o.wp P a w next Q := by
  unfold Oper.wp; rw [h]; exact hn

theorem wp_call {o : Oper} {a : Act} {w : World} {next : Act → World → Prop} {Q : Exit → Act → World → Prop} {f : FuncId} {vs : List Value} {args : List LV} {s : Mp} {H : LH} {K : LV → LH → Prop}
    (h : (execOp a.eval o).run P w = .ok (.enter f vs.toArray) w) (hc : CSpec P f args H K) (hr : RelVs s args vs) (hH : Rel s H w)
    (hn : ∀ s' v v' H' w', K v H' → RelV s' v v' → Rel s' H' w' → Post s H w s' H' w' → next (a.put o.dst v') w') : o.wp P a w next Q := by
  unfold Oper.wp; rw [h]
  show Calls P f vs.toArray w _
  refine (hc s vs w hr hH).mono fun e w' he => ?_
  cases e with
  | returned v' =>
    obtain ⟨s', v, H', h1, h2, h3, h4⟩ := he
    exact hn s' v v' H' w' h1 h2 h3 h4
  | panicked c => exact he.elim
  | outgrown => exact he.elim

theorem opA_ok (hP : FnOK P) (hcall : CallOK P call) {o : Oper} {T : Tm} {H : LH} {K : LV → LH → Prop} {s : Mp} {nt : Nat} {a : Act} {w : World} {next : Act → World → Prop}
    {Q : Exit → Act → World → Prop} (h : opA P call o T H K) (hT : RelT s nt T a) (hH : Rel s H w)
    (hn : ∀ s' v v' H' w', K v H' → RelV s' v v' → Rel s' H' w' → Post s H w s' H' w' → next (a.put o.dst v') w') : o.wp P a w next Q := by
  -- a value, the world as it was
  have still : ∀ {z : LV} {r : Value}, K z H → RelV s z r → (execOp a.eval o).run P w = .ok (.value r) w → o.wp P a w next Q := fun hK hr hrun =>
    wp_value hrun (hn s _ _ H w hK hr hH Post.rfl')
  unfold opA at h
  split at h
  · rename_i x ho; exact still h (opnd_rel hT x) (by simp [execOp, ho])
  · rename_i x ho; exact still h (opnd_rel hT x) (by simp [execOp, ho])
  · rename_i c x y ho
    have hc := opnd_rel hT c
    split at h
    · rename_i q hq
      rw [hq] at hc
      have hc : a.eval c = .bool q := hc
      split at h
      · exact still h (opnd_rel hT x) (by simp [execOp, ho, hc, asBool])
      · exact still h (opnd_rel hT y) (by simp [execOp, ho, hc, asBool])
    · exact h.elim
  · rename_i e ho
    split at h
    · rename_i l hl
      obtain ⟨v, hv, hr⟩ := zeroT_run (P := P) (s := s) hl
      obtain ⟨h2, h3⟩ := hH.new (b := .cells e l) (o := .cells v.cells e (0, 0)) (.cells v.cells (by simp) (hr.mono (.app _ _)))
      refine wp_value (v := .pointer (some ⟨w.heap.size, 0, none⟩)) (w' := { w with heap := w.heap.push (.cells v.cells e (0, 0)) }) ?_ (hn _ _ _ _ _ h ⟨w.heap.size, ?_, rfl⟩ h2 h3)
      · simp [execOp, ho, Instr.alloc, hv, newVar, newRow]
      · rw [LH.len_eq, ← hH.len]; simp [hd]
    · exact h.elim
  · rename_i e x ho
    split at h
    · rename_i l hl
      have hr := (opnd_rel hT x).cells hl
      obtain ⟨h2, h3⟩ := hH.new (b := .cells e l) (o := .cells (a.eval x).cells e (0, 0)) (.cells _ (by simp) (hr.mono (.app _ _)))
      refine wp_value (v := .pointer (some ⟨w.heap.size, 0, none⟩)) (w' := { w with heap := w.heap.push (.cells (a.eval x).cells e (0, 0)) }) ?_ (hn _ _ _ _ _ h ⟨w.heap.size, ?_, rfl⟩ h2 h3)
      · simp [execOp, ho, Instr.box, newVar, newRow]
      · rw [LH.len_eq, ← hH.len]; simp [hd]
    · exact h.elim
  · rename_i t parts ho
    obtain ⟨z, r, h1, h2, h3⟩ := buildA_run (P := P) (s := s) (vs := parts.map fun p => (p.1, a.eval p.2)) (by simp) (by
      have := relVs_map hT (parts.toList.map (·.2))
      simpa [Function.comp_def] using this) h
    exact still h1 h2 (by simp [execOp, ho, h3])
  · rename_i t x ho
    obtain ⟨y, v, h1, h2, h3⟩ := loadA_run (opnd_rel hT x) hH h
    exact still h1 h2 (by simp [execOp, ho, h3])
  · rename_i t x y ho
    obtain ⟨H', w', h1, h2, h3, h4⟩ := storeA_run (opnd_rel hT x) (opnd_rel hT y) hH h
    unfold Oper.wp
    have : (execOp a.eval o).run P w = .ok .skip w' := by simp [execOp, ho, h4]
    rw [this]
    exact hn s .un undef H' w' h1 trivial h2 h3
  · rename_i x ho
    have hx := opnd_rel hT x
    split at h
    · rename_i n off hq
      rw [hq] at hx
      obtain ⟨r, hr, he⟩ := hx
      exact still h ⟨r, hr, rfl⟩ (by simp [execOp, ho, he])
    · rename_i n r' wd c hq
      rw [hq] at hx
      obtain ⟨r, hr, he⟩ := hx
      exact still h ⟨r, hr, rfl⟩ (by simp [execOp, ho, he])
    · exact h.elim
  · rename_i op t x y ty ho
    obtain ⟨z, r, h1, h2, h3⟩ := binA_run (opnd_rel hT x) (opnd_rel hT y) h
    exact still h1 h2 (by simp only [execOp, ho]; rw [Sem.run_bind, h3]; rfl)
  · rename_i op t x ho
    obtain ⟨z, r, h1, h2, h3⟩ := unA_run (P := P) (opnd_rel hT x) h
    exact still h1 h2 (by simp [execOp, ho, h3])
  · rename_i src dst x ho
    obtain ⟨z, r, h1, h2, h3⟩ := convA_run (opnd_rel hT x) h
    exact still h1 h2 (by simp [execOp, ho, h3])
  · rename_i t x ho
    have hx := opnd_rel hT x
    split at h
    · rename_i y hy
      rw [hy] at hx
      split at h
      · exact h.elim
      · rename_i d hd hu
        refine still h ⟨a.eval x, rfl, hx⟩ ?_
        have : (Instr.makeInterface t (a.eval x)).run P w = .ok (.iface t (a.eval x)) w := by
          simp only [Instr.makeInterface, Sem.run_bind, run_underlying hu, Result.andThen_ok]
          first
            | rfl
            | (split
               · exact absurd rfl (hd _)
               · rfl)
        simp [execOp, ho, this]
      · exact h.elim
    · exact h.elim
  · rename_i t x f ho
    obtain ⟨z, r, h1, h2, h3⟩ := fieldAddrA_run (opnd_rel hT x) h
    exact still h1 h2 (by simp [execOp, ho, h3])
  · rename_i t x f ho
    obtain ⟨z, r, h1, h2, h3⟩ := fieldA_run (opnd_rel hT x) h
    exact still h1 h2 (by simp [execOp, ho, h3])
  · rename_i t x i ho
    obtain ⟨z, r, h1, h2, h3⟩ := indexAddrA_run (opnd_rel hT x) (opnd_rel hT i) h
    exact still h1 h2 (by simp [execOp, ho, h3])
  · rename_i x i ho
    have hx := opnd_rel hT x
    split at h
    · rename_i l hl
      rw [hl] at hx
      obtain ⟨vs, hv, hr⟩ := hx
      split at h
      · rename_i p hp
        rw [lget_eq] at hp
        have : ∀ {l : List LP} {us : List Value}, RelPs s l us → ∀ {i : Nat}, l[i]? = some p → ∃ u, us[i]? = some u ∧ RelP s p u := by
          intro l
          induction l with
          | nil => intro us _ i hi; simp at hi
          | cons q l ih =>
            intro us hr i hi
            cases us with
            | nil => exact hr.elim
            | cons u us =>
              cases i with
              | zero => simp at hi; subst hi; exact ⟨u, rfl, hr.1⟩
              | succ i => simpa using ih hr.2 (by simpa using hi)
        obtain ⟨u, hu, hpr⟩ := this hr hp
        rw [Array.getElem?_toList] at hu
        exact still h hpr.lv (by simp [execOp, ho, hv, Instr.extract, hu])
      · exact h.elim
    · exact h.elim
  · rename_i t l c ho
    obtain ⟨s', y, r, H', w', h1, h2, h3, h4, h5⟩ := makeSliceA_run (opnd_rel hT l) (opnd_rel hT c) hH h
    exact wp_value (by simp [execOp, ho, h5]) (hn _ _ _ _ _ h1 h2 h3 h4)
  · rename_i t n parts ho
    obtain ⟨s', y, r, H', w', h1, h2, h3, h4, h5⟩ := buildSliceA_run (P := P) (vs := parts.map fun p => (p.1, a.eval p.2)) (by simp) (by
      have := relVs_map hT (parts.toList.map (·.2))
      simpa [Function.comp_def] using this) hH h
    exact wp_value (by simp [execOp, ho, h5]) (hn _ _ _ _ _ h1 h2 h3 h4)
  · rename_i c ho
    unfold callA at h
    split at h
    · rename_i f hce
      have hf := opnd_rel hT f
      split at h
      · rename_i g hg
        rw [hg] at hf
        have hf : a.eval f = .func (.func g) #[] #[] := hf
        obtain ⟨⟨fn, h1, h2⟩, hsp⟩ := hcall _ _ _ _ h
        refine wp_call (s := s) (f := g) (vs := c.args.toList.map a.eval) ?_ hsp (relVs_map hT _) hH hn
        have : c.args.map a.eval = (c.args.toList.map a.eval).toArray := by apply Array.ext'; simp
        simp only [execOp, ho, resolve, hce, Deferred.ofValue, hf, Sem.run_bind, Sem.run_pure, Result.andThen_ok, invoke, Array.append_empty, Array.empty_append, this]
        exact hP g fn h1 h2 _ w
      · exact h.elim
    · rename_i r name hce
      have hr := opnd_rel hT r
      split at h
      · rename_i t v hg
        rw [hg] at hr
        obtain ⟨u, hu, hrel⟩ := hr
        split at h
        · rename_i g hm
          obtain ⟨⟨fn, h1, h2⟩, hsp⟩ := hcall _ _ _ _ h
          refine wp_call (s := s) (f := g) (vs := u :: c.args.toList.map a.eval) ?_ hsp ⟨hrel, relVs_map hT _⟩ hH hn
          have hme := methodA_run (P := P) (v := u) hm (P.types.size + Made.depth - 1) w
          have hfuel : P.types.size + Made.depth - 1 + 1 = P.types.size + Made.depth := by
            have : 0 < Made.depth := by decide
            omega
          rw [hfuel] at hme
          have harr : (#[u] ++ c.args.map a.eval) = (u :: c.args.toList.map a.eval).toArray := by apply Array.ext'; simp
          have hext : ((#[a.eval r] ++ c.args.map a.eval).extract 1 (#[a.eval r] ++ c.args.map a.eval).size) = c.args.map a.eval := by
            apply Array.ext'
            simp [List.take_of_length_le]
          have h0 : (#[a.eval r] ++ c.args.map a.eval)[0]? = some (.iface t u) := by rw [hu, ← Array.getElem?_toList, Array.toList_append]; rfl
          simp only [execOp, ho, resolve, hce, Sem.run_bind, Sem.run_pure, Result.andThen_ok, invoke, hext, h0, callMethod, run_program, hme, harr]
          exact hP g fn h1 h2 _ w
        · exact h.elim
      · exact h.elim
    · rename_i b hce
      split at h
      · split at h
        · rename_i t ts x xs hat hargs
          have h0 : c.argTypes[0]? = some t := by rw [← Array.getElem?_toList, hat]; rfl
          have h1 : (c.args.map a.eval)[0]? = some (a.eval x) := by
            have : c.args[0]? = some x := by rw [← Array.getElem?_toList, hargs]; rfl
            simp [this]
          obtain ⟨z, r, h2, h3, h4⟩ := lenA_run (P := P) (ty := o.type) (opnd_rel hT x) h0 h1 h
          exact still h2 h3 (by simp [execOp, ho, resolve, hce, invoke, builtin, h4])
        · exact h.elim
      · split at h
        · rename_i z hz
          have hargs := relVs_map hT c.args.toList
          unfold minmax at hz
          split at hz
          · cases hz
          · rename_i x xs hxs
            rw [hxs] at hargs
            generalize hg : c.args.toList.map a.eval = vs at hargs
            cases vs with
            | nil => exact hargs.elim
            | cons v vs =>
              obtain ⟨u, h2, h3⟩ := minmax_run (P := P) true hargs.1 hargs.2 hz
              refine still h h2 ?_
              simp only [if_true] at h3
              simp [execOp, ho, resolve, hce, invoke, builtin, Builtin.min_, hg, h3]
        · exact h.elim
      · split at h
        · rename_i z hz
          have hargs := relVs_map hT c.args.toList
          unfold minmax at hz
          split at hz
          · cases hz
          · rename_i x xs hxs
            rw [hxs] at hargs
            generalize hg : c.args.toList.map a.eval = vs at hargs
            cases vs with
            | nil => exact hargs.elim
            | cons v vs =>
              obtain ⟨u, h2, h3⟩ := minmax_run (P := P) false hargs.1 hargs.2 hz
              refine still h h2 ?_
              simp only [Bool.false_eq_true, if_false] at h3
              simp [execOp, ho, resolve, hce, invoke, builtin, Builtin.max_, hg, h3]
        · exact h.elim
      · split at h
        · rename_i t t' x y hat hargs
          have h0 : c.argTypes = #[t, t'] := by apply Array.ext'; simpa using hat
          have h1 : c.args.map a.eval = #[a.eval x, a.eval y] := by apply Array.ext'; simp [hargs]
          obtain ⟨s', z, r, H', w', h2, h3, h4, h5, h6⟩ := appendA_run (P := P) (ty := o.type) (opnd_rel hT x) (opnd_rel hT y) hH h
          exact wp_value (by simp [execOp, ho, resolve, hce, invoke, builtin, h0, h1, h6]) (hn _ _ _ _ _ h2 h3 h4 h5)
        · exact h.elim
      · exact h.elim
  · exact h.elim

end
end Go.FL

/-
  Quiet operations: what they yield hangs on their operands alone, or on one block.
-/
set_option linter.unusedVariables false
set_option linter.unusedSimpArgs false
set_option linter.unusedSectionVars false
namespace Go.FL
variable [Fz]

section
variable {P : Program} {call : FuncId → List LV → LH → (LV → LH → Prop) → Prop}

theorem quietA_ok {o : Oper} {T : Tm} {H : LH} {K : LV → LH → Prop} {s : Mp} {nt : Nat} {a : Act} {w : World} (hq : quietOp o.op = true) (h : opA P call o T H K) (hT : RelT s nt T a) (hH : Rel s H w) :
    ∃ y v, K y H ∧ RelV s y v ∧ ((noLoad o.op = true ∧ ∀ w', (execOp a.eval o).run P w' = .ok (.value v) w') ∨
      (noLoad o.op = false ∧ ∃ r ob, ((∃ n, loadsOf o T = some n ∧ hd s n = some r) ∨ (loadsOf o T = none ∧ loadsView o T = true ∧ Fz.F r ob)) ∧ w.heap[r]? = some ob ∧ ∀ w' : World, w'.heap[r]? = some ob → (execOp a.eval o).run P w' = .ok (.value v) w')) := by
  have still : ∀ {z : LV} {r : Value}, K z H → RelV s z r → noLoad o.op = true → (∀ w', (execOp a.eval o).run P w' = .ok (.value r) w') → ∃ y v, K y H ∧ RelV s y v ∧ ((noLoad o.op = true ∧ ∀ w', (execOp a.eval o).run P w' = .ok (.value v) w') ∨
      (noLoad o.op = false ∧ ∃ r ob, ((∃ n, loadsOf o T = some n ∧ hd s n = some r) ∨ (loadsOf o T = none ∧ loadsView o T = true ∧ Fz.F r ob)) ∧ w.heap[r]? = some ob ∧ ∀ w' : World, w'.heap[r]? = some ob → (execOp a.eval o).run P w' = .ok (.value v) w')) :=
    fun hK hr hl hrun => ⟨_, _, hK, hr, .inl ⟨hl, hrun⟩⟩
  unfold opA at h
  split at h
  · rename_i x ho; exact still h (opnd_rel hT x) (by rw [ho]; rfl) (fun w => by simp [execOp, ho])
  · rename_i x ho; exact still h (opnd_rel hT x) (by rw [ho]; rfl) (fun w => by simp [execOp, ho])
  · rename_i c x y ho
    have hc := opnd_rel hT c
    split at h
    · rename_i q hq
      rw [hq] at hc
      have hc : a.eval c = .bool q := hc
      split at h
      · exact still h (opnd_rel hT x) (by rw [ho]; rfl) (fun w => by simp [execOp, ho, hc, asBool])
      · exact still h (opnd_rel hT y) (by rw [ho]; rfl) (fun w => by simp [execOp, ho, hc, asBool])
    · exact h.elim
  · rename_i e ho; rw [ho] at hq; cases hq
  · rename_i e x ho; rw [ho] at hq; cases hq
  · rename_i t parts ho
    obtain ⟨z, r, h1, h2, h3⟩ := buildA_run (P := P) (s := s) (vs := parts.map fun p => (p.1, a.eval p.2)) (by simp) (by
      have := relVs_map hT (parts.toList.map (·.2))
      simpa [Function.comp_def] using this) h
    exact still h1 h2 (by rw [ho]; rfl) (fun w => by simp [execOp, ho, h3])
  · rename_i t x ho
    obtain ⟨y, v, r, ob, h1, h2, h3, h5, h6⟩ := loadA_run' (opnd_rel hT x) hH h
    refine ⟨y, v, h1, h2, .inr ⟨by rw [ho]; rfl, r, ob, ?_, h5, fun w' hw' => ?_⟩⟩
    · simp only [loadsOf, loadsView, ho]; exact h3
    · simp [execOp, ho, h6 w' hw']
  · rename_i t x y ho; rw [ho] at hq; cases hq
  · rename_i x ho
    have hx := opnd_rel hT x
    split at h
    · rename_i n off hq
      rw [hq] at hx
      obtain ⟨r, hr, he⟩ := hx
      exact still h ⟨r, hr, rfl⟩ (by rw [ho]; rfl) (fun w => by simp [execOp, ho, he])
    · rename_i n r' wd c hq
      rw [hq] at hx
      obtain ⟨r, hr, he⟩ := hx
      exact still h ⟨r, hr, rfl⟩ (by rw [ho]; rfl) (fun w => by simp [execOp, ho, he])
    · exact h.elim
  · rename_i op t x y ty ho
    obtain ⟨z, r, h1, h2, h3⟩ := binA_run (opnd_rel hT x) (opnd_rel hT y) h
    exact still h1 h2 (by rw [ho]; rfl) (fun w => by simp only [execOp, ho]; rw [Sem.run_bind, h3]; rfl)
  · rename_i op t x ho
    obtain ⟨z, r, h1, h2, h3⟩ := unA_run (P := P) (opnd_rel hT x) h
    exact still h1 h2 (by rw [ho]; rfl) (fun w => by simp [execOp, ho, h3])
  · rename_i src dst x ho
    obtain ⟨z, r, h1, h2, h3⟩ := convA_run (opnd_rel hT x) h
    exact still h1 h2 (by rw [ho]; rfl) (fun w => by simp [execOp, ho, h3])
  · rename_i t x ho
    have hx := opnd_rel hT x
    split at h
    · rename_i y hy
      rw [hy] at hx
      split at h
      · exact h.elim
      · rename_i d hd hu
        refine still h ⟨a.eval x, rfl, hx⟩ (by rw [ho]; rfl) (fun w => ?_)
        have : (Instr.makeInterface t (a.eval x)).run P w = .ok (.iface t (a.eval x)) w := by
          simp only [Instr.makeInterface, Sem.run_bind, run_underlying hu, Result.andThen_ok]
          first
            | rfl
            | (split
               · exact absurd rfl (hd _)
               · rfl)
        simp [execOp, ho, this]
      · exact h.elim
    · exact h.elim
  · rename_i t x f ho
    obtain ⟨z, r, h1, h2, h3⟩ := fieldAddrA_run (opnd_rel hT x) h
    exact still h1 h2 (by rw [ho]; rfl) (fun w => by simp [execOp, ho, h3])
  · rename_i t x f ho
    obtain ⟨z, r, h1, h2, h3⟩ := fieldA_run (opnd_rel hT x) h
    exact still h1 h2 (by rw [ho]; rfl) (fun w => by simp [execOp, ho, h3])
  · rename_i t x i ho
    obtain ⟨z, r, h1, h2, h3⟩ := indexAddrA_run (opnd_rel hT x) (opnd_rel hT i) h
    exact still h1 h2 (by rw [ho]; rfl) (fun w => by simp [execOp, ho, h3])
  · rename_i x i ho
    have hx := opnd_rel hT x
    split at h
    · rename_i l hl
      rw [hl] at hx
      obtain ⟨vs, hv, hr⟩ := hx
      split at h
      · rename_i p hp
        rw [lget_eq] at hp
        have : ∀ {l : List LP} {us : List Value}, RelPs s l us → ∀ {i : Nat}, l[i]? = some p → ∃ u, us[i]? = some u ∧ RelP s p u := by
          intro l
          induction l with
          | nil => intro us _ i hi; simp at hi
          | cons q l ih =>
            intro us hr i hi
            cases us with
            | nil => exact hr.elim
            | cons u us =>
              cases i with
              | zero => simp at hi; subst hi; exact ⟨u, rfl, hr.1⟩
              | succ i => simpa using ih hr.2 (by simpa using hi)
        obtain ⟨u, hu, hpr⟩ := this hr hp
        rw [Array.getElem?_toList] at hu
        exact still h hpr.lv (by rw [ho]; rfl) (fun w => by simp [execOp, ho, hv, Instr.extract, hu])
      · exact h.elim
    · exact h.elim
  · rename_i t l c ho; rw [ho] at hq; cases hq
  · rename_i t n parts ho; rw [ho] at hq; cases hq
  · rename_i c ho
    unfold callA at h
    split at h
    · rename_i f hce
      exfalso
      rw [ho] at hq
      cases c; cases hce; cases hq
    · rename_i r name hce
      exfalso
      rw [ho] at hq
      cases c; cases hce; cases hq
    · rename_i b hce
      split at h
      · split at h
        · rename_i t ts x xs hat hargs
          have h0 : c.argTypes[0]? = some t := by rw [← Array.getElem?_toList, hat]; rfl
          have h1 : (c.args.map a.eval)[0]? = some (a.eval x) := by
            have : c.args[0]? = some x := by rw [← Array.getElem?_toList, hargs]; rfl
            simp [this]
          obtain ⟨z, r, h2, h3, h4⟩ := lenA_run (P := P) (ty := o.type) (opnd_rel hT x) h0 h1 h
          exact still h2 h3 (by rw [ho]; rfl) (fun w => by simp [execOp, ho, resolve, hce, invoke, builtin, h4])
        · exact h.elim
      · split at h
        · rename_i z hz
          have hargs := relVs_map hT c.args.toList
          unfold minmax at hz
          split at hz
          · cases hz
          · rename_i x xs hxs
            rw [hxs] at hargs
            generalize hg : c.args.toList.map a.eval = vs at hargs
            cases vs with
            | nil => exact hargs.elim
            | cons v vs =>
              obtain ⟨u, h2, h3⟩ := minmax_run (P := P) true hargs.1 hargs.2 hz
              refine still h h2 (by rw [ho]; rfl) (fun w => ?_)
              simp only [if_true] at h3
              simp [execOp, ho, resolve, hce, invoke, builtin, Builtin.min_, hg, h3]
        · exact h.elim
      · split at h
        · rename_i z hz
          have hargs := relVs_map hT c.args.toList
          unfold minmax at hz
          split at hz
          · cases hz
          · rename_i x xs hxs
            rw [hxs] at hargs
            generalize hg : c.args.toList.map a.eval = vs at hargs
            cases vs with
            | nil => exact hargs.elim
            | cons v vs =>
              obtain ⟨u, h2, h3⟩ := minmax_run (P := P) false hargs.1 hargs.2 hz
              refine still h h2 (by rw [ho]; rfl) (fun w => ?_)
              simp only [Bool.false_eq_true, if_false] at h3
              simp [execOp, ho, resolve, hce, invoke, builtin, Builtin.max_, hg, h3]
        · exact h.elim
      · rename_i hb
        exfalso
        rw [ho] at hq
        cases c; cases hce; cases hq
      · exact h.elim
  · exact h.elim

theorem putA_ok {nt : Nat} {dst : Option Tmp} {v : LV} {T : Tm} {K : Tm → Prop} {s : Mp} {a : Act} {v' : Value} (h : putA nt dst v T K) (hT : RelT s nt T a) (hv : RelV s v v') :
    ∃ T', K T' ∧ RelT s nt T' (a.put dst v') := by
  unfold putA at h
  split at h
  · exact ⟨T, h, hT⟩
  · rename_i d
    split at h
    · rename_i hd
      have hd : d < nt := Nat.le_of_ble_eq_true hd
      have key : RelT s nt ((d, v) :: T) (a.put (some d) v') := by
        refine ⟨⟨by simp [Act.put, hT.1.1], hT.1.2⟩, fun t => ?_⟩
        simp only [Tm.get]
        split
        · rename_i he
          have he : d = t := by simpa using he
          subst he
          simp only [Act.put, Array.getD_eq_getD_getElem?]
          rw [Array.getElem?_setIfInBounds_self_of_lt (by rw [hT.1.1]; exact hd)]
          exact hv
        · rename_i he
          have he : ¬ d = t := Nat.ne_of_beq_eq_false he
          simp only [Act.put, Array.getD_eq_getD_getElem?]
          rw [Array.getElem?_setIfInBounds_ne he]
          simpa [Array.getD_eq_getD_getElem?] using hT.2 t
      split at h <;> exact ⟨_, h, key⟩
    · exact h.elim

theorem guardA_ok {ops : Array Oper} {nt : Nat} {g : Option (Nat × Bool)} {T : Tm} {K : Bool → Tm → Prop} {s : Mp} {a : Act} (h : guardA ops.toList g T K) (hT : RelT s nt T a) :
    ∃ b T', K b T' ∧ RelT s nt T' a ∧ ∀ o : Oper, o.guard = g → Region.wanted o (yielded ops a.tmps) = b := by
  unfold guardA at h
  split at h
  · exact ⟨true, T, h, hT, fun o ho => by simp [Region.wanted, ho]⟩
  · rename_i j want
    split at h
    · exact h.elim
    rename_i oj hoj
    rw [lget_eq, Array.getElem?_toList] at hoj
    split at h
    · exact h.elim
    rename_i d hd
    split at h
    · rename_i b hb
      have hv := hT.2 d
      rw [hb] at hv
      have hv : a.tmps.getD d undef = .bool b := hv
      have hv' : a.tmps[d]? = some (.bool b) := by
        rw [Array.getD_eq_getD_getElem?] at hv
        cases hx : a.tmps[d]? with
        | none => rw [hx] at hv; simp [undef] at hv
        | some x => rw [hx] at hv; simpa using hv
      have hy : yielded ops a.tmps j = some b := by simp [yielded, hoj, hd, hv']
      have keyT : RelT s nt ((d, .c (.bool b)) :: T) a := by
        refine ⟨hT.1, fun t => ?_⟩
        simp only [Tm.get]
        split
        · rename_i he
          have he : d = t := by simpa using he
          subst he
          exact hv
        · exact hT.2 t
      split at h
      · exact ⟨want, _, h, keyT, fun o ho => by simp [Region.wanted, ho, hy]⟩
      · exact ⟨!want, _, h, keyT, fun o ho => by simp [Region.wanted, ho, hy]⟩
    · rename_i hb
      have hv := hT.2 d
      rw [hb] at hv
      obtain ⟨vs, hv, hvs⟩ := hv
      have hv0 : vs = #[] := by
        cases hl : vs.toList with
        | nil => exact Array.ext' hl
        | cons x r => rw [hl] at hvs; exact hvs.elim
      subst hv0
      have hy : yielded ops a.tmps j = none := by
        simp only [yielded, hoj, hd, Option.bind_some]
        rw [Array.getD_eq_getD_getElem?] at hv
        cases hx : a.tmps[d]? with
        | none => rfl
        | some x => rw [hx] at hv; simp only [Option.getD_some] at hv; subst hv; rfl
      exact ⟨false, _, h, hT, fun o ho => by simp [Region.wanted, ho, hy]⟩
    · exact h.elim

/-- A region in the order of the text. -/
theorem regA_ok (hP : FnOK P) (hcall : CallOK P call) {ops : Array Oper} {nt : Nat} {Q : Exit → Act → World → Prop} : ∀ {l : List Oper} {T : Tm} {H : LH} {K : Tm → LH → Prop} {s : Mp} {a : Act} {w : World},
    regA P call nt ops.toList l T H K → RelT s nt T a → Rel s H w →
    (∀ s' T' H' a' w', K T' H' → RelT s' nt T' a' → Rel s' H' w' → Post s H w s' H' w' → Q .normal a' w') → wpList P ops Q l a w
  | [], T, H, K, s, a, w, h, hT, hH, hn => hn s T H a w h hT hH Post.rfl'
  | o :: l, T, H, K, s, a, w, h, hT, hH, hn => by
    simp only [regA, execA] at h
    obtain ⟨b, T1, h, hT1, hw⟩ := guardA_ok h hT
    have hw := hw o rfl
    unfold wpList
    cases b with
    | true =>
      rw [if_pos hw]
      refine .inl (opA_ok hP hcall h hT1 hH ?_)
      intro s' v v' H' w' hK hv hH' hp
      obtain ⟨T', hK, hT'⟩ := putA_ok hK (hT1.mono hp.hext) hv
      exact regA_ok hP hcall hK hT' hH' fun s'' T'' H'' a'' w'' h1 h2 h3 h4 => hn s'' T'' H'' a'' w'' h1 h2 h3 (hp.trans h4)
    | false =>
      rw [if_neg (by simp [hw])]
      obtain ⟨T', hK, hT'⟩ := putA_ok (v' := undef) h hT1 ⟨#[], rfl, trivial⟩
      exact regA_ok hP hcall hK hT' hH hn

end
end Go.FL

/-
  A region whose order is drawn.
-/
set_option linter.unusedVariables false
set_option linter.unusedSimpArgs false
set_option linter.unusedSectionVars false
namespace Go.FL
variable [Fz]

section
variable {P : Program} {ops : Array Oper} {Q : Exit → Act → World → Prop}

abbrev md : Region.Mode := .any

/-- What is listed is listed with all that it waits for. -/
def Closed (ops : Array Oper) (L : Array Bool) : Prop :=
  L.size = ops.size ∧ ∀ (i : Nat) (o : Oper), ops[i]? = some o → L.getD i false = true → ∀ e ∈ o.after, Region.binds md e = true → L.getD e.on false = true

theorem Closed.set {L : Array Bool} (h : Closed ops L) {i : Nat} (hi : i ∈ Region.ready md ops L) : Closed ops (L.setIfInBounds i true) := by
  refine ⟨by simpa using h.1, fun k o hk hl e he hb => ?_⟩
  obtain ⟨h0, oi, hoi, hall⟩ := mem_ready.1 hi
  by_cases hki : k = i
  · subst hki
    rw [hoi] at hk; cases hk
    exact getD_set_true (hall e he hb)
  · rw [getD_set_ne false (Ne.symm hki)] at hl
    exact getD_set_true (h.2 k o hk hl e he hb)

def wpAnyS (P : Program) (ops : Array Oper) (Q : Exit → Act → World → Prop) (S : Array Bool → World → Prop) : Nat → Array Bool → Act → World → Prop
  | 0, L, a, w => Region.ready md ops L = [] ∧ Q .normal a w
  | f + 1, L, a, w => (Region.ready md ops L = [] → Q .normal a w) ∧
    ∀ i ∈ Region.ready md ops L, wpOp P ops Q i (fun a' w' => S (L.setIfInBounds i true) w' ∧ wpAnyS P ops Q S f (L.setIfInBounds i true) a' w') a w

theorem wpAnyS_any {S : Array Bool → World → Prop} : ∀ (f : Nat) (L : Array Bool) (a : Act) (w : World), wpAnyS P ops Q S f L a w → wpAny P md ops Q f L a w
  | 0, _, _, _, h => h
  | f + 1, _, _, _, h => ⟨h.1, fun i hi => wpOp_mono (fun a' w' h' => wpAnyS_any f _ a' w' h'.2) (h.2 i hi)⟩

theorem wpAnyS_mono {S S' : Array Bool → World → Prop} (hs : ∀ L w, S L w → S' L w) : ∀ (f : Nat) (L : Array Bool) (a : Act) (w : World), wpAnyS P ops Q S f L a w → wpAnyS P ops Q S' f L a w
  | 0, _, _, _, h => h
  | f + 1, _, _, _, h => ⟨h.1, fun i hi => wpOp_mono (fun a' w' h' => ⟨hs _ _ h'.1, wpAnyS_mono hs f _ a' w' h'.2⟩) (h.2 i hi)⟩

theorem wpAnyS_done {S : Array Bool → World → Prop} {L : Array Bool} {a : Act} {w : World} (hr : Region.ready md ops L = []) (h : Q .normal a w) : ∀ f, wpAnyS P ops Q S f L a w
  | 0 => ⟨hr, h⟩
  | _ + 1 => ⟨fun _ => h, by rw [hr]; simp⟩

/-- A quiet operation may be taken first. -/
theorem wpAnyS_first {S : Array Bool → World → Prop} {i : Nat} {oi : Oper} {v : Value} (hi : ops[i]? = some oi) (hsel : ∀ (j : Nat) (o : Oper) cs b, ops[j]? = some o → o.op ≠ .select cs b)
    (hQ : ∀ c a w, Q (.panic c) (a.put oi.dst v) w → Q (.panic c) a w) (hmono : ∀ L w k, S L w → S (L.setIfInBounds k true) w) (hSi : ∀ L w, S (L.setIfInBounds i true) w → S L w) :
    ∀ (fuel : Nat) (L : Array Bool) (a : Act) (w : World), Closed ops L →
      (∀ j oj, ops[j]? = some oj → j ≠ i → L.getD j true = false → (∀ e ∈ oj.after, Region.binds md e = true → e.on ≠ i) → oi.apart ops oj = true) →
      i ∈ Region.ready md ops L → YieldsIf P ops (fun w => ∃ L', Closed ops L' ∧ L'.getD i true = false ∧ S L' w) oi v a → S L w →
      wpAnyS P ops Q S fuel (L.setIfInBounds i true) (a.put oi.dst v) w → wpAnyS P ops Q S (fuel + 1) L a w := by
  intro fuel
  induction fuel with
  | zero =>
    intro L a w hcl _ hr hy hS H
    have hun := (mem_ready.1 hr).1
    refine ⟨fun h => (by rw [h] at hr; cases hr), fun j hj => ?_⟩
    by_cases hji : j = i
    · subst hji; exact hy.wpOp hi ⟨L, hcl, hun, hS⟩ ⟨hmono _ _ _ hS, H⟩
    · have := ready_mono hj hji
      rw [H.1] at this
      cases this
  | succ fuel ih =>
    intro L a w hcl hfree hr hy hS H
    have hun := (mem_ready.1 hr).1
    refine ⟨fun h => (by rw [h] at hr; cases hr), fun j hj => ?_⟩
    by_cases hji : j = i
    · subst hji; exact hy.wpOp hi ⟨L, hcl, hun, hS⟩ ⟨hmono _ _ _ hS, H⟩
    · have h1 := H.2 j (ready_mono hj hji)
      obtain ⟨hjun, oj, hoj, hall⟩ := mem_ready.1 hj
      have hnot : ∀ e ∈ oj.after, Region.binds md e = true → e.on ≠ i := fun e he hb heq => by
        have h1 := hall e he hb
        rw [heq] at h1
        rcases Nat.lt_or_ge i L.size with h' | h'
        · simp [h'] at hun h1; rw [hun] at h1; cases h1
        · simp [Array.getElem?_eq_none h'] at h1
      have h2 := wpOp_putIf hoj (hfree j oj hoj hji hjun hnot) (fun cs b => hsel i oi cs b hi) (fun cs b => hsel j oj cs b hoj) hQ hy h1
      have hfree' : ∀ k ok, ops[k]? = some ok → k ≠ i → (L.setIfInBounds j true).getD k true = false →
          (∀ e ∈ ok.after, Region.binds md e = true → e.on ≠ i) → oi.apart ops ok = true := fun k ok hk hki hun hno => by
        refine hfree k ok hk hki ?_ hno
        by_cases hjk : j = k
        · subst hjk; exact hjun
        · rw [getD_set_ne true hjk] at hun; exact hun
      refine wpOp_mono (fun a' w' h3 => ?_) h2
      have hS' : S (L.setIfInBounds j true) w' := hSi _ _ (by rw [Array.setIfInBounds_comm _ _ hji]; exact h3.2.1)
      refine ⟨hS', ih (L.setIfInBounds j true) a' w' (hcl.set hj) hfree' (ready_mono hr (Ne.symm hji)) h3.1 hS' ?_⟩
      rw [Array.setIfInBounds_comm _ _ hji]
      exact h3.2.2

/-! ### The evaluator's words and the kit's -/

theorem testBit_depMask (es : List Edge) (j : Nat) : (depMask es).testBit j = true ↔ ∃ e ∈ es, Region.binds md e = true ∧ e.on = j := by
  induction es with
  | nil => simp [depMask]
  | cons e r ih =>
    simp only [depMask]
    split
    · rename_i hb
      rw [show Nat.lor (Nat.shiftLeft 1 e.on) (depMask r) = (1 <<< e.on) ||| depMask r from rfl, Nat.testBit_or, Bool.or_eq_true, ih, Nat.testBit_shiftLeft]
      constructor
      · rintro (h | ⟨e', he, hb', hj⟩)
        · refine ⟨e, by simp, hb, ?_⟩
          simp at h
          have := h.2
          rw [show (1 : Nat) = 2 ^ 0 from rfl, Nat.testBit_two_pow] at this
          simp at this
          omega
        · exact ⟨e', by simp [he], hb', hj⟩
      · rintro ⟨e', he, hb', hj⟩
        rcases List.mem_cons.1 he with rfl | he
        · left; subst hj; simp
        · exact .inr ⟨e', he, hb', hj⟩
    · rename_i hb
      rw [ih]
      constructor
      · rintro ⟨e', he, hb', hj⟩; exact ⟨e', by simp [he], hb', hj⟩
      · rintro ⟨e', he, hb', hj⟩
        rcases List.mem_cons.1 he with rfl | he
        · rw [hb] at hb'; cases hb'
        · exact ⟨e', he, hb', hj⟩

/-- The mask of what is listed. -/
def MaskOf (m : Nat) (L : Array Bool) : Prop := ∀ i, L.getD i false = m.testBit i

theorem MaskOf.set {m : Nat} {L : Array Bool} (h : MaskOf m L) {i : Nat} (hi : i < L.size) : MaskOf (Nat.lor m (Nat.shiftLeft 1 i)) (L.setIfInBounds i true) := by
  intro j
  rw [show Nat.lor m (Nat.shiftLeft 1 i) = m ||| (1 <<< i) from rfl, Nat.testBit_or, Nat.testBit_shiftLeft]
  by_cases hij : i = j
  · subst hij
    simp [Array.getD_eq_getD_getElem?, Array.getElem?_setIfInBounds_self_of_lt hi]
  · rw [getD_set_ne false hij, h j]
    have : (decide (i ≤ j) && (1 : Nat).testBit (j - i)) = false := by
      rw [Bool.and_eq_false_iff]
      by_cases hle : i ≤ j
      · right
        rw [show (1 : Nat) = 2 ^ 0 from rfl, Nat.testBit_two_pow]
        simp; omega
      · left; simp [hle]
    rw [show (decide (j ≥ i) && (1 : Nat).testBit (j - i)) = false from this]
    simp

theorem mask_all {m : Nat} {L : Array Bool} (h : MaskOf m L) (es : List Edge) : Nat.beq (Nat.land (depMask es) m) (depMask es) = true ↔ ∀ e ∈ es, Region.binds md e = true → L.getD e.on false = true := by
  rw [Nat.beq_eq, show Nat.land (depMask es) m = depMask es &&& m from rfl]
  constructor
  · intro heq e he hb
    rw [h]
    have h1 : (depMask es).testBit e.on = true := (testBit_depMask es e.on).2 ⟨e, he, hb, rfl⟩
    have h2 : (depMask es &&& m).testBit e.on = true := by rw [heq]; exact h1
    rw [Nat.testBit_and] at h2
    simp at h2
    exact h2.2
  · intro hall
    apply Nat.eq_of_testBit_eq
    intro j
    rw [Nat.testBit_and]
    cases hj : (depMask es).testBit j with
    | false => rfl
    | true =>
      obtain ⟨e, he, hb, rfl⟩ := (testBit_depMask es j).1 hj
      have := hall e he hb
      rw [h] at this
      simp [this]

theorem readyA_mem {m : Nat} {L : Array Bool} (h : MaskOf m L) (hsz : L.size = ops.size) : ∀ (l : List Oper) (k : Nat), (∀ j, l[j]? = ops[k + j]?) → ∀ i, i ∈ readyA m l k ↔ (k ≤ i ∧ i ∈ Region.ready md ops L)
  | [], k, hl, i => by
    simp only [readyA, List.not_mem_nil, false_iff]
    rintro ⟨hki, hi⟩
    obtain ⟨_, o, ho, _⟩ := mem_ready.1 hi
    have := hl (i - k)
    rw [show k + (i - k) = i by omega, ho] at this
    simp at this
  | o :: l, k, hl, i => by
    have h0 : ops[k]? = some o := by simpa using (hl 0).symm
    have hk : k < ops.size := (Array.getElem?_eq_some_iff.1 h0).1
    have ih := readyA_mem h hsz l (k + 1) (fun j => by have := hl (j + 1); simpa [Nat.add_assoc, Nat.add_comm 1 j] using this) i
    have hbit : L.getD k true = m.testBit k := by
      rw [← h k]
      simp [Array.getD_eq_getD_getElem?, Array.getElem?_eq_getElem (show k < L.size by omega)]
    have hrk : k ∈ Region.ready md ops L ↔ (m.testBit k = false ∧ Nat.beq (Nat.land (depMask o.after.toList) m) (depMask o.after.toList) = true) := by
      rw [mem_ready, hbit, mask_all h]
      constructor
      · rintro ⟨h1, o', h2, h3⟩
        rw [h0] at h2; cases h2
        exact ⟨h1, fun e he => h3 e (by simpa using he)⟩
      · rintro ⟨h1, h2⟩
        exact ⟨h1, o, h0, fun e he => h2 e (by simpa using he)⟩
    have split1 : (k ≤ i ∧ i ∈ Region.ready md ops L) ↔ ((i = k ∧ k ∈ Region.ready md ops L) ∨ (k + 1 ≤ i ∧ i ∈ Region.ready md ops L)) := by
      constructor
      · rintro ⟨h1, h2⟩
        rcases Nat.eq_or_lt_of_le h1 with rfl | h3
        · exact .inl ⟨rfl, h2⟩
        · exact .inr ⟨h3, h2⟩
      · rintro (⟨rfl, h2⟩ | ⟨h1, h2⟩)
        · exact ⟨Nat.le_refl _, h2⟩
        · exact ⟨by omega, h2⟩
    rw [split1, ← ih, hrk]
    simp only [readyA]
    cases hb : m.testBit k with
    | true => simp
    | false =>
      cases hm : Nat.beq (Nat.land (depMask o.after.toList) m) (depMask o.after.toList) with
      | true => simp
      | false => simp

theorem pickQuiet_spec {l : List Oper} : ∀ {is : List Nat} {q : Nat}, pickQuiet l is = some q → q ∈ is ∧ ∃ o, l[q]? = some o ∧ quietOp o.op = true
  | [], q, h => by simp [pickQuiet] at h
  | i :: r, q, h => by
    simp only [pickQuiet] at h
    split at h
    · rename_i o ho
      split at h
      · rename_i hq
        cases h
        rw [lget_eq] at ho
        exact ⟨by simp, o, ho, hq⟩
      · obtain ⟨h1, h2⟩ := pickQuiet_spec h
        exact ⟨by simp [h1], h2⟩
    · cases h

theorem pickQuiet_none {l : List Oper} : ∀ {is : List Nat}, pickQuiet l is = none → (∀ i ∈ is, i < l.length) → ∀ i ∈ is, ∃ o, l[i]? = some o ∧ quietOp o.op = false
  | [], h, hl, i, hi => by simp at hi
  | i :: r, h, hl, k, hk => by
    have hi := hl i (by simp)
    simp only [pickQuiet, lget_eq, List.getElem?_eq_getElem hi] at h
    split at h
    · cases h
    · rename_i hq
      rcases List.mem_cons.1 hk with rfl | hk
      · exact ⟨_, List.getElem?_eq_getElem hi, hq⟩
      · exact pickQuiet_none h (fun j hj => hl j (by simp [hj])) k hk

theorem freeA_spec {m i : Nat} {oi : Oper} {L : Array Bool} (h : MaskOf m L) (hsz : L.size = ops.size) : ∀ (l : List Oper) (k : Nat), (∀ j, l[j]? = ops[k + j]?) → freeA ops m i oi l k = true →
    ∀ (j : Nat) (oj : Oper), k ≤ j → ops[j]? = some oj → j ≠ i → L.getD j true = false → (∀ e ∈ oj.after, Region.binds md e = true → e.on ≠ i) → oi.apart ops oj = true
  | [], k, hl, _, j, oj, hkj, hj, _, _, _ => by
    have := hl (j - k)
    rw [show k + (j - k) = j by omega, hj] at this
    simp at this
  | o :: l, k, hl, hf, j, oj, hkj, hj, hne, hun, hno => by
    have h0 : ops[k]? = some o := by simpa using (hl 0).symm
    have hrec := fun (hf' : freeA ops m i oi l (k + 1) = true) (hkj' : k + 1 ≤ j) => freeA_spec h hsz l (k + 1) (fun j => by have := hl (j + 1); simpa [Nat.add_assoc, Nat.add_comm 1 j] using this) hf' j oj hkj' hj hne hun hno
    simp only [freeA] at hf
    by_cases hjk : j = k
    · subst hjk
      rw [h0] at hj; cases hj
      split at hf
      · rename_i hc
        exfalso
        simp only [Bool.or_eq_true] at hc
        have hlt : j < L.size := by rw [hsz]; exact (Array.getElem?_eq_some_iff.1 h0).1
        rcases hc with (hc | hc) | hc
        · have := Nat.eq_of_beq_eq_true hc; omega
        · rw [← h j] at hc
          simp [Array.getD_eq_getD_getElem?, Array.getElem?_eq_getElem hlt] at hc hun
          rw [hc] at hun; cases hun
        · obtain ⟨e, he, hb, heq⟩ := (testBit_depMask _ _).1 hc
          exact hno e (by simpa using he) hb heq
      · split at hf
        · rename_i hap; exact hap
        · cases hf
    · split at hf
      · exact hrec hf (by omega)
      · split at hf
        · exact hrec hf (by omega)
        · cases hf

theorem nextA_done {m : Nat} {L : Array Bool} (h : MaskOf m L) (hsz : L.size = ops.size) (hn : nextA ops m = .done) : Region.ready md ops L = [] := by
  unfold nextA at hn
  split at hn
  · rename_i h0
    have := readyA_mem h hsz ops.toList 0 (by simp)
    rw [h0] at this
    rw [List.eq_nil_iff_forall_not_mem]
    intro i hi
    exact absurd ((this i).2 ⟨Nat.zero_le _, hi⟩) (by simp)
  · split at hn
    · split at hn
      · split at hn <;> cases hn
      · cases hn
    · cases hn

theorem nextA_quiet {m : Nat} {L : Array Bool} (h : MaskOf m L) (hsz : L.size = ops.size) {i : Nat} (hn : nextA ops m = .quiet i) : i ∈ Region.ready md ops L ∧ ∃ o, ops[i]? = some o ∧ quietOp o.op = true ∧
    ∀ j oj, ops[j]? = some oj → j ≠ i → L.getD j true = false → (∀ e ∈ oj.after, Region.binds md e = true → e.on ≠ i) → o.apart ops oj = true := by
  unfold nextA at hn
  split at hn
  · cases hn
  · rename_i k r hr
    split at hn
    · rename_i q hq
      obtain ⟨h1, o, h2, h3⟩ := pickQuiet_spec hq
      rw [lget_eq, h2] at hn
      simp only at hn
      split at hn
      · rename_i hf
        have hqi : q = i := by cases hn; rfl
        subst hqi
        have := (readyA_mem h hsz ops.toList 0 (by simp) q).1 (by rw [hr]; exact h1)
        refine ⟨this.2, o, by simpa using h2, h3, fun j oj hj hne hun hno => freeA_spec h hsz ops.toList 0 (by simp) hf j oj (Nat.zero_le _) hj hne hun hno⟩
      · cases hn
    · cases hn

theorem nextA_any {m : Nat} {L : Array Bool} (h : MaskOf m L) (hsz : L.size = ops.size) {l : List Nat} (hn : nextA ops m = .any l) : l ≠ [] ∧ ∀ j, j ∈ l ↔ j ∈ Region.ready md ops L := by
  unfold nextA at hn
  split at hn
  · cases hn
  · rename_i k r hr
    split at hn
    · split at hn
      · split at hn <;> cases hn
      · cases hn
    · cases hn
      have hm := readyA_mem h hsz ops.toList 0 (by simp)
      rw [hr] at hm
      exact ⟨by simp, fun j => by rw [hm j]; simp⟩

theorem nextA_loud {m : Nat} {L : Array Bool} (h : MaskOf m L) (hsz : L.size = ops.size) {l : List Nat} (hn : nextA ops m = .any l) : ∀ j ∈ l, ∃ o, ops[j]? = some o ∧ quietOp o.op = false := by
  unfold nextA at hn
  split at hn
  · cases hn
  · rename_i k r hr
    split at hn
    · split at hn
      · split at hn <;> cases hn
      · cases hn
    · rename_i hq
      cases hn
      have hm := readyA_mem h hsz ops.toList 0 (by simp)
      rw [hr] at hm
      intro j hj
      obtain ⟨o, h1, h2⟩ := pickQuiet_none hq (by
        intro i hi
        obtain ⟨_, o, ho, _⟩ := mem_ready.1 ((hm i).1 hi).2
        have := (Array.getElem?_eq_some_iff.1 ho).1
        simpa using this) j hj
      exact ⟨o, by simpa using h1, h2⟩

theorem andA_spec {f : Nat → Prop} : ∀ {l : List Nat}, andA l f → ∀ i ∈ l, f i
  | [], _, i, hi => by simp at hi
  | [j], h, i, hi => by simp at hi; subst hi; exact h
  | j :: k :: r, h, i, hi => by
    rcases List.mem_cons.1 hi with rfl | hi
    · exact h.1
    · exact andA_spec (l := k :: r) h.2 i hi

def cnt (L : Array Bool) : Nat := L.toList.countP (fun b => !b)

theorem countP_set : ∀ (l : List Bool) (i : Nat), l[i]? = some false → (l.set i true).countP (fun b => !b) + 1 = l.countP (fun b => !b)
  | [], i, h => by simp at h
  | x :: l, 0, h => by simp at h; subst h; simp
  | x :: l, i + 1, h => by
    have := countP_set l i (by simpa using h)
    simp only [List.set_cons_succ, List.countP_cons]
    omega

theorem cnt_set {L : Array Bool} {i : Nat} (h : L.getD i true = false) : i < L.size ∧ cnt (L.setIfInBounds i true) + 1 = cnt L := by
  have hi : L[i]? = some false := by
    rw [Array.getD_eq_getD_getElem?] at h
    cases hx : L[i]? with
    | none => rw [hx] at h; simp at h
    | some b => rw [hx] at h; simp at h; rw [h]
  refine ⟨(Array.getElem?_eq_some_iff.1 hi).1, ?_⟩
  unfold cnt
  rw [Array.toList_setIfInBounds]
  exact countP_set _ _ (by simpa using hi)

/-- What an operation waits for, at once or in the end. -/
inductive Reach (ops : Array Oper) : Nat → Nat → Prop where
  | one {i : Nat} {o : Oper} {e : Edge} : ops[i]? = some o → e ∈ o.after → Region.binds md e = true → Reach ops i e.on
  | more {i k j : Nat} : Reach ops i k → Reach ops k j → Reach ops i j

theorem Closed.reach {L : Array Bool} (h : Closed ops L) {i j : Nat} (hr : Reach ops i j) : L.getD i false = true → L.getD j false = true := by
  induction hr with
  | one ho he hb => exact fun hl => h.2 _ _ ho hl _ he hb
  | more _ _ ih1 ih2 => exact fun hl => ih2 (ih1 hl)

theorem closeM_spec {i : Nat} : ∀ (k m : Nat), (∀ j, m.testBit j = true → Reach ops i j) → ∀ j, (closeM ops.toList k m).testBit j = true → Reach ops i j
  | 0, m, h, j, hj => h j hj
  | k + 1, m, h, j, hj => by
    simp only [closeM] at hj
    split at hj
    · rename_i hb
      split at hj
      · rename_i o ho
        rw [lget_eq, Array.getElem?_toList] at ho
        refine closeM_spec k _ ?_ j hj
        intro j' hj'
        rw [show Nat.lor m (depMask o.after.toList) = m ||| depMask o.after.toList from rfl, Nat.testBit_or, Bool.or_eq_true] at hj'
        rcases hj' with hj' | hj'
        · exact h j' hj'
        · obtain ⟨e, he, hb', rfl⟩ := (testBit_depMask _ _).1 hj'
          exact .more (h k hb) (.one ho (by simpa using he) hb')
      · exact closeM_spec k m h j hj
    · exact closeM_spec k m h j hj

/-- The blocks that were loaded of are as they were, unless an operation that is not quiet, and stands behind the load, was carried out. -/
def SL (ops : Array Oper) (ls : List (Nat × Nat × Obj)) (L : Array Bool) (w : World) : Prop :=
  (∀ q o, Fz.F q o → w.heap[q]? = some o) ∧ ∀ x ∈ ls, (∃ (i : Nat) (o : Oper), ops[i]? = some o ∧ L.getD i false = true ∧ quietOp o.op = false ∧ Reach ops i x.1) ∨ w.heap[x.2.1]? = some x.2.2

theorem SL.mono {ls : List (Nat × Nat × Obj)} {L : Array Bool} {w : World} {k : Nat} (h : SL ops ls L w) : SL ops ls (L.setIfInBounds k true) w := ⟨h.1, fun x hx => by
  rcases h.2 x hx with ⟨i, o, h1, h2, h3⟩ | h
  · exact .inl ⟨i, o, h1, getD_set_true h2, h3⟩
  · exact .inr h⟩

theorem SL.back {ls : List (Nat × Nat × Obj)} {i : Nat} {oi : Oper} (hi : ops[i]? = some oi) (hq : quietOp oi.op = true) (L : Array Bool) (w : World) (h : SL ops ls (L.setIfInBounds i true) w) : SL ops ls L w := ⟨h.1, fun x hx => by
  rcases h.2 x hx with ⟨k, o, h1, h2, h3, h4⟩ | h
  · have hki : i ≠ k := by rintro rfl; rw [hi] at h1; cases h1; rw [hq] at h3; cases h3
    rw [getD_set_ne false hki] at h2
    exact .inl ⟨k, o, h1, h2, h3, h4⟩
  · exact .inr h⟩

theorem clashA_spec {mk : Nat} {wr : List Nat} : ∀ {lds : List (Nat × Nat)}, clashA mk wr lds = false → ∀ j n, (j, n) ∈ lds → mk.testBit j = true ∨ n ∉ wr
  | [], _, j, n, h => by simp at h
  | (j', n') :: r, hc, j, n, h => by
    simp only [clashA] at hc
    rcases List.mem_cons.1 h with heq | h
    · cases heq
      split at hc
      · rename_i hb
        exact .inl hb
      · split at hc
        · cases hc
        · rename_i hn
          right
          intro hm
          have : wr.contains _ = true := List.contains_iff_mem.2 hm
          rw [this] at hn; cases hn
    · split at hc
      · exact clashA_spec hc j n h
      · split at hc
        · cases hc
        · exact clashA_spec hc j n h

theorem Rel.bl {s : Mp} {H H' : LH} {w : World} (h : Rel s H w) (hb : H'.bl = H.bl) : Rel s H' w := ⟨by rw [hb]; exact h.len, by rw [hb]; exact h.blk, h.dis, h.bnd, h.frz⟩

variable {call : FuncId → List LV → LH → (LV → LH → Prop) → Prop}

theorem drawA_ok (hP : FnOK P) (hcall : CallOK P call) (hsel : ∀ (j : Nat) (o : Oper) cs b, ops[j]? = some o → o.op ≠ .select cs b) (hQ : ∀ c a w, ¬ Q (.panic c) a w) {nt : Nat} {K : Tm → LH → Prop} :
    ∀ (f : Nat) {m : Nat} {lds : List (Nat × Nat)} {T : Tm} {H : LH} {s : Mp} {a : Act} {w : World} {ls : List (Nat × Nat × Obj)} {L : Array Bool} (fuel : Nat),
    drawA P call nt ops f m lds T H K → MaskOf m L → Closed ops L → cnt L ≤ fuel → (∀ x ∈ ls, ∃ n, (x.1, n) ∈ lds ∧ hd s n = some x.2.1) → SL ops ls L w → RelT s nt T a → Rel s H w →
    (∀ s' T' H' a' w', K T' H' → RelT s' nt T' a' → Rel s' H' w' → Post s H w s' H' w' → Q .normal a' w') → wpAnyS P ops Q (SL ops ls) fuel L a w := by
  intro f
  induction f with
  | zero => intro m lds T H s a w ls L fuel h; exact h.elim
  | succ f ih =>
    intro m lds T H s a w ls L fuel h hm hcl hcnt hlds hS hT hH hn
    simp only [drawA] at h
    split at h
    · rename_i hnx
      exact wpAnyS_done (nextA_done hm hcl.1 hnx) (hn s T H a w h hT hH Post.rfl') fuel
    · exact h.elim
    · rename_i i hnx
      obtain ⟨hr, o, ho, hq, hfree⟩ := nextA_quiet hm hcl.1 hnx
      rw [lget_eq, Array.getElem?_toList, ho] at h
      simp only at h
      obtain ⟨hlt, hc1⟩ := cnt_set (mem_ready.1 hr).1
      obtain ⟨fuel, rfl⟩ : ∃ k, fuel = k + 1 := ⟨fuel - 1, by omega⟩
      obtain ⟨b, T1, h, hT1, hw⟩ := guardA_ok h hT
      have hw := hw o rfl
      cases b with
      | true =>
        obtain ⟨y, v, hK, hv, hcase⟩ := quietA_ok hq h hT1 hH
        obtain ⟨T', hK, hT'⟩ := putA_ok hK hT1 hv
        rcases hcase with ⟨hnl, hrun⟩ | ⟨hnl, r, ob, ⟨n, h1, h2⟩ | ⟨h1, h1', h2⟩, h3, hrun⟩
        · rw [hnl] at hK
          refine wpAnyS_first ho hsel (fun c a w h => absurd h (fun h => hQ _ _ _ h)) (fun L w k h => h.mono) (SL.back ho hq) fuel L a w hcl hfree hr (.inl ⟨hw, fun w' _ => hrun w'⟩) hS ?_
          exact ih fuel hK (hm.set hlt) (hcl.set hr) (by omega) hlds hS.mono hT' hH hn
        · rw [hnl, h1] at hK
          have hS' : SL ops ((i, r, ob) :: ls) L w := ⟨hS.1, fun x hx => by
            rcases List.mem_cons.1 hx with rfl | hx
            · exact .inr h3
            · exact hS.2 x hx⟩
          refine wpAnyS_mono (S := SL ops ((i, r, ob) :: ls)) (fun L w h => ⟨h.1, fun x hx => h.2 x (by simp [hx])⟩) _ _ _ _ ?_
          refine wpAnyS_first (v := v) ho hsel (fun c a w h => absurd h (fun h => hQ _ _ _ h)) (fun L w k h => h.mono) (SL.back ho hq) fuel L a w hcl hfree hr (.inl ⟨hw, ?_⟩) hS' ?_
          · rintro w' ⟨L', hcl', hun', hSL⟩
            rcases hSL.2 (i, r, ob) (by simp) with ⟨k, ok, hk, hlk, hqk, hre⟩ | hob
            · exfalso
              have := hcl'.reach hre hlk
              simp only [Array.getD_eq_getD_getElem?] at this hun'
              cases hx : L'[i]? with
              | none => rw [hx] at this; simp at this
              | some b => rw [hx] at this hun'; simp at this hun'; rw [this] at hun'; cases hun'
            · exact hrun w' hob
          · refine ih fuel hK (hm.set hlt) (hcl.set hr) (by omega) ?_ hS'.mono hT' hH hn
            intro x hx
            rcases List.mem_cons.1 hx with rfl | hx
            · exact ⟨n, by simp, h2⟩
            · obtain ⟨n', h4, h5⟩ := hlds x hx
              exact ⟨n', by simp [h4], h5⟩
        · rw [hnl, h1, h1'] at hK
          refine wpAnyS_first (v := v) ho hsel (fun c a w h => absurd h (fun h => hQ _ _ _ h)) (fun L w k h => h.mono) (SL.back ho hq) fuel L a w hcl hfree hr (.inl ⟨hw, ?_⟩) hS ?_
          · rintro w' ⟨L', hcl', hun', hSL⟩
            exact hrun w' (hSL.1 r ob h2)
          · exact ih fuel hK (hm.set hlt) (hcl.set hr) (by omega) hlds hS.mono hT' hH hn
      | false =>
        obtain ⟨T', hK, hT'⟩ := putA_ok (v' := undef) h hT1 ⟨#[], rfl, trivial⟩
        refine wpAnyS_first ho hsel (fun c a w h => absurd h (fun h => hQ _ _ _ h)) (fun L w k h => h.mono) (SL.back ho hq) fuel L a w hcl hfree hr (.inr ⟨hw, rfl⟩) hS ?_
        exact ih fuel hK (hm.set hlt) (hcl.set hr) (by omega) hlds hS.mono hT' hH hn
    · rename_i l hnx
      obtain ⟨hne, hiff⟩ := nextA_any hm hcl.1 hnx
      have hloud := nextA_loud hm hcl.1 hnx
      obtain ⟨i0, hi0⟩ : ∃ i, i ∈ l := List.exists_mem_of_ne_nil l hne
      have hr0 := (hiff i0).1 hi0
      obtain ⟨hlt0, hc0⟩ := cnt_set (mem_ready.1 hr0).1
      obtain ⟨fuel, rfl⟩ : ∃ k, fuel = k + 1 := ⟨fuel - 1, by omega⟩
      refine ⟨fun h => (by rw [h] at hr0; cases hr0), fun j hj => ?_⟩
      have h := andA_spec h j ((hiff j).2 hj)
      have hr := hj
      obtain ⟨o, ho, hq⟩ := hloud j ((hiff j).2 hj)
      rw [lget_eq, Array.getElem?_toList, ho] at h
      simp only [execA] at h
      obtain ⟨hlt, hc1⟩ := cnt_set (mem_ready.1 hr).1
      obtain ⟨b, T1, h, hT1, hw⟩ := guardA_ok h hT
      have hw := hw o rfl
      unfold wpOp
      simp only [ho]
      have hH0 : Rel s ⟨H.bl, []⟩ w := hH.bl rfl
      cases b with
      | true =>
        rw [if_pos hw]
        refine .inl (opA_ok hP hcall h hT1 hH0 ?_)
        intro s' v v' H' w' hK hv hH' hp
        obtain ⟨T', hK, hT'⟩ := putA_ok hK (hT1.mono hp.hext) hv
        split at hK
        · exact hK.elim
        · rename_i hcl2
          have hsp := clashA_spec hcl2
          have hp' : Post s H w s' ⟨H'.bl, H'.wr ++ H.wr⟩ w' :=
            ⟨hp.hext, hp.len, hp.fresh, fun n hn hw => hp.keep n hn (fun h => hw (by simp [h])), fun n hn => by simp [hn], hp.size, fun y hy hno => hp.frame y hy fun n hn => hno n (by simp [hn]), hp.tape, hp.os, hp.output⟩
          have hS' : SL ops ls (L.setIfInBounds j true) w' := ⟨fun q o hF => (hH'.frz q o hF).1, fun x hx => by
            rcases (SL.mono (k := j) hS).2 x hx with h | h
            · exact .inl h
            · obtain ⟨n, h1, h2⟩ := hlds x hx
              rcases hsp x.1 n h1 with hb | hnw
              · refine .inl ⟨j, o, ho, ?_, hq, closeM_spec (i := j) _ _ (fun j' hj' => by
                  obtain ⟨e, he, hb', rfl⟩ := (testBit_depMask _ _).1 hj'
                  exact .one ho (by simpa using he) hb') _ hb⟩
                simp [Array.getD_eq_getD_getElem?, Array.getElem?_setIfInBounds_self_of_lt hlt]
              · right
                rw [hp.frame x.2.1 (hH.len_heap n _ h2) ?_]
                · exact h
                · intro n' hn' hs'
                  obtain ⟨f, hf⟩ := hd_some h2
                  have := hH.dis n n' _ ⟨_, f, hf, .inl rfl⟩ hs'
                  subst this
                  exact hnw hn'⟩
          refine ⟨hS', ih fuel hK (hm.set hlt) (hcl.set hr) (by omega) ?_ hS' hT' (hH'.bl rfl) ?_⟩
          · intro x hx
            obtain ⟨n, h1, h2⟩ := hlds x hx
            exact ⟨n, h1, hp.hext _ _ h2⟩
          · intro s'' T'' H'' a'' w'' h1 h2 h3 h4
            exact hn s'' T'' H'' a'' w'' h1 h2 h3 (hp'.trans h4)
      | false =>
        rw [if_neg (by simp [hw])]
        obtain ⟨T', hK, hT'⟩ := putA_ok (v' := undef) h hT1 ⟨#[], rfl, trivial⟩
        split at hK
        · exact hK.elim
        · exact ⟨hS.mono, ih fuel hK (hm.set hlt) (hcl.set hr) (by omega) hlds hS.mono hT' (hH.bl rfl) hn⟩

end
end Go.FL
