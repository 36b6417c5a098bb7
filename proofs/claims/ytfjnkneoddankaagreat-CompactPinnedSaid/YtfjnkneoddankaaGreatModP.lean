/-
  The program's functions of plain words, as the evaluator has them.
-/
import Derived.Test.YtfjnkneoddankaaGreatWr
import GoSem.Core.Code
import GoSem.Core.Next
set_option linter.unusedVariables false
namespace Go.FL

def fitK {R : Type} (bot : R) (a b : Int) (K : Int → R) : R :=
  K (wrU (if b < if 0 > a then 0 else a then b else if 0 > a then 0 else a))

def fit (a b : Int) : Int := fitK (0) a b fun x0 => (x0)

theorem fitK_eq {R : Type} (bot : R) (a b : Int) (K : Int → R) : fitK bot a b K = K (fit a b) := by
  rfl

def putHandleK {R : Type} (bot : R) (a b : Int) (K : Int → R) : R :=
  K (wrU ↑(BitVec.toNat (BitVec.ofInt (IntKind.bits IntKind.u64) (wrU (if 65535 < if 0 > a then 0 else a then 65535 else if 0 > a then 0 else a)) ||| BitVec.ofInt (IntKind.bits IntKind.u64) (wrU (wrU (if 65535 < if 0 > b then 0 else b then 65535 else if 0 > b then 0 else b) * 65536)))))

def putHandle (a b : Int) : Int := putHandleK (0) a b fun x0 => (x0)

theorem putHandleK_eq {R : Type} (bot : R) (a b : Int) (K : Int → R) : putHandleK bot a b K = K (putHandle a b) := by
  rfl

def handleK {R : Type} (bot : R) (a : Int) (K : Int → Int → Bool → R) : R :=
  bif !decide (Int.fdiv a 4294967296 = 0) then
   K 0 0 false
  else
   bif decide (Int.fdiv a 65536 = 0) then
    K 0 0 false
   else
    K (wrI (wrU ↑(BitVec.toNat (BitVec.ofInt (IntKind.bits IntKind.u64) a &&& BitVec.ofInt (IntKind.bits IntKind.u64) 65535)))) (wrI (Int.fdiv a 65536)) true

def handle (a : Int) : Int × Int × Bool := handleK (0, 0, false) a fun x0 x1 x2 => (x0, x1, x2)

theorem handleK_eq {R : Type} (bot : R) (a : Int) (K : Int → Int → Bool → R) : handleK bot a K = K (handle a).1 (handle a).2.1 (handle a).2.2 := by
  unfold handle handleK
  simp only [Bool.cond_eq_ite]
  repeat' split
  all_goals first
    | rfl
    | (exfalso; simp_all; done)
    | (exfalso; omega)

def putSlotK {R : Type} (bot : R) (a b c d : Int) (K : Int → R) : R :=
  K (wrU ↑(BitVec.toNat (BitVec.ofInt (IntKind.bits IntKind.u64) (wrU ↑(BitVec.toNat (BitVec.ofInt (IntKind.bits IntKind.u64) (wrU ↑(BitVec.toNat (BitVec.ofInt (IntKind.bits IntKind.u64) (wrU (if 7 < if 0 > a then 0 else a then 7 else if 0 > a then 0 else a)) ||| BitVec.ofInt (IntKind.bits IntKind.u64) (wrU (wrU (if 1048575 < if 0 > b then 0 else b then 1048575 else if 0 > b then 0 else b) * 8))))) ||| BitVec.ofInt (IntKind.bits IntKind.u64) (wrU (wrU (if 65535 < if 0 > c then 0 else c then 65535 else if 0 > c then 0 else c) * 8388608))))) ||| BitVec.ofInt (IntKind.bits IntKind.u64) (wrU (wrU (if 4194303 < if 0 > d then 0 else d then 4194303 else if 0 > d then 0 else d) * 549755813888)))))

def putSlot (a b c d : Int) : Int := putSlotK (0) a b c d fun x0 => (x0)

theorem putSlotK_eq {R : Type} (bot : R) (a b c d : Int) (K : Int → R) : putSlotK bot a b c d K = K (putSlot a b c d) := by
  rfl

def slotOfK {R : Type} (bot : R) (a : Int) (K : Int → Int → Int → Int → R) : R :=
  K (wrI (wrU ↑(BitVec.toNat (BitVec.ofInt (IntKind.bits IntKind.u64) a &&& BitVec.ofInt (IntKind.bits IntKind.u64) 7)))) (wrI (wrU ↑(BitVec.toNat (BitVec.ofInt (IntKind.bits IntKind.u64) (Int.fdiv a 8) &&& BitVec.ofInt (IntKind.bits IntKind.u64) 1048575)))) (wrI (wrU ↑(BitVec.toNat (BitVec.ofInt (IntKind.bits IntKind.u64) (Int.fdiv a 8388608) &&& BitVec.ofInt (IntKind.bits IntKind.u64) 65535)))) (wrI (wrU ↑(BitVec.toNat (BitVec.ofInt (IntKind.bits IntKind.u64) (Int.fdiv a 549755813888) &&& BitVec.ofInt (IntKind.bits IntKind.u64) 4194303))))

def slotOf (a : Int) : Int × Int × Int × Int := slotOfK (0, 0, 0, 0) a fun x0 x1 x2 x3 => (x0, x1, x2, x3)

theorem slotOfK_eq {R : Type} (bot : R) (a : Int) (K : Int → Int → Int → Int → R) : slotOfK bot a K = K (slotOf a).1 (slotOf a).2.1 (slotOf a).2.2.1 (slotOf a).2.2.2 := by
  rfl

def putChunkK {R : Type} (bot : R) (a b c d : Int) (K : Int → R) : R :=
  K (wrU ↑(BitVec.toNat (BitVec.ofInt (IntKind.bits IntKind.u64) (wrU ↑(BitVec.toNat (BitVec.ofInt (IntKind.bits IntKind.u64) (wrU ↑(BitVec.toNat (BitVec.ofInt (IntKind.bits IntKind.u64) (wrU (if 3 < if 0 > a then 0 else a then 3 else if 0 > a then 0 else a)) ||| BitVec.ofInt (IntKind.bits IntKind.u64) (wrU (wrU (if 63 < if 0 > b then 0 else b then 63 else if 0 > b then 0 else b) * 4))))) ||| BitVec.ofInt (IntKind.bits IntKind.u64) (wrU (wrU (if 1048575 < if 0 > c then 0 else c then 1048575 else if 0 > c then 0 else c) * 256))))) ||| BitVec.ofInt (IntKind.bits IntKind.u64) (wrU (wrU (if 68719476735 < if 0 > d then 0 else d then 68719476735 else if 0 > d then 0 else d) * 268435456)))))

def putChunk (a b c d : Int) : Int := putChunkK (0) a b c d fun x0 => (x0)

theorem putChunkK_eq {R : Type} (bot : R) (a b c d : Int) (K : Int → R) : putChunkK bot a b c d K = K (putChunk a b c d) := by
  rfl

def chunkOfK {R : Type} (bot : R) (a : Int) (K : Int → Int → Int → Int → R) : R :=
  K (wrI (wrU ↑(BitVec.toNat (BitVec.ofInt (IntKind.bits IntKind.u64) a &&& BitVec.ofInt (IntKind.bits IntKind.u64) 3)))) (wrI (wrU ↑(BitVec.toNat (BitVec.ofInt (IntKind.bits IntKind.u64) (Int.fdiv a 4) &&& BitVec.ofInt (IntKind.bits IntKind.u64) 63)))) (wrI (wrU ↑(BitVec.toNat (BitVec.ofInt (IntKind.bits IntKind.u64) (Int.fdiv a 256) &&& BitVec.ofInt (IntKind.bits IntKind.u64) 1048575)))) (wrI (wrU ↑(BitVec.toNat (BitVec.ofInt (IntKind.bits IntKind.u64) (Int.fdiv a 268435456) &&& BitVec.ofInt (IntKind.bits IntKind.u64) 68719476735))))

def chunkOf (a : Int) : Int × Int × Int × Int := chunkOfK (0, 0, 0, 0) a fun x0 x1 x2 x3 => (x0, x1, x2, x3)

theorem chunkOfK_eq {R : Type} (bot : R) (a : Int) (K : Int → Int → Int → Int → R) : chunkOfK bot a K = K (chunkOf a).1 (chunkOf a).2.1 (chunkOf a).2.2.1 (chunkOf a).2.2.2 := by
  rfl

def putHeadK {R : Type} (bot : R) (a b c d : Int) (o : Bool) (K : Int → R) : R :=
  bif o then
   K (wrU ↑(BitVec.toNat (BitVec.ofInt (IntKind.bits IntKind.u64) (wrU ↑(BitVec.toNat (BitVec.ofInt (IntKind.bits IntKind.u64) (wrU ↑(BitVec.toNat (BitVec.ofInt (IntKind.bits IntKind.u64) (wrU ↑(BitVec.toNat (BitVec.ofInt (IntKind.bits IntKind.u64) (wrU (if 3 < if 0 > a then 0 else a then 3 else if 0 > a then 0 else a)) ||| BitVec.ofInt (IntKind.bits IntKind.u64) (wrU (wrU (if 65535 < if 0 > b then 0 else b then 65535 else if 0 > b then 0 else b) * 4))))) ||| BitVec.ofInt (IntKind.bits IntKind.u64) (wrU (wrU (if 65535 < if 0 > c then 0 else c then 65535 else if 0 > c then 0 else c) * 262144))))) ||| BitVec.ofInt (IntKind.bits IntKind.u64) (wrU (wrU (if 65535 < if 0 > d then 0 else d then 65535 else if 0 > d then 0 else d) * 17179869184))))) ||| BitVec.ofInt (IntKind.bits IntKind.u64) 1125899906842624)))
  else
   K (wrU ↑(BitVec.toNat (BitVec.ofInt (IntKind.bits IntKind.u64) (wrU ↑(BitVec.toNat (BitVec.ofInt (IntKind.bits IntKind.u64) (wrU ↑(BitVec.toNat (BitVec.ofInt (IntKind.bits IntKind.u64) (wrU (if 3 < if 0 > a then 0 else a then 3 else if 0 > a then 0 else a)) ||| BitVec.ofInt (IntKind.bits IntKind.u64) (wrU (wrU (if 65535 < if 0 > b then 0 else b then 65535 else if 0 > b then 0 else b) * 4))))) ||| BitVec.ofInt (IntKind.bits IntKind.u64) (wrU (wrU (if 65535 < if 0 > c then 0 else c then 65535 else if 0 > c then 0 else c) * 262144))))) ||| BitVec.ofInt (IntKind.bits IntKind.u64) (wrU (wrU (if 65535 < if 0 > d then 0 else d then 65535 else if 0 > d then 0 else d) * 17179869184)))))

def putHead (a b c d : Int) (o : Bool) : Int := putHeadK (0) a b c d o fun x0 => (x0)

theorem putHeadK_eq {R : Type} (bot : R) (a b c d : Int) (o : Bool) (K : Int → R) : putHeadK bot a b c d o K = K (putHead a b c d o) := by
  unfold putHead putHeadK
  simp only [Bool.cond_eq_ite]
  repeat' split
  all_goals first
    | rfl
    | (exfalso; simp_all; done)
    | (exfalso; omega)

def headOfK {R : Type} (bot : R) (a : Int) (K : Int → Int → Int → Int → Bool → R) : R :=
  K (wrI (wrU ↑(BitVec.toNat (BitVec.ofInt (IntKind.bits IntKind.u64) a &&& BitVec.ofInt (IntKind.bits IntKind.u64) 3)))) (wrI (wrU ↑(BitVec.toNat (BitVec.ofInt (IntKind.bits IntKind.u64) (Int.fdiv a 4) &&& BitVec.ofInt (IntKind.bits IntKind.u64) 65535)))) (wrI (wrU ↑(BitVec.toNat (BitVec.ofInt (IntKind.bits IntKind.u64) (Int.fdiv a 262144) &&& BitVec.ofInt (IntKind.bits IntKind.u64) 65535)))) (wrI (wrU ↑(BitVec.toNat (BitVec.ofInt (IntKind.bits IntKind.u64) (Int.fdiv a 17179869184) &&& BitVec.ofInt (IntKind.bits IntKind.u64) 65535)))) (decide (wrU ↑(BitVec.toNat (BitVec.ofInt (IntKind.bits IntKind.u64) (Int.fdiv a 1125899906842624) &&& BitVec.ofInt (IntKind.bits IntKind.u64) 1)) = 1))

def headOf (a : Int) : Int × Int × Int × Int × Bool := headOfK (0, 0, 0, 0, false) a fun x0 x1 x2 x3 x4 => (x0, x1, x2, x3, x4)

theorem headOfK_eq {R : Type} (bot : R) (a : Int) (K : Int → Int → Int → Int → Bool → R) : headOfK bot a K = K (headOf a).1 (headOf a).2.1 (headOf a).2.2.1 (headOf a).2.2.2.1 (headOf a).2.2.2.2 := by
  rfl

def putCellK {R : Type} (bot : R) (a : Int) (o : Bool) (c : Int) (K : Int → R) : R :=
  bif o then
   K (wrU ↑(BitVec.toNat (BitVec.ofInt (IntKind.bits IntKind.u64) (wrU (if 1099511627775 < if 0 > a then 0 else a then 1099511627775 else if 0 > a then 0 else a)) ||| BitVec.ofInt (IntKind.bits IntKind.u64) (wrU ↑(BitVec.toNat (BitVec.ofInt (IntKind.bits IntKind.u64) 9223372036854775808 ||| BitVec.ofInt (IntKind.bits IntKind.u64) (wrU (wrU (if 4194303 < if 0 > c then 0 else c then 4194303 else if 0 > c then 0 else c) * 1099511627776))))))))
  else
   K (wrU (if 1099511627775 < if 0 > a then 0 else a then 1099511627775 else if 0 > a then 0 else a))

def putCell (a : Int) (o : Bool) (c : Int) : Int := putCellK (0) a o c fun x0 => (x0)

theorem putCellK_eq {R : Type} (bot : R) (a : Int) (o : Bool) (c : Int) (K : Int → R) : putCellK bot a o c K = K (putCell a o c) := by
  unfold putCell putCellK
  simp only [Bool.cond_eq_ite]
  repeat' split
  all_goals first
    | rfl
    | (exfalso; simp_all; done)
    | (exfalso; omega)

def cellOfK {R : Type} (bot : R) (a : Int) (K : Int → Bool → Int → R) : R :=
  bif decide (Int.fdiv a 9223372036854775808 = 1) then
   K (wrI (wrU ↑(BitVec.toNat (BitVec.ofInt (IntKind.bits IntKind.u64) a &&& BitVec.ofInt (IntKind.bits IntKind.u64) 1099511627775)))) (decide (Int.fdiv a 9223372036854775808 = 1)) (wrI (wrU ↑(BitVec.toNat (BitVec.ofInt (IntKind.bits IntKind.u64) (Int.fdiv a 1099511627776) &&& BitVec.ofInt (IntKind.bits IntKind.u64) 4194303))))
  else
   K (wrI (wrU ↑(BitVec.toNat (BitVec.ofInt (IntKind.bits IntKind.u64) a &&& BitVec.ofInt (IntKind.bits IntKind.u64) 1099511627775)))) (decide (Int.fdiv a 9223372036854775808 = 1)) 0

def cellOf (a : Int) : Int × Bool × Int := cellOfK (0, false, 0) a fun x0 x1 x2 => (x0, x1, x2)

theorem cellOfK_eq {R : Type} (bot : R) (a : Int) (K : Int → Bool → Int → R) : cellOfK bot a K = K (cellOf a).1 (cellOf a).2.1 (cellOf a).2.2 := by
  unfold cellOf cellOfK
  simp only [Bool.cond_eq_ite]
  repeat' split
  all_goals first
    | rfl
    | (exfalso; simp_all; done)
    | (exfalso; omega)

def putTopK {R : Type} (bot : R) (a b : Int) (K : Int → R) : R :=
  K (wrU ↑(BitVec.toNat (BitVec.ofInt (IntKind.bits IntKind.u64) (wrU (if 65536 < if 0 > wrI ((if 65535 < a then 65535 else a) + 1) then 0 else wrI ((if 65535 < a then 65535 else a) + 1) then 65536 else if 0 > wrI ((if 65535 < a then 65535 else a) + 1) then 0 else wrI ((if 65535 < a then 65535 else a) + 1))) ||| BitVec.ofInt (IntKind.bits IntKind.u64) (wrU (wrU (if 68719476735 < if 0 > b then 0 else b then 68719476735 else if 0 > b then 0 else b) * 131072)))))

def putTop (a b : Int) : Int := putTopK (0) a b fun x0 => (x0)

theorem putTopK_eq {R : Type} (bot : R) (a b : Int) (K : Int → R) : putTopK bot a b K = K (putTop a b) := by
  rfl

def topOfK {R : Type} (bot : R) (a : Int) (K : Int → Int → R) : R :=
  K (wrI (wrI (wrU ↑(BitVec.toNat (BitVec.ofInt (IntKind.bits IntKind.u64) a &&& BitVec.ofInt (IntKind.bits IntKind.u64) 131071))) - 1)) (wrI (wrU ↑(BitVec.toNat (BitVec.ofInt (IntKind.bits IntKind.u64) (Int.fdiv a 131072) &&& BitVec.ofInt (IntKind.bits IntKind.u64) 68719476735))))

def topOf (a : Int) : Int × Int := topOfK (0, 0) a fun x0 x1 => (x0, x1)

theorem topOfK_eq {R : Type} (bot : R) (a : Int) (K : Int → Int → R) : topOfK bot a K = K (topOf a).1 (topOf a).2 := by
  rfl

def lOpenK {R : Type} (bot : R) (a : Int) (K : Int → R) : R :=
  K (wrI (2 + a))

def lOpen (a : Int) : Int := lOpenK (0) a fun x0 => (x0)

theorem lOpenK_eq {R : Type} (bot : R) (a : Int) (K : Int → R) : lOpenK bot a K = K (lOpen a) := by
  rfl

def lPinK {R : Type} (bot : R) (a : Int) (K : Int → R) : R :=
  K (wrI (6 + a))

def lPin (a : Int) : Int := lPinK (0) a fun x0 => (x0)

theorem lPinK_eq {R : Type} (bot : R) (a : Int) (K : Int → R) : lPinK bot a K = K (lPin a) := by
  rfl

def lSlotK {R : Type} (bot : R) (c1 c2 c3 c4 c5 c6 c7 : Int) (a : Int) (K : Int → R) : R :=
  K (wrI (wrI (6 + c1) + wrI (2 * a)))

def lSlot (c1 c2 c3 c4 c5 c6 c7 : Int) (a : Int) : Int := lSlotK (0) c1 c2 c3 c4 c5 c6 c7 a fun x0 => (x0)

theorem lSlotK_eq {R : Type} (bot : R) (c1 c2 c3 c4 c5 c6 c7 : Int) (a : Int) (K : Int → R) : lSlotK bot c1 c2 c3 c4 c5 c6 c7 a K = K (lSlot c1 c2 c3 c4 c5 c6 c7 a) := by
  rfl

def lChunkK {R : Type} (bot : R) (c1 c2 c3 c4 c5 c6 c7 : Int) (a : Int) (K : Int → R) : R :=
  K (wrI (wrI (wrI (6 + c1) + wrI (2 * c2)) + wrI (3 * a)))

def lChunk (c1 c2 c3 c4 c5 c6 c7 : Int) (a : Int) : Int := lChunkK (0) c1 c2 c3 c4 c5 c6 c7 a fun x0 => (x0)

theorem lChunkK_eq {R : Type} (bot : R) (c1 c2 c3 c4 c5 c6 c7 : Int) (a : Int) (K : Int → R) : lChunkK bot c1 c2 c3 c4 c5 c6 c7 a K = K (lChunk c1 c2 c3 c4 c5 c6 c7 a) := by
  rfl

def lBaseK {R : Type} (bot : R) (c1 c2 c3 c4 c5 c6 c7 : Int) (a : Int) (K : Int → R) : R :=
  K (wrI (wrI (wrI (wrI (6 + c1) + wrI (2 * c2)) + wrI (3 * c3)) + wrI (c4 * a)))

def lBase (c1 c2 c3 c4 c5 c6 c7 : Int) (a : Int) : Int := lBaseK (0) c1 c2 c3 c4 c5 c6 c7 a fun x0 => (x0)

theorem lBaseK_eq {R : Type} (bot : R) (c1 c2 c3 c4 c5 c6 c7 : Int) (a : Int) (K : Int → R) : lBaseK bot c1 c2 c3 c4 c5 c6 c7 a K = K (lBase c1 c2 c3 c4 c5 c6 c7 a) := by
  rfl

def lLenK {R : Type} (bot : R) (c1 c2 c3 c4 c5 c6 c7 : Int) (K : Int → R) : R :=
  K (wrI (wrI (wrI (wrI (6 + c1) + wrI (2 * c2)) + wrI (3 * c3)) + wrI (c4 * c3)))

def lLen (c1 c2 c3 c4 c5 c6 c7 : Int) : Int := lLenK (0) c1 c2 c3 c4 c5 c6 c7 fun x0 => (x0)

theorem lLenK_eq {R : Type} (bot : R) (c1 c2 c3 c4 c5 c6 c7 : Int) (K : Int → R) : lLenK bot c1 c2 c3 c4 c5 c6 c7 K = K (lLen c1 c2 c3 c4 c5 c6 c7) := by
  rfl

def lOfK {R : Type} (bot : R) (c1 c2 c3 c4 c5 c6 c7 : Int) (a : Int) (K : Int → R) : R :=
  bif decide (a < wrI (wrI (wrI (wrI (6 + c1) + wrI (2 * c2)) + wrI (3 * c3)) + wrI (c4 * 0))) then
   K (-1)
  else
   bif decide (wrI (wrI (wrI (wrI (6 + c1) + wrI (2 * c2)) + wrI (3 * c3)) + wrI (c4 * c3)) ≤ a) then
    K (-1)
   else
    bif decide (c4 = 0) then
     bot
    else
     K (wrI (Int.tdiv (wrI (a - wrI (wrI (wrI (wrI (6 + c1) + wrI (2 * c2)) + wrI (3 * c3)) + wrI (c4 * 0)))) c4))

def lOf (c1 c2 c3 c4 c5 c6 c7 : Int) (a : Int) : Int := lOfK (0) c1 c2 c3 c4 c5 c6 c7 a fun x0 => (x0)

theorem lOfK_eq {R : Type} (bot : R) (c1 c2 c3 c4 c5 c6 c7 : Int) (a : Int) (hc : c4 ≠ 0) (K : Int → R) : lOfK bot c1 c2 c3 c4 c5 c6 c7 a K = K (lOf c1 c2 c3 c4 c5 c6 c7 a) := by
  unfold lOf lOfK
  simp only [Bool.cond_eq_ite]
  repeat' split
  all_goals first
    | rfl
    | (exfalso; simp_all; done)
    | (exfalso; omega)

def lClassK {R : Type} (bot : R) (a : Int) (K : Int → R) : R :=
  bif decide (1 ≤ a) then
   bif decide (a ≤ wrI (2 * 2 ^ min (Int.toNat 0) (IntKind.bits IntKind.i64))) then
    K 0
   else
    bif decide (1 ≤ a) then
     bif decide (a ≤ wrI (2 * 2 ^ min (Int.toNat (wrI (0 + 1))) (IntKind.bits IntKind.i64))) then
      K 1
     else
      bif decide (1 ≤ a) then
       bif decide (a ≤ wrI (2 * 2 ^ min (Int.toNat (wrI (wrI (0 + 1) + 1))) (IntKind.bits IntKind.i64))) then
        K 2
       else
        bif decide (1 ≤ a) then
         bif decide (a ≤ wrI (2 * 2 ^ min (Int.toNat (wrI (wrI (wrI (0 + 1) + 1) + 1))) (IntKind.bits IntKind.i64))) then
          K 3
         else
          K (-1)
        else
         K (-1)
      else
       bif decide (1 ≤ a) then
        bif decide (a ≤ wrI (2 * 2 ^ min (Int.toNat (wrI (wrI (wrI (0 + 1) + 1) + 1))) (IntKind.bits IntKind.i64))) then
         K 3
        else
         K (-1)
       else
        K (-1)
    else
     bif decide (1 ≤ a) then
      bif decide (a ≤ wrI (2 * 2 ^ min (Int.toNat (wrI (wrI (0 + 1) + 1))) (IntKind.bits IntKind.i64))) then
       K 2
      else
       bif decide (1 ≤ a) then
        bif decide (a ≤ wrI (2 * 2 ^ min (Int.toNat (wrI (wrI (wrI (0 + 1) + 1) + 1))) (IntKind.bits IntKind.i64))) then
         K 3
        else
         K (-1)
       else
        K (-1)
     else
      bif decide (1 ≤ a) then
       bif decide (a ≤ wrI (2 * 2 ^ min (Int.toNat (wrI (wrI (wrI (0 + 1) + 1) + 1))) (IntKind.bits IntKind.i64))) then
        K 3
       else
        K (-1)
      else
       K (-1)
  else
   bif decide (1 ≤ a) then
    bif decide (a ≤ wrI (2 * 2 ^ min (Int.toNat (wrI (0 + 1))) (IntKind.bits IntKind.i64))) then
     K 1
    else
     bif decide (1 ≤ a) then
      bif decide (a ≤ wrI (2 * 2 ^ min (Int.toNat (wrI (wrI (0 + 1) + 1))) (IntKind.bits IntKind.i64))) then
       K 2
      else
       bif decide (1 ≤ a) then
        bif decide (a ≤ wrI (2 * 2 ^ min (Int.toNat (wrI (wrI (wrI (0 + 1) + 1) + 1))) (IntKind.bits IntKind.i64))) then
         K 3
        else
         K (-1)
       else
        K (-1)
     else
      bif decide (1 ≤ a) then
       bif decide (a ≤ wrI (2 * 2 ^ min (Int.toNat (wrI (wrI (wrI (0 + 1) + 1) + 1))) (IntKind.bits IntKind.i64))) then
        K 3
       else
        K (-1)
      else
       K (-1)
   else
    bif decide (1 ≤ a) then
     bif decide (a ≤ wrI (2 * 2 ^ min (Int.toNat (wrI (wrI (0 + 1) + 1))) (IntKind.bits IntKind.i64))) then
      K 2
     else
      bif decide (1 ≤ a) then
       bif decide (a ≤ wrI (2 * 2 ^ min (Int.toNat (wrI (wrI (wrI (0 + 1) + 1) + 1))) (IntKind.bits IntKind.i64))) then
        K 3
       else
        K (-1)
      else
       K (-1)
    else
     bif decide (1 ≤ a) then
      bif decide (a ≤ wrI (2 * 2 ^ min (Int.toNat (wrI (wrI (wrI (0 + 1) + 1) + 1))) (IntKind.bits IntKind.i64))) then
       K 3
      else
       K (-1)
     else
      K (-1)

def lClass (a : Int) : Int := lClassK (0) a fun x0 => (x0)

theorem lClassK_eq {R : Type} (bot : R) (a : Int) (K : Int → R) : lClassK bot a K = K (lClass a) := by
  unfold lClass lClassK
  simp only [Bool.cond_eq_ite]
  repeat' split
  all_goals first
    | rfl
    | (exfalso; simp_all; done)
    | (exfalso; omega)

def lRoomK {R : Type} (bot : R) (a : Int) (K : Int → R) : R :=
  bif decide (a < 0) then
   K 0
  else
   bif decide (a < 0) then
    bot
   else
    K (wrI (1 + wrI (2 * 2 ^ min (Int.toNat a) (IntKind.bits IntKind.i64))))

def lRoom (a : Int) : Int := lRoomK (0) a fun x0 => (x0)

theorem lRoomK_eq {R : Type} (bot : R) (a : Int) (K : Int → R) : lRoomK bot a K = K (lRoom a) := by
  unfold lRoom lRoomK
  simp only [Bool.cond_eq_ite]
  repeat' split
  all_goals first
    | rfl
    | (exfalso; simp_all; done)
    | (exfalso; omega)

def liveK {R : Type} (bot : R) (a b c d p q : Int) (K : Bool → R) : R :=
  bif decide (a = 1) then
   K (decide (c = q))
  else
   bif decide (a = 2) then
    K (decide (c = q))
   else
    bif decide (a = 4) then
     K (decide (c = q))
    else
     K false

def live (a b c d p q : Int) : Bool := liveK (false) a b c d p q fun x0 => (x0)

theorem liveK_eq {R : Type} (bot : R) (a b c d p q : Int) (K : Bool → R) : liveK bot a b c d p q K = K (live a b c d p q) := by
  unfold live liveK
  simp only [Bool.cond_eq_ite]
  repeat' split
  all_goals first
    | rfl
    | (exfalso; simp_all; done)
    | (exfalso; omega)

end Go.FL
