/-
  An abstract evaluator over the program's code, continuation style, into Prop: names of blocks are concrete numbers, leaves are symbolic.
-/
import GoSem.Step
import Derived.Control
import Derived.Orders
import Derived.Test.YtfjnkneoddankaaGreatOb
namespace Go.FL

/-- What is known of one cell. -/
inductive LC where
  | any
  | int (k : IntKind) (n : Int)
  | bool (b : Bool)
  | str (s : ByteArray)
  | nilp
  | ptr (n off : Nat)
  | idx (n row w col : Nat)
  | nils
  | slice (n off len cap : Nat)
  | iface (t : TypeId) (v : LC)
  | nili
  | fn (f : FuncId)
  | nilf

inductive LP where
  | c (x : LC)
  | agg (l : List LC)

/-- What is known of a value. -/
inductive LV where
  | un
  | c (x : LC)
  | agg (l : List LC)
  | tup (l : List LP)

/-- A column of a block of rows. -/
inductive LCol where
  | int (k : IntKind) (f : Nat → Int)
  | bool (f : Nat → Bool)

/-- What is known of a block. 'rows': 'n' of 'cap' rows are known, column by column. -/
inductive LB where
  | any
  | cells (e : TypeId) (l : List LC)
  | ints (e : TypeId) (k : IntKind) (n : Nat) (f : Nat → Int)
  | rows (e : TypeId) (w n cap : Nat) (cs : List LCol)
  | obj (x : Ob)

/-- The heap: the blocks by their names, and the names that were written. -/
structure LH where
  bl : List LB
  wr : List Nat

abbrev Tm := List (Nat × LV)

def lget {α : Type} : List α → Nat → Option α
  | [], _ => none
  | x :: r, n => match n with
    | 0 => some x
    | n + 1 => lget r n

def lset {α : Type} : List α → Nat → α → List α
  | [], _, _ => []
  | x :: r, n, y => match n with
    | 0 => y :: r
    | n + 1 => x :: lset r n y

def llen {α : Type} : List α → Nat
  | [] => 0
  | _ :: r => Nat.succ (llen r)

/-- 'n' elements from the place 'off' on. -/
def lsub {α : Type} : List α → Nat → Nat → Option (List α)
  | l, 0, n => ltake l n
  | [], _ + 1, 0 => none
  | [], _ + 1, _ + 1 => none
  | _ :: r, off + 1, n => lsub r off n
where ltake : List α → Nat → Option (List α)
  | _, 0 => some []
  | [], _ + 1 => none
  | x :: r, n + 1 => match ltake r n with
    | some l => some (x :: l)
    | none => none

/-- 'new' laid over 'l' from the place 'off' on. -/
def lover {α : Type} : List α → Nat → List α → Option (List α)
  | l, 0, new => lay l new
  | [], _ + 1, _ => none
  | x :: r, off + 1, new => match lover r off new with
    | some l => some (x :: l)
    | none => none
where lay : List α → List α → Option (List α)
  | l, [] => some l
  | [], _ :: _ => none
  | _ :: r, y :: new => match lay r new with
    | some l => some (y :: l)
    | none => none

def LCol.get : LCol → Nat → LC
  | .int k f, i => .int k (f i)
  | .bool f, i => .bool (f i)

def rowAt : List LCol → Nat → List LC
  | [], _ => []
  | c :: r, i => c.get i :: rowAt r i

def LCol.set : LCol → Nat → LC → Option LCol
  | .int k f, i, x => match x with
    | .int k' v => match decide (k' = k) with
      | true => some (.int k fun j => bif Nat.beq j (i) then v else f j)
      | false => none
    | _ => none
  | .bool f, i, x => match x with
    | .bool v => some (.bool fun j => bif Nat.beq j (i) then v else f j)
    | _ => none

/-- 'new' laid over row 'i' of the columns from the one numbered 'off' on. -/
def setCols : List LCol → Nat → Nat → List LC → Option (List LCol)
  | cs, i, 0, new => lay cs i new
  | [], _, _ + 1, _ => none
  | c :: r, i, off + 1, new => match setCols r i off new with
    | some l => some (c :: l)
    | none => none
where lay : List LCol → Nat → List LC → Option (List LCol)
  | cs, _, [] => some cs
  | [], _, _ :: _ => none
  | c :: r, i, x :: new => match c.set i x with
    | some c' => match lay r i new with
      | some l => some (c' :: l)
      | none => none
    | none => none

/-- Columns that have that row everywhere. -/
def newCols : List LC → Option (List LCol)
  | [] => some []
  | x :: r => match newCols r with
    | none => none
    | some l => match x with
      | .int k v => some (.int k (fun _ => v) :: l)
      | .bool v => some (.bool (fun _ => v) :: l)
      | _ => none

def Tm.get : Tm → Nat → LV
  | [], _ => .un
  | (d, v) :: r, t => match Nat.beq d t with
    | true => v
    | false => Tm.get r t

def LH.get (H : LH) (n : Nat) : Option LB := lget H.bl n
def LH.put (H : LH) (n : Nat) (b : LB) : LH := ⟨lset H.bl n b, n :: H.wr⟩
def LH.new (H : LH) (b : LB) : LH := ⟨H.bl ++ [b], H.wr⟩
def LH.len (H : LH) : Nat := llen H.bl

def ofConstC : Value → Option LC
  | .int k n => some (.int k n)
  | .bool b => some (.bool b)
  | .string s => some (.str s)
  | .pointer none => some .nilp
  | .slice none 0 0 => some .nils
  | .nilIface => some .nili
  | .nilFunc => some .nilf
  | _ => none

def ofConstL : List Value → Option (List LC)
  | [] => some []
  | v :: r => match ofConstC v with
    | none => none
    | some x => match ofConstL r with
      | none => none
      | some l => some (x :: l)

def ofConst (v : Value) : LV :=
  match v with
  | .agg cs => match ofConstL cs.toList with
    | some l => .agg l
    | none => .un
  | v => match ofConstC v with
    | some x => .c x
    | none => .un

def opnd (T : Tm) : Operand → LV
  | .tmp t => Tm.get T t
  | .const v => ofConst v
  | .func f => .c (.fn f)
  | .global _ => .un

def LV.cells : LV → Option (List LC)
  | .c x => some [x]
  | .agg l => some l
  | _ => none

def LV.part : LV → Option LP
  | .c x => some (.c x)
  | .agg l => some (.agg l)
  | _ => none

def LP.lv : LP → LV
  | .c x => .c x
  | .agg l => .agg l

section
variable (P : Program)

/-- Whether a type's values are rows of cells. -/
def aggT (t : TypeId) : Option Bool :=
  match P.underlying t with
  | some (.struct _) => some true
  | some (.array _ _) => some true
  | some _ => some false
  | none => none

def sizeT (t : TypeId) : Option Nat :=
  match P.info? t with
  | some i => some i.size
  | none => none

def zeroT (t : TypeId) : Option (List LC) :=
  match P.info? t with
  | some i => match i.zero with
    | some v => (ofConst v).cells
    | none => none
  | none => none

def fieldT (t : TypeId) (f : Nat) : Option Field :=
  match P.underlying t with
  | some (.struct fs) => lget fs.toList f
  | _ => none

def loadRow (t : TypeId) (l : List LC) (off : Nat) (K : LV → Prop) : Prop :=
  match aggT P t with
  | some true => match sizeT P t with
    | some n => match lsub l off n with
      | some cs => K (.agg cs)
      | none => False
    | none => False
  | some false => match lget l off with
    | some x => K (.c x)
    | none => False
  | none => False

def loadA (t : TypeId) (x : LV) (H : LH) (K : LV → Prop) : Prop :=
  match x with
  | .c (.ptr n off) => match H.get n with
    | some (.cells _ l) => loadRow P t l off K
    | _ => False
  | .c (.idx n row w col) => match H.get n with
    | some (.cells _ l) => loadRow P t l (row * w + col) K
    | some (.ints _ k m f) => match aggT P t with
      | some false => match w, col with
        | 1, 0 => row < m ∧ K (.c (.int k (f row)))
        | _, _ => False
      | _ => False
    | some (.rows _ w' m _ cs) => match Nat.beq w w' with
      | true => row < m ∧ loadRow P t (rowAt cs row) col K
      | false => False
    | _ => False
  | _ => False

def storeA (t : TypeId) (x v : LV) (H : LH) (K : LH → Prop) : Prop :=
  match v.cells with
  | none => False
  | some cs => match sizeT P t with
    | none => False
    | some n => match Nat.beq (llen cs) n with
      | false => False
      | true => match x with
        | .c (.ptr b off) => match H.get b with
          | some (.cells e l) => match lover l off cs with
            | some l' => K (H.put b (.cells e l'))
            | none => False
          | _ => False
        | .c (.idx b row w col) => match H.get b with
          | some (.cells e l) => match lover l (row * w + col) cs with
            | some l' => K (H.put b (.cells e l'))
            | none => False
          | some (.ints e k m f) => match cs, w, col with
            | [.int k' i], 1, 0 => match decide (k' = k) with
              | true => row < m ∧ K (H.put b (.ints e k m fun j => bif Nat.beq j (row) then i else f j))
              | false => False
            | _, _, _ => False
          | some (.rows e w' m cap cols) => match Nat.beq w w' with
            | true => match setCols cols row col cs with
              | some cols' => row < m ∧ K (H.put b (.rows e w' m cap cols'))
              | none => False
            | false => False
          | _ => False
        | _ => False

def intA (op : BinOp) (k : IntKind) (a b : Int) (K : LV → Prop) : Prop :=
  match op with
  | .add => K (.c (.int k (k.wrap (a + b))))
  | .sub => K (.c (.int k (k.wrap (a - b))))
  | .mul => K (.c (.int k (k.wrap (a * b))))
  | .quo => match decide (b = 0) with
    | true => False
    | false => K (.c (.int k (k.wrap (a.tdiv b))))
  | .rem => match decide (b = 0) with
    | true => False
    | false => K (.c (.int k (a.tmod b)))
  | .and => K (.c (.int k (k.wrap (BitVec.ofInt k.bits a &&& BitVec.ofInt k.bits b).toNat)))
  | .or => K (.c (.int k (k.wrap (BitVec.ofInt k.bits a ||| BitVec.ofInt k.bits b).toNat)))
  | .xor => K (.c (.int k (k.wrap (BitVec.ofInt k.bits a ^^^ BitVec.ofInt k.bits b).toNat)))
  | .andNot => K (.c (.int k (k.wrap (BitVec.ofInt k.bits a &&& ~~~BitVec.ofInt k.bits b).toNat)))
  | .eql => K (.c (.bool (decide (a = b))))
  | .neq => K (.c (.bool (!decide (a = b))))
  | .lss => K (.c (.bool (decide (a < b))))
  | .leq => K (.c (.bool (decide (a ≤ b))))
  | .gtr => K (.c (.bool (decide (b < a))))
  | .geq => K (.c (.bool (decide (b ≤ a))))
  | _ => False

def shiftA (op : BinOp) (k : IntKind) (a b : Int) (K : LV → Prop) : Prop :=
  match decide (b < 0) with
  | true => False
  | false => match op with
    | .shl => K (.c (.int k (k.wrap (a * 2 ^ (min b.toNat k.bits)))))
    | .shr => K (.c (.int k (a.fdiv (2 ^ (min b.toNat k.bits)))))
    | _ => False

def isShift : BinOp → Bool
  | .shl | .shr => true
  | _ => false

/-- Held against nil, of a type that has one. -/
def nilA (d : TypeDesc) (a b : LC) : Option Bool :=
  match d with
  | .pointer _ => match a, b with
    | .nilp, .nilp => some true
    | .nilp, .ptr _ _ | .nilp, .idx _ _ _ _ | .ptr _ _, .nilp | .idx _ _ _ _, .nilp => some false
    | _, _ => none
  | .slice _ => match a, b with
    | .nils, .nils => some true
    | .nils, .slice _ _ _ _ | .slice _ _ _ _, .nils => some false
    | _, _ => none
  | .interface _ => match a, b with
    | .nili, .nili => some true
    | .nili, .iface _ _ | .iface _ _, .nili => some false
    | _, _ => none
  | .func _ _ _ => match a, b with
    | .nilf, .nilf => some true
    | .nilf, .fn _ | .fn _, .nilf => some false
    | _, _ => none
  | _ => none

def isConst : Operand → Bool
  | .const _ => true
  | _ => false

def binA (op : BinOp) (t : TypeId) (ox oy : Operand) (x y : LV) (K : LV → Prop) : Prop :=
  match x, y with
  | .c (.int k a), .c (.int k' b) => match isShift op with
    | true => shiftA op k a b K
    | false => match decide (k = k') with
      | true => intA op k a b K
      | false => False
  | .c (.bool a), .c (.bool b) => match P.underlying t with
    | some .bool => match op with
      | .eql => K (.c (.bool (a == b)))
      | .neq => K (.c (.bool (!(a == b))))
      | _ => False
    | _ => False
  | .c a, .c b => match P.underlying t with
    | some d => match nilA d a b with
      | some q => match isConst ox || isConst oy with
        | true => match op with
          | .eql => K (.c (.bool q))
          | .neq => K (.c (.bool (!q)))
          | _ => False
        | false => False
      | none => False
    | none => False
  | _, _ => False

def unA (op : UnOp) (x : LV) (K : LV → Prop) : Prop :=
  match op, x with
  | .not, .c (.bool b) => K (.c (.bool (!b)))
  | .neg, .c (.int k n) => K (.c (.int k (k.wrap (0 - n))))
  | _, _ => False

def convA (src dst : TypeId) (x : LV) (K : LV → Prop) : Prop :=
  match x with
  | .c (.int _ n) => match P.underlying src, P.underlying dst with
    | some (.int _), some (.int k) => K (.c (.int k (k.wrap n)))
    | _, _ => False
  | _ => False

def fieldAddrA (s : TypeId) (x : LV) (f : Nat) (K : LV → Prop) : Prop :=
  match fieldT P s f with
  | none => False
  | some fd => match sizeT P fd.type with
    | none => False
    | some 0 => False
    | some (_ + 1) => match x with
      | .c (.ptr n off) => K (.c (.ptr n (off + fd.offset)))
      | .c (.idx n row w col) => K (.c (.idx n row w (col + fd.offset)))
      | _ => False

def fieldA (s : TypeId) (x : LV) (f : Nat) (K : LV → Prop) : Prop :=
  match fieldT P s f with
  | none => False
  | some fd => match x with
    | .agg l => loadRow P fd.type l fd.offset K
    | _ => False

def indexAddrA (t : TypeId) (x i : LV) (K : LV → Prop) : Prop :=
  match i with
  | .c (.int _ i) => match P.underlying t, x with
    | some (.slice e), .c (.slice n off len _) => match sizeT P e with
      | some w => match decide (0 ≤ i ∧ i < len) with
        | true => K (.c (.idx n i.toNat w off))
        | false => False
      | none => False
    | some (.array len e), .c (.ptr n off) => match sizeT P e with
      | some w => match decide (0 ≤ i ∧ i < len) with
        | true => K (.c (.idx n i.toNat w off))
        | false => False
      | none => False
    | _, _ => False
  | _ => False

/-- Where the fields of a struct lie, and how many cells each has. -/
def placesA : List Field → Option (List (Nat × Nat))
  | [] => some []
  | f :: r => match sizeT P f.type with
    | none => none
    | some n => match placesA r with
      | none => none
      | some l => some ((f.offset, n) :: l)

/-- A struct's parts laid over its zero. -/
def fillA (fs : List (Nat × Nat)) (l : List LC) : List (Nat × LV) → Option (List LC)
  | [] => some l
  | (i, v) :: r => match lget fs i with
    | none => none
    | some (off, n) => match v.cells with
      | none => none
      | some cs => match Nat.beq (llen cs) n with
        | false => none
        | true => match lover l off cs with
          | none => none
          | some l' => fillA fs l' r

def buildA (t : TypeId) (parts : List (Nat × LV)) (K : LV → Prop) : Prop :=
  match P.underlying t with
  | some (.struct fs) => match zeroT P t with
    | none => False
    | some z => match placesA P fs.toList with
      | none => False
      | some ps => match fillA ps z parts with
        | some l => K (.agg l)
        | none => False
  | _ => False

def minmax (isMin : Bool) : List LV → Option LV
  | [] => none
  | x :: r => go x r
where go : LV → List LV → Option LV
  | x, [] => some x
  | .c (.int k a), .c (.int _ b) :: r =>
    match isMin with
    | true => go (.c (.int k (if b < a then b else a))) r
    | false => go (.c (.int k (if b > a then b else a))) r
  | _, _ => none

def lenA (t : TypeId) (x : LV) (K : LV → Prop) : Prop :=
  match P.underlying t, x with
  | some (.slice _), .c (.slice _ _ n _) => K (.c (.int .i64 n))
  | some (.slice _), .c .nils => K (.c (.int .i64 0))
  | some .string, .c (.str s) => K (.c (.int .i64 s.size))
  | some (.array n _), _ => K (.c (.int .i64 n))
  | _, _ => False

def makeSliceA (t : TypeId) (l c : LV) (H : LH) (K : LV → LH → Prop) : Prop :=
  match P.underlying t with
  | some (.slice e) => match P.underlying e, P.info? e with
    | some (.int k), some info => match info.zero, l, c with
      | some (.int k' 0), .c (.int _ n), .c (.int _ m) =>
        ((k' = k ∧ info.size = 1 ∧ info.bytes ≤ 8) ∧ n = m ∧ 0 ≤ n ∧ n ≤ 1048576) ∧
          K (.c (.slice H.len 0 n.toNat n.toNat)) (H.new (.ints e k n.toNat fun _ => 0))
      | _, _, _ => False
    | _, _ => False
  | _ => False

/-- The same cells so many times. -/
def timesL : Nat → List LC → List LC
  | 0, _ => []
  | n + 1, l => l ++ timesL n l

/-- A slice literal's parts laid over its noughts. -/
def fillS (w : Nat) (l : List LC) : List (Nat × LV) → Option (List LC)
  | [] => some l
  | (i, v) :: r => match v.cells with
    | none => none
    | some cs => match Nat.beq (llen cs) w with
      | false => none
      | true => match lover l (i * w) cs with
        | none => none
        | some l' => fillS w l' r

def buildSliceA (t : TypeId) (n : Nat) (parts : List (Nat × LV)) (H : LH) (K : LV → LH → Prop) : Prop :=
  match P.underlying t with
  | some (.slice e) => match sizeT P e, zeroT P e with
    | some (w + 1), some z => match Nat.beq (llen z) (w + 1) && Nat.ble (n * (w + 1)) 4096 with
      | true => match fillS (w + 1) (timesL n z) parts with
        | some l => K (.c (.slice H.len 0 n n)) (H.new (.cells e l))
        | none => False
      | false => False
    | _, _ => False
  | _ => False

/-- One more element. -/
def appendA (t t' : TypeId) (s x : LV) (H : LH) (K : LV → LH → Prop) : Prop :=
  match Nat.beq t t' with
  | false => False
  | true => match P.underlying t with
    | some (.slice e) => match P.info? e with
      | some info => match Nat.ble 1 info.size && Nat.ble info.bytes 4096 with
        | true => match info.zero, x with
          | some z, .c (.slice m 0 1 _) => match Nat.beq z.cells.size info.size, H.get m with
            | true, some (.cells _ l) => match lsub l 0 info.size with
              | some new => match s with
                | .c .nils => match newCols new with
                  | some cs => ∀ more : Nat, K (.c (.slice H.len 0 1 (1 + more))) (H.new (.rows e info.size 1 (1 + more) cs))
                  | none => False
                | .c (.slice b 0 n cap) => match H.get b with
                  | some (.cells _ []) => match newCols new with
                    | some cs => (n = 0 ∧ cap = 0) ∧ ∀ more : Nat, K (.c (.slice H.len 0 1 (1 + more))) (H.new (.rows e info.size 1 (1 + more) cs))
                    | none => False
                  | some (.rows e' w n' cap' cols) => match Nat.beq e e' && Nat.beq w info.size, setCols cols n 0 new with
                    | true, some cs => ((n' = n ∧ cap' = cap) ∧ n ≤ 1048576) ∧ (match decide (n + 1 ≤ cap) with
                      | true => K (.c (.slice b 0 (n + 1) cap)) (H.put b (.rows e w (n + 1) cap cs))
                      | false => ∀ more : Nat, K (.c (.slice H.len 0 (n + 1) (n + 1 + more))) (H.new (.rows e w (n + 1) (n + 1 + more) cs)))
                    | _, _ => False
                  | _ => False
                | _ => False
              | none => False
            | _, _ => False
          | _, _ => False
        | false => False
      | none => False
    | _ => False

/-- The method of that name of a pointer type. -/
def methodA (t : TypeId) (name : String) : Option FuncId :=
  match P.underlying t with
  | some (.pointer _) => match P.info? t with
    | some i => find i.methods.toList
    | none => none
  | _ => none
where find : List Method → Option FuncId
  | [] => none
  | m :: r => match m.name == name with
    | true => match m.path.toList, m.func with
      | [], some (f, true) => some f
      | _, _ => none
    | false => find r

variable (call : FuncId → List LV → LH → (LV → LH → Prop) → Prop)

def callA (c : Call) (T : Tm) (H : LH) (K : LV → LH → Prop) : Prop :=
  match c.callee with
  | .value f => match opnd T f with
    | .c (.fn f) => call f (c.args.toList.map (opnd T)) H K
    | _ => False
  | .invoke r name => match opnd T r with
    | .c (.iface t v) => match methodA P t name with
      | some f => call f (.c v :: c.args.toList.map (opnd T)) H K
      | none => False
    | _ => False
  | .builtin b => match b with
    | .len => match c.argTypes.toList, c.args.toList with
      | t :: _, x :: _ => lenA P t (opnd T x) fun v => K v H
      | _, _ => False
    | .min => match minmax true (c.args.toList.map (opnd T)) with
      | some v => K v H
      | none => False
    | .max => match minmax false (c.args.toList.map (opnd T)) with
      | some v => K v H
      | none => False
    | .append => match c.argTypes.toList, c.args.toList with
      | [t, t'], [x, y] => appendA P t t' (opnd T x) (opnd T y) H K
      | _, _ => False
    | _ => False

def opA (o : Oper) (T : Tm) (H : LH) (K : LV → LH → Prop) : Prop :=
  match o.op with
  | .move x | .assign x => K (opnd T x) H
  | .pick c a b => match opnd T c with
    | .c (.bool q) => match q with
      | true => K (opnd T a) H
      | false => K (opnd T b) H
    | _ => False
  | .alloc e => match zeroT P e with
    | some l => K (.c (.ptr H.len 0)) (H.new (.cells e l))
    | none => False
  | .box e x => match (opnd T x).cells with
    | some l => K (.c (.ptr H.len 0)) (H.new (.cells e l))
    | none => False
  | .build t parts => buildA P t (parts.toList.map fun p => (p.1, opnd T p.2)) fun v => K v H
  | .load t a => loadA P t (opnd T a) H fun v => K v H
  | .store t a x => storeA P t (opnd T a) (opnd T x) H fun H' => K .un H'
  | .nilCheck x => match opnd T x with
    | .c (.ptr n off) => K (.c (.ptr n off)) H
    | .c (.idx n r w c) => K (.c (.idx n r w c)) H
    | _ => False
  | .binOp op t x y _ => binA P op t x y (opnd T x) (opnd T y) fun v => K v H
  | .unOp op _ x => unA op (opnd T x) fun v => K v H
  | .convert src dst x => convA P src dst (opnd T x) fun v => K v H
  | .makeInterface t x => match opnd T x with
    | .c y => match P.underlying t with
      | some (.interface _) => False
      | some _ => K (.c (.iface t y)) H
      | none => False
    | _ => False
  | .fieldAddr s x f => fieldAddrA P s (opnd T x) f fun v => K v H
  | .field s x f => fieldA P s (opnd T x) f fun v => K v H
  | .indexAddr t x i => indexAddrA P t (opnd T x) (opnd T i) fun v => K v H
  | .extract x i => match opnd T x with
    | .tup l => match lget l i with
      | some p => K p.lv H
      | none => False
    | _ => False
  | .makeSlice t l c => makeSliceA P t (opnd T l) (opnd T c) H K
  | .buildSlice t n parts => buildSliceA P t n (parts.toList.map fun p => (p.1, opnd T p.2)) H K
  | .call c => callA P call c T H K
  | _ => False

variable (nt : Nat)

def putA (dst : Option Tmp) (v : LV) (T : Tm) (K : Tm → Prop) : Prop :=
  match dst with
  | none => K T
  | some d => match Nat.ble (d + 1) nt with
    | true => match v with
      | .un => K ((d, .un) :: T)
      | .c x => K ((d, .c x) :: T)
      | .agg l => K ((d, .agg l) :: T)
      | .tup l => K ((d, .tup l) :: T)
    | false => False

/-- Whether a guarded operation is wanted: its guard's value is split, and laid as what it is. -/
def guardA (all : List Oper) (g : Option (Nat × Bool)) (T : Tm) (K : Bool → Tm → Prop) : Prop :=
  match g with
  | none => K true T
  | some (j, want) => match lget all j with
    | none => False
    | some oj => match oj.dst with
      | none => False
      | some d => match Tm.get T d with
        | .c (.bool b) => match b with
          | true => K want ((d, .c (.bool true)) :: T)
          | false => K (!want) ((d, .c (.bool false)) :: T)
        | .tup [] => K false T
        | _ => False

def execA (all : List Oper) (o : Oper) (T : Tm) (H : LH) (K : Tm → LH → Prop) : Prop :=
  guardA all o.guard T fun wanted T => match wanted with
    | true => opA P call o T H fun v H => putA nt o.dst v T fun T => K T H
    | false => putA nt o.dst (.tup []) T fun T => K T H

def regA (all : List Oper) : List Oper → Tm → LH → (Tm → LH → Prop) → Prop
  | [], T, H, K => K T H
  | o :: r, T, H, K => execA P call nt all o T H fun T H => regA all r T H K

end

/-! ### A region whose order is drawn: quiet operations first; then whichever comes up. -/

def quietOp : Op → Bool
  | .move _ | .assign _ | .pick _ _ _ | .build _ _ | .load _ _ | .nilCheck _ | .binOp _ _ _ _ _ | .unOp _ _ _ | .convert _ _ _
  | .makeInterface _ _ | .fieldAddr _ _ _ | .field _ _ _ | .indexAddr _ _ _ | .extract _ _ => true
  | .call { callee := .builtin .len, .. } | .call { callee := .builtin .min, .. } | .call { callee := .builtin .max, .. } => true
  | _ => false

def noSelA : List Oper → Bool
  | [] => true
  | o :: r => match o.op with
    | .select _ _ => false
    | _ => noSelA r

def depMask (es : List Edge) : Nat :=
  match es with
  | [] => 0
  | e :: r => match Region.binds .any e with
    | true => Nat.lor (Nat.shiftLeft 1 e.on) (depMask r)
    | false => depMask r

inductive Nxt where
  | done
  | quiet (i : Nat)
  | any (l : List Nat)
  | stuck

/-- Which operations may come up: not listed, and all that they wait for is. -/
def readyA (m : Nat) : List Oper → Nat → List Nat
  | [], _ => []
  | o :: r, i => match Nat.testBit m i with
    | true => readyA m r (i + 1)
    | false => match Nat.beq (Nat.land (depMask o.after.toList) m) (depMask o.after.toList) with
      | true => i :: readyA m r (i + 1)
      | false => readyA m r (i + 1)

def pickQuiet (l : List Oper) : List Nat → Option Nat
  | [] => none
  | i :: r => match lget l i with
    | some o => match quietOp o.op with
      | true => some i
      | false => pickQuiet l r
    | none => none

/-- Nobody that could come ahead of number 'i' touches its temporaries. -/
def freeA (ops : Array Oper) (m i : Nat) (oi : Oper) : List Oper → Nat → Bool
  | [], _ => true
  | o :: r, j => match Nat.beq i j || Nat.testBit m j || Nat.testBit (depMask o.after.toList) i with
    | true => freeA ops m i oi r (j + 1)
    | false => match oi.apart ops o with
      | true => freeA ops m i oi r (j + 1)
      | false => false

def nextA (ops : Array Oper) (m : Nat) : Nxt :=
  match readyA m ops.toList 0 with
  | [] => .done
  | i :: r => match pickQuiet ops.toList (i :: r) with
    | some q => match lget ops.toList q with
      | some oq => match freeA ops m q oq ops.toList 0 with
        | true => .quiet q
        | false => .stuck
      | none => .stuck
    | none => .any (i :: r)

def andA : List Nat → (Nat → Prop) → Prop
  | [], _ => True
  | [i], f => f i
  | i :: r, f => f i ∧ andA r f

/-- The block that an address is in. -/
def addrOf : LV → Option Nat
  | .c (.ptr n _) => some n
  | .c (.idx n _ _ _) => some n
  | _ => none

/-- The block that a load reads. -/
def loadsOf (o : Oper) (T : Tm) : Option Nat :=
  match o.op with
  | .load _ a => addrOf (opnd T a)
  | _ => none

def noLoad : Op → Bool
  | .load _ _ => false
  | _ => true

/-- No load that does not stand ahead of the operation read what it wrote. -/
def clashA (mk : Nat) (wr : List Nat) : List (Nat × Nat) → Bool
  | [] => false
  | (j, n) :: r => match Nat.testBit mk j with
    | true => clashA mk wr r
    | false => match wr.contains n with
      | true => true
      | false => clashA mk wr r

/-- What is waited for, and what that waits for. -/
def closeM (l : List Oper) : Nat → Nat → Nat
  | 0, m => m
  | k + 1, m => match Nat.testBit m k with
    | true => match lget l k with
      | some o => closeM l k (Nat.lor m (depMask o.after.toList))
      | none => closeM l k m
    | false => closeM l k m

section
variable (P : Program) (call : FuncId → List LV → LH → (LV → LH → Prop) → Prop) (nt : Nat)

def drawA (ops : Array Oper) : Nat → Nat → List (Nat × Nat) → Tm → LH → (Tm → LH → Prop) → Prop
  | 0, _, _, _, _, _ => False
  | f + 1, m, lds, T, H, K => match nextA ops m with
    | .done => K T H
    | .stuck => False
    | .quiet i => match lget ops.toList i with
      | none => False
      | some o => guardA ops.toList o.guard T fun wanted T => match wanted with
        | true => opA P call o T H fun v _ => putA nt o.dst v T fun T' =>
            match noLoad o.op with
            | true => drawA ops f (Nat.lor m (Nat.shiftLeft 1 i)) lds T' H K
            | false => match loadsOf o T with
              | some n => drawA ops f (Nat.lor m (Nat.shiftLeft 1 i)) ((i, n) :: lds) T' H K
              | none => False
        | false => putA nt o.dst (.tup []) T fun T' => drawA ops f (Nat.lor m (Nat.shiftLeft 1 i)) lds T' H K
    | .any l => andA l fun i => match lget ops.toList i with
      | none => False
      | some o => execA P call nt ops.toList o T ⟨H.bl, []⟩ fun T' H' =>
          match clashA (closeM ops.toList ops.size (depMask o.after.toList)) H'.wr lds with
          | true => False
          | false => drawA ops f (Nat.lor m (Nat.shiftLeft 1 i)) lds T' ⟨H'.bl, H'.wr ++ H.wr⟩ K

inductive X where
  | normal
  | exit (id : Nat)
  | ret

def iterA (body : Tm → LH → (X → Tm → LH → Prop) → Prop) : Nat → Tm → LH → (X → Tm → LH → Prop) → Prop
  | 0, _, _, _ => False
  | n + 1, T, H, K => body T H fun x T H => match x with
    | .normal => iterA body n T H K
    | x => K x T H

/-- A loop by an invariant, and a measure. -/
def loopInv (body : Tm → LH → (X → Tm → LH → Prop) → Prop) (T : Tm) (H : LH) (K : X → Tm → LH → Prop) : Prop :=
  ∃ I : Nat → Tm → LH → Prop, (∃ n, I n T H) ∧ ∀ n T H, I n T H → body T H fun x T H => match x with
    | .normal => ∃ n', n' < n ∧ I n' T H
    | x => K x T H

def loopA (body : Tm → LH → (X → Tm → LH → Prop) → Prop) : Nat → Tm → LH → (X → Tm → LH → Prop) → Prop
  | 0, T, H, K => loopInv body T H K
  | n + 1, T, H, K => iterA body (n + 1) T H K

/-- What a piece of code is known by: the first region's number. -/
def keyC : Code → Nat
  | .region id _ _ => id
  | .seq a _ => keyC a
  | .block _ c => keyC c
  | .loop c => keyC c
  | .scope c => keyC c
  | _ => 0

abbrev LHd := Tm → LH → (X → Tm → LH → Prop) → Prop

def noLo : Nat → Option LHd := fun _ => none

def evC (lo : Nat → Option LHd) (fuel : Nat) : Code → Tm → LH → (X → Tm → LH → Prop) → Prop
  | .skip, T, H, K => K .normal T H
  | .label _, T, H, K => K .normal T H
  | .region _ ops draw, T, H, K => match draw with
    | false => regA P call nt ops.toList ops.toList T H (K .normal)
    | true => match noSelA ops.toList with
      | true => drawA P call nt ops (ops.size + 1) 0 [] T H (K .normal)
      | false => False
  | .seq a b, T, H, K => evC lo fuel a T H fun x T H => match x with
    | .normal => evC lo fuel b T H K
    | x => K x T H
  | .cond c a b, T, H, K => match opnd T c with
    | .c (.bool q) => match q with
      | true => evC lo fuel a T H K
      | false => evC lo fuel b T H K
    | _ => False
  | .block id c, T, H, K => evC lo fuel c T H fun x T H => match x with
    | .exit id' => match Nat.beq id' id with
      | true => K .normal T H
      | false => K (.exit id') T H
    | x => K x T H
  | .loop c, T, H, K => match lo (keyC c) with
    | some h => h T H K
    | none => loopA (evC lo fuel c) fuel T H K
  | .scope c, T, H, K => evC lo fuel c T H K
  | .exit id, T, H, K => K (.exit id) T H
  | .ret, T, H, K => K .ret T H
  | _, _, _, _ => False

end

section
variable (P : Program)

def resA (T : Tm) (H : LH) : List ResultVar → (List LV → Prop) → Prop
  | [], K => K []
  | .tmp t :: r, K => resA T H r fun l => K (Tm.get T t :: l)
  | .cell a t :: r, K => loadA P t (Tm.get T a) H fun v => resA T H r fun l => K (v :: l)

def parts : List LV → Option (List LP)
  | [] => some []
  | v :: r => match v.part with
    | none => none
    | some p => match parts r with
      | none => none
      | some l => some (p :: l)

def params : List LV → Nat → Tm
  | [], _ => []
  | v :: r, i => (i, v) :: params r (i + 1)

/-- A function's body. -/
def evFn (call : FuncId → List LV → LH → (LV → LH → Prop) → Prop) (lo : Nat → Option LHd) (fuel : Nat) (fn : Func) (args : List LV) (H : LH) (K : LV → LH → Prop) : Prop :=
  match fn.body with
  | none => False
  | some c => match Nat.ble (llen args) fn.ntmps with
    | false => False
    | true => evC P call fn.ntmps lo fuel c (params args 0) H fun x T H => match x with
      | .exit _ => False
      | _ => resA P T H fn.results.toList fun l => match l with
        | [v] => K v H
        | l => match parts l with
          | some ps => K (.tup ps) H
          | none => False

/-- A function, its callees walked into, so deep. -/
def evF (own : FuncId → Option (List LV → LH → (LV → LH → Prop) → Prop)) (fuel : Nat) : Nat → FuncId → List LV → LH → (LV → LH → Prop) → Prop
  | 0, _, _, _, _ => False
  | d + 1, f, args, H, K => match own f with
    | some h => h args H K
    | none => match lget P.funcs.toList f with
      | none => False
      | some fn => evFn P (evF own fuel d) noLo fuel fn args H K

/-- A function, its loops by their laws. -/
def evL (own : FuncId → Option (List LV → LH → (LV → LH → Prop) → Prop)) (lo : Nat → Option LHd) (fuel d : Nat) (f : FuncId) (args : List LV) (H : LH) (K : LV → LH → Prop) : Prop :=
  match lget P.funcs.toList f with
  | none => False
  | some fn => evFn P (evF P own fuel d) lo fuel fn args H K

def loopsC : Code → List Code
  | .seq a b => loopsC a ++ loopsC b
  | .cond _ a b => loopsC a ++ loopsC b
  | .block _ c => loopsC c
  | .loop c => c :: loopsC c
  | .scope c => loopsC c
  | _ => []

/-- A function's loops. -/
def loopsF (f : FuncId) : List Code := match lget P.funcs.toList f with
  | none => []
  | some fn => match fn.body with
    | none => []
    | some c => loopsC c

def tmpsF (f : FuncId) : Nat := match lget P.funcs.toList f with
  | none => 0
  | some fn => fn.ntmps

def loopF (f : FuncId) (k : Nat) : Code := match lget (loopsF P f) k with
  | some c => c
  | none => .skip

def Tm.norm (ts : List Nat) (T : Tm) : Tm := match ts with
  | [] => []
  | t :: r => (t, Tm.get T t) :: Tm.norm r T

end

end Go.FL
