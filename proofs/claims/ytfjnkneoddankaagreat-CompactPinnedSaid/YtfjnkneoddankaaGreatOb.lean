/-
  The program's objects as plain records.
-/
namespace Go.FL

/-- mem.Mem: so many words, when each was another one last; steps; who; the last touch. -/
structure PMem where
  n : Nat
  w : Nat → Int
  t : Nat → Int
  steps : Int
  who : Int
  la : Int
  lw : Int
  lc : Bool

structure PTake where
  pc : Int
  top : Int
  next : Int
  slot : Int
  ok : Bool

structure PGive where
  pc : Int
  slot : Int
  top : Int

structure PPlace where
  cls : Int
  pc : Int
  opn : Int
  at_ : Int
  w : Int
  sa : Int
  sc : Int
  ok : Bool

structure PDone where
  e : Int
  h : Int
  v : Int
  st : Int
deriving DecidableEq

structure PAlloc where
  size : Int
  own : Bool
  pc : Int
  take : PTake
  at_ : Int
  gen : Int
  p : Option PPlace
  sa : Int
  sc : Int
  give : Option PGive
  out : PDone

structure PHelp where
  slot : Int
  w : Int
  size : Int
  i : Int
  cell : Int
  read : Bool
  won : Bool

structure PDrop where
  n : Int
  own : Bool
  hs : Int
  hg : Int
  pc : Int
  w : Int
  size : Int
  help : Option PHelp
  give : Option PGive
  out : PDone

structure PWant where
  kind : Int
  handle : Int
  index : Int
  value : Int
  old : Int

structure PAccess where
  x : PWant
  own : Bool
  hs : Int
  hg : Int
  pc : Int
  w : Int
  cell : Int
  seen : Int
  read : Int
  size : Int
  help : Option PHelp
  out : PDone

inductive PWork where
  | alloc (a : PAlloc)
  | drop (d : PDrop)
  | access (a : PAccess)

structure PIn where
  pc : Int
  epoch : Int

structure PAct where
  in_ : PIn
  pc : Int
  work : PWork
  out : PDone

structure PHead where
  kind : Int
  size : Int
  slot : Int
  gen : Int
  own : Bool

structure PMove where
  addr : Int
  head : PHead
  pc : Int
  w : Int
  p : Option PPlace
  sa : Int
  sc : Int
  got : Bool
  i : Int
  cell : Int
  n : Int
  out : Int

structure PAdv where
  pc : Int
  now : Int
  at_ : Int
  went : Bool

structure PSettle where
  chunk : Int
  pc : Int
  w : Int
  since : Int
  at_ : Int
  freed : Bool

/-- compact.Compactor's list of what was seen, column by column. -/
structure PSeenL where
  len : Nat
  st : Nat → Int
  cl : Nat → Int
  us : Nat → Int
  sp : Nat → Int
  lv : Nat → Int
  op : Nat → Bool

structure PWk where
  ev : Int
  lf : Int
  fr : Int
  mv : Int
  rd : Int
deriving DecidableEq

structure PComp where
  pc : Int
  seen : Option PSeenL
  at_ : Int
  pos : Int
  w : Int
  now : Int
  m : Option PMove
  a : Option PAdv
  s : Option PSettle
  work : PWk
  was : PWk
  idle : Int

/-- An object: what the abstract heap has under one name. -/
inductive Ob where
  | mem (m : PMem)
  | in_ (p : PIn)
  | give (g : PGive)
  | place (p : PPlace)
  | alloc (a : PAlloc)
  | help (h : PHelp)
  | drop (d : PDrop)
  | access (a : PAccess)
  | act (a : PAct)
  | move (m : PMove)
  | adv (a : PAdv)
  | settle (s : PSettle)
  | comp (c : PComp) (cap : Nat)

end Go.FL
