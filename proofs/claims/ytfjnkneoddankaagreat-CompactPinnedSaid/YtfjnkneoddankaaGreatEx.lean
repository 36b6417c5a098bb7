/-
  How the program's objects lie in memory: each as a few blocks, the first one its own; pointers go by the blocks' places in the list.
-/
import Derived.Test.YtfjnkneoddankaaGreatEv
namespace Go.FL

abbrev cI (n : Int) : LC := .int .i64 n
abbrev cU (n : Int) : LC := .int .u64 n

def exDone (d : PDone) (r : List LC) : List LC := cI d.e :: cU d.h :: cI d.v :: cI d.st :: r

def exMemC (m : PMem) (i j : Nat) : LB := .cells 89 [.slice i 0 m.n m.n, .slice j 0 m.n m.n, cI m.steps, cI m.who, cI m.la, cI m.lw, .bool m.lc]

def exPlaceC (p : PPlace) : LB := .cells 165 [cI p.cls, cI p.pc, cU p.opn, cI p.at_, cU p.w, cI p.sa, cI p.sc, .bool p.ok]

def exGiveC (g : PGive) : LB := .cells 168 [cI g.pc, cI g.slot, cU g.top]

def exInC (p : PIn) : LB := .cells 59 [cI p.pc, cU p.epoch]

def exHelpC (h : PHelp) : LB := .cells 171 [cI h.slot, cU h.w, cI h.size, cI h.i, cU h.cell, .bool h.read, .bool h.won]

def exAllocC (a : PAlloc) (p g : LC) : LB := .cells 124
  (cI a.size :: .bool a.own :: cI a.pc :: cI a.take.pc :: cU a.take.top :: cI a.take.next :: cI a.take.slot :: .bool a.take.ok :: cI a.at_ :: cI a.gen :: p :: cI a.sa :: cI a.sc :: g :: exDone a.out [])

def exDropC (d : PDrop) (h g : LC) : LB := .cells 135
  (cU d.n :: .bool d.own :: cI d.hs :: cI d.hg :: cI d.pc :: cU d.w :: cI d.size :: h :: g :: exDone d.out [])

def exAccessC (a : PAccess) (h : LC) : LB := .cells 113
  (cI a.x.kind :: cU a.x.handle :: cI a.x.index :: cI a.x.value :: cI a.x.old :: .bool a.own :: cI a.hs :: cI a.hg :: cI a.pc :: cU a.w :: cU a.cell :: cI a.seen :: cI a.read :: cI a.size :: h :: exDone a.out [])

def exActC (a : PAct) (w : LC) : LB := .cells 999999 (cI a.in_.pc :: cU a.in_.epoch :: cI a.pc :: w :: exDone a.out [])

def exMoveC (x : PMove) (p : LC) : LB := .cells 147
  [cI x.addr, cI x.head.kind, cI x.head.size, cI x.head.slot, cI x.head.gen, .bool x.head.own, cI x.pc, cU x.w, p, cI x.sa, cI x.sc, .bool x.got, cI x.i, cU x.cell, cI x.n, cI x.out]

def exAdvC (x : PAdv) : LB := .cells 157 [cI x.pc, cU x.now, cI x.at_, .bool x.went]

def exSettleC (x : PSettle) : LB := .cells 175 [cI x.chunk, cI x.pc, cU x.w, cU x.since, cI x.at_, .bool x.freed]

def exWk (w : PWk) (r : List LC) : List LC := cI w.ev :: cI w.lf :: cI w.fr :: cI w.mv :: cI w.rd :: r

def exCompC (x : PComp) (s m a t : LC) : LB := .cells 95
  (cI x.pc :: s :: cI x.at_ :: cI x.pos :: cU x.w :: cU x.now :: m :: a :: t :: exWk x.work (exWk x.was [cI x.idle]))

def exSeenC (s : PSeenL) (cap : Nat) : LB := .rows 138 6 s.len cap [.int .i64 s.st, .int .i64 s.cl, .int .i64 s.us, .int .i64 s.sp, .int .i64 s.lv, .bool s.op]

def ex : Ob → List LB
  | .mem m => [exMemC m 1 2, .ints 32 .u64 m.n m.w, .ints 3 .i64 m.n m.t]
  | .in_ p => [exInC p]
  | .give g => [exGiveC g]
  | .place p => [exPlaceC p]
  | .help h => [exHelpC h]
  | .alloc a => match a.p, a.give with
    | none, none => [exAllocC a .nilp .nilp]
    | some p, none => [exAllocC a (.ptr 1 0) .nilp, .obj (.place p)]
    | none, some g => [exAllocC a .nilp (.ptr 1 0), .obj (.give g)]
    | some p, some g => [exAllocC a (.ptr 1 0) (.ptr 2 0), .obj (.place p), .obj (.give g)]
  | .drop d => match d.help, d.give with
    | none, none => [exDropC d .nilp .nilp]
    | some h, none => [exDropC d (.ptr 1 0) .nilp, .obj (.help h)]
    | none, some g => [exDropC d .nilp (.ptr 1 0), .obj (.give g)]
    | some h, some g => [exDropC d (.ptr 1 0) (.ptr 2 0), .obj (.help h), .obj (.give g)]
  | .access a => match a.help with
    | none => [exAccessC a .nilp]
    | some h => [exAccessC a (.ptr 1 0), .obj (.help h)]
  | .act a => match a.work with
    | .alloc x => [exActC a (.iface 86 (.ptr 1 0)), .obj (.alloc x)]
    | .drop x => [exActC a (.iface 96 (.ptr 1 0)), .obj (.drop x)]
    | .access x => [exActC a (.iface 76 (.ptr 1 0)), .obj (.access x)]
  | .move x => match x.p with
    | none => [exMoveC x .nilp]
    | some p => [exMoveC x (.ptr 1 0), .obj (.place p)]
  | .adv x => [exAdvC x]
  | .settle x => [exSettleC x]
  | .comp x cap => match x.seen with
    | none => match x.m with
      | none => match x.a with
        | none => match x.s with
          | none => [exCompC x .nils .nilp .nilp .nilp]
          | some t => [exCompC x .nils .nilp .nilp (.ptr 1 0), .obj (.settle t)]
        | some a => match x.s with
          | none => [exCompC x .nils .nilp (.ptr 1 0) .nilp, .obj (.adv a)]
          | some t => [exCompC x .nils .nilp (.ptr 1 0) (.ptr 2 0), .obj (.adv a), .obj (.settle t)]
      | some m => match x.a with
        | none => match x.s with
          | none => [exCompC x .nils (.ptr 1 0) .nilp .nilp, .obj (.move m)]
          | some t => [exCompC x .nils (.ptr 1 0) .nilp (.ptr 2 0), .obj (.move m), .obj (.settle t)]
        | some a => match x.s with
          | none => [exCompC x .nils (.ptr 1 0) (.ptr 2 0) .nilp, .obj (.move m), .obj (.adv a)]
          | some t => [exCompC x .nils (.ptr 1 0) (.ptr 2 0) (.ptr 3 0), .obj (.move m), .obj (.adv a), .obj (.settle t)]
    | some l => match x.m with
      | none => match x.a with
        | none => match x.s with
          | none => [exCompC x (.slice 1 0 l.len cap) .nilp .nilp .nilp, exSeenC l cap]
          | some t => [exCompC x (.slice 1 0 l.len cap) .nilp .nilp (.ptr 2 0), exSeenC l cap, .obj (.settle t)]
        | some a => match x.s with
          | none => [exCompC x (.slice 1 0 l.len cap) .nilp (.ptr 2 0) .nilp, exSeenC l cap, .obj (.adv a)]
          | some t => [exCompC x (.slice 1 0 l.len cap) .nilp (.ptr 2 0) (.ptr 3 0), exSeenC l cap, .obj (.adv a), .obj (.settle t)]
      | some m => match x.a with
        | none => match x.s with
          | none => [exCompC x (.slice 1 0 l.len cap) (.ptr 2 0) .nilp .nilp, exSeenC l cap, .obj (.move m)]
          | some t => [exCompC x (.slice 1 0 l.len cap) (.ptr 2 0) .nilp (.ptr 3 0), exSeenC l cap, .obj (.move m), .obj (.settle t)]
        | some a => match x.s with
          | none => [exCompC x (.slice 1 0 l.len cap) (.ptr 2 0) (.ptr 3 0) .nilp, exSeenC l cap, .obj (.move m), .obj (.adv a)]
          | some t => [exCompC x (.slice 1 0 l.len cap) (.ptr 2 0) (.ptr 3 0) (.ptr 4 0), exSeenC l cap, .obj (.move m), .obj (.adv a), .obj (.settle t)]

end Go.FL
