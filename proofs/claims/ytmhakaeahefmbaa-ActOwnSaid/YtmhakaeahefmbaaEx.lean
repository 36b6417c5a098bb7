/-
  How the program's objects lie in memory: each as a few blocks, the first one its own; pointers go by the blocks' places in the list.
-/
import Derived.Test.YtmhakaeahefmbaaEv
namespace Go.FL

abbrev cI (n : Int) : LC := .int .i64 n
abbrev cU (n : Int) : LC := .int .u64 n

def exDone (d : PDone) (r : List LC) : List LC := cI d.e :: cU d.h :: cI d.v :: cI d.st :: r

def exMemC (m : PMem) (i j : Nat) : LB := .cells 71 [.slice i 0 m.n m.n, .slice j 0 m.n m.n, cI m.steps, cI m.who, cI m.la, cI m.lw, .bool m.lc]

def exPlaceC (p : PPlace) : LB := .cells 146 [cI p.cls, cI p.pc, cU p.opn, cI p.at_, cU p.w, cI p.sa, cI p.sc, .bool p.ok]

def exGiveC (g : PGive) : LB := .cells 153 [cI g.pc, cI g.slot, cU g.top]

def exInC (p : PIn) : LB := .cells 65 [cI p.pc, cU p.epoch]

def exHelpC (h : PHelp) : LB := .cells 164 [cI h.slot, cU h.w, cI h.size, cI h.i, cU h.cell, .bool h.read, .bool h.won]

def exAllocC (a : PAlloc) (p g : LC) : LB := .cells 102
  (cI a.size :: .bool a.own :: cI a.pc :: cI a.take.pc :: cU a.take.top :: cI a.take.next :: cI a.take.slot :: .bool a.take.ok :: cI a.at_ :: cI a.gen :: p :: cI a.sa :: cI a.sc :: g :: exDone a.out [])

def exDropC (d : PDrop) (h g : LC) : LB := .cells 107
  (cU d.n :: .bool d.own :: cI d.hs :: cI d.hg :: cI d.pc :: cU d.w :: cI d.size :: h :: g :: exDone d.out [])

def exAccessC (a : PAccess) (h : LC) : LB := .cells 109
  (cI a.x.kind :: cU a.x.handle :: cI a.x.index :: cI a.x.value :: cI a.x.old :: .bool a.own :: cI a.hs :: cI a.hg :: cI a.pc :: cU a.w :: cU a.cell :: cI a.seen :: cI a.read :: cI a.size :: h :: exDone a.out [])

def exActC (a : PAct) (w : LC) : LB := .cells 67 (cI a.in_.pc :: cU a.in_.epoch :: cI a.pc :: w :: exDone a.out [])

def ex : Ob → List LB
  | .mem m => [exMemC m 1 2, .ints 34 .u64 m.n m.w, .ints 3 .i64 m.n m.t]
  | .in_ p => [exInC p]
  | .give g => [exGiveC g]
  | .place p => [exPlaceC p]
  | .help h => [exHelpC h]
  | .alloc a => match a.p, a.give with
    | none, none => [exAllocC a .nilp .nilp]
    | some p, none => [exAllocC a (.ptr 1 0) .nilp, .obj (.place p)]
    | none, some g => [exAllocC a .nilp (.ptr 1 0), .obj (.give g)]
    | some p, some g => [exAllocC a (.ptr 1 0) (.ptr 2 0), .obj (.place p), .obj (.give g)]
  | .drop d => match d.help, d.give with
    | none, none => [exDropC d .nilp .nilp]
    | some h, none => [exDropC d (.ptr 1 0) .nilp, .obj (.help h)]
    | none, some g => [exDropC d .nilp (.ptr 1 0), .obj (.give g)]
    | some h, some g => [exDropC d (.ptr 1 0) (.ptr 2 0), .obj (.help h), .obj (.give g)]
  | .access a => match a.help with
    | none => [exAccessC a .nilp]
    | some h => [exAccessC a (.ptr 1 0), .obj (.help h)]
  | .act a => match a.work with
    | .alloc x => [exActC a (.iface 83 (.ptr 1 0)), .obj (.alloc x)]
    | .drop x => [exActC a (.iface 85 (.ptr 1 0)), .obj (.drop x)]
    | .access x => [exActC a (.iface 87 (.ptr 1 0)), .obj (.access x)]
  | _ => []

end Go.FL
