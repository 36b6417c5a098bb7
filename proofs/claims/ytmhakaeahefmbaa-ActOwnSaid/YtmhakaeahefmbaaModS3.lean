/-
  Steps of the program's objects, as the evaluator has them.
-/
import Derived.Test.YtmhakaeahefmbaaModP
import Derived.Test.YtmhakaeahefmbaaModM
import Derived.Test.YtmhakaeahefmbaaSh
import Derived.Test.YtmhakaeahefmbaaTw
import Derived.Test.YtmhakaeahefmbaaModS2
set_option linter.unusedVariables false
set_option linter.unusedSimpArgs false
set_option maxRecDepth 100000
namespace Go.FL

def actStep_allocK {R : Type} (bot : R) (tw : (Prop → Prop) → R → R) (c : PCfg) (who : Int) (x : PAct) (y : PAlloc) (m : PMem) (K : Bool → PAct → PMem → R) : R :=
  bif decide (x.pc = 0) then
   bif decide (x.in_.pc = 0) then
    K false ⟨⟨1, ((PMem.eLoad m who 0).fst)⟩, (x.pc), (.alloc (y)), ⟨(x.out.e), (x.out.h), (x.out.v), (x.out.st)⟩⟩ ((PMem.eLoad m who 0).snd)
   else
    bif decide (x.in_.pc = 1) then
     K false ⟨⟨2, (x.in_.epoch)⟩, (x.pc), (.alloc (y)), ⟨(x.out.e), (x.out.h), (x.out.v), (x.out.st)⟩⟩ (PMem.eStore m who (IntKind.wrap IntKind.i64 (6 + who)) (IntKind.wrap IntKind.u64 (x.in_.epoch + 1)))
    else
     bif decide ((PMem.eLoad m who 0).fst = x.in_.epoch) then
      K false ⟨⟨(x.in_.pc), (x.in_.epoch)⟩, 1, (.alloc (y)), ⟨(x.out.e), (x.out.h), (x.out.v), (x.out.st)⟩⟩ ((PMem.eLoad m who 0).snd)
     else
      K false ⟨⟨1, ((PMem.eLoad m who 0).fst)⟩, (x.pc), (.alloc (y)), ⟨(x.out.e), (x.out.h), (x.out.v), (x.out.st)⟩⟩ ((PMem.eLoad m who 0).snd)
  else
   bif decide (x.pc = 1) then
    bif (allocStep c who y m).fst then
     K false ⟨⟨(x.in_.pc), (x.in_.epoch)⟩, 2, (.alloc ((allocStep c who y m).snd.1)), ⟨((allocStep c who y m).snd.fst.out.e), ((allocStep c who y m).snd.fst.out.h), ((allocStep c who y m).snd.fst.out.v), ((allocStep c who y m).snd.fst.out.st)⟩⟩ ((allocStep c who y m).snd.snd)
    else
     K false ⟨⟨(x.in_.pc), (x.in_.epoch)⟩, (x.pc), (.alloc ((allocStep c who y m).snd.1)), ⟨(x.out.e), (x.out.h), (x.out.v), (x.out.st)⟩⟩ ((allocStep c who y m).snd.snd)
   else
    K true ⟨⟨(x.in_.pc), (x.in_.epoch)⟩, (x.pc), (.alloc (y)), ⟨(x.out.e), (x.out.h), (x.out.v), (x.out.st)⟩⟩ (PMem.eStore m who (IntKind.wrap IntKind.i64 (6 + who)) 0)

def actStep_alloc (c : PCfg) (who : Int) (x : PAct) (y : PAlloc) (m : PMem) : Bool × PAct × PMem := actStep_allocK (false, x, m) twV c who x y m fun r x m => (r, x, m)

theorem actStep_allocK_eq (c : PCfg) (who : Int) (x : PAct) (y : PAlloc) (m : PMem) (hc : c.words ≠ 0) (K : Bool → PAct → PMem → Prop) : actStep_allocK False twP c who x y m K = K (actStep_alloc c who x y m).1 (actStep_alloc c who x y m).2.1 (actStep_alloc c who x y m).2.2 := by
  show _ = app3 K (actStep_allocK (false, x, m) twV c who x y m fun r x m => (r, x, m))
  unfold actStep_allocK
  repeat' first
    | refine condH (decide_eq_false hc) ?_
    | refine cond3 ?_ ?_
    | refine tw3 (fun p => by simp only [and_self]) ?_
    | exact rfl

def actStep_dropK {R : Type} (bot : R) (tw : (Prop → Prop) → R → R) (c : PCfg) (who : Int) (x : PAct) (y : PDrop) (m : PMem) (K : Bool → PAct → PMem → R) : R :=
  bif decide (x.pc = 0) then
   bif decide (x.in_.pc = 0) then
    K false ⟨⟨1, ((PMem.eLoad m who 0).fst)⟩, (x.pc), (.drop (y)), ⟨(x.out.e), (x.out.h), (x.out.v), (x.out.st)⟩⟩ ((PMem.eLoad m who 0).snd)
   else
    bif decide (x.in_.pc = 1) then
     K false ⟨⟨2, (x.in_.epoch)⟩, (x.pc), (.drop (y)), ⟨(x.out.e), (x.out.h), (x.out.v), (x.out.st)⟩⟩ (PMem.eStore m who (IntKind.wrap IntKind.i64 (6 + who)) (IntKind.wrap IntKind.u64 (x.in_.epoch + 1)))
    else
     bif decide ((PMem.eLoad m who 0).fst = x.in_.epoch) then
      K false ⟨⟨(x.in_.pc), (x.in_.epoch)⟩, 1, (.drop (y)), ⟨(x.out.e), (x.out.h), (x.out.v), (x.out.st)⟩⟩ ((PMem.eLoad m who 0).snd)
     else
      K false ⟨⟨1, ((PMem.eLoad m who 0).fst)⟩, (x.pc), (.drop (y)), ⟨(x.out.e), (x.out.h), (x.out.v), (x.out.st)⟩⟩ ((PMem.eLoad m who 0).snd)
  else
   bif decide (x.pc = 1) then
    bif decide (c.words = 0) then
     bot
    else
     bif (dropStep c who y m).fst then
      K false ⟨⟨(x.in_.pc), (x.in_.epoch)⟩, 2, (.drop ((dropStep c who y m).snd.1)), ⟨((dropStep c who y m).snd.fst.out.e), ((dropStep c who y m).snd.fst.out.h), ((dropStep c who y m).snd.fst.out.v), ((dropStep c who y m).snd.fst.out.st)⟩⟩ ((dropStep c who y m).snd.snd)
     else
      K false ⟨⟨(x.in_.pc), (x.in_.epoch)⟩, (x.pc), (.drop ((dropStep c who y m).snd.1)), ⟨(x.out.e), (x.out.h), (x.out.v), (x.out.st)⟩⟩ ((dropStep c who y m).snd.snd)
   else
    K true ⟨⟨(x.in_.pc), (x.in_.epoch)⟩, (x.pc), (.drop (y)), ⟨(x.out.e), (x.out.h), (x.out.v), (x.out.st)⟩⟩ (PMem.eStore m who (IntKind.wrap IntKind.i64 (6 + who)) 0)

def actStep_drop (c : PCfg) (who : Int) (x : PAct) (y : PDrop) (m : PMem) : Bool × PAct × PMem := actStep_dropK (false, x, m) twV c who x y m fun r x m => (r, x, m)

theorem actStep_dropK_eq (c : PCfg) (who : Int) (x : PAct) (y : PDrop) (m : PMem) (hc : c.words ≠ 0) (K : Bool → PAct → PMem → Prop) : actStep_dropK False twP c who x y m K = K (actStep_drop c who x y m).1 (actStep_drop c who x y m).2.1 (actStep_drop c who x y m).2.2 := by
  show _ = app3 K (actStep_dropK (false, x, m) twV c who x y m fun r x m => (r, x, m))
  unfold actStep_dropK
  repeat' first
    | refine condH (decide_eq_false hc) ?_
    | refine cond3 ?_ ?_
    | refine tw3 (fun p => by simp only [and_self]) ?_
    | exact rfl

def actStep_accessK {R : Type} (bot : R) (tw : (Prop → Prop) → R → R) (c : PCfg) (who : Int) (x : PAct) (y : PAccess) (m : PMem) (K : Bool → PAct → PMem → R) : R :=
  bif decide (x.pc = 0) then
   bif decide (x.in_.pc = 0) then
    K false ⟨⟨1, ((PMem.eLoad m who 0).fst)⟩, (x.pc), (.access (y)), ⟨(x.out.e), (x.out.h), (x.out.v), (x.out.st)⟩⟩ ((PMem.eLoad m who 0).snd)
   else
    bif decide (x.in_.pc = 1) then
     K false ⟨⟨2, (x.in_.epoch)⟩, (x.pc), (.access (y)), ⟨(x.out.e), (x.out.h), (x.out.v), (x.out.st)⟩⟩ (PMem.eStore m who (IntKind.wrap IntKind.i64 (6 + who)) (IntKind.wrap IntKind.u64 (x.in_.epoch + 1)))
    else
     bif decide ((PMem.eLoad m who 0).fst = x.in_.epoch) then
      K false ⟨⟨(x.in_.pc), (x.in_.epoch)⟩, 1, (.access (y)), ⟨(x.out.e), (x.out.h), (x.out.v), (x.out.st)⟩⟩ ((PMem.eLoad m who 0).snd)
     else
      K false ⟨⟨1, ((PMem.eLoad m who 0).fst)⟩, (x.pc), (.access (y)), ⟨(x.out.e), (x.out.h), (x.out.v), (x.out.st)⟩⟩ ((PMem.eLoad m who 0).snd)
  else
   bif decide (x.pc = 1) then
    bif (accessStep c who y m).fst then
     K false ⟨⟨(x.in_.pc), (x.in_.epoch)⟩, 2, (.access ((accessStep c who y m).snd.1)), ⟨((accessStep c who y m).snd.fst.out.e), ((accessStep c who y m).snd.fst.out.h), ((accessStep c who y m).snd.fst.out.v), ((accessStep c who y m).snd.fst.out.st)⟩⟩ ((accessStep c who y m).snd.snd)
    else
     K false ⟨⟨(x.in_.pc), (x.in_.epoch)⟩, (x.pc), (.access ((accessStep c who y m).snd.1)), ⟨(x.out.e), (x.out.h), (x.out.v), (x.out.st)⟩⟩ ((accessStep c who y m).snd.snd)
   else
    K true ⟨⟨(x.in_.pc), (x.in_.epoch)⟩, (x.pc), (.access (y)), ⟨(x.out.e), (x.out.h), (x.out.v), (x.out.st)⟩⟩ (PMem.eStore m who (IntKind.wrap IntKind.i64 (6 + who)) 0)

def actStep_access (c : PCfg) (who : Int) (x : PAct) (y : PAccess) (m : PMem) : Bool × PAct × PMem := actStep_accessK (false, x, m) twV c who x y m fun r x m => (r, x, m)

theorem actStep_accessK_eq (c : PCfg) (who : Int) (x : PAct) (y : PAccess) (m : PMem) (hc : c.words ≠ 0) (K : Bool → PAct → PMem → Prop) : actStep_accessK False twP c who x y m K = K (actStep_access c who x y m).1 (actStep_access c who x y m).2.1 (actStep_access c who x y m).2.2 := by
  show _ = app3 K (actStep_accessK (false, x, m) twV c who x y m fun r x m => (r, x, m))
  unfold actStep_accessK
  repeat' first
    | refine condH (decide_eq_false hc) ?_
    | refine cond3 ?_ ?_
    | refine tw3 (fun p => by simp only [and_self]) ?_
    | exact rfl

def actStep (c : PCfg) (who : Int) (x : PAct) (m : PMem) : Bool × PAct × PMem := match x.work with
  | .alloc y => actStep_alloc c who x y m
  | .drop y => actStep_drop c who x y m
  | .access y => actStep_access c who x y m

end Go.FL
