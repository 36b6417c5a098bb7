/-
  Steps of the program's objects, as the evaluator has them.
-/
import Derived.Test.YtfjnkneoddankaaGreatModP
import Derived.Test.YtfjnkneoddankaaGreatModM
import Derived.Test.YtfjnkneoddankaaGreatSh4
import Derived.Test.YtfjnkneoddankaaGreatTw
import Derived.Test.YtfjnkneoddankaaGreatModS2
set_option linter.unusedVariables false
set_option linter.unusedSimpArgs false
set_option maxRecDepth 100000
namespace Go.FL

def moveStep0K {R : Type} (bot : R) (tw : (Prop → Prop) → R → R) (c : PCfg) (who : Int) (x : PMove) (m : PMem) (K : Bool → PMove → PMem → R) : R :=
  bif decide (x.pc = 0) then
   bif decide ((slotOf (PMem.eLoad m who (lSlot c.threads c.slots c.chunks c.words c.gens c.sparse c.tries x.head.slot)).fst).fst = 4) then
    bif decide ((slotOf (PMem.eLoad m who (lSlot c.threads c.slots c.chunks c.words c.gens c.sparse c.tries x.head.slot)).fst).snd.snd.fst = x.head.gen) then
     bif decide ((slotOf (PMem.eLoad m who (lSlot c.threads c.slots c.chunks c.words c.gens c.sparse c.tries x.head.slot)).fst).snd.fst = x.addr) then
      bif x.got then
       K (!x.got) ⟨(x.addr), ⟨(x.head.kind), (x.head.size), (x.head.slot), (x.head.gen), (x.head.own)⟩, 11, ((PMem.eLoad m who (lSlot c.threads c.slots c.chunks c.words c.gens c.sparse c.tries x.head.slot)).fst), none, (x.sa), (x.sc), (x.got), (x.i), (x.cell), (x.n), 3⟩ ((PMem.eLoad m who (lSlot c.threads c.slots c.chunks c.words c.gens c.sparse c.tries x.head.slot)).snd)
      else
       K (!x.got) ⟨(x.addr), ⟨(x.head.kind), (x.head.size), (x.head.slot), (x.head.gen), (x.head.own)⟩, (x.pc), ((PMem.eLoad m who (lSlot c.threads c.slots c.chunks c.words c.gens c.sparse c.tries x.head.slot)).fst), none, (x.sa), (x.sc), (x.got), (x.i), (x.cell), (x.n), 3⟩ ((PMem.eLoad m who (lSlot c.threads c.slots c.chunks c.words c.gens c.sparse c.tries x.head.slot)).snd)
     else
      bif !decide ((slotOf (PMem.eLoad m who (lSlot c.threads c.slots c.chunks c.words c.gens c.sparse c.tries x.head.slot)).fst).fst = 1) then
       bif x.got then
        K (!x.got) ⟨(x.addr), ⟨(x.head.kind), (x.head.size), (x.head.slot), (x.head.gen), (x.head.own)⟩, 11, ((PMem.eLoad m who (lSlot c.threads c.slots c.chunks c.words c.gens c.sparse c.tries x.head.slot)).fst), none, (x.sa), (x.sc), (x.got), (x.i), (x.cell), (x.n), 2⟩ ((PMem.eLoad m who (lSlot c.threads c.slots c.chunks c.words c.gens c.sparse c.tries x.head.slot)).snd)
       else
        K (!x.got) ⟨(x.addr), ⟨(x.head.kind), (x.head.size), (x.head.slot), (x.head.gen), (x.head.own)⟩, (x.pc), ((PMem.eLoad m who (lSlot c.threads c.slots c.chunks c.words c.gens c.sparse c.tries x.head.slot)).fst), none, (x.sa), (x.sc), (x.got), (x.i), (x.cell), (x.n), 2⟩ ((PMem.eLoad m who (lSlot c.threads c.slots c.chunks c.words c.gens c.sparse c.tries x.head.slot)).snd)
      else
       bif !decide ((slotOf (PMem.eLoad m who (lSlot c.threads c.slots c.chunks c.words c.gens c.sparse c.tries x.head.slot)).fst).snd.snd.fst = x.head.gen) then
        bif x.got then
         K (!x.got) ⟨(x.addr), ⟨(x.head.kind), (x.head.size), (x.head.slot), (x.head.gen), (x.head.own)⟩, 11, ((PMem.eLoad m who (lSlot c.threads c.slots c.chunks c.words c.gens c.sparse c.tries x.head.slot)).fst), none, (x.sa), (x.sc), (x.got), (x.i), (x.cell), (x.n), 2⟩ ((PMem.eLoad m who (lSlot c.threads c.slots c.chunks c.words c.gens c.sparse c.tries x.head.slot)).snd)
        else
         K (!x.got) ⟨(x.addr), ⟨(x.head.kind), (x.head.size), (x.head.slot), (x.head.gen), (x.head.own)⟩, (x.pc), ((PMem.eLoad m who (lSlot c.threads c.slots c.chunks c.words c.gens c.sparse c.tries x.head.slot)).fst), none, (x.sa), (x.sc), (x.got), (x.i), (x.cell), (x.n), 2⟩ ((PMem.eLoad m who (lSlot c.threads c.slots c.chunks c.words c.gens c.sparse c.tries x.head.slot)).snd)
       else
        bif !decide ((slotOf (PMem.eLoad m who (lSlot c.threads c.slots c.chunks c.words c.gens c.sparse c.tries x.head.slot)).fst).snd.fst = x.addr) then
         bif x.got then
          K (!x.got) ⟨(x.addr), ⟨(x.head.kind), (x.head.size), (x.head.slot), (x.head.gen), (x.head.own)⟩, 11, ((PMem.eLoad m who (lSlot c.threads c.slots c.chunks c.words c.gens c.sparse c.tries x.head.slot)).fst), none, (x.sa), (x.sc), (x.got), (x.i), (x.cell), (x.n), 2⟩ ((PMem.eLoad m who (lSlot c.threads c.slots c.chunks c.words c.gens c.sparse c.tries x.head.slot)).snd)
         else
          K (!x.got) ⟨(x.addr), ⟨(x.head.kind), (x.head.size), (x.head.slot), (x.head.gen), (x.head.own)⟩, (x.pc), ((PMem.eLoad m who (lSlot c.threads c.slots c.chunks c.words c.gens c.sparse c.tries x.head.slot)).fst), none, (x.sa), (x.sc), (x.got), (x.i), (x.cell), (x.n), 2⟩ ((PMem.eLoad m who (lSlot c.threads c.slots c.chunks c.words c.gens c.sparse c.tries x.head.slot)).snd)
        else
         bif decide (4194302 ≤ (slotOf (PMem.eLoad m who (lSlot c.threads c.slots c.chunks c.words c.gens c.sparse c.tries x.head.slot)).fst).snd.snd.snd) then
          bif x.got then
           K (!x.got) ⟨(x.addr), ⟨(x.head.kind), (x.head.size), (x.head.slot), (x.head.gen), (x.head.own)⟩, 11, ((PMem.eLoad m who (lSlot c.threads c.slots c.chunks c.words c.gens c.sparse c.tries x.head.slot)).fst), none, (x.sa), (x.sc), (x.got), (x.i), (x.cell), (x.n), 3⟩ ((PMem.eLoad m who (lSlot c.threads c.slots c.chunks c.words c.gens c.sparse c.tries x.head.slot)).snd)
          else
           K (!x.got) ⟨(x.addr), ⟨(x.head.kind), (x.head.size), (x.head.slot), (x.head.gen), (x.head.own)⟩, (x.pc), ((PMem.eLoad m who (lSlot c.threads c.slots c.chunks c.words c.gens c.sparse c.tries x.head.slot)).fst), none, (x.sa), (x.sc), (x.got), (x.i), (x.cell), (x.n), 3⟩ ((PMem.eLoad m who (lSlot c.threads c.slots c.chunks c.words c.gens c.sparse c.tries x.head.slot)).snd)
         else
          bif x.got then
           K false ⟨(x.addr), ⟨(x.head.kind), (x.head.size), (x.head.slot), (x.head.gen), (x.head.own)⟩, 3, ((PMem.eLoad m who (lSlot c.threads c.slots c.chunks c.words c.gens c.sparse c.tries x.head.slot)).fst), none, (x.sa), (x.sc), (x.got), (x.i), (x.cell), (x.n), (x.out)⟩ ((PMem.eLoad m who (lSlot c.threads c.slots c.chunks c.words c.gens c.sparse c.tries x.head.slot)).snd)
          else
           K false ⟨(x.addr), ⟨(x.head.kind), (x.head.size), (x.head.slot), (x.head.gen), (x.head.own)⟩, 1, ((PMem.eLoad m who (lSlot c.threads c.slots c.chunks c.words c.gens c.sparse c.tries x.head.slot)).fst), (some ⟨(lClass x.head.size), 0, 0, 0, 0, 0, 0, false⟩), (x.sa), (x.sc), (x.got), (x.i), (x.cell), (x.n), (x.out)⟩ ((PMem.eLoad m who (lSlot c.threads c.slots c.chunks c.words c.gens c.sparse c.tries x.head.slot)).snd)
    else
     bif !decide ((slotOf (PMem.eLoad m who (lSlot c.threads c.slots c.chunks c.words c.gens c.sparse c.tries x.head.slot)).fst).fst = 1) then
      bif x.got then
       K (!x.got) ⟨(x.addr), ⟨(x.head.kind), (x.head.size), (x.head.slot), (x.head.gen), (x.head.own)⟩, 11, ((PMem.eLoad m who (lSlot c.threads c.slots c.chunks c.words c.gens c.sparse c.tries x.head.slot)).fst), none, (x.sa), (x.sc), (x.got), (x.i), (x.cell), (x.n), 2⟩ ((PMem.eLoad m who (lSlot c.threads c.slots c.chunks c.words c.gens c.sparse c.tries x.head.slot)).snd)
      else
       K (!x.got) ⟨(x.addr), ⟨(x.head.kind), (x.head.size), (x.head.slot), (x.head.gen), (x.head.own)⟩, (x.pc), ((PMem.eLoad m who (lSlot c.threads c.slots c.chunks c.words c.gens c.sparse c.tries x.head.slot)).fst), none, (x.sa), (x.sc), (x.got), (x.i), (x.cell), (x.n), 2⟩ ((PMem.eLoad m who (lSlot c.threads c.slots c.chunks c.words c.gens c.sparse c.tries x.head.slot)).snd)
     else
      bif !decide ((slotOf (PMem.eLoad m who (lSlot c.threads c.slots c.chunks c.words c.gens c.sparse c.tries x.head.slot)).fst).snd.snd.fst = x.head.gen) then
       bif x.got then
        K (!x.got) ⟨(x.addr), ⟨(x.head.kind), (x.head.size), (x.head.slot), (x.head.gen), (x.head.own)⟩, 11, ((PMem.eLoad m who (lSlot c.threads c.slots c.chunks c.words c.gens c.sparse c.tries x.head.slot)).fst), none, (x.sa), (x.sc), (x.got), (x.i), (x.cell), (x.n), 2⟩ ((PMem.eLoad m who (lSlot c.threads c.slots c.chunks c.words c.gens c.sparse c.tries x.head.slot)).snd)
       else
        K (!x.got) ⟨(x.addr), ⟨(x.head.kind), (x.head.size), (x.head.slot), (x.head.gen), (x.head.own)⟩, (x.pc), ((PMem.eLoad m who (lSlot c.threads c.slots c.chunks c.words c.gens c.sparse c.tries x.head.slot)).fst), none, (x.sa), (x.sc), (x.got), (x.i), (x.cell), (x.n), 2⟩ ((PMem.eLoad m who (lSlot c.threads c.slots c.chunks c.words c.gens c.sparse c.tries x.head.slot)).snd)
      else
       bif !decide ((slotOf (PMem.eLoad m who (lSlot c.threads c.slots c.chunks c.words c.gens c.sparse c.tries x.head.slot)).fst).snd.fst = x.addr) then
        bif x.got then
         K (!x.got) ⟨(x.addr), ⟨(x.head.kind), (x.head.size), (x.head.slot), (x.head.gen), (x.head.own)⟩, 11, ((PMem.eLoad m who (lSlot c.threads c.slots c.chunks c.words c.gens c.sparse c.tries x.head.slot)).fst), none, (x.sa), (x.sc), (x.got), (x.i), (x.cell), (x.n), 2⟩ ((PMem.eLoad m who (lSlot c.threads c.slots c.chunks c.words c.gens c.sparse c.tries x.head.slot)).snd)
        else
         K (!x.got) ⟨(x.addr), ⟨(x.head.kind), (x.head.size), (x.head.slot), (x.head.gen), (x.head.own)⟩, (x.pc), ((PMem.eLoad m who (lSlot c.threads c.slots c.chunks c.words c.gens c.sparse c.tries x.head.slot)).fst), none, (x.sa), (x.sc), (x.got), (x.i), (x.cell), (x.n), 2⟩ ((PMem.eLoad m who (lSlot c.threads c.slots c.chunks c.words c.gens c.sparse c.tries x.head.slot)).snd)
       else
        bif decide (4194302 ≤ (slotOf (PMem.eLoad m who (lSlot c.threads c.slots c.chunks c.words c.gens c.sparse c.tries x.head.slot)).fst).snd.snd.snd) then
         bif x.got then
          K (!x.got) ⟨(x.addr), ⟨(x.head.kind), (x.head.size), (x.head.slot), (x.head.gen), (x.head.own)⟩, 11, ((PMem.eLoad m who (lSlot c.threads c.slots c.chunks c.words c.gens c.sparse c.tries x.head.slot)).fst), none, (x.sa), (x.sc), (x.got), (x.i), (x.cell), (x.n), 3⟩ ((PMem.eLoad m who (lSlot c.threads c.slots c.chunks c.words c.gens c.sparse c.tries x.head.slot)).snd)
         else
          K (!x.got) ⟨(x.addr), ⟨(x.head.kind), (x.head.size), (x.head.slot), (x.head.gen), (x.head.own)⟩, (x.pc), ((PMem.eLoad m who (lSlot c.threads c.slots c.chunks c.words c.gens c.sparse c.tries x.head.slot)).fst), none, (x.sa), (x.sc), (x.got), (x.i), (x.cell), (x.n), 3⟩ ((PMem.eLoad m who (lSlot c.threads c.slots c.chunks c.words c.gens c.sparse c.tries x.head.slot)).snd)
        else
         bif x.got then
          K false ⟨(x.addr), ⟨(x.head.kind), (x.head.size), (x.head.slot), (x.head.gen), (x.head.own)⟩, 3, ((PMem.eLoad m who (lSlot c.threads c.slots c.chunks c.words c.gens c.sparse c.tries x.head.slot)).fst), none, (x.sa), (x.sc), (x.got), (x.i), (x.cell), (x.n), (x.out)⟩ ((PMem.eLoad m who (lSlot c.threads c.slots c.chunks c.words c.gens c.sparse c.tries x.head.slot)).snd)
         else
          K false ⟨(x.addr), ⟨(x.head.kind), (x.head.size), (x.head.slot), (x.head.gen), (x.head.own)⟩, 1, ((PMem.eLoad m who (lSlot c.threads c.slots c.chunks c.words c.gens c.sparse c.tries x.head.slot)).fst), (some ⟨(lClass x.head.size), 0, 0, 0, 0, 0, 0, false⟩), (x.sa), (x.sc), (x.got), (x.i), (x.cell), (x.n), (x.out)⟩ ((PMem.eLoad m who (lSlot c.threads c.slots c.chunks c.words c.gens c.sparse c.tries x.head.slot)).snd)
   else
    bif !decide ((slotOf (PMem.eLoad m who (lSlot c.threads c.slots c.chunks c.words c.gens c.sparse c.tries x.head.slot)).fst).fst = 1) then
     bif x.got then
      K (!x.got) ⟨(x.addr), ⟨(x.head.kind), (x.head.size), (x.head.slot), (x.head.gen), (x.head.own)⟩, 11, ((PMem.eLoad m who (lSlot c.threads c.slots c.chunks c.words c.gens c.sparse c.tries x.head.slot)).fst), none, (x.sa), (x.sc), (x.got), (x.i), (x.cell), (x.n), 2⟩ ((PMem.eLoad m who (lSlot c.threads c.slots c.chunks c.words c.gens c.sparse c.tries x.head.slot)).snd)
     else
      K (!x.got) ⟨(x.addr), ⟨(x.head.kind), (x.head.size), (x.head.slot), (x.head.gen), (x.head.own)⟩, (x.pc), ((PMem.eLoad m who (lSlot c.threads c.slots c.chunks c.words c.gens c.sparse c.tries x.head.slot)).fst), none, (x.sa), (x.sc), (x.got), (x.i), (x.cell), (x.n), 2⟩ ((PMem.eLoad m who (lSlot c.threads c.slots c.chunks c.words c.gens c.sparse c.tries x.head.slot)).snd)
    else
     bif !decide ((slotOf (PMem.eLoad m who (lSlot c.threads c.slots c.chunks c.words c.gens c.sparse c.tries x.head.slot)).fst).snd.snd.fst = x.head.gen) then
      bif x.got then
       K (!x.got) ⟨(x.addr), ⟨(x.head.kind), (x.head.size), (x.head.slot), (x.head.gen), (x.head.own)⟩, 11, ((PMem.eLoad m who (lSlot c.threads c.slots c.chunks c.words c.gens c.sparse c.tries x.head.slot)).fst), none, (x.sa), (x.sc), (x.got), (x.i), (x.cell), (x.n), 2⟩ ((PMem.eLoad m who (lSlot c.threads c.slots c.chunks c.words c.gens c.sparse c.tries x.head.slot)).snd)
      else
       K (!x.got) ⟨(x.addr), ⟨(x.head.kind), (x.head.size), (x.head.slot), (x.head.gen), (x.head.own)⟩, (x.pc), ((PMem.eLoad m who (lSlot c.threads c.slots c.chunks c.words c.gens c.sparse c.tries x.head.slot)).fst), none, (x.sa), (x.sc), (x.got), (x.i), (x.cell), (x.n), 2⟩ ((PMem.eLoad m who (lSlot c.threads c.slots c.chunks c.words c.gens c.sparse c.tries x.head.slot)).snd)
     else
      bif !decide ((slotOf (PMem.eLoad m who (lSlot c.threads c.slots c.chunks c.words c.gens c.sparse c.tries x.head.slot)).fst).snd.fst = x.addr) then
       bif x.got then
        K (!x.got) ⟨(x.addr), ⟨(x.head.kind), (x.head.size), (x.head.slot), (x.head.gen), (x.head.own)⟩, 11, ((PMem.eLoad m who (lSlot c.threads c.slots c.chunks c.words c.gens c.sparse c.tries x.head.slot)).fst), none, (x.sa), (x.sc), (x.got), (x.i), (x.cell), (x.n), 2⟩ ((PMem.eLoad m who (lSlot c.threads c.slots c.chunks c.words c.gens c.sparse c.tries x.head.slot)).snd)
       else
        K (!x.got) ⟨(x.addr), ⟨(x.head.kind), (x.head.size), (x.head.slot), (x.head.gen), (x.head.own)⟩, (x.pc), ((PMem.eLoad m who (lSlot c.threads c.slots c.chunks c.words c.gens c.sparse c.tries x.head.slot)).fst), none, (x.sa), (x.sc), (x.got), (x.i), (x.cell), (x.n), 2⟩ ((PMem.eLoad m who (lSlot c.threads c.slots c.chunks c.words c.gens c.sparse c.tries x.head.slot)).snd)
      else
       bif decide (4194302 ≤ (slotOf (PMem.eLoad m who (lSlot c.threads c.slots c.chunks c.words c.gens c.sparse c.tries x.head.slot)).fst).snd.snd.snd) then
        bif x.got then
         K (!x.got) ⟨(x.addr), ⟨(x.head.kind), (x.head.size), (x.head.slot), (x.head.gen), (x.head.own)⟩, 11, ((PMem.eLoad m who (lSlot c.threads c.slots c.chunks c.words c.gens c.sparse c.tries x.head.slot)).fst), none, (x.sa), (x.sc), (x.got), (x.i), (x.cell), (x.n), 3⟩ ((PMem.eLoad m who (lSlot c.threads c.slots c.chunks c.words c.gens c.sparse c.tries x.head.slot)).snd)
        else
         K (!x.got) ⟨(x.addr), ⟨(x.head.kind), (x.head.size), (x.head.slot), (x.head.gen), (x.head.own)⟩, (x.pc), ((PMem.eLoad m who (lSlot c.threads c.slots c.chunks c.words c.gens c.sparse c.tries x.head.slot)).fst), none, (x.sa), (x.sc), (x.got), (x.i), (x.cell), (x.n), 3⟩ ((PMem.eLoad m who (lSlot c.threads c.slots c.chunks c.words c.gens c.sparse c.tries x.head.slot)).snd)
       else
        bif x.got then
         K false ⟨(x.addr), ⟨(x.head.kind), (x.head.size), (x.head.slot), (x.head.gen), (x.head.own)⟩, 3, ((PMem.eLoad m who (lSlot c.threads c.slots c.chunks c.words c.gens c.sparse c.tries x.head.slot)).fst), none, (x.sa), (x.sc), (x.got), (x.i), (x.cell), (x.n), (x.out)⟩ ((PMem.eLoad m who (lSlot c.threads c.slots c.chunks c.words c.gens c.sparse c.tries x.head.slot)).snd)
        else
         K false ⟨(x.addr), ⟨(x.head.kind), (x.head.size), (x.head.slot), (x.head.gen), (x.head.own)⟩, 1, ((PMem.eLoad m who (lSlot c.threads c.slots c.chunks c.words c.gens c.sparse c.tries x.head.slot)).fst), (some ⟨(lClass x.head.size), 0, 0, 0, 0, 0, 0, false⟩), (x.sa), (x.sc), (x.got), (x.i), (x.cell), (x.n), (x.out)⟩ ((PMem.eLoad m who (lSlot c.threads c.slots c.chunks c.words c.gens c.sparse c.tries x.head.slot)).snd)
  else
   bif decide (x.pc = 1) then
    K false ⟨(x.addr), ⟨(x.head.kind), (x.head.size), (x.head.slot), (x.head.gen), (x.head.own)⟩, (x.pc), (x.w), none, (x.sa), (x.sc), (x.got), (x.i), (x.cell), (x.n), (x.out)⟩ (m)
   else
    bif decide (x.pc = 2) then
     K false ⟨(x.addr), ⟨(x.head.kind), (x.head.size), (x.head.slot), (x.head.gen), (x.head.own)⟩, 3, (x.w), none, (x.sa), (x.sc), (x.got), (x.i), (x.cell), (x.n), (x.out)⟩ (PMem.eStore m who x.sa (putHead 1 x.head.size x.head.slot x.head.gen x.head.own))
    else
     bif decide (x.pc = 3) then
      bif (PMem.eCas m who (lSlot c.threads c.slots c.chunks c.words c.gens c.sparse c.tries x.head.slot) x.w (putSlot 2 x.addr (slotOf x.w).snd.snd.fst (wrI ((slotOf x.w).snd.snd.snd + 0)))).fst then
       K false ⟨(x.addr), ⟨(x.head.kind), (x.head.size), (x.head.slot), (x.head.gen), (x.head.own)⟩, 4, (x.w), none, (x.sa), (x.sc), (x.got), 0, (x.cell), (x.n), (x.out)⟩ ((PMem.eCas m who (lSlot c.threads c.slots c.chunks c.words c.gens c.sparse c.tries x.head.slot) x.w (putSlot 2 x.addr (slotOf x.w).snd.snd.fst (wrI ((slotOf x.w).snd.snd.snd + 0)))).snd)
      else
       K false ⟨(x.addr), ⟨(x.head.kind), (x.head.size), (x.head.slot), (x.head.gen), (x.head.own)⟩, 0, (x.w), none, (x.sa), (x.sc), (x.got), 0, (x.cell), (x.n), (x.out)⟩ ((PMem.eCas m who (lSlot c.threads c.slots c.chunks c.words c.gens c.sparse c.tries x.head.slot) x.w (putSlot 2 x.addr (slotOf x.w).snd.snd.fst (wrI ((slotOf x.w).snd.snd.snd + 0)))).snd)
     else
      bif decide (x.pc = 4) then
       bif (cellOf (PMem.eLoad m who (wrI (wrI (x.addr + 1) + x.i))).fst).snd.fst then
        bif decide ((cellOf (PMem.eLoad m who (wrI (wrI (x.addr + 1) + x.i))).fst).snd.snd = (slotOf x.w).snd.snd.snd) then
         K false ⟨(x.addr), ⟨(x.head.kind), (x.head.size), (x.head.slot), (x.head.gen), (x.head.own)⟩, 6, (x.w), none, (x.sa), (x.sc), (x.got), (x.i), ((PMem.eLoad m who (wrI (wrI (x.addr + 1) + x.i))).fst), (x.n), (x.out)⟩ ((PMem.eLoad m who (wrI (wrI (x.addr + 1) + x.i))).snd)
        else
         K false ⟨(x.addr), ⟨(x.head.kind), (x.head.size), (x.head.slot), (x.head.gen), (x.head.own)⟩, 5, (x.w), none, (x.sa), (x.sc), (x.got), (x.i), ((PMem.eLoad m who (wrI (wrI (x.addr + 1) + x.i))).fst), (x.n), (x.out)⟩ ((PMem.eLoad m who (wrI (wrI (x.addr + 1) + x.i))).snd)
       else
        K false ⟨(x.addr), ⟨(x.head.kind), (x.head.size), (x.head.slot), (x.head.gen), (x.head.own)⟩, 5, (x.w), none, (x.sa), (x.sc), (x.got), (x.i), ((PMem.eLoad m who (wrI (wrI (x.addr + 1) + x.i))).fst), (x.n), (x.out)⟩ ((PMem.eLoad m who (wrI (wrI (x.addr + 1) + x.i))).snd)
      else
       bif decide (x.pc = 5) then
        tw (fun p => ((p ∧ p) ∧ p)) (
         bif (PMem.eCas m who (wrI (wrI (x.addr + 1) + x.i)) x.cell (putCell (cellOf x.cell).fst true (slotOf x.w).snd.snd.snd)).fst then
          K false ⟨(x.addr), ⟨(x.head.kind), (x.head.size), (x.head.slot), (x.head.gen), (x.head.own)⟩, 6, (x.w), none, (x.sa), (x.sc), (x.got), (x.i), (x.cell), (x.n), (x.out)⟩ ((PMem.eCas m who (wrI (wrI (x.addr + 1) + x.i)) x.cell (putCell (cellOf x.cell).fst true (slotOf x.w).snd.snd.snd)).snd)
         else
          K false ⟨(x.addr), ⟨(x.head.kind), (x.head.size), (x.head.slot), (x.head.gen), (x.head.own)⟩, 4, (x.w), none, (x.sa), (x.sc), (x.got), (x.i), (x.cell), (x.n), (x.out)⟩ ((PMem.eCas m who (wrI (wrI (x.addr + 1) + x.i)) x.cell (putCell (cellOf x.cell).fst true (slotOf x.w).snd.snd.snd)).snd))
       else
        bif decide (x.pc = 6) then
         bif decide (x.head.size ≤ wrI (x.i + 1)) then
          K false ⟨(x.addr), ⟨(x.head.kind), (x.head.size), (x.head.slot), (x.head.gen), (x.head.own)⟩, 7, (x.w), none, (x.sa), (x.sc), (x.got), (wrI (x.i + 1)), (x.cell), (x.n), (x.out)⟩ (PMem.eStore m who (wrI (wrI (x.sa + 1) + x.i)) (putCell (cellOf x.cell).fst false 0))
         else
          K false ⟨(x.addr), ⟨(x.head.kind), (x.head.size), (x.head.slot), (x.head.gen), (x.head.own)⟩, 4, (x.w), none, (x.sa), (x.sc), (x.got), (wrI (x.i + 1)), (x.cell), (x.n), (x.out)⟩ (PMem.eStore m who (wrI (wrI (x.sa + 1) + x.i)) (putCell (cellOf x.cell).fst false 0))
        else
         bif decide (x.pc = 7) then
          bif (PMem.eCas m who (lSlot c.threads c.slots c.chunks c.words c.gens c.sparse c.tries x.head.slot) (putSlot 2 x.addr (slotOf x.w).snd.snd.fst (wrI ((slotOf x.w).snd.snd.snd + 0))) (putSlot 1 x.sa (slotOf x.w).snd.snd.fst (wrI ((slotOf x.w).snd.snd.snd + 1)))).fst then
           K false ⟨(x.addr), ⟨(x.head.kind), (x.head.size), (x.head.slot), (x.head.gen), (x.head.own)⟩, 8, (x.w), none, (x.sa), (x.sc), (x.got), (x.i), (x.cell), (x.n), (x.out)⟩ ((PMem.eCas m who (lSlot c.threads c.slots c.chunks c.words c.gens c.sparse c.tries x.head.slot) (putSlot 2 x.addr (slotOf x.w).snd.snd.fst (wrI ((slotOf x.w).snd.snd.snd + 0))) (putSlot 1 x.sa (slotOf x.w).snd.snd.fst (wrI ((slotOf x.w).snd.snd.snd + 1)))).snd)
          else
           bif decide (c.tries ≤ wrI (x.n + 1)) then
            bif x.got then
             K (!x.got) ⟨(x.addr), ⟨(x.head.kind), (x.head.size), (x.head.slot), (x.head.gen), (x.head.own)⟩, 11, (x.w), none, (x.sa), (x.sc), (x.got), (x.i), (x.cell), (wrI (x.n + 1)), 3⟩ ((PMem.eCas m who (lSlot c.threads c.slots c.chunks c.words c.gens c.sparse c.tries x.head.slot) (putSlot 2 x.addr (slotOf x.w).snd.snd.fst (wrI ((slotOf x.w).snd.snd.snd + 0))) (putSlot 1 x.sa (slotOf x.w).snd.snd.fst (wrI ((slotOf x.w).snd.snd.snd + 1)))).snd)
            else
             K (!x.got) ⟨(x.addr), ⟨(x.head.kind), (x.head.size), (x.head.slot), (x.head.gen), (x.head.own)⟩, 0, (x.w), none, (x.sa), (x.sc), (x.got), (x.i), (x.cell), (wrI (x.n + 1)), 3⟩ ((PMem.eCas m who (lSlot c.threads c.slots c.chunks c.words c.gens c.sparse c.tries x.head.slot) (putSlot 2 x.addr (slotOf x.w).snd.snd.fst (wrI ((slotOf x.w).snd.snd.snd + 0))) (putSlot 1 x.sa (slotOf x.w).snd.snd.fst (wrI ((slotOf x.w).snd.snd.snd + 1)))).snd)
           else
            K false ⟨(x.addr), ⟨(x.head.kind), (x.head.size), (x.head.slot), (x.head.gen), (x.head.own)⟩, 0, (x.w), none, (x.sa), (x.sc), (x.got), (x.i), (x.cell), (wrI (x.n + 1)), (x.out)⟩ ((PMem.eCas m who (lSlot c.threads c.slots c.chunks c.words c.gens c.sparse c.tries x.head.slot) (putSlot 2 x.addr (slotOf x.w).snd.snd.fst (wrI ((slotOf x.w).snd.snd.snd + 0))) (putSlot 1 x.sa (slotOf x.w).snd.snd.fst (wrI ((slotOf x.w).snd.snd.snd + 1)))).snd)
         else
          bif decide (x.pc = 8) then
           K false ⟨(x.addr), ⟨(x.head.kind), (x.head.size), (x.head.slot), (x.head.gen), (x.head.own)⟩, 9, (x.w), none, (x.sa), (x.sc), (x.got), (x.i), (x.cell), (x.n), (x.out)⟩ (PMem.eStore m who x.sa (putHead 2 x.head.size x.head.slot x.head.gen x.head.own))
          else
           bif decide (x.pc = 9) then
            K false ⟨(x.addr), ⟨(x.head.kind), (x.head.size), (x.head.slot), (x.head.gen), (x.head.own)⟩, 10, (x.w), none, (x.sa), (x.sc), (x.got), (x.i), (x.cell), (x.n), (x.out)⟩ (PMem.eAdd m who (wrI (lChunk c.threads c.slots c.chunks c.words c.gens c.sparse c.tries x.sc + 1)) (lRoom (lClass x.head.size)))
           else
            bif decide (x.pc = 10) then
             bif decide (c.words = 0) then
              bot
             else
              K true ⟨(x.addr), ⟨(x.head.kind), (x.head.size), (x.head.slot), (x.head.gen), (x.head.own)⟩, (x.pc), (x.w), none, (x.sa), (x.sc), (x.got), (x.i), (x.cell), (x.n), 1⟩ (PMem.eAdd m who (wrI (lChunk c.threads c.slots c.chunks c.words c.gens c.sparse c.tries (lOf c.threads c.slots c.chunks c.words c.gens c.sparse c.tries x.addr) + 1)) (wrI (0 - lRoom (lClass x.head.size))))
            else
             K true ⟨(x.addr), ⟨(x.head.kind), (x.head.size), (x.head.slot), (x.head.gen), (x.head.own)⟩, (x.pc), (x.w), none, (x.sa), (x.sc), (x.got), (x.i), (x.cell), (x.n), (x.out)⟩ (PMem.eStore m who x.sa (putHead 3 x.head.size x.head.slot x.head.gen x.head.own))

def moveStep0 (c : PCfg) (who : Int) (x : PMove) (m : PMem) : Bool × PMove × PMem := moveStep0K (false, x, m) twV c who x m fun r x m => (r, x, m)

theorem moveStep0K_eq (c : PCfg) (who : Int) (x : PMove) (m : PMem) (hc : c.words ≠ 0) (K : Bool → PMove → PMem → Prop) : moveStep0K False twP c who x m K = K (moveStep0 c who x m).1 (moveStep0 c who x m).2.1 (moveStep0 c who x m).2.2 := by
  show _ = app3 K (moveStep0K (false, x, m) twV c who x m fun r x m => (r, x, m))
  unfold moveStep0K
  repeat' first
    | refine condH (decide_eq_false hc) ?_
    | refine cond3 ?_ ?_
    | refine tw3 (fun p => by simp only [and_self]) ?_
    | exact rfl

def moveStep1K {R : Type} (bot : R) (tw : (Prop → Prop) → R → R) (c : PCfg) (who : Int) (x : PMove) (p : PPlace) (m : PMem) (K : Bool → PMove → PMem → R) : R :=
  bif decide (x.pc = 0) then
   bif decide ((slotOf (PMem.eLoad m who (lSlot c.threads c.slots c.chunks c.words c.gens c.sparse c.tries x.head.slot)).fst).fst = 4) then
    bif decide ((slotOf (PMem.eLoad m who (lSlot c.threads c.slots c.chunks c.words c.gens c.sparse c.tries x.head.slot)).fst).snd.snd.fst = x.head.gen) then
     bif decide ((slotOf (PMem.eLoad m who (lSlot c.threads c.slots c.chunks c.words c.gens c.sparse c.tries x.head.slot)).fst).snd.fst = x.addr) then
      bif x.got then
       K (!x.got) ⟨(x.addr), ⟨(x.head.kind), (x.head.size), (x.head.slot), (x.head.gen), (x.head.own)⟩, 11, ((PMem.eLoad m who (lSlot c.threads c.slots c.chunks c.words c.gens c.sparse c.tries x.head.slot)).fst), (some (p)), (x.sa), (x.sc), (x.got), (x.i), (x.cell), (x.n), 3⟩ ((PMem.eLoad m who (lSlot c.threads c.slots c.chunks c.words c.gens c.sparse c.tries x.head.slot)).snd)
      else
       K (!x.got) ⟨(x.addr), ⟨(x.head.kind), (x.head.size), (x.head.slot), (x.head.gen), (x.head.own)⟩, (x.pc), ((PMem.eLoad m who (lSlot c.threads c.slots c.chunks c.words c.gens c.sparse c.tries x.head.slot)).fst), (some (p)), (x.sa), (x.sc), (x.got), (x.i), (x.cell), (x.n), 3⟩ ((PMem.eLoad m who (lSlot c.threads c.slots c.chunks c.words c.gens c.sparse c.tries x.head.slot)).snd)
     else
      bif !decide ((slotOf (PMem.eLoad m who (lSlot c.threads c.slots c.chunks c.words c.gens c.sparse c.tries x.head.slot)).fst).fst = 1) then
       bif x.got then
        K (!x.got) ⟨(x.addr), ⟨(x.head.kind), (x.head.size), (x.head.slot), (x.head.gen), (x.head.own)⟩, 11, ((PMem.eLoad m who (lSlot c.threads c.slots c.chunks c.words c.gens c.sparse c.tries x.head.slot)).fst), (some (p)), (x.sa), (x.sc), (x.got), (x.i), (x.cell), (x.n), 2⟩ ((PMem.eLoad m who (lSlot c.threads c.slots c.chunks c.words c.gens c.sparse c.tries x.head.slot)).snd)
       else
        K (!x.got) ⟨(x.addr), ⟨(x.head.kind), (x.head.size), (x.head.slot), (x.head.gen), (x.head.own)⟩, (x.pc), ((PMem.eLoad m who (lSlot c.threads c.slots c.chunks c.words c.gens c.sparse c.tries x.head.slot)).fst), (some (p)), (x.sa), (x.sc), (x.got), (x.i), (x.cell), (x.n), 2⟩ ((PMem.eLoad m who (lSlot c.threads c.slots c.chunks c.words c.gens c.sparse c.tries x.head.slot)).snd)
      else
       bif !decide ((slotOf (PMem.eLoad m who (lSlot c.threads c.slots c.chunks c.words c.gens c.sparse c.tries x.head.slot)).fst).snd.snd.fst = x.head.gen) then
        bif x.got then
         K (!x.got) ⟨(x.addr), ⟨(x.head.kind), (x.head.size), (x.head.slot), (x.head.gen), (x.head.own)⟩, 11, ((PMem.eLoad m who (lSlot c.threads c.slots c.chunks c.words c.gens c.sparse c.tries x.head.slot)).fst), (some (p)), (x.sa), (x.sc), (x.got), (x.i), (x.cell), (x.n), 2⟩ ((PMem.eLoad m who (lSlot c.threads c.slots c.chunks c.words c.gens c.sparse c.tries x.head.slot)).snd)
        else
         K (!x.got) ⟨(x.addr), ⟨(x.head.kind), (x.head.size), (x.head.slot), (x.head.gen), (x.head.own)⟩, (x.pc), ((PMem.eLoad m who (lSlot c.threads c.slots c.chunks c.words c.gens c.sparse c.tries x.head.slot)).fst), (some (p)), (x.sa), (x.sc), (x.got), (x.i), (x.cell), (x.n), 2⟩ ((PMem.eLoad m who (lSlot c.threads c.slots c.chunks c.words c.gens c.sparse c.tries x.head.slot)).snd)
       else
        bif !decide ((slotOf (PMem.eLoad m who (lSlot c.threads c.slots c.chunks c.words c.gens c.sparse c.tries x.head.slot)).fst).snd.fst = x.addr) then
         bif x.got then
          K (!x.got) ⟨(x.addr), ⟨(x.head.kind), (x.head.size), (x.head.slot), (x.head.gen), (x.head.own)⟩, 11, ((PMem.eLoad m who (lSlot c.threads c.slots c.chunks c.words c.gens c.sparse c.tries x.head.slot)).fst), (some (p)), (x.sa), (x.sc), (x.got), (x.i), (x.cell), (x.n), 2⟩ ((PMem.eLoad m who (lSlot c.threads c.slots c.chunks c.words c.gens c.sparse c.tries x.head.slot)).snd)
         else
          K (!x.got) ⟨(x.addr), ⟨(x.head.kind), (x.head.size), (x.head.slot), (x.head.gen), (x.head.own)⟩, (x.pc), ((PMem.eLoad m who (lSlot c.threads c.slots c.chunks c.words c.gens c.sparse c.tries x.head.slot)).fst), (some (p)), (x.sa), (x.sc), (x.got), (x.i), (x.cell), (x.n), 2⟩ ((PMem.eLoad m who (lSlot c.threads c.slots c.chunks c.words c.gens c.sparse c.tries x.head.slot)).snd)
        else
         bif decide (4194302 ≤ (slotOf (PMem.eLoad m who (lSlot c.threads c.slots c.chunks c.words c.gens c.sparse c.tries x.head.slot)).fst).snd.snd.snd) then
          bif x.got then
           K (!x.got) ⟨(x.addr), ⟨(x.head.kind), (x.head.size), (x.head.slot), (x.head.gen), (x.head.own)⟩, 11, ((PMem.eLoad m who (lSlot c.threads c.slots c.chunks c.words c.gens c.sparse c.tries x.head.slot)).fst), (some (p)), (x.sa), (x.sc), (x.got), (x.i), (x.cell), (x.n), 3⟩ ((PMem.eLoad m who (lSlot c.threads c.slots c.chunks c.words c.gens c.sparse c.tries x.head.slot)).snd)
          else
           K (!x.got) ⟨(x.addr), ⟨(x.head.kind), (x.head.size), (x.head.slot), (x.head.gen), (x.head.own)⟩, (x.pc), ((PMem.eLoad m who (lSlot c.threads c.slots c.chunks c.words c.gens c.sparse c.tries x.head.slot)).fst), (some (p)), (x.sa), (x.sc), (x.got), (x.i), (x.cell), (x.n), 3⟩ ((PMem.eLoad m who (lSlot c.threads c.slots c.chunks c.words c.gens c.sparse c.tries x.head.slot)).snd)
         else
          bif x.got then
           K false ⟨(x.addr), ⟨(x.head.kind), (x.head.size), (x.head.slot), (x.head.gen), (x.head.own)⟩, 3, ((PMem.eLoad m who (lSlot c.threads c.slots c.chunks c.words c.gens c.sparse c.tries x.head.slot)).fst), (some (p)), (x.sa), (x.sc), (x.got), (x.i), (x.cell), (x.n), (x.out)⟩ ((PMem.eLoad m who (lSlot c.threads c.slots c.chunks c.words c.gens c.sparse c.tries x.head.slot)).snd)
          else
           K false ⟨(x.addr), ⟨(x.head.kind), (x.head.size), (x.head.slot), (x.head.gen), (x.head.own)⟩, 1, ((PMem.eLoad m who (lSlot c.threads c.slots c.chunks c.words c.gens c.sparse c.tries x.head.slot)).fst), (some ⟨(lClass x.head.size), 0, 0, 0, 0, 0, 0, false⟩), (x.sa), (x.sc), (x.got), (x.i), (x.cell), (x.n), (x.out)⟩ ((PMem.eLoad m who (lSlot c.threads c.slots c.chunks c.words c.gens c.sparse c.tries x.head.slot)).snd)
    else
     bif !decide ((slotOf (PMem.eLoad m who (lSlot c.threads c.slots c.chunks c.words c.gens c.sparse c.tries x.head.slot)).fst).fst = 1) then
      bif x.got then
       K (!x.got) ⟨(x.addr), ⟨(x.head.kind), (x.head.size), (x.head.slot), (x.head.gen), (x.head.own)⟩, 11, ((PMem.eLoad m who (lSlot c.threads c.slots c.chunks c.words c.gens c.sparse c.tries x.head.slot)).fst), (some (p)), (x.sa), (x.sc), (x.got), (x.i), (x.cell), (x.n), 2⟩ ((PMem.eLoad m who (lSlot c.threads c.slots c.chunks c.words c.gens c.sparse c.tries x.head.slot)).snd)
      else
       K (!x.got) ⟨(x.addr), ⟨(x.head.kind), (x.head.size), (x.head.slot), (x.head.gen), (x.head.own)⟩, (x.pc), ((PMem.eLoad m who (lSlot c.threads c.slots c.chunks c.words c.gens c.sparse c.tries x.head.slot)).fst), (some (p)), (x.sa), (x.sc), (x.got), (x.i), (x.cell), (x.n), 2⟩ ((PMem.eLoad m who (lSlot c.threads c.slots c.chunks c.words c.gens c.sparse c.tries x.head.slot)).snd)
     else
      bif !decide ((slotOf (PMem.eLoad m who (lSlot c.threads c.slots c.chunks c.words c.gens c.sparse c.tries x.head.slot)).fst).snd.snd.fst = x.head.gen) then
       bif x.got then
        K (!x.got) ⟨(x.addr), ⟨(x.head.kind), (x.head.size), (x.head.slot), (x.head.gen), (x.head.own)⟩, 11, ((PMem.eLoad m who (lSlot c.threads c.slots c.chunks c.words c.gens c.sparse c.tries x.head.slot)).fst), (some (p)), (x.sa), (x.sc), (x.got), (x.i), (x.cell), (x.n), 2⟩ ((PMem.eLoad m who (lSlot c.threads c.slots c.chunks c.words c.gens c.sparse c.tries x.head.slot)).snd)
       else
        K (!x.got) ⟨(x.addr), ⟨(x.head.kind), (x.head.size), (x.head.slot), (x.head.gen), (x.head.own)⟩, (x.pc), ((PMem.eLoad m who (lSlot c.threads c.slots c.chunks c.words c.gens c.sparse c.tries x.head.slot)).fst), (some (p)), (x.sa), (x.sc), (x.got), (x.i), (x.cell), (x.n), 2⟩ ((PMem.eLoad m who (lSlot c.threads c.slots c.chunks c.words c.gens c.sparse c.tries x.head.slot)).snd)
      else
       bif !decide ((slotOf (PMem.eLoad m who (lSlot c.threads c.slots c.chunks c.words c.gens c.sparse c.tries x.head.slot)).fst).snd.fst = x.addr) then
        bif x.got then
         K (!x.got) ⟨(x.addr), ⟨(x.head.kind), (x.head.size), (x.head.slot), (x.head.gen), (x.head.own)⟩, 11, ((PMem.eLoad m who (lSlot c.threads c.slots c.chunks c.words c.gens c.sparse c.tries x.head.slot)).fst), (some (p)), (x.sa), (x.sc), (x.got), (x.i), (x.cell), (x.n), 2⟩ ((PMem.eLoad m who (lSlot c.threads c.slots c.chunks c.words c.gens c.sparse c.tries x.head.slot)).snd)
        else
         K (!x.got) ⟨(x.addr), ⟨(x.head.kind), (x.head.size), (x.head.slot), (x.head.gen), (x.head.own)⟩, (x.pc), ((PMem.eLoad m who (lSlot c.threads c.slots c.chunks c.words c.gens c.sparse c.tries x.head.slot)).fst), (some (p)), (x.sa), (x.sc), (x.got), (x.i), (x.cell), (x.n), 2⟩ ((PMem.eLoad m who (lSlot c.threads c.slots c.chunks c.words c.gens c.sparse c.tries x.head.slot)).snd)
       else
        bif decide (4194302 ≤ (slotOf (PMem.eLoad m who (lSlot c.threads c.slots c.chunks c.words c.gens c.sparse c.tries x.head.slot)).fst).snd.snd.snd) then
         bif x.got then
          K (!x.got) ⟨(x.addr), ⟨(x.head.kind), (x.head.size), (x.head.slot), (x.head.gen), (x.head.own)⟩, 11, ((PMem.eLoad m who (lSlot c.threads c.slots c.chunks c.words c.gens c.sparse c.tries x.head.slot)).fst), (some (p)), (x.sa), (x.sc), (x.got), (x.i), (x.cell), (x.n), 3⟩ ((PMem.eLoad m who (lSlot c.threads c.slots c.chunks c.words c.gens c.sparse c.tries x.head.slot)).snd)
         else
          K (!x.got) ⟨(x.addr), ⟨(x.head.kind), (x.head.size), (x.head.slot), (x.head.gen), (x.head.own)⟩, (x.pc), ((PMem.eLoad m who (lSlot c.threads c.slots c.chunks c.words c.gens c.sparse c.tries x.head.slot)).fst), (some (p)), (x.sa), (x.sc), (x.got), (x.i), (x.cell), (x.n), 3⟩ ((PMem.eLoad m who (lSlot c.threads c.slots c.chunks c.words c.gens c.sparse c.tries x.head.slot)).snd)
        else
         bif x.got then
          K false ⟨(x.addr), ⟨(x.head.kind), (x.head.size), (x.head.slot), (x.head.gen), (x.head.own)⟩, 3, ((PMem.eLoad m who (lSlot c.threads c.slots c.chunks c.words c.gens c.sparse c.tries x.head.slot)).fst), (some (p)), (x.sa), (x.sc), (x.got), (x.i), (x.cell), (x.n), (x.out)⟩ ((PMem.eLoad m who (lSlot c.threads c.slots c.chunks c.words c.gens c.sparse c.tries x.head.slot)).snd)
         else
          K false ⟨(x.addr), ⟨(x.head.kind), (x.head.size), (x.head.slot), (x.head.gen), (x.head.own)⟩, 1, ((PMem.eLoad m who (lSlot c.threads c.slots c.chunks c.words c.gens c.sparse c.tries x.head.slot)).fst), (some ⟨(lClass x.head.size), 0, 0, 0, 0, 0, 0, false⟩), (x.sa), (x.sc), (x.got), (x.i), (x.cell), (x.n), (x.out)⟩ ((PMem.eLoad m who (lSlot c.threads c.slots c.chunks c.words c.gens c.sparse c.tries x.head.slot)).snd)
   else
    bif !decide ((slotOf (PMem.eLoad m who (lSlot c.threads c.slots c.chunks c.words c.gens c.sparse c.tries x.head.slot)).fst).fst = 1) then
     bif x.got then
      K (!x.got) ⟨(x.addr), ⟨(x.head.kind), (x.head.size), (x.head.slot), (x.head.gen), (x.head.own)⟩, 11, ((PMem.eLoad m who (lSlot c.threads c.slots c.chunks c.words c.gens c.sparse c.tries x.head.slot)).fst), (some (p)), (x.sa), (x.sc), (x.got), (x.i), (x.cell), (x.n), 2⟩ ((PMem.eLoad m who (lSlot c.threads c.slots c.chunks c.words c.gens c.sparse c.tries x.head.slot)).snd)
     else
      K (!x.got) ⟨(x.addr), ⟨(x.head.kind), (x.head.size), (x.head.slot), (x.head.gen), (x.head.own)⟩, (x.pc), ((PMem.eLoad m who (lSlot c.threads c.slots c.chunks c.words c.gens c.sparse c.tries x.head.slot)).fst), (some (p)), (x.sa), (x.sc), (x.got), (x.i), (x.cell), (x.n), 2⟩ ((PMem.eLoad m who (lSlot c.threads c.slots c.chunks c.words c.gens c.sparse c.tries x.head.slot)).snd)
    else
     bif !decide ((slotOf (PMem.eLoad m who (lSlot c.threads c.slots c.chunks c.words c.gens c.sparse c.tries x.head.slot)).fst).snd.snd.fst = x.head.gen) then
      bif x.got then
       K (!x.got) ⟨(x.addr), ⟨(x.head.kind), (x.head.size), (x.head.slot), (x.head.gen), (x.head.own)⟩, 11, ((PMem.eLoad m who (lSlot c.threads c.slots c.chunks c.words c.gens c.sparse c.tries x.head.slot)).fst), (some (p)), (x.sa), (x.sc), (x.got), (x.i), (x.cell), (x.n), 2⟩ ((PMem.eLoad m who (lSlot c.threads c.slots c.chunks c.words c.gens c.sparse c.tries x.head.slot)).snd)
      else
       K (!x.got) ⟨(x.addr), ⟨(x.head.kind), (x.head.size), (x.head.slot), (x.head.gen), (x.head.own)⟩, (x.pc), ((PMem.eLoad m who (lSlot c.threads c.slots c.chunks c.words c.gens c.sparse c.tries x.head.slot)).fst), (some (p)), (x.sa), (x.sc), (x.got), (x.i), (x.cell), (x.n), 2⟩ ((PMem.eLoad m who (lSlot c.threads c.slots c.chunks c.words c.gens c.sparse c.tries x.head.slot)).snd)
     else
      bif !decide ((slotOf (PMem.eLoad m who (lSlot c.threads c.slots c.chunks c.words c.gens c.sparse c.tries x.head.slot)).fst).snd.fst = x.addr) then
       bif x.got then
        K (!x.got) ⟨(x.addr), ⟨(x.head.kind), (x.head.size), (x.head.slot), (x.head.gen), (x.head.own)⟩, 11, ((PMem.eLoad m who (lSlot c.threads c.slots c.chunks c.words c.gens c.sparse c.tries x.head.slot)).fst), (some (p)), (x.sa), (x.sc), (x.got), (x.i), (x.cell), (x.n), 2⟩ ((PMem.eLoad m who (lSlot c.threads c.slots c.chunks c.words c.gens c.sparse c.tries x.head.slot)).snd)
       else
        K (!x.got) ⟨(x.addr), ⟨(x.head.kind), (x.head.size), (x.head.slot), (x.head.gen), (x.head.own)⟩, (x.pc), ((PMem.eLoad m who (lSlot c.threads c.slots c.chunks c.words c.gens c.sparse c.tries x.head.slot)).fst), (some (p)), (x.sa), (x.sc), (x.got), (x.i), (x.cell), (x.n), 2⟩ ((PMem.eLoad m who (lSlot c.threads c.slots c.chunks c.words c.gens c.sparse c.tries x.head.slot)).snd)
      else
       bif decide (4194302 ≤ (slotOf (PMem.eLoad m who (lSlot c.threads c.slots c.chunks c.words c.gens c.sparse c.tries x.head.slot)).fst).snd.snd.snd) then
        bif x.got then
         K (!x.got) ⟨(x.addr), ⟨(x.head.kind), (x.head.size), (x.head.slot), (x.head.gen), (x.head.own)⟩, 11, ((PMem.eLoad m who (lSlot c.threads c.slots c.chunks c.words c.gens c.sparse c.tries x.head.slot)).fst), (some (p)), (x.sa), (x.sc), (x.got), (x.i), (x.cell), (x.n), 3⟩ ((PMem.eLoad m who (lSlot c.threads c.slots c.chunks c.words c.gens c.sparse c.tries x.head.slot)).snd)
        else
         K (!x.got) ⟨(x.addr), ⟨(x.head.kind), (x.head.size), (x.head.slot), (x.head.gen), (x.head.own)⟩, (x.pc), ((PMem.eLoad m who (lSlot c.threads c.slots c.chunks c.words c.gens c.sparse c.tries x.head.slot)).fst), (some (p)), (x.sa), (x.sc), (x.got), (x.i), (x.cell), (x.n), 3⟩ ((PMem.eLoad m who (lSlot c.threads c.slots c.chunks c.words c.gens c.sparse c.tries x.head.slot)).snd)
       else
        bif x.got then
         K false ⟨(x.addr), ⟨(x.head.kind), (x.head.size), (x.head.slot), (x.head.gen), (x.head.own)⟩, 3, ((PMem.eLoad m who (lSlot c.threads c.slots c.chunks c.words c.gens c.sparse c.tries x.head.slot)).fst), (some (p)), (x.sa), (x.sc), (x.got), (x.i), (x.cell), (x.n), (x.out)⟩ ((PMem.eLoad m who (lSlot c.threads c.slots c.chunks c.words c.gens c.sparse c.tries x.head.slot)).snd)
        else
         K false ⟨(x.addr), ⟨(x.head.kind), (x.head.size), (x.head.slot), (x.head.gen), (x.head.own)⟩, 1, ((PMem.eLoad m who (lSlot c.threads c.slots c.chunks c.words c.gens c.sparse c.tries x.head.slot)).fst), (some ⟨(lClass x.head.size), 0, 0, 0, 0, 0, 0, false⟩), (x.sa), (x.sc), (x.got), (x.i), (x.cell), (x.n), (x.out)⟩ ((PMem.eLoad m who (lSlot c.threads c.slots c.chunks c.words c.gens c.sparse c.tries x.head.slot)).snd)
  else
   bif decide (x.pc = 1) then
    bif (placeStep c who p m).fst then
     bif !(placeStep c who p m).snd.fst.ok then
      bif (placeStep c who p m).snd.fst.ok then
       K (!(placeStep c who p m).snd.fst.ok) ⟨(x.addr), ⟨(x.head.kind), (x.head.size), (x.head.slot), (x.head.gen), (x.head.own)⟩, 11, (x.w), (some ((placeStep c who p m).snd.1)), (bif (placeStep c who p m).snd.fst.ok then (placeStep c who p m).snd.fst.sa else 0), (bif (placeStep c who p m).snd.fst.ok then (placeStep c who p m).snd.fst.sc else 0), ((placeStep c who p m).snd.fst.ok), (x.i), (x.cell), (x.n), 4⟩ ((placeStep c who p m).snd.snd)
      else
       K (!(placeStep c who p m).snd.fst.ok) ⟨(x.addr), ⟨(x.head.kind), (x.head.size), (x.head.slot), (x.head.gen), (x.head.own)⟩, 2, (x.w), (some ((placeStep c who p m).snd.1)), (bif (placeStep c who p m).snd.fst.ok then (placeStep c who p m).snd.fst.sa else 0), (bif (placeStep c who p m).snd.fst.ok then (placeStep c who p m).snd.fst.sc else 0), ((placeStep c who p m).snd.fst.ok), (x.i), (x.cell), (x.n), 4⟩ ((placeStep c who p m).snd.snd)
     else
      K false ⟨(x.addr), ⟨(x.head.kind), (x.head.size), (x.head.slot), (x.head.gen), (x.head.own)⟩, 2, (x.w), (some ((placeStep c who p m).snd.1)), (bif (placeStep c who p m).snd.fst.ok then (placeStep c who p m).snd.fst.sa else 0), (bif (placeStep c who p m).snd.fst.ok then (placeStep c who p m).snd.fst.sc else 0), ((placeStep c who p m).snd.fst.ok), (x.i), (x.cell), (x.n), (x.out)⟩ ((placeStep c who p m).snd.snd)
    else
     K false ⟨(x.addr), ⟨(x.head.kind), (x.head.size), (x.head.slot), (x.head.gen), (x.head.own)⟩, (x.pc), (x.w), (some ((placeStep c who p m).snd.1)), (x.sa), (x.sc), (x.got), (x.i), (x.cell), (x.n), (x.out)⟩ ((placeStep c who p m).snd.snd)
   else
    bif decide (x.pc = 2) then
     K false ⟨(x.addr), ⟨(x.head.kind), (x.head.size), (x.head.slot), (x.head.gen), (x.head.own)⟩, 3, (x.w), (some (p)), (x.sa), (x.sc), (x.got), (x.i), (x.cell), (x.n), (x.out)⟩ (PMem.eStore m who x.sa (putHead 1 x.head.size x.head.slot x.head.gen x.head.own))
    else
     bif decide (x.pc = 3) then
      bif (PMem.eCas m who (lSlot c.threads c.slots c.chunks c.words c.gens c.sparse c.tries x.head.slot) x.w (putSlot 2 x.addr (slotOf x.w).snd.snd.fst (wrI ((slotOf x.w).snd.snd.snd + 0)))).fst then
       K false ⟨(x.addr), ⟨(x.head.kind), (x.head.size), (x.head.slot), (x.head.gen), (x.head.own)⟩, 4, (x.w), (some (p)), (x.sa), (x.sc), (x.got), 0, (x.cell), (x.n), (x.out)⟩ ((PMem.eCas m who (lSlot c.threads c.slots c.chunks c.words c.gens c.sparse c.tries x.head.slot) x.w (putSlot 2 x.addr (slotOf x.w).snd.snd.fst (wrI ((slotOf x.w).snd.snd.snd + 0)))).snd)
      else
       K false ⟨(x.addr), ⟨(x.head.kind), (x.head.size), (x.head.slot), (x.head.gen), (x.head.own)⟩, 0, (x.w), (some (p)), (x.sa), (x.sc), (x.got), 0, (x.cell), (x.n), (x.out)⟩ ((PMem.eCas m who (lSlot c.threads c.slots c.chunks c.words c.gens c.sparse c.tries x.head.slot) x.w (putSlot 2 x.addr (slotOf x.w).snd.snd.fst (wrI ((slotOf x.w).snd.snd.snd + 0)))).snd)
     else
      bif decide (x.pc = 4) then
       bif (cellOf (PMem.eLoad m who (wrI (wrI (x.addr + 1) + x.i))).fst).snd.fst then
        bif decide ((cellOf (PMem.eLoad m who (wrI (wrI (x.addr + 1) + x.i))).fst).snd.snd = (slotOf x.w).snd.snd.snd) then
         K false ⟨(x.addr), ⟨(x.head.kind), (x.head.size), (x.head.slot), (x.head.gen), (x.head.own)⟩, 6, (x.w), (some (p)), (x.sa), (x.sc), (x.got), (x.i), ((PMem.eLoad m who (wrI (wrI (x.addr + 1) + x.i))).fst), (x.n), (x.out)⟩ ((PMem.eLoad m who (wrI (wrI (x.addr + 1) + x.i))).snd)
        else
         K false ⟨(x.addr), ⟨(x.head.kind), (x.head.size), (x.head.slot), (x.head.gen), (x.head.own)⟩, 5, (x.w), (some (p)), (x.sa), (x.sc), (x.got), (x.i), ((PMem.eLoad m who (wrI (wrI (x.addr + 1) + x.i))).fst), (x.n), (x.out)⟩ ((PMem.eLoad m who (wrI (wrI (x.addr + 1) + x.i))).snd)
       else
        K false ⟨(x.addr), ⟨(x.head.kind), (x.head.size), (x.head.slot), (x.head.gen), (x.head.own)⟩, 5, (x.w), (some (p)), (x.sa), (x.sc), (x.got), (x.i), ((PMem.eLoad m who (wrI (wrI (x.addr + 1) + x.i))).fst), (x.n), (x.out)⟩ ((PMem.eLoad m who (wrI (wrI (x.addr + 1) + x.i))).snd)
      else
       bif decide (x.pc = 5) then
        tw (fun p => ((p ∧ p) ∧ p)) (
         bif (PMem.eCas m who (wrI (wrI (x.addr + 1) + x.i)) x.cell (putCell (cellOf x.cell).fst true (slotOf x.w).snd.snd.snd)).fst then
          K false ⟨(x.addr), ⟨(x.head.kind), (x.head.size), (x.head.slot), (x.head.gen), (x.head.own)⟩, 6, (x.w), (some (p)), (x.sa), (x.sc), (x.got), (x.i), (x.cell), (x.n), (x.out)⟩ ((PMem.eCas m who (wrI (wrI (x.addr + 1) + x.i)) x.cell (putCell (cellOf x.cell).fst true (slotOf x.w).snd.snd.snd)).snd)
         else
          K false ⟨(x.addr), ⟨(x.head.kind), (x.head.size), (x.head.slot), (x.head.gen), (x.head.own)⟩, 4, (x.w), (some (p)), (x.sa), (x.sc), (x.got), (x.i), (x.cell), (x.n), (x.out)⟩ ((PMem.eCas m who (wrI (wrI (x.addr + 1) + x.i)) x.cell (putCell (cellOf x.cell).fst true (slotOf x.w).snd.snd.snd)).snd))
       else
        bif decide (x.pc = 6) then
         bif decide (x.head.size ≤ wrI (x.i + 1)) then
          K false ⟨(x.addr), ⟨(x.head.kind), (x.head.size), (x.head.slot), (x.head.gen), (x.head.own)⟩, 7, (x.w), (some (p)), (x.sa), (x.sc), (x.got), (wrI (x.i + 1)), (x.cell), (x.n), (x.out)⟩ (PMem.eStore m who (wrI (wrI (x.sa + 1) + x.i)) (putCell (cellOf x.cell).fst false 0))
         else
          K false ⟨(x.addr), ⟨(x.head.kind), (x.head.size), (x.head.slot), (x.head.gen), (x.head.own)⟩, 4, (x.w), (some (p)), (x.sa), (x.sc), (x.got), (wrI (x.i + 1)), (x.cell), (x.n), (x.out)⟩ (PMem.eStore m who (wrI (wrI (x.sa + 1) + x.i)) (putCell (cellOf x.cell).fst false 0))
        else
         bif decide (x.pc = 7) then
          bif (PMem.eCas m who (lSlot c.threads c.slots c.chunks c.words c.gens c.sparse c.tries x.head.slot) (putSlot 2 x.addr (slotOf x.w).snd.snd.fst (wrI ((slotOf x.w).snd.snd.snd + 0))) (putSlot 1 x.sa (slotOf x.w).snd.snd.fst (wrI ((slotOf x.w).snd.snd.snd + 1)))).fst then
           K false ⟨(x.addr), ⟨(x.head.kind), (x.head.size), (x.head.slot), (x.head.gen), (x.head.own)⟩, 8, (x.w), (some (p)), (x.sa), (x.sc), (x.got), (x.i), (x.cell), (x.n), (x.out)⟩ ((PMem.eCas m who (lSlot c.threads c.slots c.chunks c.words c.gens c.sparse c.tries x.head.slot) (putSlot 2 x.addr (slotOf x.w).snd.snd.fst (wrI ((slotOf x.w).snd.snd.snd + 0))) (putSlot 1 x.sa (slotOf x.w).snd.snd.fst (wrI ((slotOf x.w).snd.snd.snd + 1)))).snd)
          else
           bif decide (c.tries ≤ wrI (x.n + 1)) then
            bif x.got then
             K (!x.got) ⟨(x.addr), ⟨(x.head.kind), (x.head.size), (x.head.slot), (x.head.gen), (x.head.own)⟩, 11, (x.w), (some (p)), (x.sa), (x.sc), (x.got), (x.i), (x.cell), (wrI (x.n + 1)), 3⟩ ((PMem.eCas m who (lSlot c.threads c.slots c.chunks c.words c.gens c.sparse c.tries x.head.slot) (putSlot 2 x.addr (slotOf x.w).snd.snd.fst (wrI ((slotOf x.w).snd.snd.snd + 0))) (putSlot 1 x.sa (slotOf x.w).snd.snd.fst (wrI ((slotOf x.w).snd.snd.snd + 1)))).snd)
            else
             K (!x.got) ⟨(x.addr), ⟨(x.head.kind), (x.head.size), (x.head.slot), (x.head.gen), (x.head.own)⟩, 0, (x.w), (some (p)), (x.sa), (x.sc), (x.got), (x.i), (x.cell), (wrI (x.n + 1)), 3⟩ ((PMem.eCas m who (lSlot c.threads c.slots c.chunks c.words c.gens c.sparse c.tries x.head.slot) (putSlot 2 x.addr (slotOf x.w).snd.snd.fst (wrI ((slotOf x.w).snd.snd.snd + 0))) (putSlot 1 x.sa (slotOf x.w).snd.snd.fst (wrI ((slotOf x.w).snd.snd.snd + 1)))).snd)
           else
            K false ⟨(x.addr), ⟨(x.head.kind), (x.head.size), (x.head.slot), (x.head.gen), (x.head.own)⟩, 0, (x.w), (some (p)), (x.sa), (x.sc), (x.got), (x.i), (x.cell), (wrI (x.n + 1)), (x.out)⟩ ((PMem.eCas m who (lSlot c.threads c.slots c.chunks c.words c.gens c.sparse c.tries x.head.slot) (putSlot 2 x.addr (slotOf x.w).snd.snd.fst (wrI ((slotOf x.w).snd.snd.snd + 0))) (putSlot 1 x.sa (slotOf x.w).snd.snd.fst (wrI ((slotOf x.w).snd.snd.snd + 1)))).snd)
         else
          bif decide (x.pc = 8) then
           K false ⟨(x.addr), ⟨(x.head.kind), (x.head.size), (x.head.slot), (x.head.gen), (x.head.own)⟩, 9, (x.w), (some (p)), (x.sa), (x.sc), (x.got), (x.i), (x.cell), (x.n), (x.out)⟩ (PMem.eStore m who x.sa (putHead 2 x.head.size x.head.slot x.head.gen x.head.own))
          else
           bif decide (x.pc = 9) then
            K false ⟨(x.addr), ⟨(x.head.kind), (x.head.size), (x.head.slot), (x.head.gen), (x.head.own)⟩, 10, (x.w), (some (p)), (x.sa), (x.sc), (x.got), (x.i), (x.cell), (x.n), (x.out)⟩ (PMem.eAdd m who (wrI (lChunk c.threads c.slots c.chunks c.words c.gens c.sparse c.tries x.sc + 1)) (lRoom (lClass x.head.size)))
           else
            bif decide (x.pc = 10) then
             bif decide (c.words = 0) then
              bot
             else
              K true ⟨(x.addr), ⟨(x.head.kind), (x.head.size), (x.head.slot), (x.head.gen), (x.head.own)⟩, (x.pc), (x.w), (some (p)), (x.sa), (x.sc), (x.got), (x.i), (x.cell), (x.n), 1⟩ (PMem.eAdd m who (wrI (lChunk c.threads c.slots c.chunks c.words c.gens c.sparse c.tries (lOf c.threads c.slots c.chunks c.words c.gens c.sparse c.tries x.addr) + 1)) (wrI (0 - lRoom (lClass x.head.size))))
            else
             K true ⟨(x.addr), ⟨(x.head.kind), (x.head.size), (x.head.slot), (x.head.gen), (x.head.own)⟩, (x.pc), (x.w), (some (p)), (x.sa), (x.sc), (x.got), (x.i), (x.cell), (x.n), (x.out)⟩ (PMem.eStore m who x.sa (putHead 3 x.head.size x.head.slot x.head.gen x.head.own))

def moveStep1 (c : PCfg) (who : Int) (x : PMove) (p : PPlace) (m : PMem) : Bool × PMove × PMem := moveStep1K (false, x, m) twV c who x p m fun r x m => (r, x, m)

theorem moveStep1K_eq (c : PCfg) (who : Int) (x : PMove) (p : PPlace) (m : PMem) (hc : c.words ≠ 0) (K : Bool → PMove → PMem → Prop) : moveStep1K False twP c who x p m K = K (moveStep1 c who x p m).1 (moveStep1 c who x p m).2.1 (moveStep1 c who x p m).2.2 := by
  show _ = app3 K (moveStep1K (false, x, m) twV c who x p m fun r x m => (r, x, m))
  unfold moveStep1K
  repeat' first
    | refine condH (decide_eq_false hc) ?_
    | refine cond3 ?_ ?_
    | refine tw3 (fun p => by simp only [and_self]) ?_
    | exact rfl

def moveStep (c : PCfg) (who : Int) (x : PMove) (m : PMem) : Bool × PMove × PMem := match x.p with
  | none => moveStep0 c who x m
  | some p => moveStep1 c who x p m

def advStepK {R : Type} (bot : R) (tw : (Prop → Prop) → R → R) (c : PCfg) (who : Int) (x : PAdv) (m : PMem) (K : Bool → PAdv → PMem → R) : R :=
  bif decide (x.pc = 0) then
   K false ⟨1, ((PMem.eLoad m who 0).fst), (x.at_), (x.went)⟩ ((PMem.eLoad m who 0).snd)
  else
   bif decide (x.pc = 1) then
    bif !decide ((PMem.eLoad m who (wrI (6 + x.at_))).fst = 0) then
     bif !decide ((PMem.eLoad m who (wrI (6 + x.at_))).fst = wrU (x.now + 1)) then
      K true ⟨(x.pc), (x.now), (x.at_), (x.went)⟩ ((PMem.eLoad m who (wrI (6 + x.at_))).snd)
     else
      bif decide (c.threads ≤ wrI (x.at_ + 1)) then
       K false ⟨2, (x.now), (wrI (x.at_ + 1)), (x.went)⟩ ((PMem.eLoad m who (wrI (6 + x.at_))).snd)
      else
       K false ⟨(x.pc), (x.now), (wrI (x.at_ + 1)), (x.went)⟩ ((PMem.eLoad m who (wrI (6 + x.at_))).snd)
    else
     bif decide (c.threads ≤ wrI (x.at_ + 1)) then
      K false ⟨2, (x.now), (wrI (x.at_ + 1)), (x.went)⟩ ((PMem.eLoad m who (wrI (6 + x.at_))).snd)
     else
      K false ⟨(x.pc), (x.now), (wrI (x.at_ + 1)), (x.went)⟩ ((PMem.eLoad m who (wrI (6 + x.at_))).snd)
   else
    K true ⟨(x.pc), (x.now), (x.at_), ((PMem.eCas m who 0 x.now (wrU (x.now + 1))).fst)⟩ ((PMem.eCas m who 0 x.now (wrU (x.now + 1))).snd)

def advStep (c : PCfg) (who : Int) (x : PAdv) (m : PMem) : Bool × PAdv × PMem := advStepK (false, x, m) twV c who x m fun r x m => (r, x, m)

theorem advStepK_eq (c : PCfg) (who : Int) (x : PAdv) (m : PMem) (K : Bool → PAdv → PMem → Prop) : advStepK False twP c who x m K = K (advStep c who x m).1 (advStep c who x m).2.1 (advStep c who x m).2.2 := by
  show _ = app3 K (advStepK (false, x, m) twV c who x m fun r x m => (r, x, m))
  unfold advStepK
  repeat' first
    | refine cond3 ?_ ?_
    | refine tw3 (fun p => by simp only [and_self]) ?_
    | exact rfl

def settleStepK {R : Type} (bot : R) (tw : (Prop → Prop) → R → R) (c : PCfg) (who : Int) (x : PSettle) (m : PMem) (K : Bool → PSettle → PMem → R) : R :=
  bif decide (x.pc = 0) then
   K (!decide ((chunkOf (PMem.eLoad m who (lChunk c.threads c.slots c.chunks c.words c.gens c.sparse c.tries x.chunk)).fst).fst = 3)) ⟨(x.chunk), 1, ((PMem.eLoad m who (lChunk c.threads c.slots c.chunks c.words c.gens c.sparse c.tries x.chunk)).fst), (x.since), (x.at_), (x.freed)⟩ ((PMem.eLoad m who (lChunk c.threads c.slots c.chunks c.words c.gens c.sparse c.tries x.chunk)).snd)
  else
   bif decide (x.pc = 1) then
    K false ⟨(x.chunk), 2, (x.w), ((PMem.eLoad m who (wrI (lChunk c.threads c.slots c.chunks c.words c.gens c.sparse c.tries x.chunk + 2))).fst), (x.at_), (x.freed)⟩ ((PMem.eLoad m who (wrI (lChunk c.threads c.slots c.chunks c.words c.gens c.sparse c.tries x.chunk + 2))).snd)
   else
    bif decide (x.pc = 2) then
     K (decide ((PMem.eLoad m who 0).fst < wrU (x.since + 2))) ⟨(x.chunk), 3, (x.w), (x.since), (x.at_), (x.freed)⟩ ((PMem.eLoad m who 0).snd)
    else
     bif decide (x.pc = 3) then
      bif decide ((chunkOf x.w).snd.snd.fst ≤ wrI (x.at_ + 1)) then
       K false ⟨(x.chunk), 4, (x.w), (x.since), (wrI (x.at_ + 1)), (x.freed)⟩ (PMem.eStore m who (wrI (lBase c.threads c.slots c.chunks c.words c.gens c.sparse c.tries x.chunk + x.at_)) 0)
      else
       K false ⟨(x.chunk), (x.pc), (x.w), (x.since), (wrI (x.at_ + 1)), (x.freed)⟩ (PMem.eStore m who (wrI (lBase c.threads c.slots c.chunks c.words c.gens c.sparse c.tries x.chunk + x.at_)) 0)
     else
      bif decide (x.pc = 4) then
       K false ⟨(x.chunk), 5, (x.w), (x.since), (x.at_), (x.freed)⟩ (PMem.eStore m who (wrI (lChunk c.threads c.slots c.chunks c.words c.gens c.sparse c.tries x.chunk + 1)) 0)
      else
       K true ⟨(x.chunk), (x.pc), (x.w), (x.since), (x.at_), true⟩ (PMem.eStore m who (lChunk c.threads c.slots c.chunks c.words c.gens c.sparse c.tries x.chunk) (putChunk 0 0 0 (wrI ((chunkOf x.w).snd.snd.snd + 1))))

def settleStep (c : PCfg) (who : Int) (x : PSettle) (m : PMem) : Bool × PSettle × PMem := settleStepK (false, x, m) twV c who x m fun r x m => (r, x, m)

theorem settleStepK_eq (c : PCfg) (who : Int) (x : PSettle) (m : PMem) (K : Bool → PSettle → PMem → Prop) : settleStepK False twP c who x m K = K (settleStep c who x m).1 (settleStep c who x m).2.1 (settleStep c who x m).2.2 := by
  show _ = app3 K (settleStepK (false, x, m) twV c who x m fun r x m => (r, x, m))
  unfold settleStepK
  repeat' first
    | refine cond3 ?_ ?_
    | refine tw3 (fun p => by simp only [and_self]) ?_
    | exact rfl

end Go.FL
