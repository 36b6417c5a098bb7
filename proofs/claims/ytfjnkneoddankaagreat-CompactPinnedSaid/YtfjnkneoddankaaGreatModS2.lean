/-
  Steps of the program's objects, as the evaluator has them.
-/
import Derived.Test.YtfjnkneoddankaaGreatModP
import Derived.Test.YtfjnkneoddankaaGreatModM
import Derived.Test.YtfjnkneoddankaaGreatSh
import Derived.Test.YtfjnkneoddankaaGreatTw
import Derived.Test.YtfjnkneoddankaaGreatModS1
set_option linter.unusedVariables false
set_option linter.unusedSimpArgs false
set_option maxRecDepth 100000
namespace Go.FL

def allocStep00K {R : Type} (bot : R) (tw : (Prop → Prop) → R → R) (c : PCfg) (who : Int) (x : PAlloc) (m : PMem) (K : Bool → PAlloc → PMem → R) : R :=
  bif decide (x.pc = 0) then
   bif decide (lClass x.size < 0) then
    K true ⟨(x.size), (x.own), (x.pc), ⟨(x.take.pc), (x.take.top), (x.take.next), (x.take.slot), (x.take.ok)⟩, (x.at_), (x.gen), none, (x.sa), (x.sc), none, ⟨5, 0, 0, (m.steps)⟩⟩ (m)
   else
    bif decide (x.take.pc = 0) then
     bif decide ((topOf (PMem.eLoad m who 1).fst).fst < 0) then
      bif !x.take.ok then
       K true ⟨(x.size), (x.own), 1, ⟨1, ((PMem.eLoad m who 1).fst), (x.take.next), ((topOf (PMem.eLoad m who 1).fst).fst), (x.take.ok)⟩, 0, (x.gen), none, (x.sa), (x.sc), none, ⟨7, 0, 0, ((PMem.eLoad m who 1).snd.steps)⟩⟩ ((PMem.eLoad m who 1).snd)
      else
       K false ⟨(x.size), (x.own), 1, ⟨1, ((PMem.eLoad m who 1).fst), (x.take.next), ((topOf (PMem.eLoad m who 1).fst).fst), (x.take.ok)⟩, ((topOf (PMem.eLoad m who 1).fst).fst), (x.gen), none, (x.sa), (x.sc), none, ⟨(x.out.e), (x.out.h), (x.out.v), (x.out.st)⟩⟩ ((PMem.eLoad m who 1).snd)
     else
      K false ⟨(x.size), (x.own), (x.pc), ⟨1, ((PMem.eLoad m who 1).fst), (x.take.next), ((topOf (PMem.eLoad m who 1).fst).fst), (x.take.ok)⟩, (x.at_), (x.gen), none, (x.sa), (x.sc), none, ⟨(x.out.e), (x.out.h), (x.out.v), (x.out.st)⟩⟩ ((PMem.eLoad m who 1).snd)
    else
     bif decide (x.take.pc = 1) then
      bif x.take.ok then
       bif !x.take.ok then
        K true ⟨(x.size), (x.own), 1, ⟨2, (x.take.top), ((topOf (PMem.eLoad m who (wrI (lSlot c.threads c.slots c.chunks c.words c.gens c.sparse c.tries x.take.slot + 1))).fst).fst), (x.take.slot), (x.take.ok)⟩, 0, (x.gen), none, (x.sa), (x.sc), none, ⟨7, 0, 0, ((PMem.eLoad m who (wrI (lSlot c.threads c.slots c.chunks c.words c.gens c.sparse c.tries x.take.slot + 1))).snd.steps)⟩⟩ ((PMem.eLoad m who (wrI (lSlot c.threads c.slots c.chunks c.words c.gens c.sparse c.tries x.take.slot + 1))).snd)
       else
        K false ⟨(x.size), (x.own), 1, ⟨2, (x.take.top), ((topOf (PMem.eLoad m who (wrI (lSlot c.threads c.slots c.chunks c.words c.gens c.sparse c.tries x.take.slot + 1))).fst).fst), (x.take.slot), (x.take.ok)⟩, (x.take.slot), (x.gen), none, (x.sa), (x.sc), none, ⟨(x.out.e), (x.out.h), (x.out.v), (x.out.st)⟩⟩ ((PMem.eLoad m who (wrI (lSlot c.threads c.slots c.chunks c.words c.gens c.sparse c.tries x.take.slot + 1))).snd)
      else
       K false ⟨(x.size), (x.own), (x.pc), ⟨2, (x.take.top), ((topOf (PMem.eLoad m who (wrI (lSlot c.threads c.slots c.chunks c.words c.gens c.sparse c.tries x.take.slot + 1))).fst).fst), (x.take.slot), (x.take.ok)⟩, (x.at_), (x.gen), none, (x.sa), (x.sc), none, ⟨(x.out.e), (x.out.h), (x.out.v), (x.out.st)⟩⟩ ((PMem.eLoad m who (wrI (lSlot c.threads c.slots c.chunks c.words c.gens c.sparse c.tries x.take.slot + 1))).snd)
     else
      bif (PMem.eCas m who 1 x.take.top (putTop x.take.next (wrI ((topOf x.take.top).snd + 1)))).fst then
       bif !(PMem.eCas m who 1 x.take.top (putTop x.take.next (wrI ((topOf x.take.top).snd + 1)))).fst then
        K true ⟨(x.size), (x.own), 1, ⟨0, (x.take.top), (x.take.next), (x.take.slot), ((PMem.eCas m who 1 x.take.top (putTop x.take.next (wrI ((topOf x.take.top).snd + 1)))).fst)⟩, 0, (x.gen), none, (x.sa), (x.sc), none, ⟨7, 0, 0, ((PMem.eCas m who 1 x.take.top (putTop x.take.next (wrI ((topOf x.take.top).snd + 1)))).snd.steps)⟩⟩ ((PMem.eCas m who 1 x.take.top (putTop x.take.next (wrI ((topOf x.take.top).snd + 1)))).snd)
       else
        K false ⟨(x.size), (x.own), 1, ⟨0, (x.take.top), (x.take.next), (x.take.slot), ((PMem.eCas m who 1 x.take.top (putTop x.take.next (wrI ((topOf x.take.top).snd + 1)))).fst)⟩, (x.take.slot), (x.gen), none, (x.sa), (x.sc), none, ⟨(x.out.e), (x.out.h), (x.out.v), (x.out.st)⟩⟩ ((PMem.eCas m who 1 x.take.top (putTop x.take.next (wrI ((topOf x.take.top).snd + 1)))).snd)
      else
       K false ⟨(x.size), (x.own), (x.pc), ⟨0, (x.take.top), (x.take.next), (x.take.slot), ((PMem.eCas m who 1 x.take.top (putTop x.take.next (wrI ((topOf x.take.top).snd + 1)))).fst)⟩, (x.at_), (x.gen), none, (x.sa), (x.sc), none, ⟨(x.out.e), (x.out.h), (x.out.v), (x.out.st)⟩⟩ ((PMem.eCas m who 1 x.take.top (putTop x.take.next (wrI ((topOf x.take.top).snd + 1)))).snd)
  else
   bif decide (x.pc = 1) then
    K false ⟨(x.size), (x.own), 2, ⟨(x.take.pc), (x.take.top), (x.take.next), (x.take.slot), (x.take.ok)⟩, (x.at_), ((slotOf (PMem.eLoad m who (lSlot c.threads c.slots c.chunks c.words c.gens c.sparse c.tries x.at_)).fst).snd.snd.fst), (some ⟨(lClass x.size), 0, 0, 0, 0, 0, 0, false⟩), (x.sa), (x.sc), none, ⟨(x.out.e), (x.out.h), (x.out.v), (x.out.st)⟩⟩ ((PMem.eLoad m who (lSlot c.threads c.slots c.chunks c.words c.gens c.sparse c.tries x.at_)).snd)
   else
    bif decide (x.pc = 2) then
     K false ⟨(x.size), (x.own), (x.pc), ⟨(x.take.pc), (x.take.top), (x.take.next), (x.take.slot), (x.take.ok)⟩, (x.at_), (x.gen), none, (x.sa), (x.sc), none, ⟨(x.out.e), (x.out.h), (x.out.v), (x.out.st)⟩⟩ (m)
    else
     bif decide (x.pc = 3) then
      K false ⟨(x.size), (x.own), 4, ⟨(x.take.pc), (x.take.top), (x.take.next), (x.take.slot), (x.take.ok)⟩, (x.at_), (x.gen), none, (x.sa), (x.sc), none, ⟨(x.out.e), (x.out.h), (x.out.v), (x.out.st)⟩⟩ (PMem.eAdd m who (wrI (lChunk c.threads c.slots c.chunks c.words c.gens c.sparse c.tries x.sc + 1)) (lRoom (lClass x.size)))
     else
      bif decide (x.pc = 4) then
       K false ⟨(x.size), (x.own), 5, ⟨(x.take.pc), (x.take.top), (x.take.next), (x.take.slot), (x.take.ok)⟩, (x.at_), (x.gen), none, (x.sa), (x.sc), none, ⟨(x.out.e), (x.out.h), (x.out.v), (x.out.st)⟩⟩ (PMem.eStore m who x.sa (putHead 1 x.size x.at_ x.gen x.own))
      else
       bif decide (x.pc = 5) then
        K false ⟨(x.size), (x.own), 6, ⟨(x.take.pc), (x.take.top), (x.take.next), (x.take.slot), (x.take.ok)⟩, (x.at_), (x.gen), none, (x.sa), (x.sc), none, ⟨0, (putHandle x.at_ x.gen), 0, ((PMem.eStore m who (lSlot c.threads c.slots c.chunks c.words c.gens c.sparse c.tries x.at_) (putSlot 1 x.sa x.gen 0)).steps)⟩⟩ (PMem.eStore m who (lSlot c.threads c.slots c.chunks c.words c.gens c.sparse c.tries x.at_) (putSlot 1 x.sa x.gen 0))
       else
        bif decide (x.pc = 6) then
         K true ⟨(x.size), (x.own), (x.pc), ⟨(x.take.pc), (x.take.top), (x.take.next), (x.take.slot), (x.take.ok)⟩, (x.at_), (x.gen), none, (x.sa), (x.sc), none, ⟨(x.out.e), (x.out.h), (x.out.v), (x.out.st)⟩⟩ (PMem.eStore m who x.sa (putHead 2 x.size x.at_ x.gen x.own))
        else
         K false ⟨(x.size), (x.own), (x.pc), ⟨(x.take.pc), (x.take.top), (x.take.next), (x.take.slot), (x.take.ok)⟩, (x.at_), (x.gen), none, (x.sa), (x.sc), none, ⟨(x.out.e), (x.out.h), (x.out.v), (x.out.st)⟩⟩ (m)

def allocStep00 (c : PCfg) (who : Int) (x : PAlloc) (m : PMem) : Bool × PAlloc × PMem := allocStep00K (false, x, m) twV c who x m fun r x m => (r, x, m)

theorem allocStep00K_eq (c : PCfg) (who : Int) (x : PAlloc) (m : PMem) (K : Bool → PAlloc → PMem → Prop) : allocStep00K False twP c who x m K = K (allocStep00 c who x m).1 (allocStep00 c who x m).2.1 (allocStep00 c who x m).2.2 := by
  show _ = app3 K (allocStep00K (false, x, m) twV c who x m fun r x m => (r, x, m))
  unfold allocStep00K
  repeat' first
    | refine cond3 ?_ ?_
    | refine tw3 (fun p => by simp only [and_self]) ?_
    | exact rfl

def allocStep10K {R : Type} (bot : R) (tw : (Prop → Prop) → R → R) (c : PCfg) (who : Int) (x : PAlloc) (p : PPlace) (m : PMem) (K : Bool → PAlloc → PMem → R) : R :=
  bif decide (x.pc = 0) then
   bif decide (lClass x.size < 0) then
    K true ⟨(x.size), (x.own), (x.pc), ⟨(x.take.pc), (x.take.top), (x.take.next), (x.take.slot), (x.take.ok)⟩, (x.at_), (x.gen), (some (p)), (x.sa), (x.sc), none, ⟨5, 0, 0, (m.steps)⟩⟩ (m)
   else
    bif decide (x.take.pc = 0) then
     bif decide ((topOf (PMem.eLoad m who 1).fst).fst < 0) then
      bif !x.take.ok then
       K true ⟨(x.size), (x.own), 1, ⟨1, ((PMem.eLoad m who 1).fst), (x.take.next), ((topOf (PMem.eLoad m who 1).fst).fst), (x.take.ok)⟩, 0, (x.gen), (some (p)), (x.sa), (x.sc), none, ⟨7, 0, 0, ((PMem.eLoad m who 1).snd.steps)⟩⟩ ((PMem.eLoad m who 1).snd)
      else
       K false ⟨(x.size), (x.own), 1, ⟨1, ((PMem.eLoad m who 1).fst), (x.take.next), ((topOf (PMem.eLoad m who 1).fst).fst), (x.take.ok)⟩, ((topOf (PMem.eLoad m who 1).fst).fst), (x.gen), (some (p)), (x.sa), (x.sc), none, ⟨(x.out.e), (x.out.h), (x.out.v), (x.out.st)⟩⟩ ((PMem.eLoad m who 1).snd)
     else
      K false ⟨(x.size), (x.own), (x.pc), ⟨1, ((PMem.eLoad m who 1).fst), (x.take.next), ((topOf (PMem.eLoad m who 1).fst).fst), (x.take.ok)⟩, (x.at_), (x.gen), (some (p)), (x.sa), (x.sc), none, ⟨(x.out.e), (x.out.h), (x.out.v), (x.out.st)⟩⟩ ((PMem.eLoad m who 1).snd)
    else
     bif decide (x.take.pc = 1) then
      bif x.take.ok then
       bif !x.take.ok then
        K true ⟨(x.size), (x.own), 1, ⟨2, (x.take.top), ((topOf (PMem.eLoad m who (wrI (lSlot c.threads c.slots c.chunks c.words c.gens c.sparse c.tries x.take.slot + 1))).fst).fst), (x.take.slot), (x.take.ok)⟩, 0, (x.gen), (some (p)), (x.sa), (x.sc), none, ⟨7, 0, 0, ((PMem.eLoad m who (wrI (lSlot c.threads c.slots c.chunks c.words c.gens c.sparse c.tries x.take.slot + 1))).snd.steps)⟩⟩ ((PMem.eLoad m who (wrI (lSlot c.threads c.slots c.chunks c.words c.gens c.sparse c.tries x.take.slot + 1))).snd)
       else
        K false ⟨(x.size), (x.own), 1, ⟨2, (x.take.top), ((topOf (PMem.eLoad m who (wrI (lSlot c.threads c.slots c.chunks c.words c.gens c.sparse c.tries x.take.slot + 1))).fst).fst), (x.take.slot), (x.take.ok)⟩, (x.take.slot), (x.gen), (some (p)), (x.sa), (x.sc), none, ⟨(x.out.e), (x.out.h), (x.out.v), (x.out.st)⟩⟩ ((PMem.eLoad m who (wrI (lSlot c.threads c.slots c.chunks c.words c.gens c.sparse c.tries x.take.slot + 1))).snd)
      else
       K false ⟨(x.size), (x.own), (x.pc), ⟨2, (x.take.top), ((topOf (PMem.eLoad m who (wrI (lSlot c.threads c.slots c.chunks c.words c.gens c.sparse c.tries x.take.slot + 1))).fst).fst), (x.take.slot), (x.take.ok)⟩, (x.at_), (x.gen), (some (p)), (x.sa), (x.sc), none, ⟨(x.out.e), (x.out.h), (x.out.v), (x.out.st)⟩⟩ ((PMem.eLoad m who (wrI (lSlot c.threads c.slots c.chunks c.words c.gens c.sparse c.tries x.take.slot + 1))).snd)
     else
      bif (PMem.eCas m who 1 x.take.top (putTop x.take.next (wrI ((topOf x.take.top).snd + 1)))).fst then
       bif !(PMem.eCas m who 1 x.take.top (putTop x.take.next (wrI ((topOf x.take.top).snd + 1)))).fst then
        K true ⟨(x.size), (x.own), 1, ⟨0, (x.take.top), (x.take.next), (x.take.slot), ((PMem.eCas m who 1 x.take.top (putTop x.take.next (wrI ((topOf x.take.top).snd + 1)))).fst)⟩, 0, (x.gen), (some (p)), (x.sa), (x.sc), none, ⟨7, 0, 0, ((PMem.eCas m who 1 x.take.top (putTop x.take.next (wrI ((topOf x.take.top).snd + 1)))).snd.steps)⟩⟩ ((PMem.eCas m who 1 x.take.top (putTop x.take.next (wrI ((topOf x.take.top).snd + 1)))).snd)
       else
        K false ⟨(x.size), (x.own), 1, ⟨0, (x.take.top), (x.take.next), (x.take.slot), ((PMem.eCas m who 1 x.take.top (putTop x.take.next (wrI ((topOf x.take.top).snd + 1)))).fst)⟩, (x.take.slot), (x.gen), (some (p)), (x.sa), (x.sc), none, ⟨(x.out.e), (x.out.h), (x.out.v), (x.out.st)⟩⟩ ((PMem.eCas m who 1 x.take.top (putTop x.take.next (wrI ((topOf x.take.top).snd + 1)))).snd)
      else
       K false ⟨(x.size), (x.own), (x.pc), ⟨0, (x.take.top), (x.take.next), (x.take.slot), ((PMem.eCas m who 1 x.take.top (putTop x.take.next (wrI ((topOf x.take.top).snd + 1)))).fst)⟩, (x.at_), (x.gen), (some (p)), (x.sa), (x.sc), none, ⟨(x.out.e), (x.out.h), (x.out.v), (x.out.st)⟩⟩ ((PMem.eCas m who 1 x.take.top (putTop x.take.next (wrI ((topOf x.take.top).snd + 1)))).snd)
  else
   bif decide (x.pc = 1) then
    K false ⟨(x.size), (x.own), 2, ⟨(x.take.pc), (x.take.top), (x.take.next), (x.take.slot), (x.take.ok)⟩, (x.at_), ((slotOf (PMem.eLoad m who (lSlot c.threads c.slots c.chunks c.words c.gens c.sparse c.tries x.at_)).fst).snd.snd.fst), (some ⟨(lClass x.size), 0, 0, 0, 0, 0, 0, false⟩), (x.sa), (x.sc), none, ⟨(x.out.e), (x.out.h), (x.out.v), (x.out.st)⟩⟩ ((PMem.eLoad m who (lSlot c.threads c.slots c.chunks c.words c.gens c.sparse c.tries x.at_)).snd)
   else
    bif decide (x.pc = 2) then
     bif (placeStep { threads := c.threads, slots := c.slots, chunks := c.chunks, words := c.words, gens := c.gens, sparse := c.sparse, tries := c.tries } who p m).fst then
      bif !(placeStep { threads := c.threads, slots := c.slots, chunks := c.chunks, words := c.words, gens := c.gens, sparse := c.sparse, tries := c.tries } who p m).snd.fst.ok then
       K false ⟨(x.size), (x.own), 7, ⟨(x.take.pc), (x.take.top), (x.take.next), (x.take.slot), (x.take.ok)⟩, (x.at_), (x.gen), (some ((placeStep { threads := c.threads, slots := c.slots, chunks := c.chunks, words := c.words, gens := c.gens, sparse := c.sparse, tries := c.tries } who p m).snd.1)), (bif (placeStep { threads := c.threads, slots := c.slots, chunks := c.chunks, words := c.words, gens := c.gens, sparse := c.sparse, tries := c.tries } who p m).snd.fst.ok then (placeStep { threads := c.threads, slots := c.slots, chunks := c.chunks, words := c.words, gens := c.gens, sparse := c.sparse, tries := c.tries } who p m).snd.fst.sa else 0), (bif (placeStep { threads := c.threads, slots := c.slots, chunks := c.chunks, words := c.words, gens := c.gens, sparse := c.sparse, tries := c.tries } who p m).snd.fst.ok then (placeStep { threads := c.threads, slots := c.slots, chunks := c.chunks, words := c.words, gens := c.gens, sparse := c.sparse, tries := c.tries } who p m).snd.fst.sc else 0), (some ⟨0, (x.at_), 0⟩), ⟨6, 0, 0, ((placeStep { threads := c.threads, slots := c.slots, chunks := c.chunks, words := c.words, gens := c.gens, sparse := c.sparse, tries := c.tries } who p m).snd.snd.steps)⟩⟩ ((placeStep { threads := c.threads, slots := c.slots, chunks := c.chunks, words := c.words, gens := c.gens, sparse := c.sparse, tries := c.tries } who p m).snd.snd)
      else
       K false ⟨(x.size), (x.own), 3, ⟨(x.take.pc), (x.take.top), (x.take.next), (x.take.slot), (x.take.ok)⟩, (x.at_), (x.gen), (some ((placeStep { threads := c.threads, slots := c.slots, chunks := c.chunks, words := c.words, gens := c.gens, sparse := c.sparse, tries := c.tries } who p m).snd.1)), (bif (placeStep { threads := c.threads, slots := c.slots, chunks := c.chunks, words := c.words, gens := c.gens, sparse := c.sparse, tries := c.tries } who p m).snd.fst.ok then (placeStep { threads := c.threads, slots := c.slots, chunks := c.chunks, words := c.words, gens := c.gens, sparse := c.sparse, tries := c.tries } who p m).snd.fst.sa else 0), (bif (placeStep { threads := c.threads, slots := c.slots, chunks := c.chunks, words := c.words, gens := c.gens, sparse := c.sparse, tries := c.tries } who p m).snd.fst.ok then (placeStep { threads := c.threads, slots := c.slots, chunks := c.chunks, words := c.words, gens := c.gens, sparse := c.sparse, tries := c.tries } who p m).snd.fst.sc else 0), none, ⟨(x.out.e), (x.out.h), (x.out.v), (x.out.st)⟩⟩ ((placeStep { threads := c.threads, slots := c.slots, chunks := c.chunks, words := c.words, gens := c.gens, sparse := c.sparse, tries := c.tries } who p m).snd.snd)
     else
      K false ⟨(x.size), (x.own), (x.pc), ⟨(x.take.pc), (x.take.top), (x.take.next), (x.take.slot), (x.take.ok)⟩, (x.at_), (x.gen), (some ((placeStep { threads := c.threads, slots := c.slots, chunks := c.chunks, words := c.words, gens := c.gens, sparse := c.sparse, tries := c.tries } who p m).snd.1)), (x.sa), (x.sc), none, ⟨(x.out.e), (x.out.h), (x.out.v), (x.out.st)⟩⟩ ((placeStep { threads := c.threads, slots := c.slots, chunks := c.chunks, words := c.words, gens := c.gens, sparse := c.sparse, tries := c.tries } who p m).snd.snd)
    else
     bif decide (x.pc = 3) then
      K false ⟨(x.size), (x.own), 4, ⟨(x.take.pc), (x.take.top), (x.take.next), (x.take.slot), (x.take.ok)⟩, (x.at_), (x.gen), (some (p)), (x.sa), (x.sc), none, ⟨(x.out.e), (x.out.h), (x.out.v), (x.out.st)⟩⟩ (PMem.eAdd m who (wrI (lChunk c.threads c.slots c.chunks c.words c.gens c.sparse c.tries x.sc + 1)) (lRoom (lClass x.size)))
     else
      bif decide (x.pc = 4) then
       K false ⟨(x.size), (x.own), 5, ⟨(x.take.pc), (x.take.top), (x.take.next), (x.take.slot), (x.take.ok)⟩, (x.at_), (x.gen), (some (p)), (x.sa), (x.sc), none, ⟨(x.out.e), (x.out.h), (x.out.v), (x.out.st)⟩⟩ (PMem.eStore m who x.sa (putHead 1 x.size x.at_ x.gen x.own))
      else
       bif decide (x.pc = 5) then
        K false ⟨(x.size), (x.own), 6, ⟨(x.take.pc), (x.take.top), (x.take.next), (x.take.slot), (x.take.ok)⟩, (x.at_), (x.gen), (some (p)), (x.sa), (x.sc), none, ⟨0, (putHandle x.at_ x.gen), 0, ((PMem.eStore m who (lSlot c.threads c.slots c.chunks c.words c.gens c.sparse c.tries x.at_) (putSlot 1 x.sa x.gen 0)).steps)⟩⟩ (PMem.eStore m who (lSlot c.threads c.slots c.chunks c.words c.gens c.sparse c.tries x.at_) (putSlot 1 x.sa x.gen 0))
       else
        bif decide (x.pc = 6) then
         K true ⟨(x.size), (x.own), (x.pc), ⟨(x.take.pc), (x.take.top), (x.take.next), (x.take.slot), (x.take.ok)⟩, (x.at_), (x.gen), (some (p)), (x.sa), (x.sc), none, ⟨(x.out.e), (x.out.h), (x.out.v), (x.out.st)⟩⟩ (PMem.eStore m who x.sa (putHead 2 x.size x.at_ x.gen x.own))
        else
         K false ⟨(x.size), (x.own), (x.pc), ⟨(x.take.pc), (x.take.top), (x.take.next), (x.take.slot), (x.take.ok)⟩, (x.at_), (x.gen), (some (p)), (x.sa), (x.sc), none, ⟨(x.out.e), (x.out.h), (x.out.v), (x.out.st)⟩⟩ (m)

def allocStep10 (c : PCfg) (who : Int) (x : PAlloc) (p : PPlace) (m : PMem) : Bool × PAlloc × PMem := allocStep10K (false, x, m) twV c who x p m fun r x m => (r, x, m)

theorem allocStep10K_eq (c : PCfg) (who : Int) (x : PAlloc) (p : PPlace) (m : PMem) (K : Bool → PAlloc → PMem → Prop) : allocStep10K False twP c who x p m K = K (allocStep10 c who x p m).1 (allocStep10 c who x p m).2.1 (allocStep10 c who x p m).2.2 := by
  show _ = app3 K (allocStep10K (false, x, m) twV c who x p m fun r x m => (r, x, m))
  unfold allocStep10K
  repeat' first
    | refine cond3 ?_ ?_
    | refine tw3 (fun p => by simp only [and_self]) ?_
    | exact rfl

def allocStep01K {R : Type} (bot : R) (tw : (Prop → Prop) → R → R) (c : PCfg) (who : Int) (x : PAlloc) (give : PGive) (m : PMem) (K : Bool → PAlloc → PMem → R) : R :=
  bif decide (x.pc = 0) then
   bif decide (lClass x.size < 0) then
    K true ⟨(x.size), (x.own), (x.pc), ⟨(x.take.pc), (x.take.top), (x.take.next), (x.take.slot), (x.take.ok)⟩, (x.at_), (x.gen), none, (x.sa), (x.sc), (some (give)), ⟨5, 0, 0, (m.steps)⟩⟩ (m)
   else
    bif decide (x.take.pc = 0) then
     bif decide ((topOf (PMem.eLoad m who 1).fst).fst < 0) then
      bif !x.take.ok then
       K true ⟨(x.size), (x.own), 1, ⟨1, ((PMem.eLoad m who 1).fst), (x.take.next), ((topOf (PMem.eLoad m who 1).fst).fst), (x.take.ok)⟩, 0, (x.gen), none, (x.sa), (x.sc), (some (give)), ⟨7, 0, 0, ((PMem.eLoad m who 1).snd.steps)⟩⟩ ((PMem.eLoad m who 1).snd)
      else
       K false ⟨(x.size), (x.own), 1, ⟨1, ((PMem.eLoad m who 1).fst), (x.take.next), ((topOf (PMem.eLoad m who 1).fst).fst), (x.take.ok)⟩, ((topOf (PMem.eLoad m who 1).fst).fst), (x.gen), none, (x.sa), (x.sc), (some (give)), ⟨(x.out.e), (x.out.h), (x.out.v), (x.out.st)⟩⟩ ((PMem.eLoad m who 1).snd)
     else
      K false ⟨(x.size), (x.own), (x.pc), ⟨1, ((PMem.eLoad m who 1).fst), (x.take.next), ((topOf (PMem.eLoad m who 1).fst).fst), (x.take.ok)⟩, (x.at_), (x.gen), none, (x.sa), (x.sc), (some (give)), ⟨(x.out.e), (x.out.h), (x.out.v), (x.out.st)⟩⟩ ((PMem.eLoad m who 1).snd)
    else
     bif decide (x.take.pc = 1) then
      bif x.take.ok then
       bif !x.take.ok then
        K true ⟨(x.size), (x.own), 1, ⟨2, (x.take.top), ((topOf (PMem.eLoad m who (wrI (lSlot c.threads c.slots c.chunks c.words c.gens c.sparse c.tries x.take.slot + 1))).fst).fst), (x.take.slot), (x.take.ok)⟩, 0, (x.gen), none, (x.sa), (x.sc), (some (give)), ⟨7, 0, 0, ((PMem.eLoad m who (wrI (lSlot c.threads c.slots c.chunks c.words c.gens c.sparse c.tries x.take.slot + 1))).snd.steps)⟩⟩ ((PMem.eLoad m who (wrI (lSlot c.threads c.slots c.chunks c.words c.gens c.sparse c.tries x.take.slot + 1))).snd)
       else
        K false ⟨(x.size), (x.own), 1, ⟨2, (x.take.top), ((topOf (PMem.eLoad m who (wrI (lSlot c.threads c.slots c.chunks c.words c.gens c.sparse c.tries x.take.slot + 1))).fst).fst), (x.take.slot), (x.take.ok)⟩, (x.take.slot), (x.gen), none, (x.sa), (x.sc), (some (give)), ⟨(x.out.e), (x.out.h), (x.out.v), (x.out.st)⟩⟩ ((PMem.eLoad m who (wrI (lSlot c.threads c.slots c.chunks c.words c.gens c.sparse c.tries x.take.slot + 1))).snd)
      else
       K false ⟨(x.size), (x.own), (x.pc), ⟨2, (x.take.top), ((topOf (PMem.eLoad m who (wrI (lSlot c.threads c.slots c.chunks c.words c.gens c.sparse c.tries x.take.slot + 1))).fst).fst), (x.take.slot), (x.take.ok)⟩, (x.at_), (x.gen), none, (x.sa), (x.sc), (some (give)), ⟨(x.out.e), (x.out.h), (x.out.v), (x.out.st)⟩⟩ ((PMem.eLoad m who (wrI (lSlot c.threads c.slots c.chunks c.words c.gens c.sparse c.tries x.take.slot + 1))).snd)
     else
      bif (PMem.eCas m who 1 x.take.top (putTop x.take.next (wrI ((topOf x.take.top).snd + 1)))).fst then
       bif !(PMem.eCas m who 1 x.take.top (putTop x.take.next (wrI ((topOf x.take.top).snd + 1)))).fst then
        K true ⟨(x.size), (x.own), 1, ⟨0, (x.take.top), (x.take.next), (x.take.slot), ((PMem.eCas m who 1 x.take.top (putTop x.take.next (wrI ((topOf x.take.top).snd + 1)))).fst)⟩, 0, (x.gen), none, (x.sa), (x.sc), (some (give)), ⟨7, 0, 0, ((PMem.eCas m who 1 x.take.top (putTop x.take.next (wrI ((topOf x.take.top).snd + 1)))).snd.steps)⟩⟩ ((PMem.eCas m who 1 x.take.top (putTop x.take.next (wrI ((topOf x.take.top).snd + 1)))).snd)
       else
        K false ⟨(x.size), (x.own), 1, ⟨0, (x.take.top), (x.take.next), (x.take.slot), ((PMem.eCas m who 1 x.take.top (putTop x.take.next (wrI ((topOf x.take.top).snd + 1)))).fst)⟩, (x.take.slot), (x.gen), none, (x.sa), (x.sc), (some (give)), ⟨(x.out.e), (x.out.h), (x.out.v), (x.out.st)⟩⟩ ((PMem.eCas m who 1 x.take.top (putTop x.take.next (wrI ((topOf x.take.top).snd + 1)))).snd)
      else
       K false ⟨(x.size), (x.own), (x.pc), ⟨0, (x.take.top), (x.take.next), (x.take.slot), ((PMem.eCas m who 1 x.take.top (putTop x.take.next (wrI ((topOf x.take.top).snd + 1)))).fst)⟩, (x.at_), (x.gen), none, (x.sa), (x.sc), (some (give)), ⟨(x.out.e), (x.out.h), (x.out.v), (x.out.st)⟩⟩ ((PMem.eCas m who 1 x.take.top (putTop x.take.next (wrI ((topOf x.take.top).snd + 1)))).snd)
  else
   bif decide (x.pc = 1) then
    K false ⟨(x.size), (x.own), 2, ⟨(x.take.pc), (x.take.top), (x.take.next), (x.take.slot), (x.take.ok)⟩, (x.at_), ((slotOf (PMem.eLoad m who (lSlot c.threads c.slots c.chunks c.words c.gens c.sparse c.tries x.at_)).fst).snd.snd.fst), (some ⟨(lClass x.size), 0, 0, 0, 0, 0, 0, false⟩), (x.sa), (x.sc), (some (give)), ⟨(x.out.e), (x.out.h), (x.out.v), (x.out.st)⟩⟩ ((PMem.eLoad m who (lSlot c.threads c.slots c.chunks c.words c.gens c.sparse c.tries x.at_)).snd)
   else
    bif decide (x.pc = 2) then
     K false ⟨(x.size), (x.own), (x.pc), ⟨(x.take.pc), (x.take.top), (x.take.next), (x.take.slot), (x.take.ok)⟩, (x.at_), (x.gen), none, (x.sa), (x.sc), (some (give)), ⟨(x.out.e), (x.out.h), (x.out.v), (x.out.st)⟩⟩ (m)
    else
     bif decide (x.pc = 3) then
      K false ⟨(x.size), (x.own), 4, ⟨(x.take.pc), (x.take.top), (x.take.next), (x.take.slot), (x.take.ok)⟩, (x.at_), (x.gen), none, (x.sa), (x.sc), (some (give)), ⟨(x.out.e), (x.out.h), (x.out.v), (x.out.st)⟩⟩ (PMem.eAdd m who (wrI (lChunk c.threads c.slots c.chunks c.words c.gens c.sparse c.tries x.sc + 1)) (lRoom (lClass x.size)))
     else
      bif decide (x.pc = 4) then
       K false ⟨(x.size), (x.own), 5, ⟨(x.take.pc), (x.take.top), (x.take.next), (x.take.slot), (x.take.ok)⟩, (x.at_), (x.gen), none, (x.sa), (x.sc), (some (give)), ⟨(x.out.e), (x.out.h), (x.out.v), (x.out.st)⟩⟩ (PMem.eStore m who x.sa (putHead 1 x.size x.at_ x.gen x.own))
      else
       bif decide (x.pc = 5) then
        K false ⟨(x.size), (x.own), 6, ⟨(x.take.pc), (x.take.top), (x.take.next), (x.take.slot), (x.take.ok)⟩, (x.at_), (x.gen), none, (x.sa), (x.sc), (some (give)), ⟨0, (putHandle x.at_ x.gen), 0, ((PMem.eStore m who (lSlot c.threads c.slots c.chunks c.words c.gens c.sparse c.tries x.at_) (putSlot 1 x.sa x.gen 0)).steps)⟩⟩ (PMem.eStore m who (lSlot c.threads c.slots c.chunks c.words c.gens c.sparse c.tries x.at_) (putSlot 1 x.sa x.gen 0))
       else
        bif decide (x.pc = 6) then
         K true ⟨(x.size), (x.own), (x.pc), ⟨(x.take.pc), (x.take.top), (x.take.next), (x.take.slot), (x.take.ok)⟩, (x.at_), (x.gen), none, (x.sa), (x.sc), (some (give)), ⟨(x.out.e), (x.out.h), (x.out.v), (x.out.st)⟩⟩ (PMem.eStore m who x.sa (putHead 2 x.size x.at_ x.gen x.own))
        else
         K ((giveStep { threads := c.threads, slots := c.slots, chunks := c.chunks, words := c.words, gens := c.gens, sparse := c.sparse, tries := c.tries } who give m).fst) ⟨(x.size), (x.own), (x.pc), ⟨(x.take.pc), (x.take.top), (x.take.next), (x.take.slot), (x.take.ok)⟩, (x.at_), (x.gen), none, (x.sa), (x.sc), (some ((giveStep { threads := c.threads, slots := c.slots, chunks := c.chunks, words := c.words, gens := c.gens, sparse := c.sparse, tries := c.tries } who give m).snd.1)), ⟨(x.out.e), (x.out.h), (x.out.v), (x.out.st)⟩⟩ ((giveStep { threads := c.threads, slots := c.slots, chunks := c.chunks, words := c.words, gens := c.gens, sparse := c.sparse, tries := c.tries } who give m).snd.snd)

def allocStep01 (c : PCfg) (who : Int) (x : PAlloc) (give : PGive) (m : PMem) : Bool × PAlloc × PMem := allocStep01K (false, x, m) twV c who x give m fun r x m => (r, x, m)

theorem allocStep01K_eq (c : PCfg) (who : Int) (x : PAlloc) (give : PGive) (m : PMem) (K : Bool → PAlloc → PMem → Prop) : allocStep01K False twP c who x give m K = K (allocStep01 c who x give m).1 (allocStep01 c who x give m).2.1 (allocStep01 c who x give m).2.2 := by
  show _ = app3 K (allocStep01K (false, x, m) twV c who x give m fun r x m => (r, x, m))
  unfold allocStep01K
  repeat' first
    | refine cond3 ?_ ?_
    | refine tw3 (fun p => by simp only [and_self]) ?_
    | exact rfl

def allocStep11K {R : Type} (bot : R) (tw : (Prop → Prop) → R → R) (c : PCfg) (who : Int) (x : PAlloc) (p : PPlace) (give : PGive) (m : PMem) (K : Bool → PAlloc → PMem → R) : R :=
  bif decide (x.pc = 0) then
   bif decide (lClass x.size < 0) then
    K true ⟨(x.size), (x.own), (x.pc), ⟨(x.take.pc), (x.take.top), (x.take.next), (x.take.slot), (x.take.ok)⟩, (x.at_), (x.gen), (some (p)), (x.sa), (x.sc), (some (give)), ⟨5, 0, 0, (m.steps)⟩⟩ (m)
   else
    bif decide (x.take.pc = 0) then
     bif decide ((topOf (PMem.eLoad m who 1).fst).fst < 0) then
      bif !x.take.ok then
       K true ⟨(x.size), (x.own), 1, ⟨1, ((PMem.eLoad m who 1).fst), (x.take.next), ((topOf (PMem.eLoad m who 1).fst).fst), (x.take.ok)⟩, 0, (x.gen), (some (p)), (x.sa), (x.sc), (some (give)), ⟨7, 0, 0, ((PMem.eLoad m who 1).snd.steps)⟩⟩ ((PMem.eLoad m who 1).snd)
      else
       K false ⟨(x.size), (x.own), 1, ⟨1, ((PMem.eLoad m who 1).fst), (x.take.next), ((topOf (PMem.eLoad m who 1).fst).fst), (x.take.ok)⟩, ((topOf (PMem.eLoad m who 1).fst).fst), (x.gen), (some (p)), (x.sa), (x.sc), (some (give)), ⟨(x.out.e), (x.out.h), (x.out.v), (x.out.st)⟩⟩ ((PMem.eLoad m who 1).snd)
     else
      K false ⟨(x.size), (x.own), (x.pc), ⟨1, ((PMem.eLoad m who 1).fst), (x.take.next), ((topOf (PMem.eLoad m who 1).fst).fst), (x.take.ok)⟩, (x.at_), (x.gen), (some (p)), (x.sa), (x.sc), (some (give)), ⟨(x.out.e), (x.out.h), (x.out.v), (x.out.st)⟩⟩ ((PMem.eLoad m who 1).snd)
    else
     bif decide (x.take.pc = 1) then
      bif x.take.ok then
       bif !x.take.ok then
        K true ⟨(x.size), (x.own), 1, ⟨2, (x.take.top), ((topOf (PMem.eLoad m who (wrI (lSlot c.threads c.slots c.chunks c.words c.gens c.sparse c.tries x.take.slot + 1))).fst).fst), (x.take.slot), (x.take.ok)⟩, 0, (x.gen), (some (p)), (x.sa), (x.sc), (some (give)), ⟨7, 0, 0, ((PMem.eLoad m who (wrI (lSlot c.threads c.slots c.chunks c.words c.gens c.sparse c.tries x.take.slot + 1))).snd.steps)⟩⟩ ((PMem.eLoad m who (wrI (lSlot c.threads c.slots c.chunks c.words c.gens c.sparse c.tries x.take.slot + 1))).snd)
       else
        K false ⟨(x.size), (x.own), 1, ⟨2, (x.take.top), ((topOf (PMem.eLoad m who (wrI (lSlot c.threads c.slots c.chunks c.words c.gens c.sparse c.tries x.take.slot + 1))).fst).fst), (x.take.slot), (x.take.ok)⟩, (x.take.slot), (x.gen), (some (p)), (x.sa), (x.sc), (some (give)), ⟨(x.out.e), (x.out.h), (x.out.v), (x.out.st)⟩⟩ ((PMem.eLoad m who (wrI (lSlot c.threads c.slots c.chunks c.words c.gens c.sparse c.tries x.take.slot + 1))).snd)
      else
       K false ⟨(x.size), (x.own), (x.pc), ⟨2, (x.take.top), ((topOf (PMem.eLoad m who (wrI (lSlot c.threads c.slots c.chunks c.words c.gens c.sparse c.tries x.take.slot + 1))).fst).fst), (x.take.slot), (x.take.ok)⟩, (x.at_), (x.gen), (some (p)), (x.sa), (x.sc), (some (give)), ⟨(x.out.e), (x.out.h), (x.out.v), (x.out.st)⟩⟩ ((PMem.eLoad m who (wrI (lSlot c.threads c.slots c.chunks c.words c.gens c.sparse c.tries x.take.slot + 1))).snd)
     else
      bif (PMem.eCas m who 1 x.take.top (putTop x.take.next (wrI ((topOf x.take.top).snd + 1)))).fst then
       bif !(PMem.eCas m who 1 x.take.top (putTop x.take.next (wrI ((topOf x.take.top).snd + 1)))).fst then
        K true ⟨(x.size), (x.own), 1, ⟨0, (x.take.top), (x.take.next), (x.take.slot), ((PMem.eCas m who 1 x.take.top (putTop x.take.next (wrI ((topOf x.take.top).snd + 1)))).fst)⟩, 0, (x.gen), (some (p)), (x.sa), (x.sc), (some (give)), ⟨7, 0, 0, ((PMem.eCas m who 1 x.take.top (putTop x.take.next (wrI ((topOf x.take.top).snd + 1)))).snd.steps)⟩⟩ ((PMem.eCas m who 1 x.take.top (putTop x.take.next (wrI ((topOf x.take.top).snd + 1)))).snd)
       else
        K false ⟨(x.size), (x.own), 1, ⟨0, (x.take.top), (x.take.next), (x.take.slot), ((PMem.eCas m who 1 x.take.top (putTop x.take.next (wrI ((topOf x.take.top).snd + 1)))).fst)⟩, (x.take.slot), (x.gen), (some (p)), (x.sa), (x.sc), (some (give)), ⟨(x.out.e), (x.out.h), (x.out.v), (x.out.st)⟩⟩ ((PMem.eCas m who 1 x.take.top (putTop x.take.next (wrI ((topOf x.take.top).snd + 1)))).snd)
      else
       K false ⟨(x.size), (x.own), (x.pc), ⟨0, (x.take.top), (x.take.next), (x.take.slot), ((PMem.eCas m who 1 x.take.top (putTop x.take.next (wrI ((topOf x.take.top).snd + 1)))).fst)⟩, (x.at_), (x.gen), (some (p)), (x.sa), (x.sc), (some (give)), ⟨(x.out.e), (x.out.h), (x.out.v), (x.out.st)⟩⟩ ((PMem.eCas m who 1 x.take.top (putTop x.take.next (wrI ((topOf x.take.top).snd + 1)))).snd)
  else
   bif decide (x.pc = 1) then
    K false ⟨(x.size), (x.own), 2, ⟨(x.take.pc), (x.take.top), (x.take.next), (x.take.slot), (x.take.ok)⟩, (x.at_), ((slotOf (PMem.eLoad m who (lSlot c.threads c.slots c.chunks c.words c.gens c.sparse c.tries x.at_)).fst).snd.snd.fst), (some ⟨(lClass x.size), 0, 0, 0, 0, 0, 0, false⟩), (x.sa), (x.sc), (some (give)), ⟨(x.out.e), (x.out.h), (x.out.v), (x.out.st)⟩⟩ ((PMem.eLoad m who (lSlot c.threads c.slots c.chunks c.words c.gens c.sparse c.tries x.at_)).snd)
   else
    bif decide (x.pc = 2) then
     bif (placeStep { threads := c.threads, slots := c.slots, chunks := c.chunks, words := c.words, gens := c.gens, sparse := c.sparse, tries := c.tries } who p m).fst then
      bif !(placeStep { threads := c.threads, slots := c.slots, chunks := c.chunks, words := c.words, gens := c.gens, sparse := c.sparse, tries := c.tries } who p m).snd.fst.ok then
       K false ⟨(x.size), (x.own), 7, ⟨(x.take.pc), (x.take.top), (x.take.next), (x.take.slot), (x.take.ok)⟩, (x.at_), (x.gen), (some ((placeStep { threads := c.threads, slots := c.slots, chunks := c.chunks, words := c.words, gens := c.gens, sparse := c.sparse, tries := c.tries } who p m).snd.1)), (bif (placeStep { threads := c.threads, slots := c.slots, chunks := c.chunks, words := c.words, gens := c.gens, sparse := c.sparse, tries := c.tries } who p m).snd.fst.ok then (placeStep { threads := c.threads, slots := c.slots, chunks := c.chunks, words := c.words, gens := c.gens, sparse := c.sparse, tries := c.tries } who p m).snd.fst.sa else 0), (bif (placeStep { threads := c.threads, slots := c.slots, chunks := c.chunks, words := c.words, gens := c.gens, sparse := c.sparse, tries := c.tries } who p m).snd.fst.ok then (placeStep { threads := c.threads, slots := c.slots, chunks := c.chunks, words := c.words, gens := c.gens, sparse := c.sparse, tries := c.tries } who p m).snd.fst.sc else 0), (some ⟨0, (x.at_), 0⟩), ⟨6, 0, 0, ((placeStep { threads := c.threads, slots := c.slots, chunks := c.chunks, words := c.words, gens := c.gens, sparse := c.sparse, tries := c.tries } who p m).snd.snd.steps)⟩⟩ ((placeStep { threads := c.threads, slots := c.slots, chunks := c.chunks, words := c.words, gens := c.gens, sparse := c.sparse, tries := c.tries } who p m).snd.snd)
      else
       K false ⟨(x.size), (x.own), 3, ⟨(x.take.pc), (x.take.top), (x.take.next), (x.take.slot), (x.take.ok)⟩, (x.at_), (x.gen), (some ((placeStep { threads := c.threads, slots := c.slots, chunks := c.chunks, words := c.words, gens := c.gens, sparse := c.sparse, tries := c.tries } who p m).snd.1)), (bif (placeStep { threads := c.threads, slots := c.slots, chunks := c.chunks, words := c.words, gens := c.gens, sparse := c.sparse, tries := c.tries } who p m).snd.fst.ok then (placeStep { threads := c.threads, slots := c.slots, chunks := c.chunks, words := c.words, gens := c.gens, sparse := c.sparse, tries := c.tries } who p m).snd.fst.sa else 0), (bif (placeStep { threads := c.threads, slots := c.slots, chunks := c.chunks, words := c.words, gens := c.gens, sparse := c.sparse, tries := c.tries } who p m).snd.fst.ok then (placeStep { threads := c.threads, slots := c.slots, chunks := c.chunks, words := c.words, gens := c.gens, sparse := c.sparse, tries := c.tries } who p m).snd.fst.sc else 0), (some (give)), ⟨(x.out.e), (x.out.h), (x.out.v), (x.out.st)⟩⟩ ((placeStep { threads := c.threads, slots := c.slots, chunks := c.chunks, words := c.words, gens := c.gens, sparse := c.sparse, tries := c.tries } who p m).snd.snd)
     else
      K false ⟨(x.size), (x.own), (x.pc), ⟨(x.take.pc), (x.take.top), (x.take.next), (x.take.slot), (x.take.ok)⟩, (x.at_), (x.gen), (some ((placeStep { threads := c.threads, slots := c.slots, chunks := c.chunks, words := c.words, gens := c.gens, sparse := c.sparse, tries := c.tries } who p m).snd.1)), (x.sa), (x.sc), (some (give)), ⟨(x.out.e), (x.out.h), (x.out.v), (x.out.st)⟩⟩ ((placeStep { threads := c.threads, slots := c.slots, chunks := c.chunks, words := c.words, gens := c.gens, sparse := c.sparse, tries := c.tries } who p m).snd.snd)
    else
     bif decide (x.pc = 3) then
      K false ⟨(x.size), (x.own), 4, ⟨(x.take.pc), (x.take.top), (x.take.next), (x.take.slot), (x.take.ok)⟩, (x.at_), (x.gen), (some (p)), (x.sa), (x.sc), (some (give)), ⟨(x.out.e), (x.out.h), (x.out.v), (x.out.st)⟩⟩ (PMem.eAdd m who (wrI (lChunk c.threads c.slots c.chunks c.words c.gens c.sparse c.tries x.sc + 1)) (lRoom (lClass x.size)))
     else
      bif decide (x.pc = 4) then
       K false ⟨(x.size), (x.own), 5, ⟨(x.take.pc), (x.take.top), (x.take.next), (x.take.slot), (x.take.ok)⟩, (x.at_), (x.gen), (some (p)), (x.sa), (x.sc), (some (give)), ⟨(x.out.e), (x.out.h), (x.out.v), (x.out.st)⟩⟩ (PMem.eStore m who x.sa (putHead 1 x.size x.at_ x.gen x.own))
      else
       bif decide (x.pc = 5) then
        K false ⟨(x.size), (x.own), 6, ⟨(x.take.pc), (x.take.top), (x.take.next), (x.take.slot), (x.take.ok)⟩, (x.at_), (x.gen), (some (p)), (x.sa), (x.sc), (some (give)), ⟨0, (putHandle x.at_ x.gen), 0, ((PMem.eStore m who (lSlot c.threads c.slots c.chunks c.words c.gens c.sparse c.tries x.at_) (putSlot 1 x.sa x.gen 0)).steps)⟩⟩ (PMem.eStore m who (lSlot c.threads c.slots c.chunks c.words c.gens c.sparse c.tries x.at_) (putSlot 1 x.sa x.gen 0))
       else
        bif decide (x.pc = 6) then
         K true ⟨(x.size), (x.own), (x.pc), ⟨(x.take.pc), (x.take.top), (x.take.next), (x.take.slot), (x.take.ok)⟩, (x.at_), (x.gen), (some (p)), (x.sa), (x.sc), (some (give)), ⟨(x.out.e), (x.out.h), (x.out.v), (x.out.st)⟩⟩ (PMem.eStore m who x.sa (putHead 2 x.size x.at_ x.gen x.own))
        else
         K ((giveStep { threads := c.threads, slots := c.slots, chunks := c.chunks, words := c.words, gens := c.gens, sparse := c.sparse, tries := c.tries } who give m).fst) ⟨(x.size), (x.own), (x.pc), ⟨(x.take.pc), (x.take.top), (x.take.next), (x.take.slot), (x.take.ok)⟩, (x.at_), (x.gen), (some (p)), (x.sa), (x.sc), (some ((giveStep { threads := c.threads, slots := c.slots, chunks := c.chunks, words := c.words, gens := c.gens, sparse := c.sparse, tries := c.tries } who give m).snd.1)), ⟨(x.out.e), (x.out.h), (x.out.v), (x.out.st)⟩⟩ ((giveStep { threads := c.threads, slots := c.slots, chunks := c.chunks, words := c.words, gens := c.gens, sparse := c.sparse, tries := c.tries } who give m).snd.snd)

def allocStep11 (c : PCfg) (who : Int) (x : PAlloc) (p : PPlace) (give : PGive) (m : PMem) : Bool × PAlloc × PMem := allocStep11K (false, x, m) twV c who x p give m fun r x m => (r, x, m)

theorem allocStep11K_eq (c : PCfg) (who : Int) (x : PAlloc) (p : PPlace) (give : PGive) (m : PMem) (K : Bool → PAlloc → PMem → Prop) : allocStep11K False twP c who x p give m K = K (allocStep11 c who x p give m).1 (allocStep11 c who x p give m).2.1 (allocStep11 c who x p give m).2.2 := by
  show _ = app3 K (allocStep11K (false, x, m) twV c who x p give m fun r x m => (r, x, m))
  unfold allocStep11K
  repeat' first
    | refine cond3 ?_ ?_
    | refine tw3 (fun p => by simp only [and_self]) ?_
    | exact rfl

def allocStep (c : PCfg) (who : Int) (x : PAlloc) (m : PMem) : Bool × PAlloc × PMem := match x.p, x.give with
  | none, none => allocStep00 c who x m
  | some p, none => allocStep10 c who x p m
  | none, some give => allocStep01 c who x give m
  | some p, some give => allocStep11 c who x p give m

def dropStep00K {R : Type} (bot : R) (tw : (Prop → Prop) → R → R) (c : PCfg) (who : Int) (x : PDrop) (m : PMem) (K : Bool → PDrop → PMem → R) : R :=
  bif decide (x.pc = 0) then
   bif !(handle x.n).snd.snd then
    K true ⟨(x.n), (x.own), ((handle x.n).fst), ((handle x.n).snd.fst), (x.pc), (x.w), (x.size), none, none, ⟨3, 0, 0, (m.steps)⟩⟩ (m)
   else
    bif decide (c.slots ≤ (handle x.n).fst) then
     K true ⟨(x.n), (x.own), ((handle x.n).fst), ((handle x.n).snd.fst), (x.pc), (x.w), (x.size), none, none, ⟨3, 0, 0, (m.steps)⟩⟩ (m)
    else
     bif !live (slotOf (PMem.eLoad m who (lSlot c.threads c.slots c.chunks c.words c.gens c.sparse c.tries (handle x.n).fst)).fst).fst (slotOf (PMem.eLoad m who (lSlot c.threads c.slots c.chunks c.words c.gens c.sparse c.tries (handle x.n).fst)).fst).snd.fst (slotOf (PMem.eLoad m who (lSlot c.threads c.slots c.chunks c.words c.gens c.sparse c.tries (handle x.n).fst)).fst).snd.snd.fst (slotOf (PMem.eLoad m who (lSlot c.threads c.slots c.chunks c.words c.gens c.sparse c.tries (handle x.n).fst)).fst).snd.snd.snd (handle x.n).fst (handle x.n).snd.fst then
      K true ⟨(x.n), (x.own), ((handle x.n).fst), ((handle x.n).snd.fst), (x.pc), ((PMem.eLoad m who (lSlot c.threads c.slots c.chunks c.words c.gens c.sparse c.tries (handle x.n).fst)).fst), (x.size), none, none, ⟨3, 0, 0, ((PMem.eLoad m who (lSlot c.threads c.slots c.chunks c.words c.gens c.sparse c.tries (handle x.n).fst)).snd.steps)⟩⟩ ((PMem.eLoad m who (lSlot c.threads c.slots c.chunks c.words c.gens c.sparse c.tries (handle x.n).fst)).snd)
     else
      K false ⟨(x.n), (x.own), ((handle x.n).fst), ((handle x.n).snd.fst), 1, ((PMem.eLoad m who (lSlot c.threads c.slots c.chunks c.words c.gens c.sparse c.tries (handle x.n).fst)).fst), (x.size), none, none, ⟨(x.out.e), (x.out.h), (x.out.v), (x.out.st)⟩⟩ ((PMem.eLoad m who (lSlot c.threads c.slots c.chunks c.words c.gens c.sparse c.tries (handle x.n).fst)).snd)
  else
   bif decide (x.pc = 1) then
    tw (fun p => (((p ∧ p) ∧ p) ∧ p)) (
     bif !(headOf (PMem.eLoad m who (slotOf x.w).snd.fst).fst).snd.snd.snd.snd == x.own then
      K true ⟨(x.n), (x.own), (x.hs), (x.hg), (x.pc), (x.w), (x.size), none, none, ⟨3, 0, 0, ((PMem.eLoad m who (slotOf x.w).snd.fst).snd.steps)⟩⟩ ((PMem.eLoad m who (slotOf x.w).snd.fst).snd)
     else
      bif decide ((slotOf x.w).fst = 4) then
       K false ⟨(x.n), (x.own), (x.hs), (x.hg), 4, (x.w), ((headOf (PMem.eLoad m who (slotOf x.w).snd.fst).fst).snd.fst), (some ⟨(x.hs), (x.w), ((headOf (PMem.eLoad m who (slotOf x.w).snd.fst).fst).snd.fst), 0, 0, false, false⟩), none, ⟨(x.out.e), (x.out.h), (x.out.v), (x.out.st)⟩⟩ ((PMem.eLoad m who (slotOf x.w).snd.fst).snd)
      else
       K false ⟨(x.n), (x.own), (x.hs), (x.hg), 2, (x.w), ((headOf (PMem.eLoad m who (slotOf x.w).snd.fst).fst).snd.fst), none, none, ⟨(x.out.e), (x.out.h), (x.out.v), (x.out.st)⟩⟩ ((PMem.eLoad m who (slotOf x.w).snd.fst).snd))
   else
    bif decide (x.pc = 2) then
     bif (PMem.eCas m who (lSlot c.threads c.slots c.chunks c.words c.gens c.sparse c.tries x.hs) x.w (putSlot 4 (slotOf x.w).snd.fst (slotOf x.w).snd.snd.fst (wrI ((slotOf x.w).snd.snd.snd + 1)))).fst then
      K false ⟨(x.n), (x.own), (x.hs), (x.hg), 3, (x.w), (x.size), (some ⟨(x.hs), (putSlot 4 (slotOf x.w).snd.fst (slotOf x.w).snd.snd.fst (wrI ((slotOf x.w).snd.snd.snd + 1))), (x.size), 0, 0, false, false⟩), none, ⟨(x.out.e), (x.out.h), (x.out.v), (x.out.st)⟩⟩ ((PMem.eCas m who (lSlot c.threads c.slots c.chunks c.words c.gens c.sparse c.tries x.hs) x.w (putSlot 4 (slotOf x.w).snd.fst (slotOf x.w).snd.snd.fst (wrI ((slotOf x.w).snd.snd.snd + 1)))).snd)
     else
      K false ⟨(x.n), (x.own), (x.hs), (x.hg), 0, (x.w), (x.size), none, none, ⟨(x.out.e), (x.out.h), (x.out.v), (x.out.st)⟩⟩ ((PMem.eCas m who (lSlot c.threads c.slots c.chunks c.words c.gens c.sparse c.tries x.hs) x.w (putSlot 4 (slotOf x.w).snd.fst (slotOf x.w).snd.snd.fst (wrI ((slotOf x.w).snd.snd.snd + 1)))).snd)
    else
     bif decide (x.pc = 3) then
      K false ⟨(x.n), (x.own), (x.hs), (x.hg), (x.pc), (x.w), (x.size), none, none, ⟨(x.out.e), (x.out.h), (x.out.v), (x.out.st)⟩⟩ (m)
     else
      bif decide (x.pc = 4) then
       K false ⟨(x.n), (x.own), (x.hs), (x.hg), (x.pc), (x.w), (x.size), none, none, ⟨(x.out.e), (x.out.h), (x.out.v), (x.out.st)⟩⟩ (m)
      else
       bif decide (x.pc = 5) then
        bif decide (c.words = 0) then
         bot
        else
         K (decide (c.gens ≤ x.hg)) ⟨(x.n), (x.own), (x.hs), (x.hg), 6, (x.w), (x.size), none, (some ⟨0, (x.hs), 0⟩), ⟨(x.out.e), (x.out.h), (x.out.v), (x.out.st)⟩⟩ (PMem.eAdd m who (wrI (lChunk c.threads c.slots c.chunks c.words c.gens c.sparse c.tries (lOf c.threads c.slots c.chunks c.words c.gens c.sparse c.tries (slotOf x.w).snd.fst) + 1)) (wrI (0 - lRoom (lClass x.size))))
       else
        K false ⟨(x.n), (x.own), (x.hs), (x.hg), (x.pc), (x.w), (x.size), none, none, ⟨(x.out.e), (x.out.h), (x.out.v), (x.out.st)⟩⟩ (m)

def dropStep00 (c : PCfg) (who : Int) (x : PDrop) (m : PMem) : Bool × PDrop × PMem := dropStep00K (false, x, m) twV c who x m fun r x m => (r, x, m)

theorem dropStep00K_eq (c : PCfg) (who : Int) (x : PDrop) (m : PMem) (hc : c.words ≠ 0) (K : Bool → PDrop → PMem → Prop) : dropStep00K False twP c who x m K = K (dropStep00 c who x m).1 (dropStep00 c who x m).2.1 (dropStep00 c who x m).2.2 := by
  show _ = app3 K (dropStep00K (false, x, m) twV c who x m fun r x m => (r, x, m))
  unfold dropStep00K
  repeat' first
    | refine condH (decide_eq_false hc) ?_
    | refine cond3 ?_ ?_
    | refine tw3 (fun p => by simp only [and_self]) ?_
    | exact rfl

def dropStep10K {R : Type} (bot : R) (tw : (Prop → Prop) → R → R) (c : PCfg) (who : Int) (x : PDrop) (help : PHelp) (m : PMem) (K : Bool → PDrop → PMem → R) : R :=
  bif decide (x.pc = 0) then
   bif !(handle x.n).snd.snd then
    K true ⟨(x.n), (x.own), ((handle x.n).fst), ((handle x.n).snd.fst), (x.pc), (x.w), (x.size), (some (help)), none, ⟨3, 0, 0, (m.steps)⟩⟩ (m)
   else
    bif decide (c.slots ≤ (handle x.n).fst) then
     K true ⟨(x.n), (x.own), ((handle x.n).fst), ((handle x.n).snd.fst), (x.pc), (x.w), (x.size), (some (help)), none, ⟨3, 0, 0, (m.steps)⟩⟩ (m)
    else
     bif !live (slotOf (PMem.eLoad m who (lSlot c.threads c.slots c.chunks c.words c.gens c.sparse c.tries (handle x.n).fst)).fst).fst (slotOf (PMem.eLoad m who (lSlot c.threads c.slots c.chunks c.words c.gens c.sparse c.tries (handle x.n).fst)).fst).snd.fst (slotOf (PMem.eLoad m who (lSlot c.threads c.slots c.chunks c.words c.gens c.sparse c.tries (handle x.n).fst)).fst).snd.snd.fst (slotOf (PMem.eLoad m who (lSlot c.threads c.slots c.chunks c.words c.gens c.sparse c.tries (handle x.n).fst)).fst).snd.snd.snd (handle x.n).fst (handle x.n).snd.fst then
      K true ⟨(x.n), (x.own), ((handle x.n).fst), ((handle x.n).snd.fst), (x.pc), ((PMem.eLoad m who (lSlot c.threads c.slots c.chunks c.words c.gens c.sparse c.tries (handle x.n).fst)).fst), (x.size), (some (help)), none, ⟨3, 0, 0, ((PMem.eLoad m who (lSlot c.threads c.slots c.chunks c.words c.gens c.sparse c.tries (handle x.n).fst)).snd.steps)⟩⟩ ((PMem.eLoad m who (lSlot c.threads c.slots c.chunks c.words c.gens c.sparse c.tries (handle x.n).fst)).snd)
     else
      K false ⟨(x.n), (x.own), ((handle x.n).fst), ((handle x.n).snd.fst), 1, ((PMem.eLoad m who (lSlot c.threads c.slots c.chunks c.words c.gens c.sparse c.tries (handle x.n).fst)).fst), (x.size), (some (help)), none, ⟨(x.out.e), (x.out.h), (x.out.v), (x.out.st)⟩⟩ ((PMem.eLoad m who (lSlot c.threads c.slots c.chunks c.words c.gens c.sparse c.tries (handle x.n).fst)).snd)
  else
   bif decide (x.pc = 1) then
    tw (fun p => (((p ∧ p) ∧ p) ∧ p)) (
     bif !(headOf (PMem.eLoad m who (slotOf x.w).snd.fst).fst).snd.snd.snd.snd == x.own then
      K true ⟨(x.n), (x.own), (x.hs), (x.hg), (x.pc), (x.w), (x.size), (some (help)), none, ⟨3, 0, 0, ((PMem.eLoad m who (slotOf x.w).snd.fst).snd.steps)⟩⟩ ((PMem.eLoad m who (slotOf x.w).snd.fst).snd)
     else
      bif decide ((slotOf x.w).fst = 4) then
       K false ⟨(x.n), (x.own), (x.hs), (x.hg), 4, (x.w), ((headOf (PMem.eLoad m who (slotOf x.w).snd.fst).fst).snd.fst), (some ⟨(x.hs), (x.w), ((headOf (PMem.eLoad m who (slotOf x.w).snd.fst).fst).snd.fst), 0, 0, false, false⟩), none, ⟨(x.out.e), (x.out.h), (x.out.v), (x.out.st)⟩⟩ ((PMem.eLoad m who (slotOf x.w).snd.fst).snd)
      else
       K false ⟨(x.n), (x.own), (x.hs), (x.hg), 2, (x.w), ((headOf (PMem.eLoad m who (slotOf x.w).snd.fst).fst).snd.fst), (some (help)), none, ⟨(x.out.e), (x.out.h), (x.out.v), (x.out.st)⟩⟩ ((PMem.eLoad m who (slotOf x.w).snd.fst).snd))
   else
    bif decide (x.pc = 2) then
     bif (PMem.eCas m who (lSlot c.threads c.slots c.chunks c.words c.gens c.sparse c.tries x.hs) x.w (putSlot 4 (slotOf x.w).snd.fst (slotOf x.w).snd.snd.fst (wrI ((slotOf x.w).snd.snd.snd + 1)))).fst then
      K false ⟨(x.n), (x.own), (x.hs), (x.hg), 3, (x.w), (x.size), (some ⟨(x.hs), (putSlot 4 (slotOf x.w).snd.fst (slotOf x.w).snd.snd.fst (wrI ((slotOf x.w).snd.snd.snd + 1))), (x.size), 0, 0, false, false⟩), none, ⟨(x.out.e), (x.out.h), (x.out.v), (x.out.st)⟩⟩ ((PMem.eCas m who (lSlot c.threads c.slots c.chunks c.words c.gens c.sparse c.tries x.hs) x.w (putSlot 4 (slotOf x.w).snd.fst (slotOf x.w).snd.snd.fst (wrI ((slotOf x.w).snd.snd.snd + 1)))).snd)
     else
      K false ⟨(x.n), (x.own), (x.hs), (x.hg), 0, (x.w), (x.size), (some (help)), none, ⟨(x.out.e), (x.out.h), (x.out.v), (x.out.st)⟩⟩ ((PMem.eCas m who (lSlot c.threads c.slots c.chunks c.words c.gens c.sparse c.tries x.hs) x.w (putSlot 4 (slotOf x.w).snd.fst (slotOf x.w).snd.snd.fst (wrI ((slotOf x.w).snd.snd.snd + 1)))).snd)
    else
     bif decide (x.pc = 3) then
      bif (helpStep { threads := c.threads, slots := c.slots, chunks := c.chunks, words := c.words, gens := c.gens, sparse := c.sparse, tries := c.tries } who help m).fst then
       K false ⟨(x.n), (x.own), (x.hs), (x.hg), 5, (x.w), (x.size), (some ((helpStep { threads := c.threads, slots := c.slots, chunks := c.chunks, words := c.words, gens := c.gens, sparse := c.sparse, tries := c.tries } who help m).snd.1)), none, ⟨0, 0, 0, (PMem.when_ (helpStep { threads := c.threads, slots := c.slots, chunks := c.chunks, words := c.words, gens := c.gens, sparse := c.sparse, tries := c.tries } who help m).snd.snd (lSlot c.threads c.slots c.chunks c.words c.gens c.sparse c.tries x.hs))⟩⟩ ((helpStep { threads := c.threads, slots := c.slots, chunks := c.chunks, words := c.words, gens := c.gens, sparse := c.sparse, tries := c.tries } who help m).snd.snd)
      else
       K false ⟨(x.n), (x.own), (x.hs), (x.hg), (x.pc), (x.w), (x.size), (some ((helpStep { threads := c.threads, slots := c.slots, chunks := c.chunks, words := c.words, gens := c.gens, sparse := c.sparse, tries := c.tries } who help m).snd.1)), none, ⟨(x.out.e), (x.out.h), (x.out.v), (x.out.st)⟩⟩ ((helpStep { threads := c.threads, slots := c.slots, chunks := c.chunks, words := c.words, gens := c.gens, sparse := c.sparse, tries := c.tries } who help m).snd.snd)
     else
      bif decide (x.pc = 4) then
       bif (helpStep { threads := c.threads, slots := c.slots, chunks := c.chunks, words := c.words, gens := c.gens, sparse := c.sparse, tries := c.tries } who help m).fst then
        K false ⟨(x.n), (x.own), (x.hs), (x.hg), 0, (x.w), (x.size), (some ((helpStep { threads := c.threads, slots := c.slots, chunks := c.chunks, words := c.words, gens := c.gens, sparse := c.sparse, tries := c.tries } who help m).snd.1)), none, ⟨(x.out.e), (x.out.h), (x.out.v), (x.out.st)⟩⟩ ((helpStep { threads := c.threads, slots := c.slots, chunks := c.chunks, words := c.words, gens := c.gens, sparse := c.sparse, tries := c.tries } who help m).snd.snd)
       else
        K false ⟨(x.n), (x.own), (x.hs), (x.hg), (x.pc), (x.w), (x.size), (some ((helpStep { threads := c.threads, slots := c.slots, chunks := c.chunks, words := c.words, gens := c.gens, sparse := c.sparse, tries := c.tries } who help m).snd.1)), none, ⟨(x.out.e), (x.out.h), (x.out.v), (x.out.st)⟩⟩ ((helpStep { threads := c.threads, slots := c.slots, chunks := c.chunks, words := c.words, gens := c.gens, sparse := c.sparse, tries := c.tries } who help m).snd.snd)
      else
       bif decide (x.pc = 5) then
        bif decide (c.words = 0) then
         bot
        else
         K (decide (c.gens ≤ x.hg)) ⟨(x.n), (x.own), (x.hs), (x.hg), 6, (x.w), (x.size), (some (help)), (some ⟨0, (x.hs), 0⟩), ⟨(x.out.e), (x.out.h), (x.out.v), (x.out.st)⟩⟩ (PMem.eAdd m who (wrI (lChunk c.threads c.slots c.chunks c.words c.gens c.sparse c.tries (lOf c.threads c.slots c.chunks c.words c.gens c.sparse c.tries (slotOf x.w).snd.fst) + 1)) (wrI (0 - lRoom (lClass x.size))))
       else
        K false ⟨(x.n), (x.own), (x.hs), (x.hg), (x.pc), (x.w), (x.size), (some (help)), none, ⟨(x.out.e), (x.out.h), (x.out.v), (x.out.st)⟩⟩ (m)

def dropStep10 (c : PCfg) (who : Int) (x : PDrop) (help : PHelp) (m : PMem) : Bool × PDrop × PMem := dropStep10K (false, x, m) twV c who x help m fun r x m => (r, x, m)

theorem dropStep10K_eq (c : PCfg) (who : Int) (x : PDrop) (help : PHelp) (m : PMem) (hc : c.words ≠ 0) (K : Bool → PDrop → PMem → Prop) : dropStep10K False twP c who x help m K = K (dropStep10 c who x help m).1 (dropStep10 c who x help m).2.1 (dropStep10 c who x help m).2.2 := by
  show _ = app3 K (dropStep10K (false, x, m) twV c who x help m fun r x m => (r, x, m))
  unfold dropStep10K
  repeat' first
    | refine condH (decide_eq_false hc) ?_
    | refine cond3 ?_ ?_
    | refine tw3 (fun p => by simp only [and_self]) ?_
    | exact rfl

def dropStep01K {R : Type} (bot : R) (tw : (Prop → Prop) → R → R) (c : PCfg) (who : Int) (x : PDrop) (give : PGive) (m : PMem) (K : Bool → PDrop → PMem → R) : R :=
  bif decide (x.pc = 0) then
   bif !(handle x.n).snd.snd then
    K true ⟨(x.n), (x.own), ((handle x.n).fst), ((handle x.n).snd.fst), (x.pc), (x.w), (x.size), none, (some (give)), ⟨3, 0, 0, (m.steps)⟩⟩ (m)
   else
    bif decide (c.slots ≤ (handle x.n).fst) then
     K true ⟨(x.n), (x.own), ((handle x.n).fst), ((handle x.n).snd.fst), (x.pc), (x.w), (x.size), none, (some (give)), ⟨3, 0, 0, (m.steps)⟩⟩ (m)
    else
     bif !live (slotOf (PMem.eLoad m who (lSlot c.threads c.slots c.chunks c.words c.gens c.sparse c.tries (handle x.n).fst)).fst).fst (slotOf (PMem.eLoad m who (lSlot c.threads c.slots c.chunks c.words c.gens c.sparse c.tries (handle x.n).fst)).fst).snd.fst (slotOf (PMem.eLoad m who (lSlot c.threads c.slots c.chunks c.words c.gens c.sparse c.tries (handle x.n).fst)).fst).snd.snd.fst (slotOf (PMem.eLoad m who (lSlot c.threads c.slots c.chunks c.words c.gens c.sparse c.tries (handle x.n).fst)).fst).snd.snd.snd (handle x.n).fst (handle x.n).snd.fst then
      K true ⟨(x.n), (x.own), ((handle x.n).fst), ((handle x.n).snd.fst), (x.pc), ((PMem.eLoad m who (lSlot c.threads c.slots c.chunks c.words c.gens c.sparse c.tries (handle x.n).fst)).fst), (x.size), none, (some (give)), ⟨3, 0, 0, ((PMem.eLoad m who (lSlot c.threads c.slots c.chunks c.words c.gens c.sparse c.tries (handle x.n).fst)).snd.steps)⟩⟩ ((PMem.eLoad m who (lSlot c.threads c.slots c.chunks c.words c.gens c.sparse c.tries (handle x.n).fst)).snd)
     else
      K false ⟨(x.n), (x.own), ((handle x.n).fst), ((handle x.n).snd.fst), 1, ((PMem.eLoad m who (lSlot c.threads c.slots c.chunks c.words c.gens c.sparse c.tries (handle x.n).fst)).fst), (x.size), none, (some (give)), ⟨(x.out.e), (x.out.h), (x.out.v), (x.out.st)⟩⟩ ((PMem.eLoad m who (lSlot c.threads c.slots c.chunks c.words c.gens c.sparse c.tries (handle x.n).fst)).snd)
  else
   bif decide (x.pc = 1) then
    tw (fun p => (((p ∧ p) ∧ p) ∧ p)) (
     bif !(headOf (PMem.eLoad m who (slotOf x.w).snd.fst).fst).snd.snd.snd.snd == x.own then
      K true ⟨(x.n), (x.own), (x.hs), (x.hg), (x.pc), (x.w), (x.size), none, (some (give)), ⟨3, 0, 0, ((PMem.eLoad m who (slotOf x.w).snd.fst).snd.steps)⟩⟩ ((PMem.eLoad m who (slotOf x.w).snd.fst).snd)
     else
      bif decide ((slotOf x.w).fst = 4) then
       K false ⟨(x.n), (x.own), (x.hs), (x.hg), 4, (x.w), ((headOf (PMem.eLoad m who (slotOf x.w).snd.fst).fst).snd.fst), (some ⟨(x.hs), (x.w), ((headOf (PMem.eLoad m who (slotOf x.w).snd.fst).fst).snd.fst), 0, 0, false, false⟩), (some (give)), ⟨(x.out.e), (x.out.h), (x.out.v), (x.out.st)⟩⟩ ((PMem.eLoad m who (slotOf x.w).snd.fst).snd)
      else
       K false ⟨(x.n), (x.own), (x.hs), (x.hg), 2, (x.w), ((headOf (PMem.eLoad m who (slotOf x.w).snd.fst).fst).snd.fst), none, (some (give)), ⟨(x.out.e), (x.out.h), (x.out.v), (x.out.st)⟩⟩ ((PMem.eLoad m who (slotOf x.w).snd.fst).snd))
   else
    bif decide (x.pc = 2) then
     bif (PMem.eCas m who (lSlot c.threads c.slots c.chunks c.words c.gens c.sparse c.tries x.hs) x.w (putSlot 4 (slotOf x.w).snd.fst (slotOf x.w).snd.snd.fst (wrI ((slotOf x.w).snd.snd.snd + 1)))).fst then
      K false ⟨(x.n), (x.own), (x.hs), (x.hg), 3, (x.w), (x.size), (some ⟨(x.hs), (putSlot 4 (slotOf x.w).snd.fst (slotOf x.w).snd.snd.fst (wrI ((slotOf x.w).snd.snd.snd + 1))), (x.size), 0, 0, false, false⟩), (some (give)), ⟨(x.out.e), (x.out.h), (x.out.v), (x.out.st)⟩⟩ ((PMem.eCas m who (lSlot c.threads c.slots c.chunks c.words c.gens c.sparse c.tries x.hs) x.w (putSlot 4 (slotOf x.w).snd.fst (slotOf x.w).snd.snd.fst (wrI ((slotOf x.w).snd.snd.snd + 1)))).snd)
     else
      K false ⟨(x.n), (x.own), (x.hs), (x.hg), 0, (x.w), (x.size), none, (some (give)), ⟨(x.out.e), (x.out.h), (x.out.v), (x.out.st)⟩⟩ ((PMem.eCas m who (lSlot c.threads c.slots c.chunks c.words c.gens c.sparse c.tries x.hs) x.w (putSlot 4 (slotOf x.w).snd.fst (slotOf x.w).snd.snd.fst (wrI ((slotOf x.w).snd.snd.snd + 1)))).snd)
    else
     bif decide (x.pc = 3) then
      K false ⟨(x.n), (x.own), (x.hs), (x.hg), (x.pc), (x.w), (x.size), none, (some (give)), ⟨(x.out.e), (x.out.h), (x.out.v), (x.out.st)⟩⟩ (m)
     else
      bif decide (x.pc = 4) then
       K false ⟨(x.n), (x.own), (x.hs), (x.hg), (x.pc), (x.w), (x.size), none, (some (give)), ⟨(x.out.e), (x.out.h), (x.out.v), (x.out.st)⟩⟩ (m)
      else
       bif decide (x.pc = 5) then
        bif decide (c.words = 0) then
         bot
        else
         K (decide (c.gens ≤ x.hg)) ⟨(x.n), (x.own), (x.hs), (x.hg), 6, (x.w), (x.size), none, (some ⟨0, (x.hs), 0⟩), ⟨(x.out.e), (x.out.h), (x.out.v), (x.out.st)⟩⟩ (PMem.eAdd m who (wrI (lChunk c.threads c.slots c.chunks c.words c.gens c.sparse c.tries (lOf c.threads c.slots c.chunks c.words c.gens c.sparse c.tries (slotOf x.w).snd.fst) + 1)) (wrI (0 - lRoom (lClass x.size))))
       else
        K ((giveStep { threads := c.threads, slots := c.slots, chunks := c.chunks, words := c.words, gens := c.gens, sparse := c.sparse, tries := c.tries } who give m).fst) ⟨(x.n), (x.own), (x.hs), (x.hg), (x.pc), (x.w), (x.size), none, (some ((giveStep { threads := c.threads, slots := c.slots, chunks := c.chunks, words := c.words, gens := c.gens, sparse := c.sparse, tries := c.tries } who give m).snd.1)), ⟨(x.out.e), (x.out.h), (x.out.v), (x.out.st)⟩⟩ ((giveStep { threads := c.threads, slots := c.slots, chunks := c.chunks, words := c.words, gens := c.gens, sparse := c.sparse, tries := c.tries } who give m).snd.snd)

def dropStep01 (c : PCfg) (who : Int) (x : PDrop) (give : PGive) (m : PMem) : Bool × PDrop × PMem := dropStep01K (false, x, m) twV c who x give m fun r x m => (r, x, m)

theorem dropStep01K_eq (c : PCfg) (who : Int) (x : PDrop) (give : PGive) (m : PMem) (hc : c.words ≠ 0) (K : Bool → PDrop → PMem → Prop) : dropStep01K False twP c who x give m K = K (dropStep01 c who x give m).1 (dropStep01 c who x give m).2.1 (dropStep01 c who x give m).2.2 := by
  show _ = app3 K (dropStep01K (false, x, m) twV c who x give m fun r x m => (r, x, m))
  unfold dropStep01K
  repeat' first
    | refine condH (decide_eq_false hc) ?_
    | refine cond3 ?_ ?_
    | refine tw3 (fun p => by simp only [and_self]) ?_
    | exact rfl

def dropStep11K {R : Type} (bot : R) (tw : (Prop → Prop) → R → R) (c : PCfg) (who : Int) (x : PDrop) (help : PHelp) (give : PGive) (m : PMem) (K : Bool → PDrop → PMem → R) : R :=
  bif decide (x.pc = 0) then
   bif !(handle x.n).snd.snd then
    K true ⟨(x.n), (x.own), ((handle x.n).fst), ((handle x.n).snd.fst), (x.pc), (x.w), (x.size), (some (help)), (some (give)), ⟨3, 0, 0, (m.steps)⟩⟩ (m)
   else
    bif decide (c.slots ≤ (handle x.n).fst) then
     K true ⟨(x.n), (x.own), ((handle x.n).fst), ((handle x.n).snd.fst), (x.pc), (x.w), (x.size), (some (help)), (some (give)), ⟨3, 0, 0, (m.steps)⟩⟩ (m)
    else
     bif !live (slotOf (PMem.eLoad m who (lSlot c.threads c.slots c.chunks c.words c.gens c.sparse c.tries (handle x.n).fst)).fst).fst (slotOf (PMem.eLoad m who (lSlot c.threads c.slots c.chunks c.words c.gens c.sparse c.tries (handle x.n).fst)).fst).snd.fst (slotOf (PMem.eLoad m who (lSlot c.threads c.slots c.chunks c.words c.gens c.sparse c.tries (handle x.n).fst)).fst).snd.snd.fst (slotOf (PMem.eLoad m who (lSlot c.threads c.slots c.chunks c.words c.gens c.sparse c.tries (handle x.n).fst)).fst).snd.snd.snd (handle x.n).fst (handle x.n).snd.fst then
      K true ⟨(x.n), (x.own), ((handle x.n).fst), ((handle x.n).snd.fst), (x.pc), ((PMem.eLoad m who (lSlot c.threads c.slots c.chunks c.words c.gens c.sparse c.tries (handle x.n).fst)).fst), (x.size), (some (help)), (some (give)), ⟨3, 0, 0, ((PMem.eLoad m who (lSlot c.threads c.slots c.chunks c.words c.gens c.sparse c.tries (handle x.n).fst)).snd.steps)⟩⟩ ((PMem.eLoad m who (lSlot c.threads c.slots c.chunks c.words c.gens c.sparse c.tries (handle x.n).fst)).snd)
     else
      K false ⟨(x.n), (x.own), ((handle x.n).fst), ((handle x.n).snd.fst), 1, ((PMem.eLoad m who (lSlot c.threads c.slots c.chunks c.words c.gens c.sparse c.tries (handle x.n).fst)).fst), (x.size), (some (help)), (some (give)), ⟨(x.out.e), (x.out.h), (x.out.v), (x.out.st)⟩⟩ ((PMem.eLoad m who (lSlot c.threads c.slots c.chunks c.words c.gens c.sparse c.tries (handle x.n).fst)).snd)
  else
   bif decide (x.pc = 1) then
    tw (fun p => (((p ∧ p) ∧ p) ∧ p)) (
     bif !(headOf (PMem.eLoad m who (slotOf x.w).snd.fst).fst).snd.snd.snd.snd == x.own then
      K true ⟨(x.n), (x.own), (x.hs), (x.hg), (x.pc), (x.w), (x.size), (some (help)), (some (give)), ⟨3, 0, 0, ((PMem.eLoad m who (slotOf x.w).snd.fst).snd.steps)⟩⟩ ((PMem.eLoad m who (slotOf x.w).snd.fst).snd)
     else
      bif decide ((slotOf x.w).fst = 4) then
       K false ⟨(x.n), (x.own), (x.hs), (x.hg), 4, (x.w), ((headOf (PMem.eLoad m who (slotOf x.w).snd.fst).fst).snd.fst), (some ⟨(x.hs), (x.w), ((headOf (PMem.eLoad m who (slotOf x.w).snd.fst).fst).snd.fst), 0, 0, false, false⟩), (some (give)), ⟨(x.out.e), (x.out.h), (x.out.v), (x.out.st)⟩⟩ ((PMem.eLoad m who (slotOf x.w).snd.fst).snd)
      else
       K false ⟨(x.n), (x.own), (x.hs), (x.hg), 2, (x.w), ((headOf (PMem.eLoad m who (slotOf x.w).snd.fst).fst).snd.fst), (some (help)), (some (give)), ⟨(x.out.e), (x.out.h), (x.out.v), (x.out.st)⟩⟩ ((PMem.eLoad m who (slotOf x.w).snd.fst).snd))
   else
    bif decide (x.pc = 2) then
     bif (PMem.eCas m who (lSlot c.threads c.slots c.chunks c.words c.gens c.sparse c.tries x.hs) x.w (putSlot 4 (slotOf x.w).snd.fst (slotOf x.w).snd.snd.fst (wrI ((slotOf x.w).snd.snd.snd + 1)))).fst then
      K false ⟨(x.n), (x.own), (x.hs), (x.hg), 3, (x.w), (x.size), (some ⟨(x.hs), (putSlot 4 (slotOf x.w).snd.fst (slotOf x.w).snd.snd.fst (wrI ((slotOf x.w).snd.snd.snd + 1))), (x.size), 0, 0, false, false⟩), (some (give)), ⟨(x.out.e), (x.out.h), (x.out.v), (x.out.st)⟩⟩ ((PMem.eCas m who (lSlot c.threads c.slots c.chunks c.words c.gens c.sparse c.tries x.hs) x.w (putSlot 4 (slotOf x.w).snd.fst (slotOf x.w).snd.snd.fst (wrI ((slotOf x.w).snd.snd.snd + 1)))).snd)
     else
      K false ⟨(x.n), (x.own), (x.hs), (x.hg), 0, (x.w), (x.size), (some (help)), (some (give)), ⟨(x.out.e), (x.out.h), (x.out.v), (x.out.st)⟩⟩ ((PMem.eCas m who (lSlot c.threads c.slots c.chunks c.words c.gens c.sparse c.tries x.hs) x.w (putSlot 4 (slotOf x.w).snd.fst (slotOf x.w).snd.snd.fst (wrI ((slotOf x.w).snd.snd.snd + 1)))).snd)
    else
     bif decide (x.pc = 3) then
      bif (helpStep { threads := c.threads, slots := c.slots, chunks := c.chunks, words := c.words, gens := c.gens, sparse := c.sparse, tries := c.tries } who help m).fst then
       K false ⟨(x.n), (x.own), (x.hs), (x.hg), 5, (x.w), (x.size), (some ((helpStep { threads := c.threads, slots := c.slots, chunks := c.chunks, words := c.words, gens := c.gens, sparse := c.sparse, tries := c.tries } who help m).snd.1)), (some (give)), ⟨0, 0, 0, (PMem.when_ (helpStep { threads := c.threads, slots := c.slots, chunks := c.chunks, words := c.words, gens := c.gens, sparse := c.sparse, tries := c.tries } who help m).snd.snd (lSlot c.threads c.slots c.chunks c.words c.gens c.sparse c.tries x.hs))⟩⟩ ((helpStep { threads := c.threads, slots := c.slots, chunks := c.chunks, words := c.words, gens := c.gens, sparse := c.sparse, tries := c.tries } who help m).snd.snd)
      else
       K false ⟨(x.n), (x.own), (x.hs), (x.hg), (x.pc), (x.w), (x.size), (some ((helpStep { threads := c.threads, slots := c.slots, chunks := c.chunks, words := c.words, gens := c.gens, sparse := c.sparse, tries := c.tries } who help m).snd.1)), (some (give)), ⟨(x.out.e), (x.out.h), (x.out.v), (x.out.st)⟩⟩ ((helpStep { threads := c.threads, slots := c.slots, chunks := c.chunks, words := c.words, gens := c.gens, sparse := c.sparse, tries := c.tries } who help m).snd.snd)
     else
      bif decide (x.pc = 4) then
       bif (helpStep { threads := c.threads, slots := c.slots, chunks := c.chunks, words := c.words, gens := c.gens, sparse := c.sparse, tries := c.tries } who help m).fst then
        K false ⟨(x.n), (x.own), (x.hs), (x.hg), 0, (x.w), (x.size), (some ((helpStep { threads := c.threads, slots := c.slots, chunks := c.chunks, words := c.words, gens := c.gens, sparse := c.sparse, tries := c.tries } who help m).snd.1)), (some (give)), ⟨(x.out.e), (x.out.h), (x.out.v), (x.out.st)⟩⟩ ((helpStep { threads := c.threads, slots := c.slots, chunks := c.chunks, words := c.words, gens := c.gens, sparse := c.sparse, tries := c.tries } who help m).snd.snd)
       else
        K false ⟨(x.n), (x.own), (x.hs), (x.hg), (x.pc), (x.w), (x.size), (some ((helpStep { threads := c.threads, slots := c.slots, chunks := c.chunks, words := c.words, gens := c.gens, sparse := c.sparse, tries := c.tries } who help m).snd.1)), (some (give)), ⟨(x.out.e), (x.out.h), (x.out.v), (x.out.st)⟩⟩ ((helpStep { threads := c.threads, slots := c.slots, chunks := c.chunks, words := c.words, gens := c.gens, sparse := c.sparse, tries := c.tries } who help m).snd.snd)
      else
       bif decide (x.pc = 5) then
        bif decide (c.words = 0) then
         bot
        else
         K (decide (c.gens ≤ x.hg)) ⟨(x.n), (x.own), (x.hs), (x.hg), 6, (x.w), (x.size), (some (help)), (some ⟨0, (x.hs), 0⟩), ⟨(x.out.e), (x.out.h), (x.out.v), (x.out.st)⟩⟩ (PMem.eAdd m who (wrI (lChunk c.threads c.slots c.chunks c.words c.gens c.sparse c.tries (lOf c.threads c.slots c.chunks c.words c.gens c.sparse c.tries (slotOf x.w).snd.fst) + 1)) (wrI (0 - lRoom (lClass x.size))))
       else
        K ((giveStep { threads := c.threads, slots := c.slots, chunks := c.chunks, words := c.words, gens := c.gens, sparse := c.sparse, tries := c.tries } who give m).fst) ⟨(x.n), (x.own), (x.hs), (x.hg), (x.pc), (x.w), (x.size), (some (help)), (some ((giveStep { threads := c.threads, slots := c.slots, chunks := c.chunks, words := c.words, gens := c.gens, sparse := c.sparse, tries := c.tries } who give m).snd.1)), ⟨(x.out.e), (x.out.h), (x.out.v), (x.out.st)⟩⟩ ((giveStep { threads := c.threads, slots := c.slots, chunks := c.chunks, words := c.words, gens := c.gens, sparse := c.sparse, tries := c.tries } who give m).snd.snd)

def dropStep11 (c : PCfg) (who : Int) (x : PDrop) (help : PHelp) (give : PGive) (m : PMem) : Bool × PDrop × PMem := dropStep11K (false, x, m) twV c who x help give m fun r x m => (r, x, m)

theorem dropStep11K_eq (c : PCfg) (who : Int) (x : PDrop) (help : PHelp) (give : PGive) (m : PMem) (hc : c.words ≠ 0) (K : Bool → PDrop → PMem → Prop) : dropStep11K False twP c who x help give m K = K (dropStep11 c who x help give m).1 (dropStep11 c who x help give m).2.1 (dropStep11 c who x help give m).2.2 := by
  show _ = app3 K (dropStep11K (false, x, m) twV c who x help give m fun r x m => (r, x, m))
  unfold dropStep11K
  repeat' first
    | refine condH (decide_eq_false hc) ?_
    | refine cond3 ?_ ?_
    | refine tw3 (fun p => by simp only [and_self]) ?_
    | exact rfl

def dropStep (c : PCfg) (who : Int) (x : PDrop) (m : PMem) : Bool × PDrop × PMem := match x.help, x.give with
  | none, none => dropStep00 c who x m
  | some help, none => dropStep10 c who x help m
  | none, some give => dropStep01 c who x give m
  | some help, some give => dropStep11 c who x help give m

def accessStep0K {R : Type} (bot : R) (tw : (Prop → Prop) → R → R) (c : PCfg) (who : Int) (x : PAccess) (m : PMem) (K : Bool → PAccess → PMem → R) : R :=
  bif decide (x.pc = 0) then
   bif !(handle x.x.handle).snd.snd then
    K true ⟨⟨(x.x.kind), (x.x.handle), (x.x.index), (x.x.value), (x.x.old)⟩, (x.own), ((handle x.x.handle).fst), ((handle x.x.handle).snd.fst), (x.pc), (x.w), (x.cell), (x.seen), (x.read), (x.size), none, ⟨3, 0, 0, (m.steps)⟩⟩ (m)
   else
    bif decide (c.slots ≤ (handle x.x.handle).fst) then
     K true ⟨⟨(x.x.kind), (x.x.handle), (x.x.index), (x.x.value), (x.x.old)⟩, (x.own), ((handle x.x.handle).fst), ((handle x.x.handle).snd.fst), (x.pc), (x.w), (x.cell), (x.seen), (x.read), (x.size), none, ⟨3, 0, 0, (m.steps)⟩⟩ (m)
    else
     bif !live (slotOf (PMem.eLoad m who (lSlot c.threads c.slots c.chunks c.words c.gens c.sparse c.tries (handle x.x.handle).fst)).fst).fst (slotOf (PMem.eLoad m who (lSlot c.threads c.slots c.chunks c.words c.gens c.sparse c.tries (handle x.x.handle).fst)).fst).snd.fst (slotOf (PMem.eLoad m who (lSlot c.threads c.slots c.chunks c.words c.gens c.sparse c.tries (handle x.x.handle).fst)).fst).snd.snd.fst (slotOf (PMem.eLoad m who (lSlot c.threads c.slots c.chunks c.words c.gens c.sparse c.tries (handle x.x.handle).fst)).fst).snd.snd.snd (handle x.x.handle).fst (handle x.x.handle).snd.fst then
      K true ⟨⟨(x.x.kind), (x.x.handle), (x.x.index), (x.x.value), (x.x.old)⟩, (x.own), ((handle x.x.handle).fst), ((handle x.x.handle).snd.fst), 1, ((PMem.eLoad m who (lSlot c.threads c.slots c.chunks c.words c.gens c.sparse c.tries (handle x.x.handle).fst)).fst), (x.cell), ((PMem.eLoad m who (lSlot c.threads c.slots c.chunks c.words c.gens c.sparse c.tries (handle x.x.handle).fst)).snd.steps), (x.read), (x.size), none, ⟨3, 0, 0, ((PMem.eLoad m who (lSlot c.threads c.slots c.chunks c.words c.gens c.sparse c.tries (handle x.x.handle).fst)).snd.steps)⟩⟩ ((PMem.eLoad m who (lSlot c.threads c.slots c.chunks c.words c.gens c.sparse c.tries (handle x.x.handle).fst)).snd)
     else
      K false ⟨⟨(x.x.kind), (x.x.handle), (x.x.index), (x.x.value), (x.x.old)⟩, (x.own), ((handle x.x.handle).fst), ((handle x.x.handle).snd.fst), 1, ((PMem.eLoad m who (lSlot c.threads c.slots c.chunks c.words c.gens c.sparse c.tries (handle x.x.handle).fst)).fst), (x.cell), ((PMem.eLoad m who (lSlot c.threads c.slots c.chunks c.words c.gens c.sparse c.tries (handle x.x.handle).fst)).snd.steps), (x.read), (x.size), none, ⟨(x.out.e), (x.out.h), (x.out.v), (x.out.st)⟩⟩ ((PMem.eLoad m who (lSlot c.threads c.slots c.chunks c.words c.gens c.sparse c.tries (handle x.x.handle).fst)).snd)
  else
   bif decide (x.pc = 1) then
    tw (fun p => (((p ∧ p) ∧ p) ∧ p)) (
     bif !(headOf (PMem.eLoad m who (slotOf x.w).snd.fst).fst).snd.snd.snd.snd == x.own then
      K true ⟨⟨(x.x.kind), (x.x.handle), (x.x.index), (x.x.value), (x.x.old)⟩, (x.own), (x.hs), (x.hg), 2, (x.w), (x.cell), (x.seen), (x.read), ((headOf (PMem.eLoad m who (slotOf x.w).snd.fst).fst).snd.fst), none, ⟨3, 0, 0, ((PMem.eLoad m who (slotOf x.w).snd.fst).snd.steps)⟩⟩ ((PMem.eLoad m who (slotOf x.w).snd.fst).snd)
     else
      bif decide (x.x.index < 0) then
       K true ⟨⟨(x.x.kind), (x.x.handle), (x.x.index), (x.x.value), (x.x.old)⟩, (x.own), (x.hs), (x.hg), 2, (x.w), (x.cell), (x.seen), (x.read), ((headOf (PMem.eLoad m who (slotOf x.w).snd.fst).fst).snd.fst), none, ⟨4, 0, 0, (x.seen)⟩⟩ ((PMem.eLoad m who (slotOf x.w).snd.fst).snd)
      else
       bif decide ((headOf (PMem.eLoad m who (slotOf x.w).snd.fst).fst).snd.fst ≤ x.x.index) then
        K true ⟨⟨(x.x.kind), (x.x.handle), (x.x.index), (x.x.value), (x.x.old)⟩, (x.own), (x.hs), (x.hg), 2, (x.w), (x.cell), (x.seen), (x.read), ((headOf (PMem.eLoad m who (slotOf x.w).snd.fst).fst).snd.fst), none, ⟨4, 0, 0, (x.seen)⟩⟩ ((PMem.eLoad m who (slotOf x.w).snd.fst).snd)
       else
        K false ⟨⟨(x.x.kind), (x.x.handle), (x.x.index), (x.x.value), (x.x.old)⟩, (x.own), (x.hs), (x.hg), 2, (x.w), (x.cell), (x.seen), (x.read), ((headOf (PMem.eLoad m who (slotOf x.w).snd.fst).fst).snd.fst), none, ⟨(x.out.e), (x.out.h), (x.out.v), (x.out.st)⟩⟩ ((PMem.eLoad m who (slotOf x.w).snd.fst).snd))
   else
    bif decide (x.pc = 2) then
     tw (fun p => (((p ∧ p) ∧ ((p ∧ p) ∧ (p ∧ p))) ∧ (((p ∧ p) ∧ p) ∧ ((p ∧ p) ∧ p)))) (
      bif decide (x.x.kind = 1) then
       bif decide (x.x.kind = 1) then
        K false ⟨⟨(x.x.kind), (x.x.handle), (x.x.index), (x.x.value), (x.x.old)⟩, (x.own), (x.hs), (x.hg), 6, (x.w), ((PMem.eLoad m who (wrI (wrI ((slotOf x.w).snd.fst + 1) + x.x.index))).fst), (x.seen), ((PMem.eLoad m who (wrI (wrI ((slotOf x.w).snd.fst + 1) + x.x.index))).snd.steps), (x.size), none, ⟨(x.out.e), (x.out.h), (x.out.v), (x.out.st)⟩⟩ ((PMem.eLoad m who (wrI (wrI ((slotOf x.w).snd.fst + 1) + x.x.index))).snd)
       else
        bif decide ((slotOf x.w).fst = 4) then
         K false ⟨⟨(x.x.kind), (x.x.handle), (x.x.index), (x.x.value), (x.x.old)⟩, (x.own), (x.hs), (x.hg), 4, (x.w), ((PMem.eLoad m who (wrI (wrI ((slotOf x.w).snd.fst + 1) + x.x.index))).fst), (x.seen), ((PMem.eLoad m who (wrI (wrI ((slotOf x.w).snd.fst + 1) + x.x.index))).snd.steps), (x.size), (some ⟨(x.hs), (x.w), (x.size), 0, 0, false, false⟩), ⟨(x.out.e), (x.out.h), (x.out.v), (x.out.st)⟩⟩ ((PMem.eLoad m who (wrI (wrI ((slotOf x.w).snd.fst + 1) + x.x.index))).snd)
        else
         bif !(cellOf (PMem.eLoad m who (wrI (wrI ((slotOf x.w).snd.fst + 1) + x.x.index))).fst).snd.fst then
          K false ⟨⟨(x.x.kind), (x.x.handle), (x.x.index), (x.x.value), (x.x.old)⟩, (x.own), (x.hs), (x.hg), 5, (x.w), ((PMem.eLoad m who (wrI (wrI ((slotOf x.w).snd.fst + 1) + x.x.index))).fst), (x.seen), ((PMem.eLoad m who (wrI (wrI ((slotOf x.w).snd.fst + 1) + x.x.index))).snd.steps), (x.size), none, ⟨(x.out.e), (x.out.h), (x.out.v), (x.out.st)⟩⟩ ((PMem.eLoad m who (wrI (wrI ((slotOf x.w).snd.fst + 1) + x.x.index))).snd)
         else
          bif decide ((cellOf (PMem.eLoad m who (wrI (wrI ((slotOf x.w).snd.fst + 1) + x.x.index))).fst).snd.snd < (slotOf x.w).snd.snd.snd) then
           K false ⟨⟨(x.x.kind), (x.x.handle), (x.x.index), (x.x.value), (x.x.old)⟩, (x.own), (x.hs), (x.hg), 5, (x.w), ((PMem.eLoad m who (wrI (wrI ((slotOf x.w).snd.fst + 1) + x.x.index))).fst), (x.seen), ((PMem.eLoad m who (wrI (wrI ((slotOf x.w).snd.fst + 1) + x.x.index))).snd.steps), (x.size), none, ⟨(x.out.e), (x.out.h), (x.out.v), (x.out.st)⟩⟩ ((PMem.eLoad m who (wrI (wrI ((slotOf x.w).snd.fst + 1) + x.x.index))).snd)
          else
           bif decide ((cellOf (PMem.eLoad m who (wrI (wrI ((slotOf x.w).snd.fst + 1) + x.x.index))).fst).snd.snd = (slotOf x.w).snd.snd.snd) then
            bif decide ((slotOf x.w).fst = 2) then
             K false ⟨⟨(x.x.kind), (x.x.handle), (x.x.index), (x.x.value), (x.x.old)⟩, (x.own), (x.hs), (x.hg), 3, (x.w), ((PMem.eLoad m who (wrI (wrI ((slotOf x.w).snd.fst + 1) + x.x.index))).fst), (x.seen), ((PMem.eLoad m who (wrI (wrI ((slotOf x.w).snd.fst + 1) + x.x.index))).snd.steps), (x.size), none, ⟨(x.out.e), (x.out.h), (x.out.v), (x.out.st)⟩⟩ ((PMem.eLoad m who (wrI (wrI ((slotOf x.w).snd.fst + 1) + x.x.index))).snd)
            else
             K false ⟨⟨(x.x.kind), (x.x.handle), (x.x.index), (x.x.value), (x.x.old)⟩, (x.own), (x.hs), (x.hg), 0, (x.w), ((PMem.eLoad m who (wrI (wrI ((slotOf x.w).snd.fst + 1) + x.x.index))).fst), (x.seen), ((PMem.eLoad m who (wrI (wrI ((slotOf x.w).snd.fst + 1) + x.x.index))).snd.steps), (x.size), none, ⟨(x.out.e), (x.out.h), (x.out.v), (x.out.st)⟩⟩ ((PMem.eLoad m who (wrI (wrI ((slotOf x.w).snd.fst + 1) + x.x.index))).snd)
           else
            K false ⟨⟨(x.x.kind), (x.x.handle), (x.x.index), (x.x.value), (x.x.old)⟩, (x.own), (x.hs), (x.hg), 0, (x.w), ((PMem.eLoad m who (wrI (wrI ((slotOf x.w).snd.fst + 1) + x.x.index))).fst), (x.seen), ((PMem.eLoad m who (wrI (wrI ((slotOf x.w).snd.fst + 1) + x.x.index))).snd.steps), (x.size), none, ⟨(x.out.e), (x.out.h), (x.out.v), (x.out.st)⟩⟩ ((PMem.eLoad m who (wrI (wrI ((slotOf x.w).snd.fst + 1) + x.x.index))).snd)
      else
       bif decide (x.x.kind = 3) then
        bif !decide ((cellOf (PMem.eLoad m who (wrI (wrI ((slotOf x.w).snd.fst + 1) + x.x.index))).fst).fst = x.x.old) then
         K false ⟨⟨(x.x.kind), (x.x.handle), (x.x.index), (x.x.value), (x.x.old)⟩, (x.own), (x.hs), (x.hg), 6, (x.w), ((PMem.eLoad m who (wrI (wrI ((slotOf x.w).snd.fst + 1) + x.x.index))).fst), (x.seen), ((PMem.eLoad m who (wrI (wrI ((slotOf x.w).snd.fst + 1) + x.x.index))).snd.steps), (x.size), none, ⟨(x.out.e), (x.out.h), (x.out.v), (x.out.st)⟩⟩ ((PMem.eLoad m who (wrI (wrI ((slotOf x.w).snd.fst + 1) + x.x.index))).snd)
        else
         bif decide ((slotOf x.w).fst = 4) then
          K false ⟨⟨(x.x.kind), (x.x.handle), (x.x.index), (x.x.value), (x.x.old)⟩, (x.own), (x.hs), (x.hg), 4, (x.w), ((PMem.eLoad m who (wrI (wrI ((slotOf x.w).snd.fst + 1) + x.x.index))).fst), (x.seen), ((PMem.eLoad m who (wrI (wrI ((slotOf x.w).snd.fst + 1) + x.x.index))).snd.steps), (x.size), (some ⟨(x.hs), (x.w), (x.size), 0, 0, false, false⟩), ⟨(x.out.e), (x.out.h), (x.out.v), (x.out.st)⟩⟩ ((PMem.eLoad m who (wrI (wrI ((slotOf x.w).snd.fst + 1) + x.x.index))).snd)
         else
          bif !(cellOf (PMem.eLoad m who (wrI (wrI ((slotOf x.w).snd.fst + 1) + x.x.index))).fst).snd.fst then
           K false ⟨⟨(x.x.kind), (x.x.handle), (x.x.index), (x.x.value), (x.x.old)⟩, (x.own), (x.hs), (x.hg), 5, (x.w), ((PMem.eLoad m who (wrI (wrI ((slotOf x.w).snd.fst + 1) + x.x.index))).fst), (x.seen), ((PMem.eLoad m who (wrI (wrI ((slotOf x.w).snd.fst + 1) + x.x.index))).snd.steps), (x.size), none, ⟨(x.out.e), (x.out.h), (x.out.v), (x.out.st)⟩⟩ ((PMem.eLoad m who (wrI (wrI ((slotOf x.w).snd.fst + 1) + x.x.index))).snd)
          else
           bif decide ((cellOf (PMem.eLoad m who (wrI (wrI ((slotOf x.w).snd.fst + 1) + x.x.index))).fst).snd.snd < (slotOf x.w).snd.snd.snd) then
            K false ⟨⟨(x.x.kind), (x.x.handle), (x.x.index), (x.x.value), (x.x.old)⟩, (x.own), (x.hs), (x.hg), 5, (x.w), ((PMem.eLoad m who (wrI (wrI ((slotOf x.w).snd.fst + 1) + x.x.index))).fst), (x.seen), ((PMem.eLoad m who (wrI (wrI ((slotOf x.w).snd.fst + 1) + x.x.index))).snd.steps), (x.size), none, ⟨(x.out.e), (x.out.h), (x.out.v), (x.out.st)⟩⟩ ((PMem.eLoad m who (wrI (wrI ((slotOf x.w).snd.fst + 1) + x.x.index))).snd)
           else
            bif decide ((cellOf (PMem.eLoad m who (wrI (wrI ((slotOf x.w).snd.fst + 1) + x.x.index))).fst).snd.snd = (slotOf x.w).snd.snd.snd) then
             bif decide ((slotOf x.w).fst = 2) then
              K false ⟨⟨(x.x.kind), (x.x.handle), (x.x.index), (x.x.value), (x.x.old)⟩, (x.own), (x.hs), (x.hg), 3, (x.w), ((PMem.eLoad m who (wrI (wrI ((slotOf x.w).snd.fst + 1) + x.x.index))).fst), (x.seen), ((PMem.eLoad m who (wrI (wrI ((slotOf x.w).snd.fst + 1) + x.x.index))).snd.steps), (x.size), none, ⟨(x.out.e), (x.out.h), (x.out.v), (x.out.st)⟩⟩ ((PMem.eLoad m who (wrI (wrI ((slotOf x.w).snd.fst + 1) + x.x.index))).snd)
             else
              K false ⟨⟨(x.x.kind), (x.x.handle), (x.x.index), (x.x.value), (x.x.old)⟩, (x.own), (x.hs), (x.hg), 0, (x.w), ((PMem.eLoad m who (wrI (wrI ((slotOf x.w).snd.fst + 1) + x.x.index))).fst), (x.seen), ((PMem.eLoad m who (wrI (wrI ((slotOf x.w).snd.fst + 1) + x.x.index))).snd.steps), (x.size), none, ⟨(x.out.e), (x.out.h), (x.out.v), (x.out.st)⟩⟩ ((PMem.eLoad m who (wrI (wrI ((slotOf x.w).snd.fst + 1) + x.x.index))).snd)
            else
             K false ⟨⟨(x.x.kind), (x.x.handle), (x.x.index), (x.x.value), (x.x.old)⟩, (x.own), (x.hs), (x.hg), 0, (x.w), ((PMem.eLoad m who (wrI (wrI ((slotOf x.w).snd.fst + 1) + x.x.index))).fst), (x.seen), ((PMem.eLoad m who (wrI (wrI ((slotOf x.w).snd.fst + 1) + x.x.index))).snd.steps), (x.size), none, ⟨(x.out.e), (x.out.h), (x.out.v), (x.out.st)⟩⟩ ((PMem.eLoad m who (wrI (wrI ((slotOf x.w).snd.fst + 1) + x.x.index))).snd)
       else
        bif decide ((slotOf x.w).fst = 4) then
         K false ⟨⟨(x.x.kind), (x.x.handle), (x.x.index), (x.x.value), (x.x.old)⟩, (x.own), (x.hs), (x.hg), 4, (x.w), ((PMem.eLoad m who (wrI (wrI ((slotOf x.w).snd.fst + 1) + x.x.index))).fst), (x.seen), ((PMem.eLoad m who (wrI (wrI ((slotOf x.w).snd.fst + 1) + x.x.index))).snd.steps), (x.size), (some ⟨(x.hs), (x.w), (x.size), 0, 0, false, false⟩), ⟨(x.out.e), (x.out.h), (x.out.v), (x.out.st)⟩⟩ ((PMem.eLoad m who (wrI (wrI ((slotOf x.w).snd.fst + 1) + x.x.index))).snd)
        else
         bif !(cellOf (PMem.eLoad m who (wrI (wrI ((slotOf x.w).snd.fst + 1) + x.x.index))).fst).snd.fst then
          K false ⟨⟨(x.x.kind), (x.x.handle), (x.x.index), (x.x.value), (x.x.old)⟩, (x.own), (x.hs), (x.hg), 5, (x.w), ((PMem.eLoad m who (wrI (wrI ((slotOf x.w).snd.fst + 1) + x.x.index))).fst), (x.seen), ((PMem.eLoad m who (wrI (wrI ((slotOf x.w).snd.fst + 1) + x.x.index))).snd.steps), (x.size), none, ⟨(x.out.e), (x.out.h), (x.out.v), (x.out.st)⟩⟩ ((PMem.eLoad m who (wrI (wrI ((slotOf x.w).snd.fst + 1) + x.x.index))).snd)
         else
          bif decide ((cellOf (PMem.eLoad m who (wrI (wrI ((slotOf x.w).snd.fst + 1) + x.x.index))).fst).snd.snd < (slotOf x.w).snd.snd.snd) then
           K false ⟨⟨(x.x.kind), (x.x.handle), (x.x.index), (x.x.value), (x.x.old)⟩, (x.own), (x.hs), (x.hg), 5, (x.w), ((PMem.eLoad m who (wrI (wrI ((slotOf x.w).snd.fst + 1) + x.x.index))).fst), (x.seen), ((PMem.eLoad m who (wrI (wrI ((slotOf x.w).snd.fst + 1) + x.x.index))).snd.steps), (x.size), none, ⟨(x.out.e), (x.out.h), (x.out.v), (x.out.st)⟩⟩ ((PMem.eLoad m who (wrI (wrI ((slotOf x.w).snd.fst + 1) + x.x.index))).snd)
          else
           bif decide ((cellOf (PMem.eLoad m who (wrI (wrI ((slotOf x.w).snd.fst + 1) + x.x.index))).fst).snd.snd = (slotOf x.w).snd.snd.snd) then
            bif decide ((slotOf x.w).fst = 2) then
             K false ⟨⟨(x.x.kind), (x.x.handle), (x.x.index), (x.x.value), (x.x.old)⟩, (x.own), (x.hs), (x.hg), 3, (x.w), ((PMem.eLoad m who (wrI (wrI ((slotOf x.w).snd.fst + 1) + x.x.index))).fst), (x.seen), ((PMem.eLoad m who (wrI (wrI ((slotOf x.w).snd.fst + 1) + x.x.index))).snd.steps), (x.size), none, ⟨(x.out.e), (x.out.h), (x.out.v), (x.out.st)⟩⟩ ((PMem.eLoad m who (wrI (wrI ((slotOf x.w).snd.fst + 1) + x.x.index))).snd)
            else
             K false ⟨⟨(x.x.kind), (x.x.handle), (x.x.index), (x.x.value), (x.x.old)⟩, (x.own), (x.hs), (x.hg), 0, (x.w), ((PMem.eLoad m who (wrI (wrI ((slotOf x.w).snd.fst + 1) + x.x.index))).fst), (x.seen), ((PMem.eLoad m who (wrI (wrI ((slotOf x.w).snd.fst + 1) + x.x.index))).snd.steps), (x.size), none, ⟨(x.out.e), (x.out.h), (x.out.v), (x.out.st)⟩⟩ ((PMem.eLoad m who (wrI (wrI ((slotOf x.w).snd.fst + 1) + x.x.index))).snd)
           else
            K false ⟨⟨(x.x.kind), (x.x.handle), (x.x.index), (x.x.value), (x.x.old)⟩, (x.own), (x.hs), (x.hg), 0, (x.w), ((PMem.eLoad m who (wrI (wrI ((slotOf x.w).snd.fst + 1) + x.x.index))).fst), (x.seen), ((PMem.eLoad m who (wrI (wrI ((slotOf x.w).snd.fst + 1) + x.x.index))).snd.steps), (x.size), none, ⟨(x.out.e), (x.out.h), (x.out.v), (x.out.st)⟩⟩ ((PMem.eLoad m who (wrI (wrI ((slotOf x.w).snd.fst + 1) + x.x.index))).snd))
    else
     bif decide (x.pc = 3) then
      K false ⟨⟨(x.x.kind), (x.x.handle), (x.x.index), (x.x.value), (x.x.old)⟩, (x.own), (x.hs), (x.hg), 0, (x.w), (x.cell), (x.seen), (x.read), (x.size), none, ⟨(x.out.e), (x.out.h), (x.out.v), (x.out.st)⟩⟩ ((PMem.eCas m who (lSlot c.threads c.slots c.chunks c.words c.gens c.sparse c.tries x.hs) x.w (putSlot 1 (slotOf x.w).snd.fst (slotOf x.w).snd.snd.fst (wrI ((slotOf x.w).snd.snd.snd + 1)))).snd)
     else
      bif decide (x.pc = 4) then
       K false ⟨⟨(x.x.kind), (x.x.handle), (x.x.index), (x.x.value), (x.x.old)⟩, (x.own), (x.hs), (x.hg), (x.pc), (x.w), (x.cell), (x.seen), (x.read), (x.size), none, ⟨(x.out.e), (x.out.h), (x.out.v), (x.out.st)⟩⟩ (m)
      else
       bif decide (x.pc = 5) then
        bif (PMem.eCas m who (wrI (wrI ((slotOf x.w).snd.fst + 1) + x.x.index)) x.cell (putCell x.x.value false 0)).fst then
         K true ⟨⟨(x.x.kind), (x.x.handle), (x.x.index), (x.x.value), (x.x.old)⟩, (x.own), (x.hs), (x.hg), 0, (x.w), (x.cell), (x.seen), (x.read), (x.size), none, ⟨0, 0, ((cellOf x.cell).fst), ((PMem.eCas m who (wrI (wrI ((slotOf x.w).snd.fst + 1) + x.x.index)) x.cell (putCell x.x.value false 0)).snd.steps)⟩⟩ ((PMem.eCas m who (wrI (wrI ((slotOf x.w).snd.fst + 1) + x.x.index)) x.cell (putCell x.x.value false 0)).snd)
        else
         K false ⟨⟨(x.x.kind), (x.x.handle), (x.x.index), (x.x.value), (x.x.old)⟩, (x.own), (x.hs), (x.hg), 0, (x.w), (x.cell), (x.seen), (x.read), (x.size), none, ⟨(x.out.e), (x.out.h), (x.out.v), (x.out.st)⟩⟩ ((PMem.eCas m who (wrI (wrI ((slotOf x.w).snd.fst + 1) + x.x.index)) x.cell (putCell x.x.value false 0)).snd)
       else
        tw (fun p => (((p ∧ p) ∧ p) ∧ p)) (
         bif !live (slotOf (PMem.eLoad m who (lSlot c.threads c.slots c.chunks c.words c.gens c.sparse c.tries x.hs)).fst).fst (slotOf (PMem.eLoad m who (lSlot c.threads c.slots c.chunks c.words c.gens c.sparse c.tries x.hs)).fst).snd.fst (slotOf (PMem.eLoad m who (lSlot c.threads c.slots c.chunks c.words c.gens c.sparse c.tries x.hs)).fst).snd.snd.fst (slotOf (PMem.eLoad m who (lSlot c.threads c.slots c.chunks c.words c.gens c.sparse c.tries x.hs)).fst).snd.snd.snd x.hs x.hg then
          K true ⟨⟨(x.x.kind), (x.x.handle), (x.x.index), (x.x.value), (x.x.old)⟩, (x.own), (x.hs), (x.hg), (x.pc), (x.w), (x.cell), (x.seen), (x.read), (x.size), none, ⟨3, 0, 0, ((PMem.eLoad m who (lSlot c.threads c.slots c.chunks c.words c.gens c.sparse c.tries x.hs)).snd.steps)⟩⟩ ((PMem.eLoad m who (lSlot c.threads c.slots c.chunks c.words c.gens c.sparse c.tries x.hs)).snd)
         else
          bif !decide ((slotOf (PMem.eLoad m who (lSlot c.threads c.slots c.chunks c.words c.gens c.sparse c.tries x.hs)).fst).snd.fst = (slotOf x.w).snd.fst) then
           K false ⟨⟨(x.x.kind), (x.x.handle), (x.x.index), (x.x.value), (x.x.old)⟩, (x.own), (x.hs), (x.hg), 0, (x.w), (x.cell), (x.seen), (x.read), (x.size), none, ⟨(x.out.e), (x.out.h), (x.out.v), (x.out.st)⟩⟩ ((PMem.eLoad m who (lSlot c.threads c.slots c.chunks c.words c.gens c.sparse c.tries x.hs)).snd)
          else
           bif decide (x.x.kind = 3) then
            K true ⟨⟨(x.x.kind), (x.x.handle), (x.x.index), (x.x.value), (x.x.old)⟩, (x.own), (x.hs), (x.hg), (x.pc), (x.w), (x.cell), (x.seen), (x.read), (x.size), none, ⟨8, 0, ((cellOf x.cell).fst), (x.read)⟩⟩ ((PMem.eLoad m who (lSlot c.threads c.slots c.chunks c.words c.gens c.sparse c.tries x.hs)).snd)
           else
            K true ⟨⟨(x.x.kind), (x.x.handle), (x.x.index), (x.x.value), (x.x.old)⟩, (x.own), (x.hs), (x.hg), (x.pc), (x.w), (x.cell), (x.seen), (x.read), (x.size), none, ⟨0, 0, ((cellOf x.cell).fst), (x.read)⟩⟩ ((PMem.eLoad m who (lSlot c.threads c.slots c.chunks c.words c.gens c.sparse c.tries x.hs)).snd))

def accessStep0 (c : PCfg) (who : Int) (x : PAccess) (m : PMem) : Bool × PAccess × PMem := accessStep0K (false, x, m) twV c who x m fun r x m => (r, x, m)

theorem accessStep0K_eq (c : PCfg) (who : Int) (x : PAccess) (m : PMem) (K : Bool → PAccess → PMem → Prop) : accessStep0K False twP c who x m K = K (accessStep0 c who x m).1 (accessStep0 c who x m).2.1 (accessStep0 c who x m).2.2 := by
  show _ = app3 K (accessStep0K (false, x, m) twV c who x m fun r x m => (r, x, m))
  unfold accessStep0K
  repeat' first
    | refine cond3 ?_ ?_
    | refine tw3 (fun p => by simp only [and_self]) ?_
    | exact rfl

def accessStep1K {R : Type} (bot : R) (tw : (Prop → Prop) → R → R) (c : PCfg) (who : Int) (x : PAccess) (help : PHelp) (m : PMem) (K : Bool → PAccess → PMem → R) : R :=
  bif decide (x.pc = 0) then
   bif !(handle x.x.handle).snd.snd then
    K true ⟨⟨(x.x.kind), (x.x.handle), (x.x.index), (x.x.value), (x.x.old)⟩, (x.own), ((handle x.x.handle).fst), ((handle x.x.handle).snd.fst), (x.pc), (x.w), (x.cell), (x.seen), (x.read), (x.size), (some (help)), ⟨3, 0, 0, (m.steps)⟩⟩ (m)
   else
    bif decide (c.slots ≤ (handle x.x.handle).fst) then
     K true ⟨⟨(x.x.kind), (x.x.handle), (x.x.index), (x.x.value), (x.x.old)⟩, (x.own), ((handle x.x.handle).fst), ((handle x.x.handle).snd.fst), (x.pc), (x.w), (x.cell), (x.seen), (x.read), (x.size), (some (help)), ⟨3, 0, 0, (m.steps)⟩⟩ (m)
    else
     bif !live (slotOf (PMem.eLoad m who (lSlot c.threads c.slots c.chunks c.words c.gens c.sparse c.tries (handle x.x.handle).fst)).fst).fst (slotOf (PMem.eLoad m who (lSlot c.threads c.slots c.chunks c.words c.gens c.sparse c.tries (handle x.x.handle).fst)).fst).snd.fst (slotOf (PMem.eLoad m who (lSlot c.threads c.slots c.chunks c.words c.gens c.sparse c.tries (handle x.x.handle).fst)).fst).snd.snd.fst (slotOf (PMem.eLoad m who (lSlot c.threads c.slots c.chunks c.words c.gens c.sparse c.tries (handle x.x.handle).fst)).fst).snd.snd.snd (handle x.x.handle).fst (handle x.x.handle).snd.fst then
      K true ⟨⟨(x.x.kind), (x.x.handle), (x.x.index), (x.x.value), (x.x.old)⟩, (x.own), ((handle x.x.handle).fst), ((handle x.x.handle).snd.fst), 1, ((PMem.eLoad m who (lSlot c.threads c.slots c.chunks c.words c.gens c.sparse c.tries (handle x.x.handle).fst)).fst), (x.cell), ((PMem.eLoad m who (lSlot c.threads c.slots c.chunks c.words c.gens c.sparse c.tries (handle x.x.handle).fst)).snd.steps), (x.read), (x.size), (some (help)), ⟨3, 0, 0, ((PMem.eLoad m who (lSlot c.threads c.slots c.chunks c.words c.gens c.sparse c.tries (handle x.x.handle).fst)).snd.steps)⟩⟩ ((PMem.eLoad m who (lSlot c.threads c.slots c.chunks c.words c.gens c.sparse c.tries (handle x.x.handle).fst)).snd)
     else
      K false ⟨⟨(x.x.kind), (x.x.handle), (x.x.index), (x.x.value), (x.x.old)⟩, (x.own), ((handle x.x.handle).fst), ((handle x.x.handle).snd.fst), 1, ((PMem.eLoad m who (lSlot c.threads c.slots c.chunks c.words c.gens c.sparse c.tries (handle x.x.handle).fst)).fst), (x.cell), ((PMem.eLoad m who (lSlot c.threads c.slots c.chunks c.words c.gens c.sparse c.tries (handle x.x.handle).fst)).snd.steps), (x.read), (x.size), (some (help)), ⟨(x.out.e), (x.out.h), (x.out.v), (x.out.st)⟩⟩ ((PMem.eLoad m who (lSlot c.threads c.slots c.chunks c.words c.gens c.sparse c.tries (handle x.x.handle).fst)).snd)
  else
   bif decide (x.pc = 1) then
    tw (fun p => (((p ∧ p) ∧ p) ∧ p)) (
     bif !(headOf (PMem.eLoad m who (slotOf x.w).snd.fst).fst).snd.snd.snd.snd == x.own then
      K true ⟨⟨(x.x.kind), (x.x.handle), (x.x.index), (x.x.value), (x.x.old)⟩, (x.own), (x.hs), (x.hg), 2, (x.w), (x.cell), (x.seen), (x.read), ((headOf (PMem.eLoad m who (slotOf x.w).snd.fst).fst).snd.fst), (some (help)), ⟨3, 0, 0, ((PMem.eLoad m who (slotOf x.w).snd.fst).snd.steps)⟩⟩ ((PMem.eLoad m who (slotOf x.w).snd.fst).snd)
     else
      bif decide (x.x.index < 0) then
       K true ⟨⟨(x.x.kind), (x.x.handle), (x.x.index), (x.x.value), (x.x.old)⟩, (x.own), (x.hs), (x.hg), 2, (x.w), (x.cell), (x.seen), (x.read), ((headOf (PMem.eLoad m who (slotOf x.w).snd.fst).fst).snd.fst), (some (help)), ⟨4, 0, 0, (x.seen)⟩⟩ ((PMem.eLoad m who (slotOf x.w).snd.fst).snd)
      else
       bif decide ((headOf (PMem.eLoad m who (slotOf x.w).snd.fst).fst).snd.fst ≤ x.x.index) then
        K true ⟨⟨(x.x.kind), (x.x.handle), (x.x.index), (x.x.value), (x.x.old)⟩, (x.own), (x.hs), (x.hg), 2, (x.w), (x.cell), (x.seen), (x.read), ((headOf (PMem.eLoad m who (slotOf x.w).snd.fst).fst).snd.fst), (some (help)), ⟨4, 0, 0, (x.seen)⟩⟩ ((PMem.eLoad m who (slotOf x.w).snd.fst).snd)
       else
        K false ⟨⟨(x.x.kind), (x.x.handle), (x.x.index), (x.x.value), (x.x.old)⟩, (x.own), (x.hs), (x.hg), 2, (x.w), (x.cell), (x.seen), (x.read), ((headOf (PMem.eLoad m who (slotOf x.w).snd.fst).fst).snd.fst), (some (help)), ⟨(x.out.e), (x.out.h), (x.out.v), (x.out.st)⟩⟩ ((PMem.eLoad m who (slotOf x.w).snd.fst).snd))
   else
    bif decide (x.pc = 2) then
     tw (fun p => (((p ∧ p) ∧ ((p ∧ p) ∧ (p ∧ p))) ∧ (((p ∧ p) ∧ p) ∧ ((p ∧ p) ∧ p)))) (
      bif decide (x.x.kind = 1) then
       bif decide (x.x.kind = 1) then
        K false ⟨⟨(x.x.kind), (x.x.handle), (x.x.index), (x.x.value), (x.x.old)⟩, (x.own), (x.hs), (x.hg), 6, (x.w), ((PMem.eLoad m who (wrI (wrI ((slotOf x.w).snd.fst + 1) + x.x.index))).fst), (x.seen), ((PMem.eLoad m who (wrI (wrI ((slotOf x.w).snd.fst + 1) + x.x.index))).snd.steps), (x.size), (some (help)), ⟨(x.out.e), (x.out.h), (x.out.v), (x.out.st)⟩⟩ ((PMem.eLoad m who (wrI (wrI ((slotOf x.w).snd.fst + 1) + x.x.index))).snd)
       else
        bif decide ((slotOf x.w).fst = 4) then
         K false ⟨⟨(x.x.kind), (x.x.handle), (x.x.index), (x.x.value), (x.x.old)⟩, (x.own), (x.hs), (x.hg), 4, (x.w), ((PMem.eLoad m who (wrI (wrI ((slotOf x.w).snd.fst + 1) + x.x.index))).fst), (x.seen), ((PMem.eLoad m who (wrI (wrI ((slotOf x.w).snd.fst + 1) + x.x.index))).snd.steps), (x.size), (some ⟨(x.hs), (x.w), (x.size), 0, 0, false, false⟩), ⟨(x.out.e), (x.out.h), (x.out.v), (x.out.st)⟩⟩ ((PMem.eLoad m who (wrI (wrI ((slotOf x.w).snd.fst + 1) + x.x.index))).snd)
        else
         bif !(cellOf (PMem.eLoad m who (wrI (wrI ((slotOf x.w).snd.fst + 1) + x.x.index))).fst).snd.fst then
          K false ⟨⟨(x.x.kind), (x.x.handle), (x.x.index), (x.x.value), (x.x.old)⟩, (x.own), (x.hs), (x.hg), 5, (x.w), ((PMem.eLoad m who (wrI (wrI ((slotOf x.w).snd.fst + 1) + x.x.index))).fst), (x.seen), ((PMem.eLoad m who (wrI (wrI ((slotOf x.w).snd.fst + 1) + x.x.index))).snd.steps), (x.size), (some (help)), ⟨(x.out.e), (x.out.h), (x.out.v), (x.out.st)⟩⟩ ((PMem.eLoad m who (wrI (wrI ((slotOf x.w).snd.fst + 1) + x.x.index))).snd)
         else
          bif decide ((cellOf (PMem.eLoad m who (wrI (wrI ((slotOf x.w).snd.fst + 1) + x.x.index))).fst).snd.snd < (slotOf x.w).snd.snd.snd) then
           K false ⟨⟨(x.x.kind), (x.x.handle), (x.x.index), (x.x.value), (x.x.old)⟩, (x.own), (x.hs), (x.hg), 5, (x.w), ((PMem.eLoad m who (wrI (wrI ((slotOf x.w).snd.fst + 1) + x.x.index))).fst), (x.seen), ((PMem.eLoad m who (wrI (wrI ((slotOf x.w).snd.fst + 1) + x.x.index))).snd.steps), (x.size), (some (help)), ⟨(x.out.e), (x.out.h), (x.out.v), (x.out.st)⟩⟩ ((PMem.eLoad m who (wrI (wrI ((slotOf x.w).snd.fst + 1) + x.x.index))).snd)
          else
           bif decide ((cellOf (PMem.eLoad m who (wrI (wrI ((slotOf x.w).snd.fst + 1) + x.x.index))).fst).snd.snd = (slotOf x.w).snd.snd.snd) then
            bif decide ((slotOf x.w).fst = 2) then
             K false ⟨⟨(x.x.kind), (x.x.handle), (x.x.index), (x.x.value), (x.x.old)⟩, (x.own), (x.hs), (x.hg), 3, (x.w), ((PMem.eLoad m who (wrI (wrI ((slotOf x.w).snd.fst + 1) + x.x.index))).fst), (x.seen), ((PMem.eLoad m who (wrI (wrI ((slotOf x.w).snd.fst + 1) + x.x.index))).snd.steps), (x.size), (some (help)), ⟨(x.out.e), (x.out.h), (x.out.v), (x.out.st)⟩⟩ ((PMem.eLoad m who (wrI (wrI ((slotOf x.w).snd.fst + 1) + x.x.index))).snd)
            else
             K false ⟨⟨(x.x.kind), (x.x.handle), (x.x.index), (x.x.value), (x.x.old)⟩, (x.own), (x.hs), (x.hg), 0, (x.w), ((PMem.eLoad m who (wrI (wrI ((slotOf x.w).snd.fst + 1) + x.x.index))).fst), (x.seen), ((PMem.eLoad m who (wrI (wrI ((slotOf x.w).snd.fst + 1) + x.x.index))).snd.steps), (x.size), (some (help)), ⟨(x.out.e), (x.out.h), (x.out.v), (x.out.st)⟩⟩ ((PMem.eLoad m who (wrI (wrI ((slotOf x.w).snd.fst + 1) + x.x.index))).snd)
           else
            K false ⟨⟨(x.x.kind), (x.x.handle), (x.x.index), (x.x.value), (x.x.old)⟩, (x.own), (x.hs), (x.hg), 0, (x.w), ((PMem.eLoad m who (wrI (wrI ((slotOf x.w).snd.fst + 1) + x.x.index))).fst), (x.seen), ((PMem.eLoad m who (wrI (wrI ((slotOf x.w).snd.fst + 1) + x.x.index))).snd.steps), (x.size), (some (help)), ⟨(x.out.e), (x.out.h), (x.out.v), (x.out.st)⟩⟩ ((PMem.eLoad m who (wrI (wrI ((slotOf x.w).snd.fst + 1) + x.x.index))).snd)
      else
       bif decide (x.x.kind = 3) then
        bif !decide ((cellOf (PMem.eLoad m who (wrI (wrI ((slotOf x.w).snd.fst + 1) + x.x.index))).fst).fst = x.x.old) then
         K false ⟨⟨(x.x.kind), (x.x.handle), (x.x.index), (x.x.value), (x.x.old)⟩, (x.own), (x.hs), (x.hg), 6, (x.w), ((PMem.eLoad m who (wrI (wrI ((slotOf x.w).snd.fst + 1) + x.x.index))).fst), (x.seen), ((PMem.eLoad m who (wrI (wrI ((slotOf x.w).snd.fst + 1) + x.x.index))).snd.steps), (x.size), (some (help)), ⟨(x.out.e), (x.out.h), (x.out.v), (x.out.st)⟩⟩ ((PMem.eLoad m who (wrI (wrI ((slotOf x.w).snd.fst + 1) + x.x.index))).snd)
        else
         bif decide ((slotOf x.w).fst = 4) then
          K false ⟨⟨(x.x.kind), (x.x.handle), (x.x.index), (x.x.value), (x.x.old)⟩, (x.own), (x.hs), (x.hg), 4, (x.w), ((PMem.eLoad m who (wrI (wrI ((slotOf x.w).snd.fst + 1) + x.x.index))).fst), (x.seen), ((PMem.eLoad m who (wrI (wrI ((slotOf x.w).snd.fst + 1) + x.x.index))).snd.steps), (x.size), (some ⟨(x.hs), (x.w), (x.size), 0, 0, false, false⟩), ⟨(x.out.e), (x.out.h), (x.out.v), (x.out.st)⟩⟩ ((PMem.eLoad m who (wrI (wrI ((slotOf x.w).snd.fst + 1) + x.x.index))).snd)
         else
          bif !(cellOf (PMem.eLoad m who (wrI (wrI ((slotOf x.w).snd.fst + 1) + x.x.index))).fst).snd.fst then
           K false ⟨⟨(x.x.kind), (x.x.handle), (x.x.index), (x.x.value), (x.x.old)⟩, (x.own), (x.hs), (x.hg), 5, (x.w), ((PMem.eLoad m who (wrI (wrI ((slotOf x.w).snd.fst + 1) + x.x.index))).fst), (x.seen), ((PMem.eLoad m who (wrI (wrI ((slotOf x.w).snd.fst + 1) + x.x.index))).snd.steps), (x.size), (some (help)), ⟨(x.out.e), (x.out.h), (x.out.v), (x.out.st)⟩⟩ ((PMem.eLoad m who (wrI (wrI ((slotOf x.w).snd.fst + 1) + x.x.index))).snd)
          else
           bif decide ((cellOf (PMem.eLoad m who (wrI (wrI ((slotOf x.w).snd.fst + 1) + x.x.index))).fst).snd.snd < (slotOf x.w).snd.snd.snd) then
            K false ⟨⟨(x.x.kind), (x.x.handle), (x.x.index), (x.x.value), (x.x.old)⟩, (x.own), (x.hs), (x.hg), 5, (x.w), ((PMem.eLoad m who (wrI (wrI ((slotOf x.w).snd.fst + 1) + x.x.index))).fst), (x.seen), ((PMem.eLoad m who (wrI (wrI ((slotOf x.w).snd.fst + 1) + x.x.index))).snd.steps), (x.size), (some (help)), ⟨(x.out.e), (x.out.h), (x.out.v), (x.out.st)⟩⟩ ((PMem.eLoad m who (wrI (wrI ((slotOf x.w).snd.fst + 1) + x.x.index))).snd)
           else
            bif decide ((cellOf (PMem.eLoad m who (wrI (wrI ((slotOf x.w).snd.fst + 1) + x.x.index))).fst).snd.snd = (slotOf x.w).snd.snd.snd) then
             bif decide ((slotOf x.w).fst = 2) then
              K false ⟨⟨(x.x.kind), (x.x.handle), (x.x.index), (x.x.value), (x.x.old)⟩, (x.own), (x.hs), (x.hg), 3, (x.w), ((PMem.eLoad m who (wrI (wrI ((slotOf x.w).snd.fst + 1) + x.x.index))).fst), (x.seen), ((PMem.eLoad m who (wrI (wrI ((slotOf x.w).snd.fst + 1) + x.x.index))).snd.steps), (x.size), (some (help)), ⟨(x.out.e), (x.out.h), (x.out.v), (x.out.st)⟩⟩ ((PMem.eLoad m who (wrI (wrI ((slotOf x.w).snd.fst + 1) + x.x.index))).snd)
             else
              K false ⟨⟨(x.x.kind), (x.x.handle), (x.x.index), (x.x.value), (x.x.old)⟩, (x.own), (x.hs), (x.hg), 0, (x.w), ((PMem.eLoad m who (wrI (wrI ((slotOf x.w).snd.fst + 1) + x.x.index))).fst), (x.seen), ((PMem.eLoad m who (wrI (wrI ((slotOf x.w).snd.fst + 1) + x.x.index))).snd.steps), (x.size), (some (help)), ⟨(x.out.e), (x.out.h), (x.out.v), (x.out.st)⟩⟩ ((PMem.eLoad m who (wrI (wrI ((slotOf x.w).snd.fst + 1) + x.x.index))).snd)
            else
             K false ⟨⟨(x.x.kind), (x.x.handle), (x.x.index), (x.x.value), (x.x.old)⟩, (x.own), (x.hs), (x.hg), 0, (x.w), ((PMem.eLoad m who (wrI (wrI ((slotOf x.w).snd.fst + 1) + x.x.index))).fst), (x.seen), ((PMem.eLoad m who (wrI (wrI ((slotOf x.w).snd.fst + 1) + x.x.index))).snd.steps), (x.size), (some (help)), ⟨(x.out.e), (x.out.h), (x.out.v), (x.out.st)⟩⟩ ((PMem.eLoad m who (wrI (wrI ((slotOf x.w).snd.fst + 1) + x.x.index))).snd)
       else
        bif decide ((slotOf x.w).fst = 4) then
         K false ⟨⟨(x.x.kind), (x.x.handle), (x.x.index), (x.x.value), (x.x.old)⟩, (x.own), (x.hs), (x.hg), 4, (x.w), ((PMem.eLoad m who (wrI (wrI ((slotOf x.w).snd.fst + 1) + x.x.index))).fst), (x.seen), ((PMem.eLoad m who (wrI (wrI ((slotOf x.w).snd.fst + 1) + x.x.index))).snd.steps), (x.size), (some ⟨(x.hs), (x.w), (x.size), 0, 0, false, false⟩), ⟨(x.out.e), (x.out.h), (x.out.v), (x.out.st)⟩⟩ ((PMem.eLoad m who (wrI (wrI ((slotOf x.w).snd.fst + 1) + x.x.index))).snd)
        else
         bif !(cellOf (PMem.eLoad m who (wrI (wrI ((slotOf x.w).snd.fst + 1) + x.x.index))).fst).snd.fst then
          K false ⟨⟨(x.x.kind), (x.x.handle), (x.x.index), (x.x.value), (x.x.old)⟩, (x.own), (x.hs), (x.hg), 5, (x.w), ((PMem.eLoad m who (wrI (wrI ((slotOf x.w).snd.fst + 1) + x.x.index))).fst), (x.seen), ((PMem.eLoad m who (wrI (wrI ((slotOf x.w).snd.fst + 1) + x.x.index))).snd.steps), (x.size), (some (help)), ⟨(x.out.e), (x.out.h), (x.out.v), (x.out.st)⟩⟩ ((PMem.eLoad m who (wrI (wrI ((slotOf x.w).snd.fst + 1) + x.x.index))).snd)
         else
          bif decide ((cellOf (PMem.eLoad m who (wrI (wrI ((slotOf x.w).snd.fst + 1) + x.x.index))).fst).snd.snd < (slotOf x.w).snd.snd.snd) then
           K false ⟨⟨(x.x.kind), (x.x.handle), (x.x.index), (x.x.value), (x.x.old)⟩, (x.own), (x.hs), (x.hg), 5, (x.w), ((PMem.eLoad m who (wrI (wrI ((slotOf x.w).snd.fst + 1) + x.x.index))).fst), (x.seen), ((PMem.eLoad m who (wrI (wrI ((slotOf x.w).snd.fst + 1) + x.x.index))).snd.steps), (x.size), (some (help)), ⟨(x.out.e), (x.out.h), (x.out.v), (x.out.st)⟩⟩ ((PMem.eLoad m who (wrI (wrI ((slotOf x.w).snd.fst + 1) + x.x.index))).snd)
          else
           bif decide ((cellOf (PMem.eLoad m who (wrI (wrI ((slotOf x.w).snd.fst + 1) + x.x.index))).fst).snd.snd = (slotOf x.w).snd.snd.snd) then
            bif decide ((slotOf x.w).fst = 2) then
             K false ⟨⟨(x.x.kind), (x.x.handle), (x.x.index), (x.x.value), (x.x.old)⟩, (x.own), (x.hs), (x.hg), 3, (x.w), ((PMem.eLoad m who (wrI (wrI ((slotOf x.w).snd.fst + 1) + x.x.index))).fst), (x.seen), ((PMem.eLoad m who (wrI (wrI ((slotOf x.w).snd.fst + 1) + x.x.index))).snd.steps), (x.size), (some (help)), ⟨(x.out.e), (x.out.h), (x.out.v), (x.out.st)⟩⟩ ((PMem.eLoad m who (wrI (wrI ((slotOf x.w).snd.fst + 1) + x.x.index))).snd)
            else
             K false ⟨⟨(x.x.kind), (x.x.handle), (x.x.index), (x.x.value), (x.x.old)⟩, (x.own), (x.hs), (x.hg), 0, (x.w), ((PMem.eLoad m who (wrI (wrI ((slotOf x.w).snd.fst + 1) + x.x.index))).fst), (x.seen), ((PMem.eLoad m who (wrI (wrI ((slotOf x.w).snd.fst + 1) + x.x.index))).snd.steps), (x.size), (some (help)), ⟨(x.out.e), (x.out.h), (x.out.v), (x.out.st)⟩⟩ ((PMem.eLoad m who (wrI (wrI ((slotOf x.w).snd.fst + 1) + x.x.index))).snd)
           else
            K false ⟨⟨(x.x.kind), (x.x.handle), (x.x.index), (x.x.value), (x.x.old)⟩, (x.own), (x.hs), (x.hg), 0, (x.w), ((PMem.eLoad m who (wrI (wrI ((slotOf x.w).snd.fst + 1) + x.x.index))).fst), (x.seen), ((PMem.eLoad m who (wrI (wrI ((slotOf x.w).snd.fst + 1) + x.x.index))).snd.steps), (x.size), (some (help)), ⟨(x.out.e), (x.out.h), (x.out.v), (x.out.st)⟩⟩ ((PMem.eLoad m who (wrI (wrI ((slotOf x.w).snd.fst + 1) + x.x.index))).snd))
    else
     bif decide (x.pc = 3) then
      K false ⟨⟨(x.x.kind), (x.x.handle), (x.x.index), (x.x.value), (x.x.old)⟩, (x.own), (x.hs), (x.hg), 0, (x.w), (x.cell), (x.seen), (x.read), (x.size), (some (help)), ⟨(x.out.e), (x.out.h), (x.out.v), (x.out.st)⟩⟩ ((PMem.eCas m who (lSlot c.threads c.slots c.chunks c.words c.gens c.sparse c.tries x.hs) x.w (putSlot 1 (slotOf x.w).snd.fst (slotOf x.w).snd.snd.fst (wrI ((slotOf x.w).snd.snd.snd + 1)))).snd)
     else
      bif decide (x.pc = 4) then
       bif (helpStep { threads := c.threads, slots := c.slots, chunks := c.chunks, words := c.words, gens := c.gens, sparse := c.sparse, tries := c.tries } who help m).fst then
        K false ⟨⟨(x.x.kind), (x.x.handle), (x.x.index), (x.x.value), (x.x.old)⟩, (x.own), (x.hs), (x.hg), 0, (x.w), (x.cell), (x.seen), (x.read), (x.size), (some ((helpStep { threads := c.threads, slots := c.slots, chunks := c.chunks, words := c.words, gens := c.gens, sparse := c.sparse, tries := c.tries } who help m).snd.1)), ⟨(x.out.e), (x.out.h), (x.out.v), (x.out.st)⟩⟩ ((helpStep { threads := c.threads, slots := c.slots, chunks := c.chunks, words := c.words, gens := c.gens, sparse := c.sparse, tries := c.tries } who help m).snd.snd)
       else
        K false ⟨⟨(x.x.kind), (x.x.handle), (x.x.index), (x.x.value), (x.x.old)⟩, (x.own), (x.hs), (x.hg), (x.pc), (x.w), (x.cell), (x.seen), (x.read), (x.size), (some ((helpStep { threads := c.threads, slots := c.slots, chunks := c.chunks, words := c.words, gens := c.gens, sparse := c.sparse, tries := c.tries } who help m).snd.1)), ⟨(x.out.e), (x.out.h), (x.out.v), (x.out.st)⟩⟩ ((helpStep { threads := c.threads, slots := c.slots, chunks := c.chunks, words := c.words, gens := c.gens, sparse := c.sparse, tries := c.tries } who help m).snd.snd)
      else
       bif decide (x.pc = 5) then
        bif (PMem.eCas m who (wrI (wrI ((slotOf x.w).snd.fst + 1) + x.x.index)) x.cell (putCell x.x.value false 0)).fst then
         K true ⟨⟨(x.x.kind), (x.x.handle), (x.x.index), (x.x.value), (x.x.old)⟩, (x.own), (x.hs), (x.hg), 0, (x.w), (x.cell), (x.seen), (x.read), (x.size), (some (help)), ⟨0, 0, ((cellOf x.cell).fst), ((PMem.eCas m who (wrI (wrI ((slotOf x.w).snd.fst + 1) + x.x.index)) x.cell (putCell x.x.value false 0)).snd.steps)⟩⟩ ((PMem.eCas m who (wrI (wrI ((slotOf x.w).snd.fst + 1) + x.x.index)) x.cell (putCell x.x.value false 0)).snd)
        else
         K false ⟨⟨(x.x.kind), (x.x.handle), (x.x.index), (x.x.value), (x.x.old)⟩, (x.own), (x.hs), (x.hg), 0, (x.w), (x.cell), (x.seen), (x.read), (x.size), (some (help)), ⟨(x.out.e), (x.out.h), (x.out.v), (x.out.st)⟩⟩ ((PMem.eCas m who (wrI (wrI ((slotOf x.w).snd.fst + 1) + x.x.index)) x.cell (putCell x.x.value false 0)).snd)
       else
        tw (fun p => (((p ∧ p) ∧ p) ∧ p)) (
         bif !live (slotOf (PMem.eLoad m who (lSlot c.threads c.slots c.chunks c.words c.gens c.sparse c.tries x.hs)).fst).fst (slotOf (PMem.eLoad m who (lSlot c.threads c.slots c.chunks c.words c.gens c.sparse c.tries x.hs)).fst).snd.fst (slotOf (PMem.eLoad m who (lSlot c.threads c.slots c.chunks c.words c.gens c.sparse c.tries x.hs)).fst).snd.snd.fst (slotOf (PMem.eLoad m who (lSlot c.threads c.slots c.chunks c.words c.gens c.sparse c.tries x.hs)).fst).snd.snd.snd x.hs x.hg then
          K true ⟨⟨(x.x.kind), (x.x.handle), (x.x.index), (x.x.value), (x.x.old)⟩, (x.own), (x.hs), (x.hg), (x.pc), (x.w), (x.cell), (x.seen), (x.read), (x.size), (some (help)), ⟨3, 0, 0, ((PMem.eLoad m who (lSlot c.threads c.slots c.chunks c.words c.gens c.sparse c.tries x.hs)).snd.steps)⟩⟩ ((PMem.eLoad m who (lSlot c.threads c.slots c.chunks c.words c.gens c.sparse c.tries x.hs)).snd)
         else
          bif !decide ((slotOf (PMem.eLoad m who (lSlot c.threads c.slots c.chunks c.words c.gens c.sparse c.tries x.hs)).fst).snd.fst = (slotOf x.w).snd.fst) then
           K false ⟨⟨(x.x.kind), (x.x.handle), (x.x.index), (x.x.value), (x.x.old)⟩, (x.own), (x.hs), (x.hg), 0, (x.w), (x.cell), (x.seen), (x.read), (x.size), (some (help)), ⟨(x.out.e), (x.out.h), (x.out.v), (x.out.st)⟩⟩ ((PMem.eLoad m who (lSlot c.threads c.slots c.chunks c.words c.gens c.sparse c.tries x.hs)).snd)
          else
           bif decide (x.x.kind = 3) then
            K true ⟨⟨(x.x.kind), (x.x.handle), (x.x.index), (x.x.value), (x.x.old)⟩, (x.own), (x.hs), (x.hg), (x.pc), (x.w), (x.cell), (x.seen), (x.read), (x.size), (some (help)), ⟨8, 0, ((cellOf x.cell).fst), (x.read)⟩⟩ ((PMem.eLoad m who (lSlot c.threads c.slots c.chunks c.words c.gens c.sparse c.tries x.hs)).snd)
           else
            K true ⟨⟨(x.x.kind), (x.x.handle), (x.x.index), (x.x.value), (x.x.old)⟩, (x.own), (x.hs), (x.hg), (x.pc), (x.w), (x.cell), (x.seen), (x.read), (x.size), (some (help)), ⟨0, 0, ((cellOf x.cell).fst), (x.read)⟩⟩ ((PMem.eLoad m who (lSlot c.threads c.slots c.chunks c.words c.gens c.sparse c.tries x.hs)).snd))

def accessStep1 (c : PCfg) (who : Int) (x : PAccess) (help : PHelp) (m : PMem) : Bool × PAccess × PMem := accessStep1K (false, x, m) twV c who x help m fun r x m => (r, x, m)

theorem accessStep1K_eq (c : PCfg) (who : Int) (x : PAccess) (help : PHelp) (m : PMem) (K : Bool → PAccess → PMem → Prop) : accessStep1K False twP c who x help m K = K (accessStep1 c who x help m).1 (accessStep1 c who x help m).2.1 (accessStep1 c who x help m).2.2 := by
  show _ = app3 K (accessStep1K (false, x, m) twV c who x help m fun r x m => (r, x, m))
  unfold accessStep1K
  repeat' first
    | refine cond3 ?_ ?_
    | refine tw3 (fun p => by simp only [and_self]) ?_
    | exact rfl

def accessStep (c : PCfg) (who : Int) (x : PAccess) (m : PMem) : Bool × PAccess × PMem := match x.help with
  | none => accessStep0 c who x m
  | some help => accessStep1 c who x help m

end Go.FL
