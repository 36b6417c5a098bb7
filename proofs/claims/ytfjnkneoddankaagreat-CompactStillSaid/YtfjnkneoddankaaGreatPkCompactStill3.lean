/-
  Steps of the program's objects, as the evaluator has them.
-/
import Derived.Test.YtfjnkneoddankaaGreatPkCompactStill2
set_option linter.unusedVariables false
set_option linter.unusedSimpArgs false
set_option maxRecDepth 100000
namespace Go.FL

def allocStep00K {R : Type} (bot : R) (tw : (Prop → Prop) → R → R) (c : PCfg) (who : Int) (x : PAlloc) (m : PMem) (K : Bool → PAlloc → PMem → R) : R :=
  bif decide (x.pc = 0) then
   bif decide (lClass x.size < 0) then
    K true ⟨(x.size), (x.own), (x.pc), ⟨(x.take.pc), (x.take.top), (x.take.next), (x.take.slot), (x.take.ok)⟩, (x.at_), (x.gen), none, (x.sa), (x.sc), none, ⟨5, 0, 0, (m.steps)⟩⟩ (m)
   else
    bif decide (x.take.pc = 0) then
     bif decide ((topOf (PMem.eLoad m who 1).fst).fst < 0) then
      bif !x.take.ok then
       K true ⟨(x.size), (x.own), 1, ⟨1, ((PMem.eLoad m who 1).fst), (x.take.next), ((topOf (PMem.eLoad m who 1).fst).fst), (x.take.ok)⟩, 0, (x.gen), none, (x.sa), (x.sc), none, ⟨7, 0, 0, ((PMem.eLoad m who 1).snd.steps)⟩⟩ ((PMem.eLoad m who 1).snd)
      else
       K false ⟨(x.size), (x.own), 1, ⟨1, ((PMem.eLoad m who 1).fst), (x.take.next), ((topOf (PMem.eLoad m who 1).fst).fst), (x.take.ok)⟩, ((topOf (PMem.eLoad m who 1).fst).fst), (x.gen), none, (x.sa), (x.sc), none, ⟨(x.out.e), (x.out.h), (x.out.v), (x.out.st)⟩⟩ ((PMem.eLoad m who 1).snd)
     else
      K false ⟨(x.size), (x.own), (x.pc), ⟨1, ((PMem.eLoad m who 1).fst), (x.take.next), ((topOf (PMem.eLoad m who 1).fst).fst), (x.take.ok)⟩, (x.at_), (x.gen), none, (x.sa), (x.sc), none, ⟨(x.out.e), (x.out.h), (x.out.v), (x.out.st)⟩⟩ ((PMem.eLoad m who 1).snd)
    else
     bif decide (x.take.pc = 1) then
      bif x.take.ok then
       bif !x.take.ok then
        K true ⟨(x.size), (x.own), 1, ⟨2, (x.take.top), ((topOf (PMem.eLoad m who (wrI (lSlot c.threads c.slots c.chunks c.words c.gens c.sparse c.tries x.take.slot + 1))).fst).fst), (x.take.slot), (x.take.ok)⟩, 0, (x.gen), none, (x.sa), (x.sc), none, ⟨7, 0, 0, ((PMem.eLoad m who (wrI (lSlot c.threads c.slots c.chunks c.words c.gens c.sparse c.tries x.take.slot + 1))).snd.steps)⟩⟩ ((PMem.eLoad m who (wrI (lSlot c.threads c.slots c.chunks c.words c.gens c.sparse c.tries x.take.slot + 1))).snd)
       else
        K false ⟨(x.size), (x.own), 1, ⟨2, (x.take.top), ((topOf (PMem.eLoad m who (wrI (lSlot c.threads c.slots c.chunks c.words c.gens c.sparse c.tries x.take.slot + 1))).fst).fst), (x.take.slot), (x.take.ok)⟩, (x.take.slot), (x.gen), none, (x.sa), (x.sc), none, ⟨(x.out.e), (x.out.h), (x.out.v), (x.out.st)⟩⟩ ((PMem.eLoad m who (wrI (lSlot c.threads c.slots c.chunks c.words c.gens c.sparse c.tries x.take.slot + 1))).snd)
      else
       K false ⟨(x.size), (x.own), (x.pc), ⟨2, (x.take.top), ((topOf (PMem.eLoad m who (wrI (lSlot c.threads c.slots c.chunks c.words c.gens c.sparse c.tries x.take.slot + 1))).fst).fst), (x.take.slot), (x.take.ok)⟩, (x.at_), (x.gen), none, (x.sa), (x.sc), none, ⟨(x.out.e), (x.out.h), (x.out.v), (x.out.st)⟩⟩ ((PMem.eLoad m who (wrI (lSlot c.threads c.slots c.chunks c.words c.gens c.sparse c.tries x.take.slot + 1))).snd)
     else
      bif (PMem.eCas m who 1 x.take.top (putTop x.take.next (wrI ((topOf x.take.top).snd + 1)))).fst then
       bif !(PMem.eCas m who 1 x.take.top (putTop x.take.next (wrI ((topOf x.take.top).snd + 1)))).fst then
        K true ⟨(x.size), (x.own), 1, ⟨0, (x.take.top), (x.take.next), (x.take.slot), ((PMem.eCas m who 1 x.take.top (putTop x.take.next (wrI ((topOf x.take.top).snd + 1)))).fst)⟩, 0, (x.gen), none, (x.sa), (x.sc), none, ⟨7, 0, 0, ((PMem.eCas m who 1 x.take.top (putTop x.take.next (wrI ((topOf x.take.top).snd + 1)))).snd.steps)⟩⟩ ((PMem.eCas m who 1 x.take.top (putTop x.take.next (wrI ((topOf x.take.top).snd + 1)))).snd)
       else
        K false ⟨(x.size), (x.own), 1, ⟨0, (x.take.top), (x.take.next), (x.take.slot), ((PMem.eCas m who 1 x.take.top (putTop x.take.next (wrI ((topOf x.take.top).snd + 1)))).fst)⟩, (x.take.slot), (x.gen), none, (x.sa), (x.sc), none, ⟨(x.out.e), (x.out.h), (x.out.v), (x.out.st)⟩⟩ ((PMem.eCas m who 1 x.take.top (putTop x.take.next (wrI ((topOf x.take.top).snd + 1)))).snd)
      else
       K false ⟨(x.size), (x.own), (x.pc), ⟨0, (x.take.top), (x.take.next), (x.take.slot), ((PMem.eCas m who 1 x.take.top (putTop x.take.next (wrI ((topOf x.take.top).snd + 1)))).fst)⟩, (x.at_), (x.gen), none, (x.sa), (x.sc), none, ⟨(x.out.e), (x.out.h), (x.out.v), (x.out.st)⟩⟩ ((PMem.eCas m who 1 x.take.top (putTop x.take.next (wrI ((topOf x.take.top).snd + 1)))).snd)
  else
   bif decide (x.pc = 1) then
    K false ⟨(x.size), (x.own), 2, ⟨(x.take.pc), (x.take.top), (x.take.next), (x.take.slot), (x.take.ok)⟩, (x.at_), ((slotOf (PMem.eLoad m who (lSlot c.threads c.slots c.chunks c.words c.gens c.sparse c.tries x.at_)).fst).snd.snd.fst), (some ⟨(lClass x.size), 0, 0, 0, 0, 0, 0, false⟩), (x.sa), (x.sc), none, ⟨(x.out.e), (x.out.h), (x.out.v), (x.out.st)⟩⟩ ((PMem.eLoad m who (lSlot c.threads c.slots c.chunks c.words c.gens c.sparse c.tries x.at_)).snd)
   else
    bif decide (x.pc = 2) then
     K false ⟨(x.size), (x.own), (x.pc), ⟨(x.take.pc), (x.take.top), (x.take.next), (x.take.slot), (x.take.ok)⟩, (x.at_), (x.gen), none, (x.sa), (x.sc), none, ⟨(x.out.e), (x.out.h), (x.out.v), (x.out.st)⟩⟩ (m)
    else
     bif decide (x.pc = 3) then
      K false ⟨(x.size), (x.own), 4, ⟨(x.take.pc), (x.take.top), (x.take.next), (x.take.slot), (x.take.ok)⟩, (x.at_), (x.gen), none, (x.sa), (x.sc), none, ⟨(x.out.e), (x.out.h), (x.out.v), (x.out.st)⟩⟩ (PMem.eAdd m who (wrI (lChunk c.threads c.slots c.chunks c.words c.gens c.sparse c.tries x.sc + 1)) (lRoom (lClass x.size)))
     else
      bif decide (x.pc = 4) then
       K false ⟨(x.size), (x.own), 5, ⟨(x.take.pc), (x.take.top), (x.take.next), (x.take.slot), (x.take.ok)⟩, (x.at_), (x.gen), none, (x.sa), (x.sc), none, ⟨(x.out.e), (x.out.h), (x.out.v), (x.out.st)⟩⟩ (PMem.eStore m who x.sa (putHead 1 x.size x.at_ x.gen x.own))
      else
       bif decide (x.pc = 5) then
        K false ⟨(x.size), (x.own), 6, ⟨(x.take.pc), (x.take.top), (x.take.next), (x.take.slot), (x.take.ok)⟩, (x.at_), (x.gen), none, (x.sa), (x.sc), none, ⟨0, (putHandle x.at_ x.gen), 0, ((PMem.eStore m who (lSlot c.threads c.slots c.chunks c.words c.gens c.sparse c.tries x.at_) (putSlot 1 x.sa x.gen 0)).steps)⟩⟩ (PMem.eStore m who (lSlot c.threads c.slots c.chunks c.words c.gens c.sparse c.tries x.at_) (putSlot 1 x.sa x.gen 0))
       else
        bif decide (x.pc = 6) then
         K true ⟨(x.size), (x.own), (x.pc), ⟨(x.take.pc), (x.take.top), (x.take.next), (x.take.slot), (x.take.ok)⟩, (x.at_), (x.gen), none, (x.sa), (x.sc), none, ⟨(x.out.e), (x.out.h), (x.out.v), (x.out.st)⟩⟩ (PMem.eStore m who x.sa (putHead 2 x.size x.at_ x.gen x.own))
        else
         K false ⟨(x.size), (x.own), (x.pc), ⟨(x.take.pc), (x.take.top), (x.take.next), (x.take.slot), (x.take.ok)⟩, (x.at_), (x.gen), none, (x.sa), (x.sc), none, ⟨(x.out.e), (x.out.h), (x.out.v), (x.out.st)⟩⟩ (m)

def allocStep00 (c : PCfg) (who : Int) (x : PAlloc) (m : PMem) : Bool × PAlloc × PMem := allocStep00K (false, x, m) twV c who x m fun r x m => (r, x, m)

theorem allocStep00K_eq (c : PCfg) (who : Int) (x : PAlloc) (m : PMem) (K : Bool → PAlloc → PMem → Prop) : allocStep00K False twP c who x m K = K (allocStep00 c who x m).1 (allocStep00 c who x m).2.1 (allocStep00 c who x m).2.2 := by
  show _ = app3 K (allocStep00K (false, x, m) twV c who x m fun r x m => (r, x, m))
  unfold allocStep00K
  repeat' first
    | refine cond3 ?_ ?_
    | refine tw3 (fun p => by simp only [and_self]) ?_
    | exact rfl

def allocStep10K {R : Type} (bot : R) (tw : (Prop → Prop) → R → R) (c : PCfg) (who : Int) (x : PAlloc) (p : PPlace) (m : PMem) (K : Bool → PAlloc → PMem → R) : R :=
  bif decide (x.pc = 0) then
   bif decide (lClass x.size < 0) then
    K true ⟨(x.size), (x.own), (x.pc), ⟨(x.take.pc), (x.take.top), (x.take.next), (x.take.slot), (x.take.ok)⟩, (x.at_), (x.gen), (some (p)), (x.sa), (x.sc), none, ⟨5, 0, 0, (m.steps)⟩⟩ (m)
   else
    bif decide (x.take.pc = 0) then
     bif decide ((topOf (PMem.eLoad m who 1).fst).fst < 0) then
      bif !x.take.ok then
       K true ⟨(x.size), (x.own), 1, ⟨1, ((PMem.eLoad m who 1).fst), (x.take.next), ((topOf (PMem.eLoad m who 1).fst).fst), (x.take.ok)⟩, 0, (x.gen), (some (p)), (x.sa), (x.sc), none, ⟨7, 0, 0, ((PMem.eLoad m who 1).snd.steps)⟩⟩ ((PMem.eLoad m who 1).snd)
      else
       K false ⟨(x.size), (x.own), 1, ⟨1, ((PMem.eLoad m who 1).fst), (x.take.next), ((topOf (PMem.eLoad m who 1).fst).fst), (x.take.ok)⟩, ((topOf (PMem.eLoad m who 1).fst).fst), (x.gen), (some (p)), (x.sa), (x.sc), none, ⟨(x.out.e), (x.out.h), (x.out.v), (x.out.st)⟩⟩ ((PMem.eLoad m who 1).snd)
     else
      K false ⟨(x.size), (x.own), (x.pc), ⟨1, ((PMem.eLoad m who 1).fst), (x.take.next), ((topOf (PMem.eLoad m who 1).fst).fst), (x.take.ok)⟩, (x.at_), (x.gen), (some (p)), (x.sa), (x.sc), none, ⟨(x.out.e), (x.out.h), (x.out.v), (x.out.st)⟩⟩ ((PMem.eLoad m who 1).snd)
    else
     bif decide (x.take.pc = 1) then
      bif x.take.ok then
       bif !x.take.ok then
        K true ⟨(x.size), (x.own), 1, ⟨2, (x.take.top), ((topOf (PMem.eLoad m who (wrI (lSlot c.threads c.slots c.chunks c.words c.gens c.sparse c.tries x.take.slot + 1))).fst).fst), (x.take.slot), (x.take.ok)⟩, 0, (x.gen), (some (p)), (x.sa), (x.sc), none, ⟨7, 0, 0, ((PMem.eLoad m who (wrI (lSlot c.threads c.slots c.chunks c.words c.gens c.sparse c.tries x.take.slot + 1))).snd.steps)⟩⟩ ((PMem.eLoad m who (wrI (lSlot c.threads c.slots c.chunks c.words c.gens c.sparse c.tries x.take.slot + 1))).snd)
       else
        K false ⟨(x.size), (x.own), 1, ⟨2, (x.take.top), ((topOf (PMem.eLoad m who (wrI (lSlot c.threads c.slots c.chunks c.words c.gens c.sparse c.tries x.take.slot + 1))).fst).fst), (x.take.slot), (x.take.ok)⟩, (x.take.slot), (x.gen), (some (p)), (x.sa), (x.sc), none, ⟨(x.out.e), (x.out.h), (x.out.v), (x.out.st)⟩⟩ ((PMem.eLoad m who (wrI (lSlot c.threads c.slots c.chunks c.words c.gens c.sparse c.tries x.take.slot + 1))).snd)
      else
       K false ⟨(x.size), (x.own), (x.pc), ⟨2, (x.take.top), ((topOf (PMem.eLoad m who (wrI (lSlot c.threads c.slots c.chunks c.words c.gens c.sparse c.tries x.take.slot + 1))).fst).fst), (x.take.slot), (x.take.ok)⟩, (x.at_), (x.gen), (some (p)), (x.sa), (x.sc), none, ⟨(x.out.e), (x.out.h), (x.out.v), (x.out.st)⟩⟩ ((PMem.eLoad m who (wrI (lSlot c.threads c.slots c.chunks c.words c.gens c.sparse c.tries x.take.slot + 1))).snd)
     else
      bif (PMem.eCas m who 1 x.take.top (putTop x.take.next (wrI ((topOf x.take.top).snd + 1)))).fst then
       bif !(PMem.eCas m who 1 x.take.top (putTop x.take.next (wrI ((topOf x.take.top).snd + 1)))).fst then
        K true ⟨(x.size), (x.own), 1, ⟨0, (x.take.top), (x.take.next), (x.take.slot), ((PMem.eCas m who 1 x.take.top (putTop x.take.next (wrI ((topOf x.take.top).snd + 1)))).fst)⟩, 0, (x.gen), (some (p)), (x.sa), (x.sc), none, ⟨7, 0, 0, ((PMem.eCas m who 1 x.take.top (putTop x.take.next (wrI ((topOf x.take.top).snd + 1)))).snd.steps)⟩⟩ ((PMem.eCas m who 1 x.take.top (putTop x.take.next (wrI ((topOf x.take.top).snd + 1)))).snd)
       else
        K false ⟨(x.size), (x.own), 1, ⟨0, (x.take.top), (x.take.next), (x.take.slot), ((PMem.eCas m who 1 x.take.top (putTop x.take.next (wrI ((topOf x.take.top).snd + 1)))).fst)⟩, (x.take.slot), (x.gen), (some (p)), (x.sa), (x.sc), none, ⟨(x.out.e), (x.out.h), (x.out.v), (x.out.st)⟩⟩ ((PMem.eCas m who 1 x.take.top (putTop x.take.next (wrI ((topOf x.take.top).snd + 1)))).snd)
      else
       K false ⟨(x.size), (x.own), (x.pc), ⟨0, (x.take.top), (x.take.next), (x.take.slot), ((PMem.eCas m who 1 x.take.top (putTop x.take.next (wrI ((topOf x.take.top).snd + 1)))).fst)⟩, (x.at_), (x.gen), (some (p)), (x.sa), (x.sc), none, ⟨(x.out.e), (x.out.h), (x.out.v), (x.out.st)⟩⟩ ((PMem.eCas m who 1 x.take.top (putTop x.take.next (wrI ((topOf x.take.top).snd + 1)))).snd)
  else
   bif decide (x.pc = 1) then
    K false ⟨(x.size), (x.own), 2, ⟨(x.take.pc), (x.take.top), (x.take.next), (x.take.slot), (x.take.ok)⟩, (x.at_), ((slotOf (PMem.eLoad m who (lSlot c.threads c.slots c.chunks c.words c.gens c.sparse c.tries x.at_)).fst).snd.snd.fst), (some ⟨(lClass x.size), 0, 0, 0, 0, 0, 0, false⟩), (x.sa), (x.sc), none, ⟨(x.out.e), (x.out.h), (x.out.v), (x.out.st)⟩⟩ ((PMem.eLoad m who (lSlot c.threads c.slots c.chunks c.words c.gens c.sparse c.tries x.at_)).snd)
   else
    bif decide (x.pc = 2) then
     bif (placeStep { threads := c.threads, slots := c.slots, chunks := c.chunks, words := c.words, gens := c.gens, sparse := c.sparse, tries := c.tries } who p m).fst then
      bif !(placeStep { threads := c.threads, slots := c.slots, chunks := c.chunks, words := c.words, gens := c.gens, sparse := c.sparse, tries := c.tries } who p m).snd.fst.ok then
       K false ⟨(x.size), (x.own), 7, ⟨(x.take.pc), (x.take.top), (x.take.next), (x.take.slot), (x.take.ok)⟩, (x.at_), (x.gen), (some ((placeStep { threads := c.threads, slots := c.slots, chunks := c.chunks, words := c.words, gens := c.gens, sparse := c.sparse, tries := c.tries } who p m).snd.1)), (bif (placeStep { threads := c.threads, slots := c.slots, chunks := c.chunks, words := c.words, gens := c.gens, sparse := c.sparse, tries := c.tries } who p m).snd.fst.ok then (placeStep { threads := c.threads, slots := c.slots, chunks := c.chunks, words := c.words, gens := c.gens, sparse := c.sparse, tries := c.tries } who p m).snd.fst.sa else 0), (bif (placeStep { threads := c.threads, slots := c.slots, chunks := c.chunks, words := c.words, gens := c.gens, sparse := c.sparse, tries := c.tries } who p m).snd.fst.ok then (placeStep { threads := c.threads, slots := c.slots, chunks := c.chunks, words := c.words, gens := c.gens, sparse := c.sparse, tries := c.tries } who p m).snd.fst.sc else 0), (some ⟨0, (x.at_), 0⟩), ⟨6, 0, 0, ((placeStep { threads := c.threads, slots := c.slots, chunks := c.chunks, words := c.words, gens := c.gens, sparse := c.sparse, tries := c.tries } who p m).snd.snd.steps)⟩⟩ ((placeStep { threads := c.threads, slots := c.slots, chunks := c.chunks, words := c.words, gens := c.gens, sparse := c.sparse, tries := c.tries } who p m).snd.snd)
      else
       K false ⟨(x.size), (x.own), 3, ⟨(x.take.pc), (x.take.top), (x.take.next), (x.take.slot), (x.take.ok)⟩, (x.at_), (x.gen), (some ((placeStep { threads := c.threads, slots := c.slots, chunks := c.chunks, words := c.words, gens := c.gens, sparse := c.sparse, tries := c.tries } who p m).snd.1)), (bif (placeStep { threads := c.threads, slots := c.slots, chunks := c.chunks, words := c.words, gens := c.gens, sparse := c.sparse, tries := c.tries } who p m).snd.fst.ok then (placeStep { threads := c.threads, slots := c.slots, chunks := c.chunks, words := c.words, gens := c.gens, sparse := c.sparse, tries := c.tries } who p m).snd.fst.sa else 0), (bif (placeStep { threads := c.threads, slots := c.slots, chunks := c.chunks, words := c.words, gens := c.gens, sparse := c.sparse, tries := c.tries } who p m).snd.fst.ok then (placeStep { threads := c.threads, slots := c.slots, chunks := c.chunks, words := c.words, gens := c.gens, sparse := c.sparse, tries := c.tries } who p m).snd.fst.sc else 0), none, ⟨(x.out.e), (x.out.h), (x.out.v), (x.out.st)⟩⟩ ((placeStep { threads := c.threads, slots := c.slots, chunks := c.chunks, words := c.words, gens := c.gens, sparse := c.sparse, tries := c.tries } who p m).snd.snd)
     else
      K false ⟨(x.size), (x.own), (x.pc), ⟨(x.take.pc), (x.take.top), (x.take.next), (x.take.slot), (x.take.ok)⟩, (x.at_), (x.gen), (some ((placeStep { threads := c.threads, slots := c.slots, chunks := c.chunks, words := c.words, gens := c.gens, sparse := c.sparse, tries := c.tries } who p m).snd.1)), (x.sa), (x.sc), none, ⟨(x.out.e), (x.out.h), (x.out.v), (x.out.st)⟩⟩ ((placeStep { threads := c.threads, slots := c.slots, chunks := c.chunks, words := c.words, gens := c.gens, sparse := c.sparse, tries := c.tries } who p m).snd.snd)
    else
     bif decide (x.pc = 3) then
      K false ⟨(x.size), (x.own), 4, ⟨(x.take.pc), (x.take.top), (x.take.next), (x.take.slot), (x.take.ok)⟩, (x.at_), (x.gen), (some (p)), (x.sa), (x.sc), none, ⟨(x.out.e), (x.out.h), (x.out.v), (x.out.st)⟩⟩ (PMem.eAdd m who (wrI (lChunk c.threads c.slots c.chunks c.words c.gens c.sparse c.tries x.sc + 1)) (lRoom (lClass x.size)))
     else
      bif decide (x.pc = 4) then
       K false ⟨(x.size), (x.own), 5, ⟨(x.take.pc), (x.take.top), (x.take.next), (x.take.slot), (x.take.ok)⟩, (x.at_), (x.gen), (some (p)), (x.sa), (x.sc), none, ⟨(x.out.e), (x.out.h), (x.out.v), (x.out.st)⟩⟩ (PMem.eStore m who x.sa (putHead 1 x.size x.at_ x.gen x.own))
      else
       bif decide (x.pc = 5) then
        K false ⟨(x.size), (x.own), 6, ⟨(x.take.pc), (x.take.top), (x.take.next), (x.take.slot), (x.take.ok)⟩, (x.at_), (x.gen), (some (p)), (x.sa), (x.sc), none, ⟨0, (putHandle x.at_ x.gen), 0, ((PMem.eStore m who (lSlot c.threads c.slots c.chunks c.words c.gens c.sparse c.tries x.at_) (putSlot 1 x.sa x.gen 0)).steps)⟩⟩ (PMem.eStore m who (lSlot c.threads c.slots c.chunks c.words c.gens c.sparse c.tries x.at_) (putSlot 1 x.sa x.gen 0))
       else
        bif decide (x.pc = 6) then
         K true ⟨(x.size), (x.own), (x.pc), ⟨(x.take.pc), (x.take.top), (x.take.next), (x.take.slot), (x.take.ok)⟩, (x.at_), (x.gen), (some (p)), (x.sa), (x.sc), none, ⟨(x.out.e), (x.out.h), (x.out.v), (x.out.st)⟩⟩ (PMem.eStore m who x.sa (putHead 2 x.size x.at_ x.gen x.own))
        else
         K false ⟨(x.size), (x.own), (x.pc), ⟨(x.take.pc), (x.take.top), (x.take.next), (x.take.slot), (x.take.ok)⟩, (x.at_), (x.gen), (some (p)), (x.sa), (x.sc), none, ⟨(x.out.e), (x.out.h), (x.out.v), (x.out.st)⟩⟩ (m)

def allocStep10 (c : PCfg) (who : Int) (x : PAlloc) (p : PPlace) (m : PMem) : Bool × PAlloc × PMem := allocStep10K (false, x, m) twV c who x p m fun r x m => (r, x, m)

theorem allocStep10K_eq (c : PCfg) (who : Int) (x : PAlloc) (p : PPlace) (m : PMem) (K : Bool → PAlloc → PMem → Prop) : allocStep10K False twP c who x p m K = K (allocStep10 c who x p m).1 (allocStep10 c who x p m).2.1 (allocStep10 c who x p m).2.2 := by
  show _ = app3 K (allocStep10K (false, x, m) twV c who x p m fun r x m => (r, x, m))
  unfold allocStep10K
  repeat' first
    | refine cond3 ?_ ?_
    | refine tw3 (fun p => by simp only [and_self]) ?_
    | exact rfl

def allocStep01K {R : Type} (bot : R) (tw : (Prop → Prop) → R → R) (c : PCfg) (who : Int) (x : PAlloc) (give : PGive) (m : PMem) (K : Bool → PAlloc → PMem → R) : R :=
  bif decide (x.pc = 0) then
   bif decide (lClass x.size < 0) then
    K true ⟨(x.size), (x.own), (x.pc), ⟨(x.take.pc), (x.take.top), (x.take.next), (x.take.slot), (x.take.ok)⟩, (x.at_), (x.gen), none, (x.sa), (x.sc), (some (give)), ⟨5, 0, 0, (m.steps)⟩⟩ (m)
   else
    bif decide (x.take.pc = 0) then
     bif decide ((topOf (PMem.eLoad m who 1).fst).fst < 0) then
      bif !x.take.ok then
       K true ⟨(x.size), (x.own), 1, ⟨1, ((PMem.eLoad m who 1).fst), (x.take.next), ((topOf (PMem.eLoad m who 1).fst).fst), (x.take.ok)⟩, 0, (x.gen), none, (x.sa), (x.sc), (some (give)), ⟨7, 0, 0, ((PMem.eLoad m who 1).snd.steps)⟩⟩ ((PMem.eLoad m who 1).snd)
      else
       K false ⟨(x.size), (x.own), 1, ⟨1, ((PMem.eLoad m who 1).fst), (x.take.next), ((topOf (PMem.eLoad m who 1).fst).fst), (x.take.ok)⟩, ((topOf (PMem.eLoad m who 1).fst).fst), (x.gen), none, (x.sa), (x.sc), (some (give)), ⟨(x.out.e), (x.out.h), (x.out.v), (x.out.st)⟩⟩ ((PMem.eLoad m who 1).snd)
     else
      K false ⟨(x.size), (x.own), (x.pc), ⟨1, ((PMem.eLoad m who 1).fst), (x.take.next), ((topOf (PMem.eLoad m who 1).fst).fst), (x.take.ok)⟩, (x.at_), (x.gen), none, (x.sa), (x.sc), (some (give)), ⟨(x.out.e), (x.out.h), (x.out.v), (x.out.st)⟩⟩ ((PMem.eLoad m who 1).snd)
    else
     bif decide (x.take.pc = 1) then
      bif x.take.ok then
       bif !x.take.ok then
        K true ⟨(x.size), (x.own), 1, ⟨2, (x.take.top), ((topOf (PMem.eLoad m who (wrI (lSlot c.threads c.slots c.chunks c.words c.gens c.sparse c.tries x.take.slot + 1))).fst).fst), (x.take.slot), (x.take.ok)⟩, 0, (x.gen), none, (x.sa), (x.sc), (some (give)), ⟨7, 0, 0, ((PMem.eLoad m who (wrI (lSlot c.threads c.slots c.chunks c.words c.gens c.sparse c.tries x.take.slot + 1))).snd.steps)⟩⟩ ((PMem.eLoad m who (wrI (lSlot c.threads c.slots c.chunks c.words c.gens c.sparse c.tries x.take.slot + 1))).snd)
       else
        K false ⟨(x.size), (x.own), 1, ⟨2, (x.take.top), ((topOf (PMem.eLoad m who (wrI (lSlot c.threads c.slots c.chunks c.words c.gens c.sparse c.tries x.take.slot + 1))).fst).fst), (x.take.slot), (x.take.ok)⟩, (x.take.slot), (x.gen), none, (x.sa), (x.sc), (some (give)), ⟨(x.out.e), (x.out.h), (x.out.v), (x.out.st)⟩⟩ ((PMem.eLoad m who (wrI (lSlot c.threads c.slots c.chunks c.words c.gens c.sparse c.tries x.take.slot + 1))).snd)
      else
       K false ⟨(x.size), (x.own), (x.pc), ⟨2, (x.take.top), ((topOf (PMem.eLoad m who (wrI (lSlot c.threads c.slots c.chunks c.words c.gens c.sparse c.tries x.take.slot + 1))).fst).fst), (x.take.slot), (x.take.ok)⟩, (x.at_), (x.gen), none, (x.sa), (x.sc), (some (give)), ⟨(x.out.e), (x.out.h), (x.out.v), (x.out.st)⟩⟩ ((PMem.eLoad m who (wrI (lSlot c.threads c.slots c.chunks c.words c.gens c.sparse c.tries x.take.slot + 1))).snd)
     else
      bif (PMem.eCas m who 1 x.take.top (putTop x.take.next (wrI ((topOf x.take.top).snd + 1)))).fst then
       bif !(PMem.eCas m who 1 x.take.top (putTop x.take.next (wrI ((topOf x.take.top).snd + 1)))).fst then
        K true ⟨(x.size), (x.own), 1, ⟨0, (x.take.top), (x.take.next), (x.take.slot), ((PMem.eCas m who 1 x.take.top (putTop x.take.next (wrI ((topOf x.take.top).snd + 1)))).fst)⟩, 0, (x.gen), none, (x.sa), (x.sc), (some (give)), ⟨7, 0, 0, ((PMem.eCas m who 1 x.take.top (putTop x.take.next (wrI ((topOf x.take.top).snd + 1)))).snd.steps)⟩⟩ ((PMem.eCas m who 1 x.take.top (putTop x.take.next (wrI ((topOf x.take.top).snd + 1)))).snd)
       else
        K false ⟨(x.size), (x.own), 1, ⟨0, (x.take.top), (x.take.next), (x.take.slot), ((PMem.eCas m who 1 x.take.top (putTop x.take.next (wrI ((topOf x.take.top).snd + 1)))).fst)⟩, (x.take.slot), (x.gen), none, (x.sa), (x.sc), (some (give)), ⟨(x.out.e), (x.out.h), (x.out.v), (x.out.st)⟩⟩ ((PMem.eCas m who 1 x.take.top (putTop x.take.next (wrI ((topOf x.take.top).snd + 1)))).snd)
      else
       K false ⟨(x.size), (x.own), (x.pc), ⟨0, (x.take.top), (x.take.next), (x.take.slot), ((PMem.eCas m who 1 x.take.top (putTop x.take.next (wrI ((topOf x.take.top).snd + 1)))).fst)⟩, (x.at_), (x.gen), none, (x.sa), (x.sc), (some (give)), ⟨(x.out.e), (x.out.h), (x.out.v), (x.out.st)⟩⟩ ((PMem.eCas m who 1 x.take.top (putTop x.take.next (wrI ((topOf x.take.top).snd + 1)))).snd)
  else
   bif decide (x.pc = 1) then
    K false ⟨(x.size), (x.own), 2, ⟨(x.take.pc), (x.take.top), (x.take.next), (x.take.slot), (x.take.ok)⟩, (x.at_), ((slotOf (PMem.eLoad m who (lSlot c.threads c.slots c.chunks c.words c.gens c.sparse c.tries x.at_)).fst).snd.snd.fst), (some ⟨(lClass x.size), 0, 0, 0, 0, 0, 0, false⟩), (x.sa), (x.sc), (some (give)), ⟨(x.out.e), (x.out.h), (x.out.v), (x.out.st)⟩⟩ ((PMem.eLoad m who (lSlot c.threads c.slots c.chunks c.words c.gens c.sparse c.tries x.at_)).snd)
   else
    bif decide (x.pc = 2) then
     K false ⟨(x.size), (x.own), (x.pc), ⟨(x.take.pc), (x.take.top), (x.take.next), (x.take.slot), (x.take.ok)⟩, (x.at_), (x.gen), none, (x.sa), (x.sc), (some (give)), ⟨(x.out.e), (x.out.h), (x.out.v), (x.out.st)⟩⟩ (m)
    else
     bif decide (x.pc = 3) then
      K false ⟨(x.size), (x.own), 4, ⟨(x.take.pc), (x.take.top), (x.take.next), (x.take.slot), (x.take.ok)⟩, (x.at_), (x.gen), none, (x.sa), (x.sc), (some (give)), ⟨(x.out.e), (x.out.h), (x.out.v), (x.out.st)⟩⟩ (PMem.eAdd m who (wrI (lChunk c.threads c.slots c.chunks c.words c.gens c.sparse c.tries x.sc + 1)) (lRoom (lClass x.size)))
     else
      bif decide (x.pc = 4) then
       K false ⟨(x.size), (x.own), 5, ⟨(x.take.pc), (x.take.top), (x.take.next), (x.take.slot), (x.take.ok)⟩, (x.at_), (x.gen), none, (x.sa), (x.sc), (some (give)), ⟨(x.out.e), (x.out.h), (x.out.v), (x.out.st)⟩⟩ (PMem.eStore m who x.sa (putHead 1 x.size x.at_ x.gen x.own))
      else
       bif decide (x.pc = 5) then
        K false ⟨(x.size), (x.own), 6, ⟨(x.take.pc), (x.take.top), (x.take.next), (x.take.slot), (x.take.ok)⟩, (x.at_), (x.gen), none, (x.sa), (x.sc), (some (give)), ⟨0, (putHandle x.at_ x.gen), 0, ((PMem.eStore m who (lSlot c.threads c.slots c.chunks c.words c.gens c.sparse c.tries x.at_) (putSlot 1 x.sa x.gen 0)).steps)⟩⟩ (PMem.eStore m who (lSlot c.threads c.slots c.chunks c.words c.gens c.sparse c.tries x.at_) (putSlot 1 x.sa x.gen 0))
       else
        bif decide (x.pc = 6) then
         K true ⟨(x.size), (x.own), (x.pc), ⟨(x.take.pc), (x.take.top), (x.take.next), (x.take.slot), (x.take.ok)⟩, (x.at_), (x.gen), none, (x.sa), (x.sc), (some (give)), ⟨(x.out.e), (x.out.h), (x.out.v), (x.out.st)⟩⟩ (PMem.eStore m who x.sa (putHead 2 x.size x.at_ x.gen x.own))
        else
         K ((giveStep { threads := c.threads, slots := c.slots, chunks := c.chunks, words := c.words, gens := c.gens, sparse := c.sparse, tries := c.tries } who give m).fst) ⟨(x.size), (x.own), (x.pc), ⟨(x.take.pc), (x.take.top), (x.take.next), (x.take.slot), (x.take.ok)⟩, (x.at_), (x.gen), none, (x.sa), (x.sc), (some ((giveStep { threads := c.threads, slots := c.slots, chunks := c.chunks, words := c.words, gens := c.gens, sparse := c.sparse, tries := c.tries } who give m).snd.1)), ⟨(x.out.e), (x.out.h), (x.out.v), (x.out.st)⟩⟩ ((giveStep { threads := c.threads, slots := c.slots, chunks := c.chunks, words := c.words, gens := c.gens, sparse := c.sparse, tries := c.tries } who give m).snd.snd)

def allocStep01 (c : PCfg) (who : Int) (x : PAlloc) (give : PGive) (m : PMem) : Bool × PAlloc × PMem := allocStep01K (false, x, m) twV c who x give m fun r x m => (r, x, m)

theorem allocStep01K_eq (c : PCfg) (who : Int) (x : PAlloc) (give : PGive) (m : PMem) (K : Bool → PAlloc → PMem → Prop) : allocStep01K False twP c who x give m K = K (allocStep01 c who x give m).1 (allocStep01 c who x give m).2.1 (allocStep01 c who x give m).2.2 := by
  show _ = app3 K (allocStep01K (false, x, m) twV c who x give m fun r x m => (r, x, m))
  unfold allocStep01K
  repeat' first
    | refine cond3 ?_ ?_
    | refine tw3 (fun p => by simp only [and_self]) ?_
    | exact rfl

def allocStep11K {R : Type} (bot : R) (tw : (Prop → Prop) → R → R) (c : PCfg) (who : Int) (x : PAlloc) (p : PPlace) (give : PGive) (m : PMem) (K : Bool → PAlloc → PMem → R) : R :=
  bif decide (x.pc = 0) then
   bif decide (lClass x.size < 0) then
    K true ⟨(x.size), (x.own), (x.pc), ⟨(x.take.pc), (x.take.top), (x.take.next), (x.take.slot), (x.take.ok)⟩, (x.at_), (x.gen), (some (p)), (x.sa), (x.sc), (some (give)), ⟨5, 0, 0, (m.steps)⟩⟩ (m)
   else
    bif decide (x.take.pc = 0) then
     bif decide ((topOf (PMem.eLoad m who 1).fst).fst < 0) then
      bif !x.take.ok then
       K true ⟨(x.size), (x.own), 1, ⟨1, ((PMem.eLoad m who 1).fst), (x.take.next), ((topOf (PMem.eLoad m who 1).fst).fst), (x.take.ok)⟩, 0, (x.gen), (some (p)), (x.sa), (x.sc), (some (give)), ⟨7, 0, 0, ((PMem.eLoad m who 1).snd.steps)⟩⟩ ((PMem.eLoad m who 1).snd)
      else
       K false ⟨(x.size), (x.own), 1, ⟨1, ((PMem.eLoad m who 1).fst), (x.take.next), ((topOf (PMem.eLoad m who 1).fst).fst), (x.take.ok)⟩, ((topOf (PMem.eLoad m who 1).fst).fst), (x.gen), (some (p)), (x.sa), (x.sc), (some (give)), ⟨(x.out.e), (x.out.h), (x.out.v), (x.out.st)⟩⟩ ((PMem.eLoad m who 1).snd)
     else
      K false ⟨(x.size), (x.own), (x.pc), ⟨1, ((PMem.eLoad m who 1).fst), (x.take.next), ((topOf (PMem.eLoad m who 1).fst).fst), (x.take.ok)⟩, (x.at_), (x.gen), (some (p)), (x.sa), (x.sc), (some (give)), ⟨(x.out.e), (x.out.h), (x.out.v), (x.out.st)⟩⟩ ((PMem.eLoad m who 1).snd)
    else
     bif decide (x.take.pc = 1) then
      bif x.take.ok then
       bif !x.take.ok then
        K true ⟨(x.size), (x.own), 1, ⟨2, (x.take.top), ((topOf (PMem.eLoad m who (wrI (lSlot c.threads c.slots c.chunks c.words c.gens c.sparse c.tries x.take.slot + 1))).fst).fst), (x.take.slot), (x.take.ok)⟩, 0, (x.gen), (some (p)), (x.sa), (x.sc), (some (give)), ⟨7, 0, 0, ((PMem.eLoad m who (wrI (lSlot c.threads c.slots c.chunks c.words c.gens c.sparse c.tries x.take.slot + 1))).snd.steps)⟩⟩ ((PMem.eLoad m who (wrI (lSlot c.threads c.slots c.chunks c.words c.gens c.sparse c.tries x.take.slot + 1))).snd)
       else
        K false ⟨(x.size), (x.own), 1, ⟨2, (x.take.top), ((topOf (PMem.eLoad m who (wrI (lSlot c.threads c.slots c.chunks c.words c.gens c.sparse c.tries x.take.slot + 1))).fst).fst), (x.take.slot), (x.take.ok)⟩, (x.take.slot), (x.gen), (some (p)), (x.sa), (x.sc), (some (give)), ⟨(x.out.e), (x.out.h), (x.out.v), (x.out.st)⟩⟩ ((PMem.eLoad m who (wrI (lSlot c.threads c.slots c.chunks c.words c.gens c.sparse c.tries x.take.slot + 1))).snd)
      else
       K false ⟨(x.size), (x.own), (x.pc), ⟨2, (x.take.top), ((topOf (PMem.eLoad m who (wrI (lSlot c.threads c.slots c.chunks c.words c.gens c.sparse c.tries x.take.slot + 1))).fst).fst), (x.take.slot), (x.take.ok)⟩, (x.at_), (x.gen), (some (p)), (x.sa), (x.sc), (some (give)), ⟨(x.out.e), (x.out.h), (x.out.v), (x.out.st)⟩⟩ ((PMem.eLoad m who (wrI (lSlot c.threads c.slots c.chunks c.words c.gens c.sparse c.tries x.take.slot + 1))).snd)
     else
      bif (PMem.eCas m who 1 x.take.top (putTop x.take.next (wrI ((topOf x.take.top).snd + 1)))).fst then
       bif !(PMem.eCas m who 1 x.take.top (putTop x.take.next (wrI ((topOf x.take.top).snd + 1)))).fst then
        K true ⟨(x.size), (x.own), 1, ⟨0, (x.take.top), (x.take.next), (x.take.slot), ((PMem.eCas m who 1 x.take.top (putTop x.take.next (wrI ((topOf x.take.top).snd + 1)))).fst)⟩, 0, (x.gen), (some (p)), (x.sa), (x.sc), (some (give)), ⟨7, 0, 0, ((PMem.eCas m who 1 x.take.top (putTop x.take.next (wrI ((topOf x.take.top).snd + 1)))).snd.steps)⟩⟩ ((PMem.eCas m who 1 x.take.top (putTop x.take.next (wrI ((topOf x.take.top).snd + 1)))).snd)
       else
        K false ⟨(x.size), (x.own), 1, ⟨0, (x.take.top), (x.take.next), (x.take.slot), ((PMem.eCas m who 1 x.take.top (putTop x.take.next (wrI ((topOf x.take.top).snd + 1)))).fst)⟩, (x.take.slot), (x.gen), (some (p)), (x.sa), (x.sc), (some (give)), ⟨(x.out.e), (x.out.h), (x.out.v), (x.out.st)⟩⟩ ((PMem.eCas m who 1 x.take.top (putTop x.take.next (wrI ((topOf x.take.top).snd + 1)))).snd)
      else
       K false ⟨(x.size), (x.own), (x.pc), ⟨0, (x.take.top), (x.take.next), (x.take.slot), ((PMem.eCas m who 1 x.take.top (putTop x.take.next (wrI ((topOf x.take.top).snd + 1)))).fst)⟩, (x.at_), (x.gen), (some (p)), (x.sa), (x.sc), (some (give)), ⟨(x.out.e), (x.out.h), (x.out.v), (x.out.st)⟩⟩ ((PMem.eCas m who 1 x.take.top (putTop x.take.next (wrI ((topOf x.take.top).snd + 1)))).snd)
  else
   bif decide (x.pc = 1) then
    K false ⟨(x.size), (x.own), 2, ⟨(x.take.pc), (x.take.top), (x.take.next), (x.take.slot), (x.take.ok)⟩, (x.at_), ((slotOf (PMem.eLoad m who (lSlot c.threads c.slots c.chunks c.words c.gens c.sparse c.tries x.at_)).fst).snd.snd.fst), (some ⟨(lClass x.size), 0, 0, 0, 0, 0, 0, false⟩), (x.sa), (x.sc), (some (give)), ⟨(x.out.e), (x.out.h), (x.out.v), (x.out.st)⟩⟩ ((PMem.eLoad m who (lSlot c.threads c.slots c.chunks c.words c.gens c.sparse c.tries x.at_)).snd)
   else
    bif decide (x.pc = 2) then
     bif (placeStep { threads := c.threads, slots := c.slots, chunks := c.chunks, words := c.words, gens := c.gens, sparse := c.sparse, tries := c.tries } who p m).fst then
      bif !(placeStep { threads := c.threads, slots := c.slots, chunks := c.chunks, words := c.words, gens := c.gens, sparse := c.sparse, tries := c.tries } who p m).snd.fst.ok then
       K false ⟨(x.size), (x.own), 7, ⟨(x.take.pc), (x.take.top), (x.take.next), (x.take.slot), (x.take.ok)⟩, (x.at_), (x.gen), (some ((placeStep { threads := c.threads, slots := c.slots, chunks := c.chunks, words := c.words, gens := c.gens, sparse := c.sparse, tries := c.tries } who p m).snd.1)), (bif (placeStep { threads := c.threads, slots := c.slots, chunks := c.chunks, words := c.words, gens := c.gens, sparse := c.sparse, tries := c.tries } who p m).snd.fst.ok then (placeStep { threads := c.threads, slots := c.slots, chunks := c.chunks, words := c.words, gens := c.gens, sparse := c.sparse, tries := c.tries } who p m).snd.fst.sa else 0), (bif (placeStep { threads := c.threads, slots := c.slots, chunks := c.chunks, words := c.words, gens := c.gens, sparse := c.sparse, tries := c.tries } who p m).snd.fst.ok then (placeStep { threads := c.threads, slots := c.slots, chunks := c.chunks, words := c.words, gens := c.gens, sparse := c.sparse, tries := c.tries } who p m).snd.fst.sc else 0), (some ⟨0, (x.at_), 0⟩), ⟨6, 0, 0, ((placeStep { threads := c.threads, slots := c.slots, chunks := c.chunks, words := c.words, gens := c.gens, sparse := c.sparse, tries := c.tries } who p m).snd.snd.steps)⟩⟩ ((placeStep { threads := c.threads, slots := c.slots, chunks := c.chunks, words := c.words, gens := c.gens, sparse := c.sparse, tries := c.tries } who p m).snd.snd)
      else
       K false ⟨(x.size), (x.own), 3, ⟨(x.take.pc), (x.take.top), (x.take.next), (x.take.slot), (x.take.ok)⟩, (x.at_), (x.gen), (some ((placeStep { threads := c.threads, slots := c.slots, chunks := c.chunks, words := c.words, gens := c.gens, sparse := c.sparse, tries := c.tries } who p m).snd.1)), (bif (placeStep { threads := c.threads, slots := c.slots, chunks := c.chunks, words := c.words, gens := c.gens, sparse := c.sparse, tries := c.tries } who p m).snd.fst.ok then (placeStep { threads := c.threads, slots := c.slots, chunks := c.chunks, words := c.words, gens := c.gens, sparse := c.sparse, tries := c.tries } who p m).snd.fst.sa else 0), (bif (placeStep { threads := c.threads, slots := c.slots, chunks := c.chunks, words := c.words, gens := c.gens, sparse := c.sparse, tries := c.tries } who p m).snd.fst.ok then (placeStep { threads := c.threads, slots := c.slots, chunks := c.chunks, words := c.words, gens := c.gens, sparse := c.sparse, tries := c.tries } who p m).snd.fst.sc else 0), (some (give)), ⟨(x.out.e), (x.out.h), (x.out.v), (x.out.st)⟩⟩ ((placeStep { threads := c.threads, slots := c.slots, chunks := c.chunks, words := c.words, gens := c.gens, sparse := c.sparse, tries := c.tries } who p m).snd.snd)
     else
      K false ⟨(x.size), (x.own), (x.pc), ⟨(x.take.pc), (x.take.top), (x.take.next), (x.take.slot), (x.take.ok)⟩, (x.at_), (x.gen), (some ((placeStep { threads := c.threads, slots := c.slots, chunks := c.chunks, words := c.words, gens := c.gens, sparse := c.sparse, tries := c.tries } who p m).snd.1)), (x.sa), (x.sc), (some (give)), ⟨(x.out.e), (x.out.h), (x.out.v), (x.out.st)⟩⟩ ((placeStep { threads := c.threads, slots := c.slots, chunks := c.chunks, words := c.words, gens := c.gens, sparse := c.sparse, tries := c.tries } who p m).snd.snd)
    else
     bif decide (x.pc = 3) then
      K false ⟨(x.size), (x.own), 4, ⟨(x.take.pc), (x.take.top), (x.take.next), (x.take.slot), (x.take.ok)⟩, (x.at_), (x.gen), (some (p)), (x.sa), (x.sc), (some (give)), ⟨(x.out.e), (x.out.h), (x.out.v), (x.out.st)⟩⟩ (PMem.eAdd m who (wrI (lChunk c.threads c.slots c.chunks c.words c.gens c.sparse c.tries x.sc + 1)) (lRoom (lClass x.size)))
     else
      bif decide (x.pc = 4) then
       K false ⟨(x.size), (x.own), 5, ⟨(x.take.pc), (x.take.top), (x.take.next), (x.take.slot), (x.take.ok)⟩, (x.at_), (x.gen), (some (p)), (x.sa), (x.sc), (some (give)), ⟨(x.out.e), (x.out.h), (x.out.v), (x.out.st)⟩⟩ (PMem.eStore m who x.sa (putHead 1 x.size x.at_ x.gen x.own))
      else
       bif decide (x.pc = 5) then
        K false ⟨(x.size), (x.own), 6, ⟨(x.take.pc), (x.take.top), (x.take.next), (x.take.slot), (x.take.ok)⟩, (x.at_), (x.gen), (some (p)), (x.sa), (x.sc), (some (give)), ⟨0, (putHandle x.at_ x.gen), 0, ((PMem.eStore m who (lSlot c.threads c.slots c.chunks c.words c.gens c.sparse c.tries x.at_) (putSlot 1 x.sa x.gen 0)).steps)⟩⟩ (PMem.eStore m who (lSlot c.threads c.slots c.chunks c.words c.gens c.sparse c.tries x.at_) (putSlot 1 x.sa x.gen 0))
       else
        bif decide (x.pc = 6) then
         K true ⟨(x.size), (x.own), (x.pc), ⟨(x.take.pc), (x.take.top), (x.take.next), (x.take.slot), (x.take.ok)⟩, (x.at_), (x.gen), (some (p)), (x.sa), (x.sc), (some (give)), ⟨(x.out.e), (x.out.h), (x.out.v), (x.out.st)⟩⟩ (PMem.eStore m who x.sa (putHead 2 x.size x.at_ x.gen x.own))
        else
         K ((giveStep { threads := c.threads, slots := c.slots, chunks := c.chunks, words := c.words, gens := c.gens, sparse := c.sparse, tries := c.tries } who give m).fst) ⟨(x.size), (x.own), (x.pc), ⟨(x.take.pc), (x.take.top), (x.take.next), (x.take.slot), (x.take.ok)⟩, (x.at_), (x.gen), (some (p)), (x.sa), (x.sc), (some ((giveStep { threads := c.threads, slots := c.slots, chunks := c.chunks, words := c.words, gens := c.gens, sparse := c.sparse, tries := c.tries } who give m).snd.1)), ⟨(x.out.e), (x.out.h), (x.out.v), (x.out.st)⟩⟩ ((giveStep { threads := c.threads, slots := c.slots, chunks := c.chunks, words := c.words, gens := c.gens, sparse := c.sparse, tries := c.tries } who give m).snd.snd)

def allocStep11 (c : PCfg) (who : Int) (x : PAlloc) (p : PPlace) (give : PGive) (m : PMem) : Bool × PAlloc × PMem := allocStep11K (false, x, m) twV c who x p give m fun r x m => (r, x, m)

theorem allocStep11K_eq (c : PCfg) (who : Int) (x : PAlloc) (p : PPlace) (give : PGive) (m : PMem) (K : Bool → PAlloc → PMem → Prop) : allocStep11K False twP c who x p give m K = K (allocStep11 c who x p give m).1 (allocStep11 c who x p give m).2.1 (allocStep11 c who x p give m).2.2 := by
  show _ = app3 K (allocStep11K (false, x, m) twV c who x p give m fun r x m => (r, x, m))
  unfold allocStep11K
  repeat' first
    | refine cond3 ?_ ?_
    | refine tw3 (fun p => by simp only [and_self]) ?_
    | exact rfl

def allocStep (c : PCfg) (who : Int) (x : PAlloc) (m : PMem) : Bool × PAlloc × PMem := match x.p, x.give with
  | none, none => allocStep00 c who x m
  | some p, none => allocStep10 c who x p m
  | none, some give => allocStep01 c who x give m
  | some p, some give => allocStep11 c who x p give m

def dropStep00K {R : Type} (bot : R) (tw : (Prop → Prop) → R → R) (c : PCfg) (who : Int) (x : PDrop) (m : PMem) (K : Bool → PDrop → PMem → R) : R :=
  bif decide (x.pc = 0) then
   bif !(handle x.n).snd.snd then
    K true ⟨(x.n), (x.own), ((handle x.n).fst), ((handle x.n).snd.fst), (x.pc), (x.w), (x.size), none, none, ⟨3, 0, 0, (m.steps)⟩⟩ (m)
   else
    bif decide (c.slots ≤ (handle x.n).fst) then
     K true ⟨(x.n), (x.own), ((handle x.n).fst), ((handle x.n).snd.fst), (x.pc), (x.w), (x.size), none, none, ⟨3, 0, 0, (m.steps)⟩⟩ (m)
    else
     bif !live (slotOf (PMem.eLoad m who (lSlot c.threads c.slots c.chunks c.words c.gens c.sparse c.tries (handle x.n).fst)).fst).fst (slotOf (PMem.eLoad m who (lSlot c.threads c.slots c.chunks c.words c.gens c.sparse c.tries (handle x.n).fst)).fst).snd.fst (slotOf (PMem.eLoad m who (lSlot c.threads c.slots c.chunks c.words c.gens c.sparse c.tries (handle x.n).fst)).fst).snd.snd.fst (slotOf (PMem.eLoad m who (lSlot c.threads c.slots c.chunks c.words c.gens c.sparse c.tries (handle x.n).fst)).fst).snd.snd.snd (handle x.n).fst (handle x.n).snd.fst then
      K true ⟨(x.n), (x.own), ((handle x.n).fst), ((handle x.n).snd.fst), (x.pc), ((PMem.eLoad m who (lSlot c.threads c.slots c.chunks c.words c.gens c.sparse c.tries (handle x.n).fst)).fst), (x.size), none, none, ⟨3, 0, 0, ((PMem.eLoad m who (lSlot c.threads c.slots c.chunks c.words c.gens c.sparse c.tries (handle x.n).fst)).snd.steps)⟩⟩ ((PMem.eLoad m who (lSlot c.threads c.slots c.chunks c.words c.gens c.sparse c.tries (handle x.n).fst)).snd)
     else
      K false ⟨(x.n), (x.own), ((handle x.n).fst), ((handle x.n).snd.fst), 1, ((PMem.eLoad m who (lSlot c.threads c.slots c.chunks c.words c.gens c.sparse c.tries (handle x.n).fst)).fst), (x.size), none, none, ⟨(x.out.e), (x.out.h), (x.out.v), (x.out.st)⟩⟩ ((PMem.eLoad m who (lSlot c.threads c.slots c.chunks c.words c.gens c.sparse c.tries (handle x.n).fst)).snd)
  else
   bif decide (x.pc = 1) then
    tw (fun p => (((p ∧ p) ∧ p) ∧ p)) (
     bif !(headOf (PMem.eLoad m who (slotOf x.w).snd.fst).fst).snd.snd.snd.snd == x.own then
      K true ⟨(x.n), (x.own), (x.hs), (x.hg), (x.pc), (x.w), (x.size), none, none, ⟨3, 0, 0, ((PMem.eLoad m who (slotOf x.w).snd.fst).snd.steps)⟩⟩ ((PMem.eLoad m who (slotOf x.w).snd.fst).snd)
     else
      bif decide ((slotOf x.w).fst = 4) then
       K false ⟨(x.n), (x.own), (x.hs), (x.hg), 4, (x.w), ((headOf (PMem.eLoad m who (slotOf x.w).snd.fst).fst).snd.fst), (some ⟨(x.hs), (x.w), ((headOf (PMem.eLoad m who (slotOf x.w).snd.fst).fst).snd.fst), 0, 0, false, false⟩), none, ⟨(x.out.e), (x.out.h), (x.out.v), (x.out.st)⟩⟩ ((PMem.eLoad m who (slotOf x.w).snd.fst).snd)
      else
       K false ⟨(x.n), (x.own), (x.hs), (x.hg), 2, (x.w), ((headOf (PMem.eLoad m who (slotOf x.w).snd.fst).fst).snd.fst), none, none, ⟨(x.out.e), (x.out.h), (x.out.v), (x.out.st)⟩⟩ ((PMem.eLoad m who (slotOf x.w).snd.fst).snd))
   else
    bif decide (x.pc = 2) then
     bif (PMem.eCas m who (lSlot c.threads c.slots c.chunks c.words c.gens c.sparse c.tries x.hs) x.w (putSlot 4 (slotOf x.w).snd.fst (slotOf x.w).snd.snd.fst (wrI ((slotOf x.w).snd.snd.snd + 1)))).fst then
      K false ⟨(x.n), (x.own), (x.hs), (x.hg), 3, (x.w), (x.size), (some ⟨(x.hs), (putSlot 4 (slotOf x.w).snd.fst (slotOf x.w).snd.snd.fst (wrI ((slotOf x.w).snd.snd.snd + 1))), (x.size), 0, 0, false, false⟩), none, ⟨(x.out.e), (x.out.h), (x.out.v), (x.out.st)⟩⟩ ((PMem.eCas m who (lSlot c.threads c.slots c.chunks c.words c.gens c.sparse c.tries x.hs) x.w (putSlot 4 (slotOf x.w).snd.fst (slotOf x.w).snd.snd.fst (wrI ((slotOf x.w).snd.snd.snd + 1)))).snd)
     else
      K false ⟨(x.n), (x.own), (x.hs), (x.hg), 0, (x.w), (x.size), none, none, ⟨(x.out.e), (x.out.h), (x.out.v), (x.out.st)⟩⟩ ((PMem.eCas m who (lSlot c.threads c.slots c.chunks c.words c.gens c.sparse c.tries x.hs) x.w (putSlot 4 (slotOf x.w).snd.fst (slotOf x.w).snd.snd.fst (wrI ((slotOf x.w).snd.snd.snd + 1)))).snd)
    else
     bif decide (x.pc = 3) then
      K false ⟨(x.n), (x.own), (x.hs), (x.hg), (x.pc), (x.w), (x.size), none, none, ⟨(x.out.e), (x.out.h), (x.out.v), (x.out.st)⟩⟩ (m)
     else
      bif decide (x.pc = 4) then
       K false ⟨(x.n), (x.own), (x.hs), (x.hg), (x.pc), (x.w), (x.size), none, none, ⟨(x.out.e), (x.out.h), (x.out.v), (x.out.st)⟩⟩ (m)
      else
       bif decide (x.pc = 5) then
        bif decide (c.words = 0) then
         bot
        else
         K (decide (c.gens ≤ x.hg)) ⟨(x.n), (x.own), (x.hs), (x.hg), 6, (x.w), (x.size), none, (some ⟨0, (x.hs), 0⟩), ⟨(x.out.e), (x.out.h), (x.out.v), (x.out.st)⟩⟩ (PMem.eAdd m who (wrI (lChunk c.threads c.slots c.chunks c.words c.gens c.sparse c.tries (lOf c.threads c.slots c.chunks c.words c.gens c.sparse c.tries (slotOf x.w).snd.fst) + 1)) (wrI (0 - lRoom (lClass x.size))))
       else
        K false ⟨(x.n), (x.own), (x.hs), (x.hg), (x.pc), (x.w), (x.size), none, none, ⟨(x.out.e), (x.out.h), (x.out.v), (x.out.st)⟩⟩ (m)

def dropStep00 (c : PCfg) (who : Int) (x : PDrop) (m : PMem) : Bool × PDrop × PMem := dropStep00K (false, x, m) twV c who x m fun r x m => (r, x, m)

theorem dropStep00K_eq (c : PCfg) (who : Int) (x : PDrop) (m : PMem) (hc : c.words ≠ 0) (K : Bool → PDrop → PMem → Prop) : dropStep00K False twP c who x m K = K (dropStep00 c who x m).1 (dropStep00 c who x m).2.1 (dropStep00 c who x m).2.2 := by
  show _ = app3 K (dropStep00K (false, x, m) twV c who x m fun r x m => (r, x, m))
  unfold dropStep00K
  repeat' first
    | refine condH (decide_eq_false hc) ?_
    | refine cond3 ?_ ?_
    | refine tw3 (fun p => by simp only [and_self]) ?_
    | exact rfl

def dropStep10K {R : Type} (bot : R) (tw : (Prop → Prop) → R → R) (c : PCfg) (who : Int) (x : PDrop) (help : PHelp) (m : PMem) (K : Bool → PDrop → PMem → R) : R :=
  bif decide (x.pc = 0) then
   bif !(handle x.n).snd.snd then
    K true ⟨(x.n), (x.own), ((handle x.n).fst), ((handle x.n).snd.fst), (x.pc), (x.w), (x.size), (some (help)), none, ⟨3, 0, 0, (m.steps)⟩⟩ (m)
   else
    bif decide (c.slots ≤ (handle x.n).fst) then
     K true ⟨(x.n), (x.own), ((handle x.n).fst), ((handle x.n).snd.fst), (x.pc), (x.w), (x.size), (some (help)), none, ⟨3, 0, 0, (m.steps)⟩⟩ (m)
    else
     bif !live (slotOf (PMem.eLoad m who (lSlot c.threads c.slots c.chunks c.words c.gens c.sparse c.tries (handle x.n).fst)).fst).fst (slotOf (PMem.eLoad m who (lSlot c.threads c.slots c.chunks c.words c.gens c.sparse c.tries (handle x.n).fst)).fst).snd.fst (slotOf (PMem.eLoad m who (lSlot c.threads c.slots c.chunks c.words c.gens c.sparse c.tries (handle x.n).fst)).fst).snd.snd.fst (slotOf (PMem.eLoad m who (lSlot c.threads c.slots c.chunks c.words c.gens c.sparse c.tries (handle x.n).fst)).fst).snd.snd.snd (handle x.n).fst (handle x.n).snd.fst then
      K true ⟨(x.n), (x.own), ((handle x.n).fst), ((handle x.n).snd.fst), (x.pc), ((PMem.eLoad m who (lSlot c.threads c.slots c.chunks c.words c.gens c.sparse c.tries (handle x.n).fst)).fst), (x.size), (some (help)), none, ⟨3, 0, 0, ((PMem.eLoad m who (lSlot c.threads c.slots c.chunks c.words c.gens c.sparse c.tries (handle x.n).fst)).snd.steps)⟩⟩ ((PMem.eLoad m who (lSlot c.threads c.slots c.chunks c.words c.gens c.sparse c.tries (handle x.n).fst)).snd)
     else
      K false ⟨(x.n), (x.own), ((handle x.n).fst), ((handle x.n).snd.fst), 1, ((PMem.eLoad m who (lSlot c.threads c.slots c.chunks c.words c.gens c.sparse c.tries (handle x.n).fst)).fst), (x.size), (some (help)), none, ⟨(x.out.e), (x.out.h), (x.out.v), (x.out.st)⟩⟩ ((PMem.eLoad m who (lSlot c.threads c.slots c.chunks c.words c.gens c.sparse c.tries (handle x.n).fst)).snd)
  else
   bif decide (x.pc = 1) then
    tw (fun p => (((p ∧ p) ∧ p) ∧ p)) (
     bif !(headOf (PMem.eLoad m who (slotOf x.w).snd.fst).fst).snd.snd.snd.snd == x.own then
      K true ⟨(x.n), (x.own), (x.hs), (x.hg), (x.pc), (x.w), (x.size), (some (help)), none, ⟨3, 0, 0, ((PMem.eLoad m who (slotOf x.w).snd.fst).snd.steps)⟩⟩ ((PMem.eLoad m who (slotOf x.w).snd.fst).snd)
     else
      bif decide ((slotOf x.w).fst = 4) then
       K false ⟨(x.n), (x.own), (x.hs), (x.hg), 4, (x.w), ((headOf (PMem.eLoad m who (slotOf x.w).snd.fst).fst).snd.fst), (some ⟨(x.hs), (x.w), ((headOf (PMem.eLoad m who (slotOf x.w).snd.fst).fst).snd.fst), 0, 0, false, false⟩), none, ⟨(x.out.e), (x.out.h), (x.out.v), (x.out.st)⟩⟩ ((PMem.eLoad m who (slotOf x.w).snd.fst).snd)
      else
       K false ⟨(x.n), (x.own), (x.hs), (x.hg), 2, (x.w), ((headOf (PMem.eLoad m who (slotOf x.w).snd.fst).fst).snd.fst), (some (help)), none, ⟨(x.out.e), (x.out.h), (x.out.v), (x.out.st)⟩⟩ ((PMem.eLoad m who (slotOf x.w).snd.fst).snd))
   else
    bif decide (x.pc = 2) then
     bif (PMem.eCas m who (lSlot c.threads c.slots c.chunks c.words c.gens c.sparse c.tries x.hs) x.w (putSlot 4 (slotOf x.w).snd.fst (slotOf x.w).snd.snd.fst (wrI ((slotOf x.w).snd.snd.snd + 1)))).fst then
      K false ⟨(x.n), (x.own), (x.hs), (x.hg), 3, (x.w), (x.size), (some ⟨(x.hs), (putSlot 4 (slotOf x.w).snd.fst (slotOf x.w).snd.snd.fst (wrI ((slotOf x.w).snd.snd.snd + 1))), (x.size), 0, 0, false, false⟩), none, ⟨(x.out.e), (x.out.h), (x.out.v), (x.out.st)⟩⟩ ((PMem.eCas m who (lSlot c.threads c.slots c.chunks c.words c.gens c.sparse c.tries x.hs) x.w (putSlot 4 (slotOf x.w).snd.fst (slotOf x.w).snd.snd.fst (wrI ((slotOf x.w).snd.snd.snd + 1)))).snd)
     else
      K false ⟨(x.n), (x.own), (x.hs), (x.hg), 0, (x.w), (x.size), (some (help)), none, ⟨(x.out.e), (x.out.h), (x.out.v), (x.out.st)⟩⟩ ((PMem.eCas m who (lSlot c.threads c.slots c.chunks c.words c.gens c.sparse c.tries x.hs) x.w (putSlot 4 (slotOf x.w).snd.fst (slotOf x.w).snd.snd.fst (wrI ((slotOf x.w).snd.snd.snd + 1)))).snd)
    else
     bif decide (x.pc = 3) then
      bif (helpStep { threads := c.threads, slots := c.slots, chunks := c.chunks, words := c.words, gens := c.gens, sparse := c.sparse, tries := c.tries } who help m).fst then
       K false ⟨(x.n), (x.own), (x.hs), (x.hg), 5, (x.w), (x.size), (some ((helpStep { threads := c.threads, slots := c.slots, chunks := c.chunks, words := c.words, gens := c.gens, sparse := c.sparse, tries := c.tries } who help m).snd.1)), none, ⟨0, 0, 0, (PMem.when_ (helpStep { threads := c.threads, slots := c.slots, chunks := c.chunks, words := c.words, gens := c.gens, sparse := c.sparse, tries := c.tries } who help m).snd.snd (lSlot c.threads c.slots c.chunks c.words c.gens c.sparse c.tries x.hs))⟩⟩ ((helpStep { threads := c.threads, slots := c.slots, chunks := c.chunks, words := c.words, gens := c.gens, sparse := c.sparse, tries := c.tries } who help m).snd.snd)
      else
       K false ⟨(x.n), (x.own), (x.hs), (x.hg), (x.pc), (x.w), (x.size), (some ((helpStep { threads := c.threads, slots := c.slots, chunks := c.chunks, words := c.words, gens := c.gens, sparse := c.sparse, tries := c.tries } who help m).snd.1)), none, ⟨(x.out.e), (x.out.h), (x.out.v), (x.out.st)⟩⟩ ((helpStep { threads := c.threads, slots := c.slots, chunks := c.chunks, words := c.words, gens := c.gens, sparse := c.sparse, tries := c.tries } who help m).snd.snd)
     else
      bif decide (x.pc = 4) then
       bif (helpStep { threads := c.threads, slots := c.slots, chunks := c.chunks, words := c.words, gens := c.gens, sparse := c.sparse, tries := c.tries } who help m).fst then
        K false ⟨(x.n), (x.own), (x.hs), (x.hg), 0, (x.w), (x.size), (some ((helpStep { threads := c.threads, slots := c.slots, chunks := c.chunks, words := c.words, gens := c.gens, sparse := c.sparse, tries := c.tries } who help m).snd.1)), none, ⟨(x.out.e), (x.out.h), (x.out.v), (x.out.st)⟩⟩ ((helpStep { threads := c.threads, slots := c.slots, chunks := c.chunks, words := c.words, gens := c.gens, sparse := c.sparse, tries := c.tries } who help m).snd.snd)
       else
        K false ⟨(x.n), (x.own), (x.hs), (x.hg), (x.pc), (x.w), (x.size), (some ((helpStep { threads := c.threads, slots := c.slots, chunks := c.chunks, words := c.words, gens := c.gens, sparse := c.sparse, tries := c.tries } who help m).snd.1)), none, ⟨(x.out.e), (x.out.h), (x.out.v), (x.out.st)⟩⟩ ((helpStep { threads := c.threads, slots := c.slots, chunks := c.chunks, words := c.words, gens := c.gens, sparse := c.sparse, tries := c.tries } who help m).snd.snd)
      else
       bif decide (x.pc = 5) then
        bif decide (c.words = 0) then
         bot
        else
         K (decide (c.gens ≤ x.hg)) ⟨(x.n), (x.own), (x.hs), (x.hg), 6, (x.w), (x.size), (some (help)), (some ⟨0, (x.hs), 0⟩), ⟨(x.out.e), (x.out.h), (x.out.v), (x.out.st)⟩⟩ (PMem.eAdd m who (wrI (lChunk c.threads c.slots c.chunks c.words c.gens c.sparse c.tries (lOf c.threads c.slots c.chunks c.words c.gens c.sparse c.tries (slotOf x.w).snd.fst) + 1)) (wrI (0 - lRoom (lClass x.size))))
       else
        K false ⟨(x.n), (x.own), (x.hs), (x.hg), (x.pc), (x.w), (x.size), (some (help)), none, ⟨(x.out.e), (x.out.h), (x.out.v), (x.out.st)⟩⟩ (m)

def dropStep10 (c : PCfg) (who : Int) (x : PDrop) (help : PHelp) (m : PMem) : Bool × PDrop × PMem := dropStep10K (false, x, m) twV c who x help m fun r x m => (r, x, m)

theorem dropStep10K_eq (c : PCfg) (who : Int) (x : PDrop) (help : PHelp) (m : PMem) (hc : c.words ≠ 0) (K : Bool → PDrop → PMem → Prop) : dropStep10K False twP c who x help m K = K (dropStep10 c who x help m).1 (dropStep10 c who x help m).2.1 (dropStep10 c who x help m).2.2 := by
  show _ = app3 K (dropStep10K (false, x, m) twV c who x help m fun r x m => (r, x, m))
  unfold dropStep10K
  repeat' first
    | refine condH (decide_eq_false hc) ?_
    | refine cond3 ?_ ?_
    | refine tw3 (fun p => by simp only [and_self]) ?_
    | exact rfl

def dropStep01K {R : Type} (bot : R) (tw : (Prop → Prop) → R → R) (c : PCfg) (who : Int) (x : PDrop) (give : PGive) (m : PMem) (K : Bool → PDrop → PMem → R) : R :=
  bif decide (x.pc = 0) then
   bif !(handle x.n).snd.snd then
    K true ⟨(x.n), (x.own), ((handle x.n).fst), ((handle x.n).snd.fst), (x.pc), (x.w), (x.size), none, (some (give)), ⟨3, 0, 0, (m.steps)⟩⟩ (m)
   else
    bif decide (c.slots ≤ (handle x.n).fst) then
     K true ⟨(x.n), (x.own), ((handle x.n).fst), ((handle x.n).snd.fst), (x.pc), (x.w), (x.size), none, (some (give)), ⟨3, 0, 0, (m.steps)⟩⟩ (m)
    else
     bif !live (slotOf (PMem.eLoad m who (lSlot c.threads c.slots c.chunks c.words c.gens c.sparse c.tries (handle x.n).fst)).fst).fst (slotOf (PMem.eLoad m who (lSlot c.threads c.slots c.chunks c.words c.gens c.sparse c.tries (handle x.n).fst)).fst).snd.fst (slotOf (PMem.eLoad m who (lSlot c.threads c.slots c.chunks c.words c.gens c.sparse c.tries (handle x.n).fst)).fst).snd.snd.fst (slotOf (PMem.eLoad m who (lSlot c.threads c.slots c.chunks c.words c.gens c.sparse c.tries (handle x.n).fst)).fst).snd.snd.snd (handle x.n).fst (handle x.n).snd.fst then
      K true ⟨(x.n), (x.own), ((handle x.n).fst), ((handle x.n).snd.fst), (x.pc), ((PMem.eLoad m who (lSlot c.threads c.slots c.chunks c.words c.gens c.sparse c.tries (handle x.n).fst)).fst), (x.size), none, (some (give)), ⟨3, 0, 0, ((PMem.eLoad m who (lSlot c.threads c.slots c.chunks c.words c.gens c.sparse c.tries (handle x.n).fst)).snd.steps)⟩⟩ ((PMem.eLoad m who (lSlot c.threads c.slots c.chunks c.words c.gens c.sparse c.tries (handle x.n).fst)).snd)
     else
      K false ⟨(x.n), (x.own), ((handle x.n).fst), ((handle x.n).snd.fst), 1, ((PMem.eLoad m who (lSlot c.threads c.slots c.chunks c.words c.gens c.sparse c.tries (handle x.n).fst)).fst), (x.size), none, (some (give)), ⟨(x.out.e), (x.out.h), (x.out.v), (x.out.st)⟩⟩ ((PMem.eLoad m who (lSlot c.threads c.slots c.chunks c.words c.gens c.sparse c.tries (handle x.n).fst)).snd)
  else
   bif decide (x.pc = 1) then
    tw (fun p => (((p ∧ p) ∧ p) ∧ p)) (
     bif !(headOf (PMem.eLoad m who (slotOf x.w).snd.fst).fst).snd.snd.snd.snd == x.own then
      K true ⟨(x.n), (x.own), (x.hs), (x.hg), (x.pc), (x.w), (x.size), none, (some (give)), ⟨3, 0, 0, ((PMem.eLoad m who (slotOf x.w).snd.fst).snd.steps)⟩⟩ ((PMem.eLoad m who (slotOf x.w).snd.fst).snd)
     else
      bif decide ((slotOf x.w).fst = 4) then
       K false ⟨(x.n), (x.own), (x.hs), (x.hg), 4, (x.w), ((headOf (PMem.eLoad m who (slotOf x.w).snd.fst).fst).snd.fst), (some ⟨(x.hs), (x.w), ((headOf (PMem.eLoad m who (slotOf x.w).snd.fst).fst).snd.fst), 0, 0, false, false⟩), (some (give)), ⟨(x.out.e), (x.out.h), (x.out.v), (x.out.st)⟩⟩ ((PMem.eLoad m who (slotOf x.w).snd.fst).snd)
      else
       K false ⟨(x.n), (x.own), (x.hs), (x.hg), 2, (x.w), ((headOf (PMem.eLoad m who (slotOf x.w).snd.fst).fst).snd.fst), none, (some (give)), ⟨(x.out.e), (x.out.h), (x.out.v), (x.out.st)⟩⟩ ((PMem.eLoad m who (slotOf x.w).snd.fst).snd))
   else
    bif decide (x.pc = 2) then
     bif (PMem.eCas m who (lSlot c.threads c.slots c.chunks c.words c.gens c.sparse c.tries x.hs) x.w (putSlot 4 (slotOf x.w).snd.fst (slotOf x.w).snd.snd.fst (wrI ((slotOf x.w).snd.snd.snd + 1)))).fst then
      K false ⟨(x.n), (x.own), (x.hs), (x.hg), 3, (x.w), (x.size), (some ⟨(x.hs), (putSlot 4 (slotOf x.w).snd.fst (slotOf x.w).snd.snd.fst (wrI ((slotOf x.w).snd.snd.snd + 1))), (x.size), 0, 0, false, false⟩), (some (give)), ⟨(x.out.e), (x.out.h), (x.out.v), (x.out.st)⟩⟩ ((PMem.eCas m who (lSlot c.threads c.slots c.chunks c.words c.gens c.sparse c.tries x.hs) x.w (putSlot 4 (slotOf x.w).snd.fst (slotOf x.w).snd.snd.fst (wrI ((slotOf x.w).snd.snd.snd + 1)))).snd)
     else
      K false ⟨(x.n), (x.own), (x.hs), (x.hg), 0, (x.w), (x.size), none, (some (give)), ⟨(x.out.e), (x.out.h), (x.out.v), (x.out.st)⟩⟩ ((PMem.eCas m who (lSlot c.threads c.slots c.chunks c.words c.gens c.sparse c.tries x.hs) x.w (putSlot 4 (slotOf x.w).snd.fst (slotOf x.w).snd.snd.fst (wrI ((slotOf x.w).snd.snd.snd + 1)))).snd)
    else
     bif decide (x.pc = 3) then
      K false ⟨(x.n), (x.own), (x.hs), (x.hg), (x.pc), (x.w), (x.size), none, (some (give)), ⟨(x.out.e), (x.out.h), (x.out.v), (x.out.st)⟩⟩ (m)
     else
      bif decide (x.pc = 4) then
       K false ⟨(x.n), (x.own), (x.hs), (x.hg), (x.pc), (x.w), (x.size), none, (some (give)), ⟨(x.out.e), (x.out.h), (x.out.v), (x.out.st)⟩⟩ (m)
      else
       bif decide (x.pc = 5) then
        bif decide (c.words = 0) then
         bot
        else
         K (decide (c.gens ≤ x.hg)) ⟨(x.n), (x.own), (x.hs), (x.hg), 6, (x.w), (x.size), none, (some ⟨0, (x.hs), 0⟩), ⟨(x.out.e), (x.out.h), (x.out.v), (x.out.st)⟩⟩ (PMem.eAdd m who (wrI (lChunk c.threads c.slots c.chunks c.words c.gens c.sparse c.tries (lOf c.threads c.slots c.chunks c.words c.gens c.sparse c.tries (slotOf x.w).snd.fst) + 1)) (wrI (0 - lRoom (lClass x.size))))
       else
        K ((giveStep { threads := c.threads, slots := c.slots, chunks := c.chunks, words := c.words, gens := c.gens, sparse := c.sparse, tries := c.tries } who give m).fst) ⟨(x.n), (x.own), (x.hs), (x.hg), (x.pc), (x.w), (x.size), none, (some ((giveStep { threads := c.threads, slots := c.slots, chunks := c.chunks, words := c.words, gens := c.gens, sparse := c.sparse, tries := c.tries } who give m).snd.1)), ⟨(x.out.e), (x.out.h), (x.out.v), (x.out.st)⟩⟩ ((giveStep { threads := c.threads, slots := c.slots, chunks := c.chunks, words := c.words, gens := c.gens, sparse := c.sparse, tries := c.tries } who give m).snd.snd)

def dropStep01 (c : PCfg) (who : Int) (x : PDrop) (give : PGive) (m : PMem) : Bool × PDrop × PMem := dropStep01K (false, x, m) twV c who x give m fun r x m => (r, x, m)

theorem dropStep01K_eq (c : PCfg) (who : Int) (x : PDrop) (give : PGive) (m : PMem) (hc : c.words ≠ 0) (K : Bool → PDrop → PMem → Prop) : dropStep01K False twP c who x give m K = K (dropStep01 c who x give m).1 (dropStep01 c who x give m).2.1 (dropStep01 c who x give m).2.2 := by
  show _ = app3 K (dropStep01K (false, x, m) twV c who x give m fun r x m => (r, x, m))
  unfold dropStep01K
  repeat' first
    | refine condH (decide_eq_false hc) ?_
    | refine cond3 ?_ ?_
    | refine tw3 (fun p => by simp only [and_self]) ?_
    | exact rfl

def dropStep11K {R : Type} (bot : R) (tw : (Prop → Prop) → R → R) (c : PCfg) (who : Int) (x : PDrop) (help : PHelp) (give : PGive) (m : PMem) (K : Bool → PDrop → PMem → R) : R :=
  bif decide (x.pc = 0) then
   bif !(handle x.n).snd.snd then
    K true ⟨(x.n), (x.own), ((handle x.n).fst), ((handle x.n).snd.fst), (x.pc), (x.w), (x.size), (some (help)), (some (give)), ⟨3, 0, 0, (m.steps)⟩⟩ (m)
   else
    bif decide (c.slots ≤ (handle x.n).fst) then
     K true ⟨(x.n), (x.own), ((handle x.n).fst), ((handle x.n).snd.fst), (x.pc), (x.w), (x.size), (some (help)), (some (give)), ⟨3, 0, 0, (m.steps)⟩⟩ (m)
    else
     bif !live (slotOf (PMem.eLoad m who (lSlot c.threads c.slots c.chunks c.words c.gens c.sparse c.tries (handle x.n).fst)).fst).fst (slotOf (PMem.eLoad m who (lSlot c.threads c.slots c.chunks c.words c.gens c.sparse c.tries (handle x.n).fst)).fst).snd.fst (slotOf (PMem.eLoad m who (lSlot c.threads c.slots c.chunks c.words c.gens c.sparse c.tries (handle x.n).fst)).fst).snd.snd.fst (slotOf (PMem.eLoad m who (lSlot c.threads c.slots c.chunks c.words c.gens c.sparse c.tries (handle x.n).fst)).fst).snd.snd.snd (handle x.n).fst (handle x.n).snd.fst then
      K true ⟨(x.n), (x.own), ((handle x.n).fst), ((handle x.n).snd.fst), (x.pc), ((PMem.eLoad m who (lSlot c.threads c.slots c.chunks c.words c.gens c.sparse c.tries (handle x.n).fst)).fst), (x.size), (some (help)), (some (give)), ⟨3, 0, 0, ((PMem.eLoad m who (lSlot c.threads c.slots c.chunks c.words c.gens c.sparse c.tries (handle x.n).fst)).snd.steps)⟩⟩ ((PMem.eLoad m who (lSlot c.threads c.slots c.chunks c.words c.gens c.sparse c.tries (handle x.n).fst)).snd)
     else
      K false ⟨(x.n), (x.own), ((handle x.n).fst), ((handle x.n).snd.fst), 1, ((PMem.eLoad m who (lSlot c.threads c.slots c.chunks c.words c.gens c.sparse c.tries (handle x.n).fst)).fst), (x.size), (some (help)), (some (give)), ⟨(x.out.e), (x.out.h), (x.out.v), (x.out.st)⟩⟩ ((PMem.eLoad m who (lSlot c.threads c.slots c.chunks c.words c.gens c.sparse c.tries (handle x.n).fst)).snd)
  else
   bif decide (x.pc = 1) then
    tw (fun p => (((p ∧ p) ∧ p) ∧ p)) (
     bif !(headOf (PMem.eLoad m who (slotOf x.w).snd.fst).fst).snd.snd.snd.snd == x.own then
      K true ⟨(x.n), (x.own), (x.hs), (x.hg), (x.pc), (x.w), (x.size), (some (help)), (some (give)), ⟨3, 0, 0, ((PMem.eLoad m who (slotOf x.w).snd.fst).snd.steps)⟩⟩ ((PMem.eLoad m who (slotOf x.w).snd.fst).snd)
     else
      bif decide ((slotOf x.w).fst = 4) then
       K false ⟨(x.n), (x.own), (x.hs), (x.hg), 4, (x.w), ((headOf (PMem.eLoad m who (slotOf x.w).snd.fst).fst).snd.fst), (some ⟨(x.hs), (x.w), ((headOf (PMem.eLoad m who (slotOf x.w).snd.fst).fst).snd.fst), 0, 0, false, false⟩), (some (give)), ⟨(x.out.e), (x.out.h), (x.out.v), (x.out.st)⟩⟩ ((PMem.eLoad m who (slotOf x.w).snd.fst).snd)
      else
       K false ⟨(x.n), (x.own), (x.hs), (x.hg), 2, (x.w), ((headOf (PMem.eLoad m who (slotOf x.w).snd.fst).fst).snd.fst), (some (help)), (some (give)), ⟨(x.out.e), (x.out.h), (x.out.v), (x.out.st)⟩⟩ ((PMem.eLoad m who (slotOf x.w).snd.fst).snd))
   else
    bif decide (x.pc = 2) then
     bif (PMem.eCas m who (lSlot c.threads c.slots c.chunks c.words c.gens c.sparse c.tries x.hs) x.w (putSlot 4 (slotOf x.w).snd.fst (slotOf x.w).snd.snd.fst (wrI ((slotOf x.w).snd.snd.snd + 1)))).fst then
      K false ⟨(x.n), (x.own), (x.hs), (x.hg), 3, (x.w), (x.size), (some ⟨(x.hs), (putSlot 4 (slotOf x.w).snd.fst (slotOf x.w).snd.snd.fst (wrI ((slotOf x.w).snd.snd.snd + 1))), (x.size), 0, 0, false, false⟩), (some (give)), ⟨(x.out.e), (x.out.h), (x.out.v), (x.out.st)⟩⟩ ((PMem.eCas m who (lSlot c.threads c.slots c.chunks c.words c.gens c.sparse c.tries x.hs) x.w (putSlot 4 (slotOf x.w).snd.fst (slotOf x.w).snd.snd.fst (wrI ((slotOf x.w).snd.snd.snd + 1)))).snd)
     else
      K false ⟨(x.n), (x.own), (x.hs), (x.hg), 0, (x.w), (x.size), (some (help)), (some (give)), ⟨(x.out.e), (x.out.h), (x.out.v), (x.out.st)⟩⟩ ((PMem.eCas m who (lSlot c.threads c.slots c.chunks c.words c.gens c.sparse c.tries x.hs) x.w (putSlot 4 (slotOf x.w).snd.fst (slotOf x.w).snd.snd.fst (wrI ((slotOf x.w).snd.snd.snd + 1)))).snd)
    else
     bif decide (x.pc = 3) then
      bif (helpStep { threads := c.threads, slots := c.slots, chunks := c.chunks, words := c.words, gens := c.gens, sparse := c.sparse, tries := c.tries } who help m).fst then
       K false ⟨(x.n), (x.own), (x.hs), (x.hg), 5, (x.w), (x.size), (some ((helpStep { threads := c.threads, slots := c.slots, chunks := c.chunks, words := c.words, gens := c.gens, sparse := c.sparse, tries := c.tries } who help m).snd.1)), (some (give)), ⟨0, 0, 0, (PMem.when_ (helpStep { threads := c.threads, slots := c.slots, chunks := c.chunks, words := c.words, gens := c.gens, sparse := c.sparse, tries := c.tries } who help m).snd.snd (lSlot c.threads c.slots c.chunks c.words c.gens c.sparse c.tries x.hs))⟩⟩ ((helpStep { threads := c.threads, slots := c.slots, chunks := c.chunks, words := c.words, gens := c.gens, sparse := c.sparse, tries := c.tries } who help m).snd.snd)
      else
       K false ⟨(x.n), (x.own), (x.hs), (x.hg), (x.pc), (x.w), (x.size), (some ((helpStep { threads := c.threads, slots := c.slots, chunks := c.chunks, words := c.words, gens := c.gens, sparse := c.sparse, tries := c.tries } who help m).snd.1)), (some (give)), ⟨(x.out.e), (x.out.h), (x.out.v), (x.out.st)⟩⟩ ((helpStep { threads := c.threads, slots := c.slots, chunks := c.chunks, words := c.words, gens := c.gens, sparse := c.sparse, tries := c.tries } who help m).snd.snd)
     else
      bif decide (x.pc = 4) then
       bif (helpStep { threads := c.threads, slots := c.slots, chunks := c.chunks, words := c.words, gens := c.gens, sparse := c.sparse, tries := c.tries } who help m).fst then
        K false ⟨(x.n), (x.own), (x.hs), (x.hg), 0, (x.w), (x.size), (some ((helpStep { threads := c.threads, slots := c.slots, chunks := c.chunks, words := c.words, gens := c.gens, sparse := c.sparse, tries := c.tries } who help m).snd.1)), (some (give)), ⟨(x.out.e), (x.out.h), (x.out.v), (x.out.st)⟩⟩ ((helpStep { threads := c.threads, slots := c.slots, chunks := c.chunks, words := c.words, gens := c.gens, sparse := c.sparse, tries := c.tries } who help m).snd.snd)
       else
        K false ⟨(x.n), (x.own), (x.hs), (x.hg), (x.pc), (x.w), (x.size), (some ((helpStep { threads := c.threads, slots := c.slots, chunks := c.chunks, words := c.words, gens := c.gens, sparse := c.sparse, tries := c.tries } who help m).snd.1)), (some (give)), ⟨(x.out.e), (x.out.h), (x.out.v), (x.out.st)⟩⟩ ((helpStep { threads := c.threads, slots := c.slots, chunks := c.chunks, words := c.words, gens := c.gens, sparse := c.sparse, tries := c.tries } who help m).snd.snd)
      else
       bif decide (x.pc = 5) then
        bif decide (c.words = 0) then
         bot
        else
         K (decide (c.gens ≤ x.hg)) ⟨(x.n), (x.own), (x.hs), (x.hg), 6, (x.w), (x.size), (some (help)), (some ⟨0, (x.hs), 0⟩), ⟨(x.out.e), (x.out.h), (x.out.v), (x.out.st)⟩⟩ (PMem.eAdd m who (wrI (lChunk c.threads c.slots c.chunks c.words c.gens c.sparse c.tries (lOf c.threads c.slots c.chunks c.words c.gens c.sparse c.tries (slotOf x.w).snd.fst) + 1)) (wrI (0 - lRoom (lClass x.size))))
       else
        K ((giveStep { threads := c.threads, slots := c.slots, chunks := c.chunks, words := c.words, gens := c.gens, sparse := c.sparse, tries := c.tries } who give m).fst) ⟨(x.n), (x.own), (x.hs), (x.hg), (x.pc), (x.w), (x.size), (some (help)), (some ((giveStep { threads := c.threads, slots := c.slots, chunks := c.chunks, words := c.words, gens := c.gens, sparse := c.sparse, tries := c.tries } who give m).snd.1)), ⟨(x.out.e), (x.out.h), (x.out.v), (x.out.st)⟩⟩ ((giveStep { threads := c.threads, slots := c.slots, chunks := c.chunks, words := c.words, gens := c.gens, sparse := c.sparse, tries := c.tries } who give m).snd.snd)

def dropStep11 (c : PCfg) (who : Int) (x : PDrop) (help : PHelp) (give : PGive) (m : PMem) : Bool × PDrop × PMem := dropStep11K (false, x, m) twV c who x help give m fun r x m => (r, x, m)

theorem dropStep11K_eq (c : PCfg) (who : Int) (x : PDrop) (help : PHelp) (give : PGive) (m : PMem) (hc : c.words ≠ 0) (K : Bool → PDrop → PMem → Prop) : dropStep11K False twP c who x help give m K = K (dropStep11 c who x help give m).1 (dropStep11 c who x help give m).2.1 (dropStep11 c who x help give m).2.2 := by
  show _ = app3 K (dropStep11K (false, x, m) twV c who x help give m fun r x m => (r, x, m))
  unfold dropStep11K
  repeat' first
    | refine condH (decide_eq_false hc) ?_
    | refine cond3 ?_ ?_
    | refine tw3 (fun p => by simp only [and_self]) ?_
    | exact rfl

def dropStep (c : PCfg) (who : Int) (x : PDrop) (m : PMem) : Bool × PDrop × PMem := match x.help, x.give with
  | none, none => dropStep00 c who x m
  | some help, none => dropStep10 c who x help m
  | none, some give => dropStep01 c who x give m
  | some help, some give => dropStep11 c who x help give m

def accessStep0K {R : Type} (bot : R) (tw : (Prop → Prop) → R → R) (c : PCfg) (who : Int) (x : PAccess) (m : PMem) (K : Bool → PAccess → PMem → R) : R :=
  bif decide (x.pc = 0) then
   bif !(handle x.x.handle).snd.snd then
    K true ⟨⟨(x.x.kind), (x.x.handle), (x.x.index), (x.x.value), (x.x.old)⟩, (x.own), ((handle x.x.handle).fst), ((handle x.x.handle).snd.fst), (x.pc), (x.w), (x.cell), (x.seen), (x.read), (x.size), none, ⟨3, 0, 0, (m.steps)⟩⟩ (m)
   else
    bif decide (c.slots ≤ (handle x.x.handle).fst) then
     K true ⟨⟨(x.x.kind), (x.x.handle), (x.x.index), (x.x.value), (x.x.old)⟩, (x.own), ((handle x.x.handle).fst), ((handle x.x.handle).snd.fst), (x.pc), (x.w), (x.cell), (x.seen), (x.read), (x.size), none, ⟨3, 0, 0, (m.steps)⟩⟩ (m)
    else
     bif !live (slotOf (PMem.eLoad m who (lSlot c.threads c.slots c.chunks c.words c.gens c.sparse c.tries (handle x.x.handle).fst)).fst).fst (slotOf (PMem.eLoad m who (lSlot c.threads c.slots c.chunks c.words c.gens c.sparse c.tries (handle x.x.handle).fst)).fst).snd.fst (slotOf (PMem.eLoad m who (lSlot c.threads c.slots c.chunks c.words c.gens c.sparse c.tries (handle x.x.handle).fst)).fst).snd.snd.fst (slotOf (PMem.eLoad m who (lSlot c.threads c.slots c.chunks c.words c.gens c.sparse c.tries (handle x.x.handle).fst)).fst).snd.snd.snd (handle x.x.handle).fst (handle x.x.handle).snd.fst then
      K true ⟨⟨(x.x.kind), (x.x.handle), (x.x.index), (x.x.value), (x.x.old)⟩, (x.own), ((handle x.x.handle).fst), ((handle x.x.handle).snd.fst), 1, ((PMem.eLoad m who (lSlot c.threads c.slots c.chunks c.words c.gens c.sparse c.tries (handle x.x.handle).fst)).fst), (x.cell), ((PMem.eLoad m who (lSlot c.threads c.slots c.chunks c.words c.gens c.sparse c.tries (handle x.x.handle).fst)).snd.steps), (x.read), (x.size), none, ⟨3, 0, 0, ((PMem.eLoad m who (lSlot c.threads c.slots c.chunks c.words c.gens c.sparse c.tries (handle x.x.handle).fst)).snd.steps)⟩⟩ ((PMem.eLoad m who (lSlot c.threads c.slots c.chunks c.words c.gens c.sparse c.tries (handle x.x.handle).fst)).snd)
     else
      K false ⟨⟨(x.x.kind), (x.x.handle), (x.x.index), (x.x.value), (x.x.old)⟩, (x.own), ((handle x.x.handle).fst), ((handle x.x.handle).snd.fst), 1, ((PMem.eLoad m who (lSlot c.threads c.slots c.chunks c.words c.gens c.sparse c.tries (handle x.x.handle).fst)).fst), (x.cell), ((PMem.eLoad m who (lSlot c.threads c.slots c.chunks c.words c.gens c.sparse c.tries (handle x.x.handle).fst)).snd.steps), (x.read), (x.size), none, ⟨(x.out.e), (x.out.h), (x.out.v), (x.out.st)⟩⟩ ((PMem.eLoad m who (lSlot c.threads c.slots c.chunks c.words c.gens c.sparse c.tries (handle x.x.handle).fst)).snd)
  else
   bif decide (x.pc = 1) then
    tw (fun p => (((p ∧ p) ∧ p) ∧ p)) (
     bif !(headOf (PMem.eLoad m who (slotOf x.w).snd.fst).fst).snd.snd.snd.snd == x.own then
      K true ⟨⟨(x.x.kind), (x.x.handle), (x.x.index), (x.x.value), (x.x.old)⟩, (x.own), (x.hs), (x.hg), 2, (x.w), (x.cell), (x.seen), (x.read), ((headOf (PMem.eLoad m who (slotOf x.w).snd.fst).fst).snd.fst), none, ⟨3, 0, 0, ((PMem.eLoad m who (slotOf x.w).snd.fst).snd.steps)⟩⟩ ((PMem.eLoad m who (slotOf x.w).snd.fst).snd)
     else
      bif decide (x.x.index < 0) then
       K true ⟨⟨(x.x.kind), (x.x.handle), (x.x.index), (x.x.value), (x.x.old)⟩, (x.own), (x.hs), (x.hg), 2, (x.w), (x.cell), (x.seen), (x.read), ((headOf (PMem.eLoad m who (slotOf x.w).snd.fst).fst).snd.fst), none, ⟨4, 0, 0, (x.seen)⟩⟩ ((PMem.eLoad m who (slotOf x.w).snd.fst).snd)
      else
       bif decide ((headOf (PMem.eLoad m who (slotOf x.w).snd.fst).fst).snd.fst ≤ x.x.index) then
        K true ⟨⟨(x.x.kind), (x.x.handle), (x.x.index), (x.x.value), (x.x.old)⟩, (x.own), (x.hs), (x.hg), 2, (x.w), (x.cell), (x.seen), (x.read), ((headOf (PMem.eLoad m who (slotOf x.w).snd.fst).fst).snd.fst), none, ⟨4, 0, 0, (x.seen)⟩⟩ ((PMem.eLoad m who (slotOf x.w).snd.fst).snd)
       else
        K false ⟨⟨(x.x.kind), (x.x.handle), (x.x.index), (x.x.value), (x.x.old)⟩, (x.own), (x.hs), (x.hg), 2, (x.w), (x.cell), (x.seen), (x.read), ((headOf (PMem.eLoad m who (slotOf x.w).snd.fst).fst).snd.fst), none, ⟨(x.out.e), (x.out.h), (x.out.v), (x.out.st)⟩⟩ ((PMem.eLoad m who (slotOf x.w).snd.fst).snd))
   else
    bif decide (x.pc = 2) then
     tw (fun p => (((p ∧ p) ∧ ((p ∧ p) ∧ (p ∧ p))) ∧ (((p ∧ p) ∧ p) ∧ ((p ∧ p) ∧ p)))) (
      bif decide (x.x.kind = 1) then
       bif decide (x.x.kind = 1) then
        K false ⟨⟨(x.x.kind), (x.x.handle), (x.x.index), (x.x.value), (x.x.old)⟩, (x.own), (x.hs), (x.hg), 6, (x.w), ((PMem.eLoad m who (wrI (wrI ((slotOf x.w).snd.fst + 1) + x.x.index))).fst), (x.seen), ((PMem.eLoad m who (wrI (wrI ((slotOf x.w).snd.fst + 1) + x.x.index))).snd.steps), (x.size), none, ⟨(x.out.e), (x.out.h), (x.out.v), (x.out.st)⟩⟩ ((PMem.eLoad m who (wrI (wrI ((slotOf x.w).snd.fst + 1) + x.x.index))).snd)
       else
        bif decide ((slotOf x.w).fst = 4) then
         K false ⟨⟨(x.x.kind), (x.x.handle), (x.x.index), (x.x.value), (x.x.old)⟩, (x.own), (x.hs), (x.hg), 4, (x.w), ((PMem.eLoad m who (wrI (wrI ((slotOf x.w).snd.fst + 1) + x.x.index))).fst), (x.seen), ((PMem.eLoad m who (wrI (wrI ((slotOf x.w).snd.fst + 1) + x.x.index))).snd.steps), (x.size), (some ⟨(x.hs), (x.w), (x.size), 0, 0, false, false⟩), ⟨(x.out.e), (x.out.h), (x.out.v), (x.out.st)⟩⟩ ((PMem.eLoad m who (wrI (wrI ((slotOf x.w).snd.fst + 1) + x.x.index))).snd)
        else
         bif !(cellOf (PMem.eLoad m who (wrI (wrI ((slotOf x.w).snd.fst + 1) + x.x.index))).fst).snd.fst then
          K false ⟨⟨(x.x.kind), (x.x.handle), (x.x.index), (x.x.value), (x.x.old)⟩, (x.own), (x.hs), (x.hg), 5, (x.w), ((PMem.eLoad m who (wrI (wrI ((slotOf x.w).snd.fst + 1) + x.x.index))).fst), (x.seen), ((PMem.eLoad m who (wrI (wrI ((slotOf x.w).snd.fst + 1) + x.x.index))).snd.steps), (x.size), none, ⟨(x.out.e), (x.out.h), (x.out.v), (x.out.st)⟩⟩ ((PMem.eLoad m who (wrI (wrI ((slotOf x.w).snd.fst + 1) + x.x.index))).snd)
         else
          bif decide ((cellOf (PMem.eLoad m who (wrI (wrI ((slotOf x.w).snd.fst + 1) + x.x.index))).fst).snd.snd < (slotOf x.w).snd.snd.snd) then
           K false ⟨⟨(x.x.kind), (x.x.handle), (x.x.index), (x.x.value), (x.x.old)⟩, (x.own), (x.hs), (x.hg), 5, (x.w), ((PMem.eLoad m who (wrI (wrI ((slotOf x.w).snd.fst + 1) + x.x.index))).fst), (x.seen), ((PMem.eLoad m who (wrI (wrI ((slotOf x.w).snd.fst + 1) + x.x.index))).snd.steps), (x.size), none, ⟨(x.out.e), (x.out.h), (x.out.v), (x.out.st)⟩⟩ ((PMem.eLoad m who (wrI (wrI ((slotOf x.w).snd.fst + 1) + x.x.index))).snd)
          else
           bif decide ((cellOf (PMem.eLoad m who (wrI (wrI ((slotOf x.w).snd.fst + 1) + x.x.index))).fst).snd.snd = (slotOf x.w).snd.snd.snd) then
            bif decide ((slotOf x.w).fst = 2) then
             K false ⟨⟨(x.x.kind), (x.x.handle), (x.x.index), (x.x.value), (x.x.old)⟩, (x.own), (x.hs), (x.hg), 3, (x.w), ((PMem.eLoad m who (wrI (wrI ((slotOf x.w).snd.fst + 1) + x.x.index))).fst), (x.seen), ((PMem.eLoad m who (wrI (wrI ((slotOf x.w).snd.fst + 1) + x.x.index))).snd.steps), (x.size), none, ⟨(x.out.e), (x.out.h), (x.out.v), (x.out.st)⟩⟩ ((PMem.eLoad m who (wrI (wrI ((slotOf x.w).snd.fst + 1) + x.x.index))).snd)
            else
             K false ⟨⟨(x.x.kind), (x.x.handle), (x.x.index), (x.x.value), (x.x.old)⟩, (x.own), (x.hs), (x.hg), 0, (x.w), ((PMem.eLoad m who (wrI (wrI ((slotOf x.w).snd.fst + 1) + x.x.index))).fst), (x.seen), ((PMem.eLoad m who (wrI (wrI ((slotOf x.w).snd.fst + 1) + x.x.index))).snd.steps), (x.size), none, ⟨(x.out.e), (x.out.h), (x.out.v), (x.out.st)⟩⟩ ((PMem.eLoad m who (wrI (wrI ((slotOf x.w).snd.fst + 1) + x.x.index))).snd)
           else
            K false ⟨⟨(x.x.kind), (x.x.handle), (x.x.index), (x.x.value), (x.x.old)⟩, (x.own), (x.hs), (x.hg), 0, (x.w), ((PMem.eLoad m who (wrI (wrI ((slotOf x.w).snd.fst + 1) + x.x.index))).fst), (x.seen), ((PMem.eLoad m who (wrI (wrI ((slotOf x.w).snd.fst + 1) + x.x.index))).snd.steps), (x.size), none, ⟨(x.out.e), (x.out.h), (x.out.v), (x.out.st)⟩⟩ ((PMem.eLoad m who (wrI (wrI ((slotOf x.w).snd.fst + 1) + x.x.index))).snd)
      else
       bif decide (x.x.kind = 3) then
        bif !decide ((cellOf (PMem.eLoad m who (wrI (wrI ((slotOf x.w).snd.fst + 1) + x.x.index))).fst).fst = x.x.old) then
         K false ⟨⟨(x.x.kind), (x.x.handle), (x.x.index), (x.x.value), (x.x.old)⟩, (x.own), (x.hs), (x.hg), 6, (x.w), ((PMem.eLoad m who (wrI (wrI ((slotOf x.w).snd.fst + 1) + x.x.index))).fst), (x.seen), ((PMem.eLoad m who (wrI (wrI ((slotOf x.w).snd.fst + 1) + x.x.index))).snd.steps), (x.size), none, ⟨(x.out.e), (x.out.h), (x.out.v), (x.out.st)⟩⟩ ((PMem.eLoad m who (wrI (wrI ((slotOf x.w).snd.fst + 1) + x.x.index))).snd)
        else
         bif decide ((slotOf x.w).fst = 4) then
          K false ⟨⟨(x.x.kind), (x.x.handle), (x.x.index), (x.x.value), (x.x.old)⟩, (x.own), (x.hs), (x.hg), 4, (x.w), ((PMem.eLoad m who (wrI (wrI ((slotOf x.w).snd.fst + 1) + x.x.index))).fst), (x.seen), ((PMem.eLoad m who (wrI (wrI ((slotOf x.w).snd.fst + 1) + x.x.index))).snd.steps), (x.size), (some ⟨(x.hs), (x.w), (x.size), 0, 0, false, false⟩), ⟨(x.out.e), (x.out.h), (x.out.v), (x.out.st)⟩⟩ ((PMem.eLoad m who (wrI (wrI ((slotOf x.w).snd.fst + 1) + x.x.index))).snd)
         else
          bif !(cellOf (PMem.eLoad m who (wrI (wrI ((slotOf x.w).snd.fst + 1) + x.x.index))).fst).snd.fst then
           K false ⟨⟨(x.x.kind), (x.x.handle), (x.x.index), (x.x.value), (x.x.old)⟩, (x.own), (x.hs), (x.hg), 5, (x.w), ((PMem.eLoad m who (wrI (wrI ((slotOf x.w).snd.fst + 1) + x.x.index))).fst), (x.seen), ((PMem.eLoad m who (wrI (wrI ((slotOf x.w).snd.fst + 1) + x.x.index))).snd.steps), (x.size), none, ⟨(x.out.e), (x.out.h), (x.out.v), (x.out.st)⟩⟩ ((PMem.eLoad m who (wrI (wrI ((slotOf x.w).snd.fst + 1) + x.x.index))).snd)
          else
           bif decide ((cellOf (PMem.eLoad m who (wrI (wrI ((slotOf x.w).snd.fst + 1) + x.x.index))).fst).snd.snd < (slotOf x.w).snd.snd.snd) then
            K false ⟨⟨(x.x.kind), (x.x.handle), (x.x.index), (x.x.value), (x.x.old)⟩, (x.own), (x.hs), (x.hg), 5, (x.w), ((PMem.eLoad m who (wrI (wrI ((slotOf x.w).snd.fst + 1) + x.x.index))).fst), (x.seen), ((PMem.eLoad m who (wrI (wrI ((slotOf x.w).snd.fst + 1) + x.x.index))).snd.steps), (x.size), none, ⟨(x.out.e), (x.out.h), (x.out.v), (x.out.st)⟩⟩ ((PMem.eLoad m who (wrI (wrI ((slotOf x.w).snd.fst + 1) + x.x.index))).snd)
           else
            bif decide ((cellOf (PMem.eLoad m who (wrI (wrI ((slotOf x.w).snd.fst + 1) + x.x.index))).fst).snd.snd = (slotOf x.w).snd.snd.snd) then
             bif decide ((slotOf x.w).fst = 2) then
              K false ⟨⟨(x.x.kind), (x.x.handle), (x.x.index), (x.x.value), (x.x.old)⟩, (x.own), (x.hs), (x.hg), 3, (x.w), ((PMem.eLoad m who (wrI (wrI ((slotOf x.w).snd.fst + 1) + x.x.index))).fst), (x.seen), ((PMem.eLoad m who (wrI (wrI ((slotOf x.w).snd.fst + 1) + x.x.index))).snd.steps), (x.size), none, ⟨(x.out.e), (x.out.h), (x.out.v), (x.out.st)⟩⟩ ((PMem.eLoad m who (wrI (wrI ((slotOf x.w).snd.fst + 1) + x.x.index))).snd)
             else
              K false ⟨⟨(x.x.kind), (x.x.handle), (x.x.index), (x.x.value), (x.x.old)⟩, (x.own), (x.hs), (x.hg), 0, (x.w), ((PMem.eLoad m who (wrI (wrI ((slotOf x.w).snd.fst + 1) + x.x.index))).fst), (x.seen), ((PMem.eLoad m who (wrI (wrI ((slotOf x.w).snd.fst + 1) + x.x.index))).snd.steps), (x.size), none, ⟨(x.out.e), (x.out.h), (x.out.v), (x.out.st)⟩⟩ ((PMem.eLoad m who (wrI (wrI ((slotOf x.w).snd.fst + 1) + x.x.index))).snd)
            else
             K false ⟨⟨(x.x.kind), (x.x.handle), (x.x.index), (x.x.value), (x.x.old)⟩, (x.own), (x.hs), (x.hg), 0, (x.w), ((PMem.eLoad m who (wrI (wrI ((slotOf x.w).snd.fst + 1) + x.x.index))).fst), (x.seen), ((PMem.eLoad m who (wrI (wrI ((slotOf x.w).snd.fst + 1) + x.x.index))).snd.steps), (x.size), none, ⟨(x.out.e), (x.out.h), (x.out.v), (x.out.st)⟩⟩ ((PMem.eLoad m who (wrI (wrI ((slotOf x.w).snd.fst + 1) + x.x.index))).snd)
       else
        bif decide ((slotOf x.w).fst = 4) then
         K false ⟨⟨(x.x.kind), (x.x.handle), (x.x.index), (x.x.value), (x.x.old)⟩, (x.own), (x.hs), (x.hg), 4, (x.w), ((PMem.eLoad m who (wrI (wrI ((slotOf x.w).snd.fst + 1) + x.x.index))).fst), (x.seen), ((PMem.eLoad m who (wrI (wrI ((slotOf x.w).snd.fst + 1) + x.x.index))).snd.steps), (x.size), (some ⟨(x.hs), (x.w), (x.size), 0, 0, false, false⟩), ⟨(x.out.e), (x.out.h), (x.out.v), (x.out.st)⟩⟩ ((PMem.eLoad m who (wrI (wrI ((slotOf x.w).snd.fst + 1) + x.x.index))).snd)
        else
         bif !(cellOf (PMem.eLoad m who (wrI (wrI ((slotOf x.w).snd.fst + 1) + x.x.index))).fst).snd.fst then
          K false ⟨⟨(x.x.kind), (x.x.handle), (x.x.index), (x.x.value), (x.x.old)⟩, (x.own), (x.hs), (x.hg), 5, (x.w), ((PMem.eLoad m who (wrI (wrI ((slotOf x.w).snd.fst + 1) + x.x.index))).fst), (x.seen), ((PMem.eLoad m who (wrI (wrI ((slotOf x.w).snd.fst + 1) + x.x.index))).snd.steps), (x.size), none, ⟨(x.out.e), (x.out.h), (x.out.v), (x.out.st)⟩⟩ ((PMem.eLoad m who (wrI (wrI ((slotOf x.w).snd.fst + 1) + x.x.index))).snd)
         else
          bif decide ((cellOf (PMem.eLoad m who (wrI (wrI ((slotOf x.w).snd.fst + 1) + x.x.index))).fst).snd.snd < (slotOf x.w).snd.snd.snd) then
           K false ⟨⟨(x.x.kind), (x.x.handle), (x.x.index), (x.x.value), (x.x.old)⟩, (x.own), (x.hs), (x.hg), 5, (x.w), ((PMem.eLoad m who (wrI (wrI ((slotOf x.w).snd.fst + 1) + x.x.index))).fst), (x.seen), ((PMem.eLoad m who (wrI (wrI ((slotOf x.w).snd.fst + 1) + x.x.index))).snd.steps), (x.size), none, ⟨(x.out.e), (x.out.h), (x.out.v), (x.out.st)⟩⟩ ((PMem.eLoad m who (wrI (wrI ((slotOf x.w).snd.fst + 1) + x.x.index))).snd)
          else
           bif decide ((cellOf (PMem.eLoad m who (wrI (wrI ((slotOf x.w).snd.fst + 1) + x.x.index))).fst).snd.snd = (slotOf x.w).snd.snd.snd) then
            bif decide ((slotOf x.w).fst = 2) then
             K false ⟨⟨(x.x.kind), (x.x.handle), (x.x.index), (x.x.value), (x.x.old)⟩, (x.own), (x.hs), (x.hg), 3, (x.w), ((PMem.eLoad m who (wrI (wrI ((slotOf x.w).snd.fst + 1) + x.x.index))).fst), (x.seen), ((PMem.eLoad m who (wrI (wrI ((slotOf x.w).snd.fst + 1) + x.x.index))).snd.steps), (x.size), none, ⟨(x.out.e), (x.out.h), (x.out.v), (x.out.st)⟩⟩ ((PMem.eLoad m who (wrI (wrI ((slotOf x.w).snd.fst + 1) + x.x.index))).snd)
            else
             K false ⟨⟨(x.x.kind), (x.x.handle), (x.x.index), (x.x.value), (x.x.old)⟩, (x.own), (x.hs), (x.hg), 0, (x.w), ((PMem.eLoad m who (wrI (wrI ((slotOf x.w).snd.fst + 1) + x.x.index))).fst), (x.seen), ((PMem.eLoad m who (wrI (wrI ((slotOf x.w).snd.fst + 1) + x.x.index))).snd.steps), (x.size), none, ⟨(x.out.e), (x.out.h), (x.out.v), (x.out.st)⟩⟩ ((PMem.eLoad m who (wrI (wrI ((slotOf x.w).snd.fst + 1) + x.x.index))).snd)
           else
            K false ⟨⟨(x.x.kind), (x.x.handle), (x.x.index), (x.x.value), (x.x.old)⟩, (x.own), (x.hs), (x.hg), 0, (x.w), ((PMem.eLoad m who (wrI (wrI ((slotOf x.w).snd.fst + 1) + x.x.index))).fst), (x.seen), ((PMem.eLoad m who (wrI (wrI ((slotOf x.w).snd.fst + 1) + x.x.index))).snd.steps), (x.size), none, ⟨(x.out.e), (x.out.h), (x.out.v), (x.out.st)⟩⟩ ((PMem.eLoad m who (wrI (wrI ((slotOf x.w).snd.fst + 1) + x.x.index))).snd))
    else
     bif decide (x.pc = 3) then
      K false ⟨⟨(x.x.kind), (x.x.handle), (x.x.index), (x.x.value), (x.x.old)⟩, (x.own), (x.hs), (x.hg), 0, (x.w), (x.cell), (x.seen), (x.read), (x.size), none, ⟨(x.out.e), (x.out.h), (x.out.v), (x.out.st)⟩⟩ ((PMem.eCas m who (lSlot c.threads c.slots c.chunks c.words c.gens c.sparse c.tries x.hs) x.w (putSlot 1 (slotOf x.w).snd.fst (slotOf x.w).snd.snd.fst (wrI ((slotOf x.w).snd.snd.snd + 1)))).snd)
     else
      bif decide (x.pc = 4) then
       K false ⟨⟨(x.x.kind), (x.x.handle), (x.x.index), (x.x.value), (x.x.old)⟩, (x.own), (x.hs), (x.hg), (x.pc), (x.w), (x.cell), (x.seen), (x.read), (x.size), none, ⟨(x.out.e), (x.out.h), (x.out.v), (x.out.st)⟩⟩ (m)
      else
       bif decide (x.pc = 5) then
        bif (PMem.eCas m who (wrI (wrI ((slotOf x.w).snd.fst + 1) + x.x.index)) x.cell (putCell x.x.value false 0)).fst then
         K true ⟨⟨(x.x.kind), (x.x.handle), (x.x.index), (x.x.value), (x.x.old)⟩, (x.own), (x.hs), (x.hg), 0, (x.w), (x.cell), (x.seen), (x.read), (x.size), none, ⟨0, 0, ((cellOf x.cell).fst), ((PMem.eCas m who (wrI (wrI ((slotOf x.w).snd.fst + 1) + x.x.index)) x.cell (putCell x.x.value false 0)).snd.steps)⟩⟩ ((PMem.eCas m who (wrI (wrI ((slotOf x.w).snd.fst + 1) + x.x.index)) x.cell (putCell x.x.value false 0)).snd)
        else
         K false ⟨⟨(x.x.kind), (x.x.handle), (x.x.index), (x.x.value), (x.x.old)⟩, (x.own), (x.hs), (x.hg), 0, (x.w), (x.cell), (x.seen), (x.read), (x.size), none, ⟨(x.out.e), (x.out.h), (x.out.v), (x.out.st)⟩⟩ ((PMem.eCas m who (wrI (wrI ((slotOf x.w).snd.fst + 1) + x.x.index)) x.cell (putCell x.x.value false 0)).snd)
       else
        tw (fun p => (((p ∧ p) ∧ p) ∧ p)) (
         bif !live (slotOf (PMem.eLoad m who (lSlot c.threads c.slots c.chunks c.words c.gens c.sparse c.tries x.hs)).fst).fst (slotOf (PMem.eLoad m who (lSlot c.threads c.slots c.chunks c.words c.gens c.sparse c.tries x.hs)).fst).snd.fst (slotOf (PMem.eLoad m who (lSlot c.threads c.slots c.chunks c.words c.gens c.sparse c.tries x.hs)).fst).snd.snd.fst (slotOf (PMem.eLoad m who (lSlot c.threads c.slots c.chunks c.words c.gens c.sparse c.tries x.hs)).fst).snd.snd.snd x.hs x.hg then
          K true ⟨⟨(x.x.kind), (x.x.handle), (x.x.index), (x.x.value), (x.x.old)⟩, (x.own), (x.hs), (x.hg), (x.pc), (x.w), (x.cell), (x.seen), (x.read), (x.size), none, ⟨3, 0, 0, ((PMem.eLoad m who (lSlot c.threads c.slots c.chunks c.words c.gens c.sparse c.tries x.hs)).snd.steps)⟩⟩ ((PMem.eLoad m who (lSlot c.threads c.slots c.chunks c.words c.gens c.sparse c.tries x.hs)).snd)
         else
          bif !decide ((slotOf (PMem.eLoad m who (lSlot c.threads c.slots c.chunks c.words c.gens c.sparse c.tries x.hs)).fst).snd.fst = (slotOf x.w).snd.fst) then
           K false ⟨⟨(x.x.kind), (x.x.handle), (x.x.index), (x.x.value), (x.x.old)⟩, (x.own), (x.hs), (x.hg), 0, (x.w), (x.cell), (x.seen), (x.read), (x.size), none, ⟨(x.out.e), (x.out.h), (x.out.v), (x.out.st)⟩⟩ ((PMem.eLoad m who (lSlot c.threads c.slots c.chunks c.words c.gens c.sparse c.tries x.hs)).snd)
          else
           bif decide (x.x.kind = 3) then
            K true ⟨⟨(x.x.kind), (x.x.handle), (x.x.index), (x.x.value), (x.x.old)⟩, (x.own), (x.hs), (x.hg), (x.pc), (x.w), (x.cell), (x.seen), (x.read), (x.size), none, ⟨8, 0, ((cellOf x.cell).fst), (x.read)⟩⟩ ((PMem.eLoad m who (lSlot c.threads c.slots c.chunks c.words c.gens c.sparse c.tries x.hs)).snd)
           else
            K true ⟨⟨(x.x.kind), (x.x.handle), (x.x.index), (x.x.value), (x.x.old)⟩, (x.own), (x.hs), (x.hg), (x.pc), (x.w), (x.cell), (x.seen), (x.read), (x.size), none, ⟨0, 0, ((cellOf x.cell).fst), (x.read)⟩⟩ ((PMem.eLoad m who (lSlot c.threads c.slots c.chunks c.words c.gens c.sparse c.tries x.hs)).snd))

def accessStep0 (c : PCfg) (who : Int) (x : PAccess) (m : PMem) : Bool × PAccess × PMem := accessStep0K (false, x, m) twV c who x m fun r x m => (r, x, m)

theorem accessStep0K_eq (c : PCfg) (who : Int) (x : PAccess) (m : PMem) (K : Bool → PAccess → PMem → Prop) : accessStep0K False twP c who x m K = K (accessStep0 c who x m).1 (accessStep0 c who x m).2.1 (accessStep0 c who x m).2.2 := by
  show _ = app3 K (accessStep0K (false, x, m) twV c who x m fun r x m => (r, x, m))
  unfold accessStep0K
  repeat' first
    | refine cond3 ?_ ?_
    | refine tw3 (fun p => by simp only [and_self]) ?_
    | exact rfl

def accessStep1K {R : Type} (bot : R) (tw : (Prop → Prop) → R → R) (c : PCfg) (who : Int) (x : PAccess) (help : PHelp) (m : PMem) (K : Bool → PAccess → PMem → R) : R :=
  bif decide (x.pc = 0) then
   bif !(handle x.x.handle).snd.snd then
    K true ⟨⟨(x.x.kind), (x.x.handle), (x.x.index), (x.x.value), (x.x.old)⟩, (x.own), ((handle x.x.handle).fst), ((handle x.x.handle).snd.fst), (x.pc), (x.w), (x.cell), (x.seen), (x.read), (x.size), (some (help)), ⟨3, 0, 0, (m.steps)⟩⟩ (m)
   else
    bif decide (c.slots ≤ (handle x.x.handle).fst) then
     K true ⟨⟨(x.x.kind), (x.x.handle), (x.x.index), (x.x.value), (x.x.old)⟩, (x.own), ((handle x.x.handle).fst), ((handle x.x.handle).snd.fst), (x.pc), (x.w), (x.cell), (x.seen), (x.read), (x.size), (some (help)), ⟨3, 0, 0, (m.steps)⟩⟩ (m)
    else
     bif !live (slotOf (PMem.eLoad m who (lSlot c.threads c.slots c.chunks c.words c.gens c.sparse c.tries (handle x.x.handle).fst)).fst).fst (slotOf (PMem.eLoad m who (lSlot c.threads c.slots c.chunks c.words c.gens c.sparse c.tries (handle x.x.handle).fst)).fst).snd.fst (slotOf (PMem.eLoad m who (lSlot c.threads c.slots c.chunks c.words c.gens c.sparse c.tries (handle x.x.handle).fst)).fst).snd.snd.fst (slotOf (PMem.eLoad m who (lSlot c.threads c.slots c.chunks c.words c.gens c.sparse c.tries (handle x.x.handle).fst)).fst).snd.snd.snd (handle x.x.handle).fst (handle x.x.handle).snd.fst then
      K true ⟨⟨(x.x.kind), (x.x.handle), (x.x.index), (x.x.value), (x.x.old)⟩, (x.own), ((handle x.x.handle).fst), ((handle x.x.handle).snd.fst), 1, ((PMem.eLoad m who (lSlot c.threads c.slots c.chunks c.words c.gens c.sparse c.tries (handle x.x.handle).fst)).fst), (x.cell), ((PMem.eLoad m who (lSlot c.threads c.slots c.chunks c.words c.gens c.sparse c.tries (handle x.x.handle).fst)).snd.steps), (x.read), (x.size), (some (help)), ⟨3, 0, 0, ((PMem.eLoad m who (lSlot c.threads c.slots c.chunks c.words c.gens c.sparse c.tries (handle x.x.handle).fst)).snd.steps)⟩⟩ ((PMem.eLoad m who (lSlot c.threads c.slots c.chunks c.words c.gens c.sparse c.tries (handle x.x.handle).fst)).snd)
     else
      K false ⟨⟨(x.x.kind), (x.x.handle), (x.x.index), (x.x.value), (x.x.old)⟩, (x.own), ((handle x.x.handle).fst), ((handle x.x.handle).snd.fst), 1, ((PMem.eLoad m who (lSlot c.threads c.slots c.chunks c.words c.gens c.sparse c.tries (handle x.x.handle).fst)).fst), (x.cell), ((PMem.eLoad m who (lSlot c.threads c.slots c.chunks c.words c.gens c.sparse c.tries (handle x.x.handle).fst)).snd.steps), (x.read), (x.size), (some (help)), ⟨(x.out.e), (x.out.h), (x.out.v), (x.out.st)⟩⟩ ((PMem.eLoad m who (lSlot c.threads c.slots c.chunks c.words c.gens c.sparse c.tries (handle x.x.handle).fst)).snd)
  else
   bif decide (x.pc = 1) then
    tw (fun p => (((p ∧ p) ∧ p) ∧ p)) (
     bif !(headOf (PMem.eLoad m who (slotOf x.w).snd.fst).fst).snd.snd.snd.snd == x.own then
      K true ⟨⟨(x.x.kind), (x.x.handle), (x.x.index), (x.x.value), (x.x.old)⟩, (x.own), (x.hs), (x.hg), 2, (x.w), (x.cell), (x.seen), (x.read), ((headOf (PMem.eLoad m who (slotOf x.w).snd.fst).fst).snd.fst), (some (help)), ⟨3, 0, 0, ((PMem.eLoad m who (slotOf x.w).snd.fst).snd.steps)⟩⟩ ((PMem.eLoad m who (slotOf x.w).snd.fst).snd)
     else
      bif decide (x.x.index < 0) then
       K true ⟨⟨(x.x.kind), (x.x.handle), (x.x.index), (x.x.value), (x.x.old)⟩, (x.own), (x.hs), (x.hg), 2, (x.w), (x.cell), (x.seen), (x.read), ((headOf (PMem.eLoad m who (slotOf x.w).snd.fst).fst).snd.fst), (some (help)), ⟨4, 0, 0, (x.seen)⟩⟩ ((PMem.eLoad m who (slotOf x.w).snd.fst).snd)
      else
       bif decide ((headOf (PMem.eLoad m who (slotOf x.w).snd.fst).fst).snd.fst ≤ x.x.index) then
        K true ⟨⟨(x.x.kind), (x.x.handle), (x.x.index), (x.x.value), (x.x.old)⟩, (x.own), (x.hs), (x.hg), 2, (x.w), (x.cell), (x.seen), (x.read), ((headOf (PMem.eLoad m who (slotOf x.w).snd.fst).fst).snd.fst), (some (help)), ⟨4, 0, 0, (x.seen)⟩⟩ ((PMem.eLoad m who (slotOf x.w).snd.fst).snd)
       else
        K false ⟨⟨(x.x.kind), (x.x.handle), (x.x.index), (x.x.value), (x.x.old)⟩, (x.own), (x.hs), (x.hg), 2, (x.w), (x.cell), (x.seen), (x.read), ((headOf (PMem.eLoad m who (slotOf x.w).snd.fst).fst).snd.fst), (some (help)), ⟨(x.out.e), (x.out.h), (x.out.v), (x.out.st)⟩⟩ ((PMem.eLoad m who (slotOf x.w).snd.fst).snd))
   else
    bif decide (x.pc = 2) then
     tw (fun p => (((p ∧ p) ∧ ((p ∧ p) ∧ (p ∧ p))) ∧ (((p ∧ p) ∧ p) ∧ ((p ∧ p) ∧ p)))) (
      bif decide (x.x.kind = 1) then
       bif decide (x.x.kind = 1) then
        K false ⟨⟨(x.x.kind), (x.x.handle), (x.x.index), (x.x.value), (x.x.old)⟩, (x.own), (x.hs), (x.hg), 6, (x.w), ((PMem.eLoad m who (wrI (wrI ((slotOf x.w).snd.fst + 1) + x.x.index))).fst), (x.seen), ((PMem.eLoad m who (wrI (wrI ((slotOf x.w).snd.fst + 1) + x.x.index))).snd.steps), (x.size), (some (help)), ⟨(x.out.e), (x.out.h), (x.out.v), (x.out.st)⟩⟩ ((PMem.eLoad m who (wrI (wrI ((slotOf x.w).snd.fst + 1) + x.x.index))).snd)
       else
        bif decide ((slotOf x.w).fst = 4) then
         K false ⟨⟨(x.x.kind), (x.x.handle), (x.x.index), (x.x.value), (x.x.old)⟩, (x.own), (x.hs), (x.hg), 4, (x.w), ((PMem.eLoad m who (wrI (wrI ((slotOf x.w).snd.fst + 1) + x.x.index))).fst), (x.seen), ((PMem.eLoad m who (wrI (wrI ((slotOf x.w).snd.fst + 1) + x.x.index))).snd.steps), (x.size), (some ⟨(x.hs), (x.w), (x.size), 0, 0, false, false⟩), ⟨(x.out.e), (x.out.h), (x.out.v), (x.out.st)⟩⟩ ((PMem.eLoad m who (wrI (wrI ((slotOf x.w).snd.fst + 1) + x.x.index))).snd)
        else
         bif !(cellOf (PMem.eLoad m who (wrI (wrI ((slotOf x.w).snd.fst + 1) + x.x.index))).fst).snd.fst then
          K false ⟨⟨(x.x.kind), (x.x.handle), (x.x.index), (x.x.value), (x.x.old)⟩, (x.own), (x.hs), (x.hg), 5, (x.w), ((PMem.eLoad m who (wrI (wrI ((slotOf x.w).snd.fst + 1) + x.x.index))).fst), (x.seen), ((PMem.eLoad m who (wrI (wrI ((slotOf x.w).snd.fst + 1) + x.x.index))).snd.steps), (x.size), (some (help)), ⟨(x.out.e), (x.out.h), (x.out.v), (x.out.st)⟩⟩ ((PMem.eLoad m who (wrI (wrI ((slotOf x.w).snd.fst + 1) + x.x.index))).snd)
         else
          bif decide ((cellOf (PMem.eLoad m who (wrI (wrI ((slotOf x.w).snd.fst + 1) + x.x.index))).fst).snd.snd < (slotOf x.w).snd.snd.snd) then
           K false ⟨⟨(x.x.kind), (x.x.handle), (x.x.index), (x.x.value), (x.x.old)⟩, (x.own), (x.hs), (x.hg), 5, (x.w), ((PMem.eLoad m who (wrI (wrI ((slotOf x.w).snd.fst + 1) + x.x.index))).fst), (x.seen), ((PMem.eLoad m who (wrI (wrI ((slotOf x.w).snd.fst + 1) + x.x.index))).snd.steps), (x.size), (some (help)), ⟨(x.out.e), (x.out.h), (x.out.v), (x.out.st)⟩⟩ ((PMem.eLoad m who (wrI (wrI ((slotOf x.w).snd.fst + 1) + x.x.index))).snd)
          else
           bif decide ((cellOf (PMem.eLoad m who (wrI (wrI ((slotOf x.w).snd.fst + 1) + x.x.index))).fst).snd.snd = (slotOf x.w).snd.snd.snd) then
            bif decide ((slotOf x.w).fst = 2) then
             K false ⟨⟨(x.x.kind), (x.x.handle), (x.x.index), (x.x.value), (x.x.old)⟩, (x.own), (x.hs), (x.hg), 3, (x.w), ((PMem.eLoad m who (wrI (wrI ((slotOf x.w).snd.fst + 1) + x.x.index))).fst), (x.seen), ((PMem.eLoad m who (wrI (wrI ((slotOf x.w).snd.fst + 1) + x.x.index))).snd.steps), (x.size), (some (help)), ⟨(x.out.e), (x.out.h), (x.out.v), (x.out.st)⟩⟩ ((PMem.eLoad m who (wrI (wrI ((slotOf x.w).snd.fst + 1) + x.x.index))).snd)
            else
             K false ⟨⟨(x.x.kind), (x.x.handle), (x.x.index), (x.x.value), (x.x.old)⟩, (x.own), (x.hs), (x.hg), 0, (x.w), ((PMem.eLoad m who (wrI (wrI ((slotOf x.w).snd.fst + 1) + x.x.index))).fst), (x.seen), ((PMem.eLoad m who (wrI (wrI ((slotOf x.w).snd.fst + 1) + x.x.index))).snd.steps), (x.size), (some (help)), ⟨(x.out.e), (x.out.h), (x.out.v), (x.out.st)⟩⟩ ((PMem.eLoad m who (wrI (wrI ((slotOf x.w).snd.fst + 1) + x.x.index))).snd)
           else
            K false ⟨⟨(x.x.kind), (x.x.handle), (x.x.index), (x.x.value), (x.x.old)⟩, (x.own), (x.hs), (x.hg), 0, (x.w), ((PMem.eLoad m who (wrI (wrI ((slotOf x.w).snd.fst + 1) + x.x.index))).fst), (x.seen), ((PMem.eLoad m who (wrI (wrI ((slotOf x.w).snd.fst + 1) + x.x.index))).snd.steps), (x.size), (some (help)), ⟨(x.out.e), (x.out.h), (x.out.v), (x.out.st)⟩⟩ ((PMem.eLoad m who (wrI (wrI ((slotOf x.w).snd.fst + 1) + x.x.index))).snd)
      else
       bif decide (x.x.kind = 3) then
        bif !decide ((cellOf (PMem.eLoad m who (wrI (wrI ((slotOf x.w).snd.fst + 1) + x.x.index))).fst).fst = x.x.old) then
         K false ⟨⟨(x.x.kind), (x.x.handle), (x.x.index), (x.x.value), (x.x.old)⟩, (x.own), (x.hs), (x.hg), 6, (x.w), ((PMem.eLoad m who (wrI (wrI ((slotOf x.w).snd.fst + 1) + x.x.index))).fst), (x.seen), ((PMem.eLoad m who (wrI (wrI ((slotOf x.w).snd.fst + 1) + x.x.index))).snd.steps), (x.size), (some (help)), ⟨(x.out.e), (x.out.h), (x.out.v), (x.out.st)⟩⟩ ((PMem.eLoad m who (wrI (wrI ((slotOf x.w).snd.fst + 1) + x.x.index))).snd)
        else
         bif decide ((slotOf x.w).fst = 4) then
          K false ⟨⟨(x.x.kind), (x.x.handle), (x.x.index), (x.x.value), (x.x.old)⟩, (x.own), (x.hs), (x.hg), 4, (x.w), ((PMem.eLoad m who (wrI (wrI ((slotOf x.w).snd.fst + 1) + x.x.index))).fst), (x.seen), ((PMem.eLoad m who (wrI (wrI ((slotOf x.w).snd.fst + 1) + x.x.index))).snd.steps), (x.size), (some ⟨(x.hs), (x.w), (x.size), 0, 0, false, false⟩), ⟨(x.out.e), (x.out.h), (x.out.v), (x.out.st)⟩⟩ ((PMem.eLoad m who (wrI (wrI ((slotOf x.w).snd.fst + 1) + x.x.index))).snd)
         else
          bif !(cellOf (PMem.eLoad m who (wrI (wrI ((slotOf x.w).snd.fst + 1) + x.x.index))).fst).snd.fst then
           K false ⟨⟨(x.x.kind), (x.x.handle), (x.x.index), (x.x.value), (x.x.old)⟩, (x.own), (x.hs), (x.hg), 5, (x.w), ((PMem.eLoad m who (wrI (wrI ((slotOf x.w).snd.fst + 1) + x.x.index))).fst), (x.seen), ((PMem.eLoad m who (wrI (wrI ((slotOf x.w).snd.fst + 1) + x.x.index))).snd.steps), (x.size), (some (help)), ⟨(x.out.e), (x.out.h), (x.out.v), (x.out.st)⟩⟩ ((PMem.eLoad m who (wrI (wrI ((slotOf x.w).snd.fst + 1) + x.x.index))).snd)
          else
           bif decide ((cellOf (PMem.eLoad m who (wrI (wrI ((slotOf x.w).snd.fst + 1) + x.x.index))).fst).snd.snd < (slotOf x.w).snd.snd.snd) then
            K false ⟨⟨(x.x.kind), (x.x.handle), (x.x.index), (x.x.value), (x.x.old)⟩, (x.own), (x.hs), (x.hg), 5, (x.w), ((PMem.eLoad m who (wrI (wrI ((slotOf x.w).snd.fst + 1) + x.x.index))).fst), (x.seen), ((PMem.eLoad m who (wrI (wrI ((slotOf x.w).snd.fst + 1) + x.x.index))).snd.steps), (x.size), (some (help)), ⟨(x.out.e), (x.out.h), (x.out.v), (x.out.st)⟩⟩ ((PMem.eLoad m who (wrI (wrI ((slotOf x.w).snd.fst + 1) + x.x.index))).snd)
           else
            bif decide ((cellOf (PMem.eLoad m who (wrI (wrI ((slotOf x.w).snd.fst + 1) + x.x.index))).fst).snd.snd = (slotOf x.w).snd.snd.snd) then
             bif decide ((slotOf x.w).fst = 2) then
              K false ⟨⟨(x.x.kind), (x.x.handle), (x.x.index), (x.x.value), (x.x.old)⟩, (x.own), (x.hs), (x.hg), 3, (x.w), ((PMem.eLoad m who (wrI (wrI ((slotOf x.w).snd.fst + 1) + x.x.index))).fst), (x.seen), ((PMem.eLoad m who (wrI (wrI ((slotOf x.w).snd.fst + 1) + x.x.index))).snd.steps), (x.size), (some (help)), ⟨(x.out.e), (x.out.h), (x.out.v), (x.out.st)⟩⟩ ((PMem.eLoad m who (wrI (wrI ((slotOf x.w).snd.fst + 1) + x.x.index))).snd)
             else
              K false ⟨⟨(x.x.kind), (x.x.handle), (x.x.index), (x.x.value), (x.x.old)⟩, (x.own), (x.hs), (x.hg), 0, (x.w), ((PMem.eLoad m who (wrI (wrI ((slotOf x.w).snd.fst + 1) + x.x.index))).fst), (x.seen), ((PMem.eLoad m who (wrI (wrI ((slotOf x.w).snd.fst + 1) + x.x.index))).snd.steps), (x.size), (some (help)), ⟨(x.out.e), (x.out.h), (x.out.v), (x.out.st)⟩⟩ ((PMem.eLoad m who (wrI (wrI ((slotOf x.w).snd.fst + 1) + x.x.index))).snd)
            else
             K false ⟨⟨(x.x.kind), (x.x.handle), (x.x.index), (x.x.value), (x.x.old)⟩, (x.own), (x.hs), (x.hg), 0, (x.w), ((PMem.eLoad m who (wrI (wrI ((slotOf x.w).snd.fst + 1) + x.x.index))).fst), (x.seen), ((PMem.eLoad m who (wrI (wrI ((slotOf x.w).snd.fst + 1) + x.x.index))).snd.steps), (x.size), (some (help)), ⟨(x.out.e), (x.out.h), (x.out.v), (x.out.st)⟩⟩ ((PMem.eLoad m who (wrI (wrI ((slotOf x.w).snd.fst + 1) + x.x.index))).snd)
       else
        bif decide ((slotOf x.w).fst = 4) then
         K false ⟨⟨(x.x.kind), (x.x.handle), (x.x.index), (x.x.value), (x.x.old)⟩, (x.own), (x.hs), (x.hg), 4, (x.w), ((PMem.eLoad m who (wrI (wrI ((slotOf x.w).snd.fst + 1) + x.x.index))).fst), (x.seen), ((PMem.eLoad m who (wrI (wrI ((slotOf x.w).snd.fst + 1) + x.x.index))).snd.steps), (x.size), (some ⟨(x.hs), (x.w), (x.size), 0, 0, false, false⟩), ⟨(x.out.e), (x.out.h), (x.out.v), (x.out.st)⟩⟩ ((PMem.eLoad m who (wrI (wrI ((slotOf x.w).snd.fst + 1) + x.x.index))).snd)
        else
         bif !(cellOf (PMem.eLoad m who (wrI (wrI ((slotOf x.w).snd.fst + 1) + x.x.index))).fst).snd.fst then
          K false ⟨⟨(x.x.kind), (x.x.handle), (x.x.index), (x.x.value), (x.x.old)⟩, (x.own), (x.hs), (x.hg), 5, (x.w), ((PMem.eLoad m who (wrI (wrI ((slotOf x.w).snd.fst + 1) + x.x.index))).fst), (x.seen), ((PMem.eLoad m who (wrI (wrI ((slotOf x.w).snd.fst + 1) + x.x.index))).snd.steps), (x.size), (some (help)), ⟨(x.out.e), (x.out.h), (x.out.v), (x.out.st)⟩⟩ ((PMem.eLoad m who (wrI (wrI ((slotOf x.w).snd.fst + 1) + x.x.index))).snd)
         else
          bif decide ((cellOf (PMem.eLoad m who (wrI (wrI ((slotOf x.w).snd.fst + 1) + x.x.index))).fst).snd.snd < (slotOf x.w).snd.snd.snd) then
           K false ⟨⟨(x.x.kind), (x.x.handle), (x.x.index), (x.x.value), (x.x.old)⟩, (x.own), (x.hs), (x.hg), 5, (x.w), ((PMem.eLoad m who (wrI (wrI ((slotOf x.w).snd.fst + 1) + x.x.index))).fst), (x.seen), ((PMem.eLoad m who (wrI (wrI ((slotOf x.w).snd.fst + 1) + x.x.index))).snd.steps), (x.size), (some (help)), ⟨(x.out.e), (x.out.h), (x.out.v), (x.out.st)⟩⟩ ((PMem.eLoad m who (wrI (wrI ((slotOf x.w).snd.fst + 1) + x.x.index))).snd)
          else
           bif decide ((cellOf (PMem.eLoad m who (wrI (wrI ((slotOf x.w).snd.fst + 1) + x.x.index))).fst).snd.snd = (slotOf x.w).snd.snd.snd) then
            bif decide ((slotOf x.w).fst = 2) then
             K false ⟨⟨(x.x.kind), (x.x.handle), (x.x.index), (x.x.value), (x.x.old)⟩, (x.own), (x.hs), (x.hg), 3, (x.w), ((PMem.eLoad m who (wrI (wrI ((slotOf x.w).snd.fst + 1) + x.x.index))).fst), (x.seen), ((PMem.eLoad m who (wrI (wrI ((slotOf x.w).snd.fst + 1) + x.x.index))).snd.steps), (x.size), (some (help)), ⟨(x.out.e), (x.out.h), (x.out.v), (x.out.st)⟩⟩ ((PMem.eLoad m who (wrI (wrI ((slotOf x.w).snd.fst + 1) + x.x.index))).snd)
            else
             K false ⟨⟨(x.x.kind), (x.x.handle), (x.x.index), (x.x.value), (x.x.old)⟩, (x.own), (x.hs), (x.hg), 0, (x.w), ((PMem.eLoad m who (wrI (wrI ((slotOf x.w).snd.fst + 1) + x.x.index))).fst), (x.seen), ((PMem.eLoad m who (wrI (wrI ((slotOf x.w).snd.fst + 1) + x.x.index))).snd.steps), (x.size), (some (help)), ⟨(x.out.e), (x.out.h), (x.out.v), (x.out.st)⟩⟩ ((PMem.eLoad m who (wrI (wrI ((slotOf x.w).snd.fst + 1) + x.x.index))).snd)
           else
            K false ⟨⟨(x.x.kind), (x.x.handle), (x.x.index), (x.x.value), (x.x.old)⟩, (x.own), (x.hs), (x.hg), 0, (x.w), ((PMem.eLoad m who (wrI (wrI ((slotOf x.w).snd.fst + 1) + x.x.index))).fst), (x.seen), ((PMem.eLoad m who (wrI (wrI ((slotOf x.w).snd.fst + 1) + x.x.index))).snd.steps), (x.size), (some (help)), ⟨(x.out.e), (x.out.h), (x.out.v), (x.out.st)⟩⟩ ((PMem.eLoad m who (wrI (wrI ((slotOf x.w).snd.fst + 1) + x.x.index))).snd))
    else
     bif decide (x.pc = 3) then
      K false ⟨⟨(x.x.kind), (x.x.handle), (x.x.index), (x.x.value), (x.x.old)⟩, (x.own), (x.hs), (x.hg), 0, (x.w), (x.cell), (x.seen), (x.read), (x.size), (some (help)), ⟨(x.out.e), (x.out.h), (x.out.v), (x.out.st)⟩⟩ ((PMem.eCas m who (lSlot c.threads c.slots c.chunks c.words c.gens c.sparse c.tries x.hs) x.w (putSlot 1 (slotOf x.w).snd.fst (slotOf x.w).snd.snd.fst (wrI ((slotOf x.w).snd.snd.snd + 1)))).snd)
     else
      bif decide (x.pc = 4) then
       bif (helpStep { threads := c.threads, slots := c.slots, chunks := c.chunks, words := c.words, gens := c.gens, sparse := c.sparse, tries := c.tries } who help m).fst then
        K false ⟨⟨(x.x.kind), (x.x.handle), (x.x.index), (x.x.value), (x.x.old)⟩, (x.own), (x.hs), (x.hg), 0, (x.w), (x.cell), (x.seen), (x.read), (x.size), (some ((helpStep { threads := c.threads, slots := c.slots, chunks := c.chunks, words := c.words, gens := c.gens, sparse := c.sparse, tries := c.tries } who help m).snd.1)), ⟨(x.out.e), (x.out.h), (x.out.v), (x.out.st)⟩⟩ ((helpStep { threads := c.threads, slots := c.slots, chunks := c.chunks, words := c.words, gens := c.gens, sparse := c.sparse, tries := c.tries } who help m).snd.snd)
       else
        K false ⟨⟨(x.x.kind), (x.x.handle), (x.x.index), (x.x.value), (x.x.old)⟩, (x.own), (x.hs), (x.hg), (x.pc), (x.w), (x.cell), (x.seen), (x.read), (x.size), (some ((helpStep { threads := c.threads, slots := c.slots, chunks := c.chunks, words := c.words, gens := c.gens, sparse := c.sparse, tries := c.tries } who help m).snd.1)), ⟨(x.out.e), (x.out.h), (x.out.v), (x.out.st)⟩⟩ ((helpStep { threads := c.threads, slots := c.slots, chunks := c.chunks, words := c.words, gens := c.gens, sparse := c.sparse, tries := c.tries } who help m).snd.snd)
      else
       bif decide (x.pc = 5) then
        bif (PMem.eCas m who (wrI (wrI ((slotOf x.w).snd.fst + 1) + x.x.index)) x.cell (putCell x.x.value false 0)).fst then
         K true ⟨⟨(x.x.kind), (x.x.handle), (x.x.index), (x.x.value), (x.x.old)⟩, (x.own), (x.hs), (x.hg), 0, (x.w), (x.cell), (x.seen), (x.read), (x.size), (some (help)), ⟨0, 0, ((cellOf x.cell).fst), ((PMem.eCas m who (wrI (wrI ((slotOf x.w).snd.fst + 1) + x.x.index)) x.cell (putCell x.x.value false 0)).snd.steps)⟩⟩ ((PMem.eCas m who (wrI (wrI ((slotOf x.w).snd.fst + 1) + x.x.index)) x.cell (putCell x.x.value false 0)).snd)
        else
         K false ⟨⟨(x.x.kind), (x.x.handle), (x.x.index), (x.x.value), (x.x.old)⟩, (x.own), (x.hs), (x.hg), 0, (x.w), (x.cell), (x.seen), (x.read), (x.size), (some (help)), ⟨(x.out.e), (x.out.h), (x.out.v), (x.out.st)⟩⟩ ((PMem.eCas m who (wrI (wrI ((slotOf x.w).snd.fst + 1) + x.x.index)) x.cell (putCell x.x.value false 0)).snd)
       else
        tw (fun p => (((p ∧ p) ∧ p) ∧ p)) (
         bif !live (slotOf (PMem.eLoad m who (lSlot c.threads c.slots c.chunks c.words c.gens c.sparse c.tries x.hs)).fst).fst (slotOf (PMem.eLoad m who (lSlot c.threads c.slots c.chunks c.words c.gens c.sparse c.tries x.hs)).fst).snd.fst (slotOf (PMem.eLoad m who (lSlot c.threads c.slots c.chunks c.words c.gens c.sparse c.tries x.hs)).fst).snd.snd.fst (slotOf (PMem.eLoad m who (lSlot c.threads c.slots c.chunks c.words c.gens c.sparse c.tries x.hs)).fst).snd.snd.snd x.hs x.hg then
          K true ⟨⟨(x.x.kind), (x.x.handle), (x.x.index), (x.x.value), (x.x.old)⟩, (x.own), (x.hs), (x.hg), (x.pc), (x.w), (x.cell), (x.seen), (x.read), (x.size), (some (help)), ⟨3, 0, 0, ((PMem.eLoad m who (lSlot c.threads c.slots c.chunks c.words c.gens c.sparse c.tries x.hs)).snd.steps)⟩⟩ ((PMem.eLoad m who (lSlot c.threads c.slots c.chunks c.words c.gens c.sparse c.tries x.hs)).snd)
         else
          bif !decide ((slotOf (PMem.eLoad m who (lSlot c.threads c.slots c.chunks c.words c.gens c.sparse c.tries x.hs)).fst).snd.fst = (slotOf x.w).snd.fst) then
           K false ⟨⟨(x.x.kind), (x.x.handle), (x.x.index), (x.x.value), (x.x.old)⟩, (x.own), (x.hs), (x.hg), 0, (x.w), (x.cell), (x.seen), (x.read), (x.size), (some (help)), ⟨(x.out.e), (x.out.h), (x.out.v), (x.out.st)⟩⟩ ((PMem.eLoad m who (lSlot c.threads c.slots c.chunks c.words c.gens c.sparse c.tries x.hs)).snd)
          else
           bif decide (x.x.kind = 3) then
            K true ⟨⟨(x.x.kind), (x.x.handle), (x.x.index), (x.x.value), (x.x.old)⟩, (x.own), (x.hs), (x.hg), (x.pc), (x.w), (x.cell), (x.seen), (x.read), (x.size), (some (help)), ⟨8, 0, ((cellOf x.cell).fst), (x.read)⟩⟩ ((PMem.eLoad m who (lSlot c.threads c.slots c.chunks c.words c.gens c.sparse c.tries x.hs)).snd)
           else
            K true ⟨⟨(x.x.kind), (x.x.handle), (x.x.index), (x.x.value), (x.x.old)⟩, (x.own), (x.hs), (x.hg), (x.pc), (x.w), (x.cell), (x.seen), (x.read), (x.size), (some (help)), ⟨0, 0, ((cellOf x.cell).fst), (x.read)⟩⟩ ((PMem.eLoad m who (lSlot c.threads c.slots c.chunks c.words c.gens c.sparse c.tries x.hs)).snd))

def accessStep1 (c : PCfg) (who : Int) (x : PAccess) (help : PHelp) (m : PMem) : Bool × PAccess × PMem := accessStep1K (false, x, m) twV c who x help m fun r x m => (r, x, m)

theorem accessStep1K_eq (c : PCfg) (who : Int) (x : PAccess) (help : PHelp) (m : PMem) (K : Bool → PAccess → PMem → Prop) : accessStep1K False twP c who x help m K = K (accessStep1 c who x help m).1 (accessStep1 c who x help m).2.1 (accessStep1 c who x help m).2.2 := by
  show _ = app3 K (accessStep1K (false, x, m) twV c who x help m fun r x m => (r, x, m))
  unfold accessStep1K
  repeat' first
    | refine cond3 ?_ ?_
    | refine tw3 (fun p => by simp only [and_self]) ?_
    | exact rfl

def accessStep (c : PCfg) (who : Int) (x : PAccess) (m : PMem) : Bool × PAccess × PMem := match x.help with
  | none => accessStep0 c who x m
  | some help => accessStep1 c who x help m

end Go.FL

/-
  The contracts of steps.
-/
set_option linter.unusedVariables false
set_option linter.unusedSimpArgs false
set_option maxRecDepth 100000
set_option linter.unusedSectionVars false
namespace Go.Proofs.YtfjnkneoddankaaGreat
open Go Go.FL Go.Proofs
variable [Go.FL.Fz]

theorem allocStep00_ev (c : PCfg) (who : Int) (x : PAlloc) (m : PMem) (K : Bool → PAlloc → PMem → Prop) : evF Tryz.prog own2 10 20 42 [.c (.ptr 0 0), envV c 1 who] ⟨cat [(true, .alloc ({ x with p := none, give := none })), (false, .mem m)] 0, []⟩ (fun v H₁ => match v with | .c (.bool r) => (shAlloc H₁ 0 fun x' c' => shF H₁ 1 fun o c2 => match o with | .mem m' => (match chkAll [(true, .alloc ({ x with p := none, give := none })), (false, .mem m)] [c', c2] [] with | true => K r x' m' | false => False) | _ => False) | _ => False) = allocStep00K False twP c who x m K := by kernel_rfl

theorem allocStep10_ev (c : PCfg) (who : Int) (x : PAlloc) (p : PPlace) (m : PMem) (K : Bool → PAlloc → PMem → Prop) : evF Tryz.prog own2 10 20 42 [.c (.ptr 0 0), envV c 2 who] ⟨cat [(true, .alloc ({ x with p := some p, give := none })), (false, .mem m)] 0, []⟩ (fun v H₁ => match v with | .c (.bool r) => (shAlloc H₁ 0 fun x' c' => shF H₁ 2 fun o c2 => match o with | .mem m' => (match chkAll [(true, .alloc ({ x with p := some p, give := none })), (false, .mem m)] [c', c2] [] with | true => K r x' m' | false => False) | _ => False) | _ => False) = allocStep10K False twP c who x p m K := by kernel_rfl

theorem allocStep01_ev (c : PCfg) (who : Int) (x : PAlloc) (give : PGive) (m : PMem) (K : Bool → PAlloc → PMem → Prop) : evF Tryz.prog own2 10 20 42 [.c (.ptr 0 0), envV c 2 who] ⟨cat [(true, .alloc ({ x with p := none, give := some give })), (false, .mem m)] 0, []⟩ (fun v H₁ => match v with | .c (.bool r) => (shAlloc H₁ 0 fun x' c' => shF H₁ 2 fun o c2 => match o with | .mem m' => (match chkAll [(true, .alloc ({ x with p := none, give := some give })), (false, .mem m)] [c', c2] [] with | true => K r x' m' | false => False) | _ => False) | _ => False) = allocStep01K False twP c who x give m K := by kernel_rfl

theorem allocStep11_ev (c : PCfg) (who : Int) (x : PAlloc) (p : PPlace) (give : PGive) (m : PMem) (K : Bool → PAlloc → PMem → Prop) : evF Tryz.prog own2 10 20 42 [.c (.ptr 0 0), envV c 3 who] ⟨cat [(true, .alloc ({ x with p := some p, give := some give })), (false, .mem m)] 0, []⟩ (fun v H₁ => match v with | .c (.bool r) => (shAlloc H₁ 0 fun x' c' => shF H₁ 3 fun o c2 => match o with | .mem m' => (match chkAll [(true, .alloc ({ x with p := some p, give := some give })), (false, .mem m)] [c', c2] [] with | true => K r x' m' | false => False) | _ => False) | _ => False) = allocStep11K False twP c who x p give m K := by kernel_rfl

def h_allocStep0 : Hd := fun args H K => match args with
  | [.c (.ptr p0 0), .agg [.int .i64 c1, .int .i64 c2, .int .i64 c3, .int .i64 c4, .int .i64 c5, .int .i64 c6, .int .i64 c7, .ptr m 0, .int .i64 who]] => match H.get p0, H.get m with
    | some (.obj (.alloc x)), some (.obj (.mem pm)) => K (.c (.bool (allocStep ⟨c1, c2, c3, c4, c5, c6, c7⟩ who x pm).1)) ((H.put p0 (.obj (.alloc (allocStep ⟨c1, c2, c3, c4, c5, c6, c7⟩ who x pm).2.1))).put m (.obj (.mem (allocStep ⟨c1, c2, c3, c4, c5, c6, c7⟩ who x pm).2.2)))
    | _, _ => False
  | _ => False

theorem h_allocStep0_ok : HOK 42 h_allocStep0 := by
  intro args H K h
  unfold h_allocStep0 at h
  split at h
  · rename_i p0 c1 c2 c3 c4 c5 c6 c7 m who
    split at h
    · rename_i x pm hp hm
      obtain ⟨size, own, pc, take, at_, gen, p, sa, sc, give, out⟩ := x
      cases p with
      | none =>
        cases give with
        | none =>
          have e := (allocStep00_ev ⟨c1, c2, c3, c4, c5, c6, c7⟩ who ⟨size, own, pc, take, at_, gen, none, sa, sc, none, out⟩ pm (fun r x' m' => K (.c (.bool r)) ((H.put p0 (.obj (.alloc x'))).put m (.obj (.mem m'))))).mpr (by rw [allocStep00K_eq]; exact h)
          exact step_ok own2_ok (c := ⟨c1, c2, c3, c4, c5, c6, c7⟩) (mk := .alloc) (fun _ _ _ => shAlloc_ok) (by intro hh; cases hh) hp hm e
        | some give =>
          have e := (allocStep01_ev ⟨c1, c2, c3, c4, c5, c6, c7⟩ who ⟨size, own, pc, take, at_, gen, none, sa, sc, (some give), out⟩ give pm (fun r x' m' => K (.c (.bool r)) ((H.put p0 (.obj (.alloc x'))).put m (.obj (.mem m'))))).mpr (by rw [allocStep01K_eq]; exact h)
          exact step_ok own2_ok (c := ⟨c1, c2, c3, c4, c5, c6, c7⟩) (mk := .alloc) (fun _ _ _ => shAlloc_ok) (by intro hh; cases hh) hp hm e
      | some p =>
        cases give with
        | none =>
          have e := (allocStep10_ev ⟨c1, c2, c3, c4, c5, c6, c7⟩ who ⟨size, own, pc, take, at_, gen, (some p), sa, sc, none, out⟩ p pm (fun r x' m' => K (.c (.bool r)) ((H.put p0 (.obj (.alloc x'))).put m (.obj (.mem m'))))).mpr (by rw [allocStep10K_eq]; exact h)
          exact step_ok own2_ok (c := ⟨c1, c2, c3, c4, c5, c6, c7⟩) (mk := .alloc) (fun _ _ _ => shAlloc_ok) (by intro hh; cases hh) hp hm e
        | some give =>
          have e := (allocStep11_ev ⟨c1, c2, c3, c4, c5, c6, c7⟩ who ⟨size, own, pc, take, at_, gen, (some p), sa, sc, (some give), out⟩ p give pm (fun r x' m' => K (.c (.bool r)) ((H.put p0 (.obj (.alloc x'))).put m (.obj (.mem m'))))).mpr (by rw [allocStep11K_eq]; exact h)
          exact step_ok own2_ok (c := ⟨c1, c2, c3, c4, c5, c6, c7⟩) (mk := .alloc) (fun _ _ _ => shAlloc_ok) (by intro hh; cases hh) hp hm e
    · exact h.elim
  · exact h.elim

def h_allocStep : Hd := orNil h_allocStep0

theorem h_allocStep_ok : HOK 42 h_allocStep := orNil_ok own2_ok h_allocStep0_ok (fuel := 10) (d := 20) (fun c who pm K h => cast (by kernel_rfl) h)

theorem dropStep00_ev (c : PCfg) (who : Int) (x : PDrop) (m : PMem) (K : Bool → PDrop → PMem → Prop) : evF Tryz.prog own2 10 20 45 [.c (.ptr 0 0), envV c 1 who] ⟨cat [(true, .drop ({ x with help := none, give := none })), (false, .mem m)] 0, []⟩ (fun v H₁ => match v with | .c (.bool r) => (shDrop H₁ 0 fun x' c' => shF H₁ 1 fun o c2 => match o with | .mem m' => (match chkAll [(true, .drop ({ x with help := none, give := none })), (false, .mem m)] [c', c2] [] with | true => K r x' m' | false => False) | _ => False) | _ => False) = dropStep00K False twP c who x m K := by kernel_rfl

theorem dropStep10_ev (c : PCfg) (who : Int) (x : PDrop) (help : PHelp) (m : PMem) (K : Bool → PDrop → PMem → Prop) : evF Tryz.prog own2 10 20 45 [.c (.ptr 0 0), envV c 2 who] ⟨cat [(true, .drop ({ x with help := some help, give := none })), (false, .mem m)] 0, []⟩ (fun v H₁ => match v with | .c (.bool r) => (shDrop H₁ 0 fun x' c' => shF H₁ 2 fun o c2 => match o with | .mem m' => (match chkAll [(true, .drop ({ x with help := some help, give := none })), (false, .mem m)] [c', c2] [] with | true => K r x' m' | false => False) | _ => False) | _ => False) = dropStep10K False twP c who x help m K := by kernel_rfl

theorem dropStep01_ev (c : PCfg) (who : Int) (x : PDrop) (give : PGive) (m : PMem) (K : Bool → PDrop → PMem → Prop) : evF Tryz.prog own2 10 20 45 [.c (.ptr 0 0), envV c 2 who] ⟨cat [(true, .drop ({ x with help := none, give := some give })), (false, .mem m)] 0, []⟩ (fun v H₁ => match v with | .c (.bool r) => (shDrop H₁ 0 fun x' c' => shF H₁ 2 fun o c2 => match o with | .mem m' => (match chkAll [(true, .drop ({ x with help := none, give := some give })), (false, .mem m)] [c', c2] [] with | true => K r x' m' | false => False) | _ => False) | _ => False) = dropStep01K False twP c who x give m K := by kernel_rfl

theorem dropStep11_ev (c : PCfg) (who : Int) (x : PDrop) (help : PHelp) (give : PGive) (m : PMem) (K : Bool → PDrop → PMem → Prop) : evF Tryz.prog own2 10 20 45 [.c (.ptr 0 0), envV c 3 who] ⟨cat [(true, .drop ({ x with help := some help, give := some give })), (false, .mem m)] 0, []⟩ (fun v H₁ => match v with | .c (.bool r) => (shDrop H₁ 0 fun x' c' => shF H₁ 3 fun o c2 => match o with | .mem m' => (match chkAll [(true, .drop ({ x with help := some help, give := some give })), (false, .mem m)] [c', c2] [] with | true => K r x' m' | false => False) | _ => False) | _ => False) = dropStep11K False twP c who x help give m K := by kernel_rfl

def h_dropStep0 : Hd := fun args H K => match args with
  | [.c (.ptr p0 0), .agg [.int .i64 c1, .int .i64 c2, .int .i64 c3, .int .i64 c4, .int .i64 c5, .int .i64 c6, .int .i64 c7, .ptr m 0, .int .i64 who]] => match H.get p0, H.get m with
    | some (.obj (.drop x)), some (.obj (.mem pm)) => match decide (c4 = 0) with | true => False | false => K (.c (.bool (dropStep ⟨c1, c2, c3, c4, c5, c6, c7⟩ who x pm).1)) ((H.put p0 (.obj (.drop (dropStep ⟨c1, c2, c3, c4, c5, c6, c7⟩ who x pm).2.1))).put m (.obj (.mem (dropStep ⟨c1, c2, c3, c4, c5, c6, c7⟩ who x pm).2.2)))
    | _, _ => False
  | _ => False

theorem h_dropStep0_ok : HOK 45 h_dropStep0 := by
  intro args H K h
  unfold h_dropStep0 at h
  split at h
  · rename_i p0 c1 c2 c3 c4 c5 c6 c7 m who
    split at h
    · rename_i x pm hp hm
      split at h
      · exact h.elim
      rename_i hc
      have hc : c4 ≠ 0 := of_decide_eq_false hc
      obtain ⟨n, own, hs, hg, pc, w, size, help, give, out⟩ := x
      cases help with
      | none =>
        cases give with
        | none =>
          have e := (dropStep00_ev ⟨c1, c2, c3, c4, c5, c6, c7⟩ who ⟨n, own, hs, hg, pc, w, size, none, none, out⟩ pm (fun r x' m' => K (.c (.bool r)) ((H.put p0 (.obj (.drop x'))).put m (.obj (.mem m'))))).mpr (by rw [dropStep00K_eq (hc := hc)]; exact h)
          exact step_ok own2_ok (c := ⟨c1, c2, c3, c4, c5, c6, c7⟩) (mk := .drop) (fun _ _ _ => shDrop_ok) (by intro hh; cases hh) hp hm e
        | some give =>
          have e := (dropStep01_ev ⟨c1, c2, c3, c4, c5, c6, c7⟩ who ⟨n, own, hs, hg, pc, w, size, none, (some give), out⟩ give pm (fun r x' m' => K (.c (.bool r)) ((H.put p0 (.obj (.drop x'))).put m (.obj (.mem m'))))).mpr (by rw [dropStep01K_eq (hc := hc)]; exact h)
          exact step_ok own2_ok (c := ⟨c1, c2, c3, c4, c5, c6, c7⟩) (mk := .drop) (fun _ _ _ => shDrop_ok) (by intro hh; cases hh) hp hm e
      | some help =>
        cases give with
        | none =>
          have e := (dropStep10_ev ⟨c1, c2, c3, c4, c5, c6, c7⟩ who ⟨n, own, hs, hg, pc, w, size, (some help), none, out⟩ help pm (fun r x' m' => K (.c (.bool r)) ((H.put p0 (.obj (.drop x'))).put m (.obj (.mem m'))))).mpr (by rw [dropStep10K_eq (hc := hc)]; exact h)
          exact step_ok own2_ok (c := ⟨c1, c2, c3, c4, c5, c6, c7⟩) (mk := .drop) (fun _ _ _ => shDrop_ok) (by intro hh; cases hh) hp hm e
        | some give =>
          have e := (dropStep11_ev ⟨c1, c2, c3, c4, c5, c6, c7⟩ who ⟨n, own, hs, hg, pc, w, size, (some help), (some give), out⟩ help give pm (fun r x' m' => K (.c (.bool r)) ((H.put p0 (.obj (.drop x'))).put m (.obj (.mem m'))))).mpr (by rw [dropStep11K_eq (hc := hc)]; exact h)
          exact step_ok own2_ok (c := ⟨c1, c2, c3, c4, c5, c6, c7⟩) (mk := .drop) (fun _ _ _ => shDrop_ok) (by intro hh; cases hh) hp hm e
    · exact h.elim
  · exact h.elim

def h_dropStep : Hd := orNil h_dropStep0

theorem h_dropStep_ok : HOK 45 h_dropStep := orNil_ok own2_ok h_dropStep0_ok (fuel := 10) (d := 20) (fun c who pm K h => cast (by kernel_rfl) h)

theorem accessStep0_ev (c : PCfg) (who : Int) (x : PAccess) (m : PMem) (K : Bool → PAccess → PMem → Prop) : evF Tryz.prog own2 10 20 60 [.c (.ptr 0 0), envV c 1 who] ⟨cat [(true, .access ({ x with help := none })), (false, .mem m)] 0, []⟩ (fun v H₁ => match v with | .c (.bool r) => (shAccess H₁ 0 fun x' c' => shF H₁ 1 fun o c2 => match o with | .mem m' => (match chkAll [(true, .access ({ x with help := none })), (false, .mem m)] [c', c2] [] with | true => K r x' m' | false => False) | _ => False) | _ => False) = accessStep0K False twP c who x m K := by kernel_rfl

theorem accessStep1_ev (c : PCfg) (who : Int) (x : PAccess) (help : PHelp) (m : PMem) (K : Bool → PAccess → PMem → Prop) : evF Tryz.prog own2 10 20 60 [.c (.ptr 0 0), envV c 2 who] ⟨cat [(true, .access ({ x with help := some help })), (false, .mem m)] 0, []⟩ (fun v H₁ => match v with | .c (.bool r) => (shAccess H₁ 0 fun x' c' => shF H₁ 2 fun o c2 => match o with | .mem m' => (match chkAll [(true, .access ({ x with help := some help })), (false, .mem m)] [c', c2] [] with | true => K r x' m' | false => False) | _ => False) | _ => False) = accessStep1K False twP c who x help m K := by kernel_rfl

def h_accessStep0 : Hd := fun args H K => match args with
  | [.c (.ptr p0 0), .agg [.int .i64 c1, .int .i64 c2, .int .i64 c3, .int .i64 c4, .int .i64 c5, .int .i64 c6, .int .i64 c7, .ptr m 0, .int .i64 who]] => match H.get p0, H.get m with
    | some (.obj (.access x)), some (.obj (.mem pm)) => K (.c (.bool (accessStep ⟨c1, c2, c3, c4, c5, c6, c7⟩ who x pm).1)) ((H.put p0 (.obj (.access (accessStep ⟨c1, c2, c3, c4, c5, c6, c7⟩ who x pm).2.1))).put m (.obj (.mem (accessStep ⟨c1, c2, c3, c4, c5, c6, c7⟩ who x pm).2.2)))
    | _, _ => False
  | _ => False

theorem h_accessStep0_ok : HOK 60 h_accessStep0 := by
  intro args H K h
  unfold h_accessStep0 at h
  split at h
  · rename_i p0 c1 c2 c3 c4 c5 c6 c7 m who
    split at h
    · rename_i x pm hp hm
      obtain ⟨x, own, hs, hg, pc, w, cell, seen, read, size, help, out⟩ := x
      cases help with
      | none =>
        have e := (accessStep0_ev ⟨c1, c2, c3, c4, c5, c6, c7⟩ who ⟨x, own, hs, hg, pc, w, cell, seen, read, size, none, out⟩ pm (fun r x' m' => K (.c (.bool r)) ((H.put p0 (.obj (.access x'))).put m (.obj (.mem m'))))).mpr (by rw [accessStep0K_eq]; exact h)
        exact step_ok own2_ok (c := ⟨c1, c2, c3, c4, c5, c6, c7⟩) (mk := .access) (fun _ _ _ => shAccess_ok) (by intro hh; cases hh) hp hm e
      | some help =>
        have e := (accessStep1_ev ⟨c1, c2, c3, c4, c5, c6, c7⟩ who ⟨x, own, hs, hg, pc, w, cell, seen, read, size, (some help), out⟩ help pm (fun r x' m' => K (.c (.bool r)) ((H.put p0 (.obj (.access x'))).put m (.obj (.mem m'))))).mpr (by rw [accessStep1K_eq]; exact h)
        exact step_ok own2_ok (c := ⟨c1, c2, c3, c4, c5, c6, c7⟩) (mk := .access) (fun _ _ _ => shAccess_ok) (by intro hh; cases hh) hp hm e
    · exact h.elim
  · exact h.elim

def h_accessStep : Hd := orNil h_accessStep0

theorem h_accessStep_ok : HOK 60 h_accessStep := orNil_ok own2_ok h_accessStep0_ok (fuel := 10) (d := 20) (fun c who pm K h => cast (by kernel_rfl) h)

def h_allocDone : Hd := fun args H K => match args with
  | [.c (.ptr p0 0)] => match H.get p0 with
    | some (.obj (.alloc x)) => K (.agg [cI x.out.e, cU x.out.h, cI x.out.v, cI x.out.st]) (H.put p0 (.obj (.alloc x)))
    | _ => False
  | _ => False

theorem h_allocDone_ok : HOK 43 h_allocDone := by
  intro args H K h
  unfold h_allocDone at h
  split at h
  · rename_i p0
    split at h
    · rename_i x hp
      obtain ⟨size, own, pc, take, at_, gen, p, sa, sc, give, out⟩ := x
      cases p with
      | none =>
        cases give with
        | none =>
          have e : evF Tryz.prog own2 10 20 43 [.c (.ptr 0 0)] ⟨cat [(true, .alloc ⟨size, own, pc, take, at_, gen, none, sa, sc, none, out⟩)] 0, []⟩ (fun v H₁ => match lowV v with
              | true => (shAlloc H₁ 0 fun x' c => match chkAll [(true, .alloc ⟨size, own, pc, take, at_, gen, none, sa, sc, none, out⟩)] [c] [] with
                  | true => K v (H.put p0 (.obj (.alloc x')))
                  | false => False)
              | false => False) := cast (by kernel_rfl) h
          exact ask_ok own2_ok (mk := .alloc) (fun _ _ _ => shAlloc_ok) (rest := []) rfl hp e
        | some give =>
          have e : evF Tryz.prog own2 10 20 43 [.c (.ptr 0 0)] ⟨cat [(true, .alloc ⟨size, own, pc, take, at_, gen, none, sa, sc, (some give), out⟩)] 0, []⟩ (fun v H₁ => match lowV v with
              | true => (shAlloc H₁ 0 fun x' c => match chkAll [(true, .alloc ⟨size, own, pc, take, at_, gen, none, sa, sc, (some give), out⟩)] [c] [] with
                  | true => K v (H.put p0 (.obj (.alloc x')))
                  | false => False)
              | false => False) := cast (by kernel_rfl) h
          exact ask_ok own2_ok (mk := .alloc) (fun _ _ _ => shAlloc_ok) (rest := []) rfl hp e
      | some p =>
        cases give with
        | none =>
          have e : evF Tryz.prog own2 10 20 43 [.c (.ptr 0 0)] ⟨cat [(true, .alloc ⟨size, own, pc, take, at_, gen, (some p), sa, sc, none, out⟩)] 0, []⟩ (fun v H₁ => match lowV v with
              | true => (shAlloc H₁ 0 fun x' c => match chkAll [(true, .alloc ⟨size, own, pc, take, at_, gen, (some p), sa, sc, none, out⟩)] [c] [] with
                  | true => K v (H.put p0 (.obj (.alloc x')))
                  | false => False)
              | false => False) := cast (by kernel_rfl) h
          exact ask_ok own2_ok (mk := .alloc) (fun _ _ _ => shAlloc_ok) (rest := []) rfl hp e
        | some give =>
          have e : evF Tryz.prog own2 10 20 43 [.c (.ptr 0 0)] ⟨cat [(true, .alloc ⟨size, own, pc, take, at_, gen, (some p), sa, sc, (some give), out⟩)] 0, []⟩ (fun v H₁ => match lowV v with
              | true => (shAlloc H₁ 0 fun x' c => match chkAll [(true, .alloc ⟨size, own, pc, take, at_, gen, (some p), sa, sc, (some give), out⟩)] [c] [] with
                  | true => K v (H.put p0 (.obj (.alloc x')))
                  | false => False)
              | false => False) := cast (by kernel_rfl) h
          exact ask_ok own2_ok (mk := .alloc) (fun _ _ _ => shAlloc_ok) (rest := []) rfl hp e
    · exact h.elim
  · exact h.elim

def h_dropDone : Hd := fun args H K => match args with
  | [.c (.ptr p0 0)] => match H.get p0 with
    | some (.obj (.drop x)) => K (.agg [cI x.out.e, cU x.out.h, cI x.out.v, cI x.out.st]) (H.put p0 (.obj (.drop x)))
    | _ => False
  | _ => False

theorem h_dropDone_ok : HOK 46 h_dropDone := by
  intro args H K h
  unfold h_dropDone at h
  split at h
  · rename_i p0
    split at h
    · rename_i x hp
      obtain ⟨n, own, hs, hg, pc, w, size, help, give, out⟩ := x
      cases help with
      | none =>
        cases give with
        | none =>
          have e : evF Tryz.prog own2 10 20 46 [.c (.ptr 0 0)] ⟨cat [(true, .drop ⟨n, own, hs, hg, pc, w, size, none, none, out⟩)] 0, []⟩ (fun v H₁ => match lowV v with
              | true => (shDrop H₁ 0 fun x' c => match chkAll [(true, .drop ⟨n, own, hs, hg, pc, w, size, none, none, out⟩)] [c] [] with
                  | true => K v (H.put p0 (.obj (.drop x')))
                  | false => False)
              | false => False) := cast (by kernel_rfl) h
          exact ask_ok own2_ok (mk := .drop) (fun _ _ _ => shDrop_ok) (rest := []) rfl hp e
        | some give =>
          have e : evF Tryz.prog own2 10 20 46 [.c (.ptr 0 0)] ⟨cat [(true, .drop ⟨n, own, hs, hg, pc, w, size, none, (some give), out⟩)] 0, []⟩ (fun v H₁ => match lowV v with
              | true => (shDrop H₁ 0 fun x' c => match chkAll [(true, .drop ⟨n, own, hs, hg, pc, w, size, none, (some give), out⟩)] [c] [] with
                  | true => K v (H.put p0 (.obj (.drop x')))
                  | false => False)
              | false => False) := cast (by kernel_rfl) h
          exact ask_ok own2_ok (mk := .drop) (fun _ _ _ => shDrop_ok) (rest := []) rfl hp e
      | some help =>
        cases give with
        | none =>
          have e : evF Tryz.prog own2 10 20 46 [.c (.ptr 0 0)] ⟨cat [(true, .drop ⟨n, own, hs, hg, pc, w, size, (some help), none, out⟩)] 0, []⟩ (fun v H₁ => match lowV v with
              | true => (shDrop H₁ 0 fun x' c => match chkAll [(true, .drop ⟨n, own, hs, hg, pc, w, size, (some help), none, out⟩)] [c] [] with
                  | true => K v (H.put p0 (.obj (.drop x')))
                  | false => False)
              | false => False) := cast (by kernel_rfl) h
          exact ask_ok own2_ok (mk := .drop) (fun _ _ _ => shDrop_ok) (rest := []) rfl hp e
        | some give =>
          have e : evF Tryz.prog own2 10 20 46 [.c (.ptr 0 0)] ⟨cat [(true, .drop ⟨n, own, hs, hg, pc, w, size, (some help), (some give), out⟩)] 0, []⟩ (fun v H₁ => match lowV v with
              | true => (shDrop H₁ 0 fun x' c => match chkAll [(true, .drop ⟨n, own, hs, hg, pc, w, size, (some help), (some give), out⟩)] [c] [] with
                  | true => K v (H.put p0 (.obj (.drop x')))
                  | false => False)
              | false => False) := cast (by kernel_rfl) h
          exact ask_ok own2_ok (mk := .drop) (fun _ _ _ => shDrop_ok) (rest := []) rfl hp e
    · exact h.elim
  · exact h.elim

def h_accessDone : Hd := fun args H K => match args with
  | [.c (.ptr p0 0)] => match H.get p0 with
    | some (.obj (.access x)) => K (.agg [cI x.out.e, cU x.out.h, cI x.out.v, cI x.out.st]) (H.put p0 (.obj (.access x)))
    | _ => False
  | _ => False

theorem h_accessDone_ok : HOK 39 h_accessDone := by
  intro args H K h
  unfold h_accessDone at h
  split at h
  · rename_i p0
    split at h
    · rename_i x hp
      obtain ⟨x, own, hs, hg, pc, w, cell, seen, read, size, help, out⟩ := x
      cases help with
      | none =>
        have e : evF Tryz.prog own2 10 20 39 [.c (.ptr 0 0)] ⟨cat [(true, .access ⟨x, own, hs, hg, pc, w, cell, seen, read, size, none, out⟩)] 0, []⟩ (fun v H₁ => match lowV v with
            | true => (shAccess H₁ 0 fun x' c => match chkAll [(true, .access ⟨x, own, hs, hg, pc, w, cell, seen, read, size, none, out⟩)] [c] [] with
                | true => K v (H.put p0 (.obj (.access x')))
                | false => False)
            | false => False) := cast (by kernel_rfl) h
        exact ask_ok own2_ok (mk := .access) (fun _ _ _ => shAccess_ok) (rest := []) rfl hp e
      | some help =>
        have e : evF Tryz.prog own2 10 20 39 [.c (.ptr 0 0)] ⟨cat [(true, .access ⟨x, own, hs, hg, pc, w, cell, seen, read, size, (some help), out⟩)] 0, []⟩ (fun v H₁ => match lowV v with
            | true => (shAccess H₁ 0 fun x' c => match chkAll [(true, .access ⟨x, own, hs, hg, pc, w, cell, seen, read, size, (some help), out⟩)] [c] [] with
                | true => K v (H.put p0 (.obj (.access x')))
                | false => False)
            | false => False) := cast (by kernel_rfl) h
        exact ask_ok own2_ok (mk := .access) (fun _ _ _ => shAccess_ok) (rest := []) rfl hp e
    · exact h.elim
  · exact h.elim

def h_allocNew : Hd := fun args H K => match args with
  | [.c (.int .i64 a), .c (.bool b)] => K (.c (.ptr H.len 0)) (H.new (.obj (.alloc ⟨a, b, 0, ⟨0, 0, 0, 0, false⟩, 0, 0, none, 0, 0, none, ⟨0, 0, 0, 0⟩⟩)))
  | _ => False

theorem h_allocNew_ok : HOK 41 h_allocNew := by
  intro args H K h
  unfold h_allocNew at h
  split at h
  · rename_i a b
    have e : evF Tryz.prog own2 10 20 41 [.c (.int .i64 a), .c (.bool b)] ⟨[], []⟩ (fun v H₁ => match v with
        | .c (.ptr i 0) => (shAlloc H₁ i fun x c => match chkAll [] [] [c] && headOK i c with
          | true => K (.c (.ptr H.len 0)) (H.new (.obj (.alloc x)))
          | false => False)
        | _ => False) := cast (by kernel_rfl) h
    exact new_ok own2_ok (mk := .alloc) (fun _ _ _ => shAlloc_ok) rfl e
  · exact h.elim

def h_dropNew : Hd := fun args H K => match args with
  | [.c (.int .u64 a), .c (.bool b)] => K (.c (.ptr H.len 0)) (H.new (.obj (.drop ⟨a, b, 0, 0, 0, 0, 0, none, none, ⟨0, 0, 0, 0⟩⟩)))
  | _ => False

theorem h_dropNew_ok : HOK 44 h_dropNew := by
  intro args H K h
  unfold h_dropNew at h
  split at h
  · rename_i a b
    have e : evF Tryz.prog own2 10 20 44 [.c (.int .u64 a), .c (.bool b)] ⟨[], []⟩ (fun v H₁ => match v with
        | .c (.ptr i 0) => (shDrop H₁ i fun x c => match chkAll [] [] [c] && headOK i c with
          | true => K (.c (.ptr H.len 0)) (H.new (.obj (.drop x)))
          | false => False)
        | _ => False) := cast (by kernel_rfl) h
    exact new_ok own2_ok (mk := .drop) (fun _ _ _ => shDrop_ok) rfl e
  · exact h.elim

def h_accessNew : Hd := fun args H K => match args with
  | [.agg [.int .i64 x1, .int .u64 x2, .int .i64 x3, .int .i64 x4, .int .i64 x5], .c (.bool b)] => K (.c (.ptr H.len 0)) (H.new (.obj (.access ⟨⟨x1, x2, x3, x4, x5⟩, b, 0, 0, 0, 0, 0, 0, 0, 0, none, ⟨0, 0, 0, 0⟩⟩)))
  | _ => False

theorem h_accessNew_ok : HOK 37 h_accessNew := by
  intro args H K h
  unfold h_accessNew at h
  split at h
  · rename_i x1 x2 x3 x4 x5 b
    have e : evF Tryz.prog own2 10 20 37 [.agg [.int .i64 x1, .int .u64 x2, .int .i64 x3, .int .i64 x4, .int .i64 x5], .c (.bool b)] ⟨[], []⟩ (fun v H₁ => match v with
        | .c (.ptr i 0) => (shAccess H₁ i fun x c => match chkAll [] [] [c] && headOK i c with
          | true => K (.c (.ptr H.len 0)) (H.new (.obj (.access x)))
          | false => False)
        | _ => False) := cast (by kernel_rfl) h
    exact new_ok own2_ok (mk := .access) (fun _ _ _ => shAccess_ok) rfl e
  · exact h.elim

def tab3 : List (FuncId × Hd) := [(42, h_allocStep), (45, h_dropStep), (60, h_accessStep), (43, h_allocDone), (46, h_dropDone), (39, h_accessDone), (41, h_allocNew), (44, h_dropNew), (37, h_accessNew)] ++ tab2

def own3 : FuncId → Option Hd := look tab3

theorem all3 : AllOK tab3 := ⟨h_allocStep_ok, h_dropStep_ok, h_accessStep_ok, h_allocDone_ok, h_dropDone_ok, h_accessDone_ok, h_allocNew_ok, h_dropNew_ok, h_accessNew_ok, all2⟩

theorem own3_ok : OwnOK Tryz.prog own3 := look_ok all3

end Go.Proofs.YtfjnkneoddankaaGreat

/-
  A loop whose states are read anew behind each round: blocks that nobody names any more go, others get other names.
-/
set_option linter.unusedVariables false
set_option linter.unusedSimpArgs false
set_option linter.unusedSectionVars false
namespace Go.FL
variable [Fz]

def LP.ren (g : Nat → Nat) : LP → LP
  | .c x => .c (x.ren g)
  | .agg l => .agg (l.map (·.ren g))

def LV.ren (g : Nat → Nat) : LV → LV
  | .un => .un
  | .c x => .c (x.ren g)
  | .agg l => .agg (l.map (·.ren g))
  | .tup l => .tup (l.map (·.ren g))

def LP.low (k : Nat) : LP → Bool
  | .c x => x.low k
  | .agg l => lowL k l

def lowPs (k : Nat) : List LP → Bool
  | [] => true
  | x :: r => match x.low k with
    | true => lowPs k r
    | false => false

def LV.low (k : Nat) : LV → Bool
  | .un => true
  | .c x => x.low k
  | .agg l => lowL k l
  | .tup l => lowPs k l

section
variable {s s' : Mp} {g : Nat → Nat} {k : Nat}

theorem RelP.unren (hg : ∀ n r, n < k → hd s' (g n) = some r → hd s n = some r) : ∀ {x : LP}, x.low k = true → ∀ {v : Value}, RelP s' (x.ren g) v → RelP s x v
  | .c x, hx, v, h => RelC.unren hg hx h
  | .agg l, hx, v, ⟨cs, hv, h⟩ => ⟨cs, hv, RelL.unren hg hx h⟩

theorem RelPs.unren (hg : ∀ n r, n < k → hd s' (g n) = some r → hd s n = some r) : ∀ {l : List LP} {vs : List Value}, lowPs k l = true → RelPs s' (l.map (·.ren g)) vs → RelPs s l vs
  | [], [], _, _ => trivial
  | x :: l, _ :: _, hx, h => by
    simp only [lowPs] at hx
    split at hx
    · rename_i h1; exact ⟨h.1.unren hg h1, RelPs.unren hg hx h.2⟩
    · cases hx
  | [], _ :: _, _, h => h.elim
  | _ :: _, [], _, h => h.elim

theorem RelV.unren (hg : ∀ n r, n < k → hd s' (g n) = some r → hd s n = some r) : ∀ {x : LV}, x.low k = true → ∀ {v : Value}, RelV s' (x.ren g) v → RelV s x v
  | .un, _, _, _ => trivial
  | .c x, hx, v, h => RelC.unren hg hx h
  | .agg l, hx, v, ⟨cs, hv, h⟩ => ⟨cs, hv, RelL.unren hg hx h⟩
  | .tup l, hx, v, ⟨vs, hv, h⟩ => ⟨vs, hv, RelPs.unren hg hx h⟩
end

/-- The blocks of the new names. -/
def blocksAt (H : LH) (k : Nat) (c : List Nat) : List LB → List Nat → Prop
  | [], [] => True
  | b :: r, n :: ns => (b.low k = true ∧ H.get n = some (b.ren fun i => c.getD i 0)) ∧ blocksAt H k c r ns
  | _, _ => False

theorem blocksAt_get {H : LH} {k : Nat} {c : List Nat} : ∀ {bs : List LB} {ns : List Nat}, blocksAt H k c bs ns → ns.length = bs.length ∧
    ∀ (j : Nat) (b : LB), bs[j]? = some b → b.low k = true ∧ ∃ n, ns[j]? = some n ∧ H.bl[n]? = some (b.ren fun i => c.getD i 0)
  | [], [], _ => ⟨rfl, fun j b h => by simp at h⟩
  | b :: r, n :: ns, h => by
    obtain ⟨h1, h2⟩ := blocksAt_get h.2
    refine ⟨by simp [h1], fun j b' hj => ?_⟩
    cases j with
    | zero => simp at hj; subst hj; exact ⟨h.1.1, n, rfl, by rw [← LH.get_eq]; exact h.1.2⟩
    | succ j => simpa using h2 j b' (by simpa using hj)
  | [], _ :: _, h => h.elim
  | _ :: _, [], h => h.elim

/-- The first 'k' names stay; the others stand for others. -/
def stays (k : Nat) : Nat → List Nat → Bool
  | j, [] => Nat.ble k j
  | j, n :: r => match Nat.ble (j + 1) k with
    | true => match Nat.beq n j with
      | true => stays k (j + 1) r
      | false => false
    | false => match Nat.ble k n with
      | true => stays k (j + 1) r
      | false => false

def fewB : List Nat → Bool
  | [] => true
  | x :: r => match r.any (Nat.beq x) with
    | true => false
    | false => fewB r

def tmsAt (T : Tm) (k : Nat) (c : List Nat) : Tm → Prop
  | [] => True
  | (t, v) :: r => (v.low k = true ∧ Tm.get T t = v.ren fun i => c.getD i 0) ∧ tmsAt T k c r

/-- The state read anew. -/
def reab (k : Nat) (g : List Nat) (T : Tm) (H : LH) (T' : Tm) (H' : LH) : Prop :=
  (stays k 0 g && fewB g) = true ∧ blocksAt H g.length g H'.bl g ∧ tmsAt T g.length g T' ∧ ∀ n ∈ H.wr, n ∈ H'.wr

theorem stays_eq {k : Nat} : ∀ {g : List Nat} {j : Nat}, stays k j g = true → k ≤ j + g.length ∧ ∀ (i n : Nat), g[i]? = some n → (i + j < k → n = i + j) ∧ (k ≤ i + j → k ≤ n)
  | [], j, h => ⟨by simpa [stays] using h, fun i n hi => by simp at hi⟩
  | m :: r, j, h => by
    simp only [stays] at h
    split at h
    · rename_i hj
      have hj := Nat.le_of_ble_eq_true hj
      split at h
      · rename_i hm
        have hm := Nat.eq_of_beq_eq_true hm
        subst hm
        obtain ⟨h1, h2⟩ := stays_eq h
        refine ⟨by simp; omega, fun i n hi => ?_⟩
        cases i with
        | zero => simp at hi; subst hi; exact ⟨fun _ => by omega, fun _ => by omega⟩
        | succ i =>
          have := h2 i n (by simpa using hi)
          exact ⟨fun h => by have := this.1 (by omega); omega, fun h => this.2 (by omega)⟩
      · cases h
    · rename_i hj
      have hj : ¬ (j + 1 ≤ k) := by intro hc; rw [Nat.ble_eq_true_of_le hc] at hj; cases hj
      split at h
      · rename_i hm
        have hm := Nat.le_of_ble_eq_true hm
        obtain ⟨h1, h2⟩ := stays_eq h
        refine ⟨by simp; omega, fun i n hi => ?_⟩
        cases i with
        | zero => simp at hi; subst hi; exact ⟨fun _ => by omega, fun _ => hm⟩
        | succ i =>
          have := h2 i n (by simpa using hi)
          exact ⟨fun h => by have := this.1 (by omega); omega, fun h => this.2 (by omega)⟩
      · cases h

theorem fewB_eq : ∀ {l : List Nat}, fewB l = true → l.Nodup
  | [], _ => List.nodup_nil
  | x :: r, h => by
    simp only [fewB] at h
    split at h
    · cases h
    · rename_i hx
      refine List.nodup_cons.2 ⟨fun hm => ?_, fewB_eq h⟩
      have : r.any (Nat.beq x) = true := List.any_eq_true.2 ⟨x, hm, Nat.beq_refl x⟩
      rw [this] at hx; cases hx

theorem tmsAt_get {T : Tm} {k : Nat} {c : List Nat} : ∀ {T' : Tm}, tmsAt T k c T' → ∀ t, Tm.get T' t = .un ∨ ((Tm.get T' t).low k = true ∧ Tm.get T t = (Tm.get T' t).ren fun i => c.getD i 0)
  | [], _, t => .inl rfl
  | (u, v) :: r, h, t => by
    simp only [Tm.get]
    split
    · rename_i he
      have he := Nat.eq_of_beq_eq_true he
      subst he
      exact .inr h.1
    · exact tmsAt_get h.2 t

theorem reab_ok {s0 s : Mp} {H0 H H' : LH} {w0 w : World} {T T' : Tm} {nt : Nat} {a : Act} {g : List Nat} (hH : Rel s H w) (hT : RelT s nt T a) (hp : Post s0 H0 w0 s H w) (h : reab s0.length g T H T' H') :
    ∃ s', Rel s' H' w ∧ RelT s' nt T' a ∧ Post s0 H0 w0 s' H' w := by
  obtain ⟨hg, hb, ht, hwr⟩ := h
  simp only [Bool.and_eq_true] at hg
  obtain ⟨hlen0, hst⟩ := stays_eq hg.1
  have hnd := fewB_eq hg.2
  obtain ⟨hlb, hbs⟩ := blocksAt_get hb
  have hin : ∀ (j n : Nat), g[j]? = some n → n < s.length := by
    intro j n hj
    have hjl : j < H'.bl.length := by rw [← hlb]; exact (List.getElem?_eq_some_iff.1 hj).1
    obtain ⟨_, m, hm, hbl⟩ := hbs j _ (List.getElem?_eq_getElem hjl)
    rw [hj] at hm; cases hm
    rw [hH.len]
    exact (List.getElem?_eq_some_iff.1 hbl).1
  have hget : ∀ (j n : Nat), g[j]? = some n → (g.map fun n => (s[n]?).getD (0, []))[j]? = s[n]? := by
    intro j n hj
    have := hin j n hj
    rw [List.getElem?_map, hj]
    simp only [Option.map_some, List.getElem?_eq_getElem this, Option.getD_some]
  have hgd : ∀ (j n : Nat), g[j]? = some n → g.getD j 0 = n := by
    intro j n hj
    rw [List.getD_eq_getElem?_getD, hj]; rfl
  have hhd : ∀ n r, n < g.length → hd s (g.getD n 0) = some r → hd (g.map fun n => (s[n]?).getD (0, [])) n = some r := by
    intro n r hn hr
    have h1 := List.getElem?_eq_getElem hn
    rw [hgd n _ h1] at hr
    unfold hd at hr ⊢
    rw [hget n _ h1]
    exact hr
  have hown : ∀ n y, ownB (g.map fun n => (s[n]?).getD (0, [])) n y → ∃ m, g[n]? = some m ∧ ownB s m y := by
    rintro n y ⟨r, f, h1, h2⟩
    have hn : n < g.length := by have := (List.getElem?_eq_some_iff.1 h1).1; simpa using this
    have h3 := List.getElem?_eq_getElem hn
    rw [hget n _ h3] at h1
    exact ⟨_, h3, r, f, h1, h2⟩
  refine ⟨g.map fun n => (s[n]?).getD (0, []), ⟨by simp [hlb], ?_, ?_, ?_, ?_⟩, ⟨hT.1, fun t => ?_⟩, ⟨?_, by simpa using hlen0, ?_, ?_, fun n hn => hwr n (hp.wr n hn), hp.size, ?_, hp.tape, hp.os, hp.output⟩⟩
  · intro n b r f hn hs
    obtain ⟨hlow, m, hm, hbl⟩ := hbs n b hn
    rw [hget n m hm] at hs
    exact RelB.unren hhd hlow (hH.blk _ _ _ _ hbl hs)
  · intro n m y hn hm
    obtain ⟨a1, h1, h2⟩ := hown n y hn
    obtain ⟨a2, h3, h4⟩ := hown m y hm
    have := hH.dis _ _ _ h2 h4
    subst this
    exact (List.getElem?_inj (List.getElem?_eq_some_iff.1 h1).1 hnd).1 (h1.trans h3.symm)
  · intro n y hn
    obtain ⟨m, _, h2⟩ := hown n y hn
    exact hH.bnd m y h2
  · intro q o hF
    refine ⟨(hH.frz q o hF).1, fun n hn => ?_⟩
    obtain ⟨m, _, h2⟩ := hown n q hn
    exact (hH.frz q o hF).2 m h2
  · rcases tmsAt_get ht t with h1 | ⟨h1, h2⟩
    · rw [h1]; trivial
    · have := hT.2 t
      rw [h2] at this
      exact this.unren hhd h1
  · intro n r hr
    have hn := hd_lt hr
    have hng : n < g.length := by omega
    have h1 := List.getElem?_eq_getElem hng
    have h2 := (hst n _ h1).1 (by omega)
    refine hhd n r hng ?_
    rw [hgd n _ h1, h2]
    exact hp.hext n r hr
  · intro n y hn hlt
    obtain ⟨m, h1, h2⟩ := hown n y hn
    obtain ⟨h3, h4⟩ := hp.fresh m y h2 hlt
    have h5 := hst n m h1
    have hnk : n < s0.length := by
      rcases Nat.lt_or_ge n s0.length with h | h
      · exact h
      · have := h5.2 (by omega); omega
    have := h5.1 (by omega)
    have : m = n := by omega
    subst this
    exact ⟨h3, h4⟩
  · intro n hn hni
    have hng : n < g.length := by omega
    have h1 := List.getElem?_eq_getElem hng
    have h2 := (hst n _ h1).1 (by omega)
    rw [hget n _ h1, h2]
    exact hp.keep n hn fun hi => hni (hwr n hi)
  · intro y hy hno
    exact hp.frame y hy fun n hn => hno n (hwr n hn)

section
variable {P : Program}

/-- Behind a round, the state read anew. -/
def loopKR (k : Nat) (I : Nat → Tm → LH → Prop) (K : X → Tm → LH → Prop) (n : Nat) : X → Tm → LH → Prop := fun x T H => match x with
  | .normal => ∃ n', n' < n ∧ ∃ g T' H', reab k g T H T' H' ∧ I n' T' H'
  | x => ∃ g T' H', reab k g T H T' H' ∧ K x T' H'

theorem loopR_ok {nt : Nat} {c : Code} {body : Tm → LH → (X → Tm → LH → Prop) → Prop} (hb : BodyOK P nt c body) {h : LHd}
    (hh : ∀ T H K, h T H K → ∃ ts I, (∃ n, I n (Tm.norm ts T) H) ∧ ∀ n T' H', I n T' H' → body T' H' fun x T₁ H₁ => loopKR H.bl.length I K n x (Tm.norm ts T₁) H₁) : BodyOK P nt (.loop c) h := by
  intro T H K s a w Q h0 hT hH hQ
  obtain ⟨ts, I, ⟨n0, h0⟩, hround⟩ := hh T H K h0
  refine loop_fall (nt := nt) (fun n a' w' => ∃ T' H' s', I n T' H' ∧ RelT s' nt T' a' ∧ Rel s' H' w' ∧ Post s H w s' H' w') ⟨n0, _, H, s, h0, hT.norm ts, hH, Post.rfl'⟩ ?_
  rintro n a' w' ⟨T', H', s', h1, h2, h3, h4⟩
  refine hb.use (hround _ _ _ h1) h2 h3 ?_
  intro x s'' T'' H'' a'' w'' hK hT'' hH'' hp
  have hps := h4.trans hp
  have hT'' := hT''.norm ts
  rw [← hH.len] at hK
  cases x with
  | normal =>
    obtain ⟨n', hlt, g, T1, H1, hre, hI⟩ := hK
    obtain ⟨s1, h5, h6, h7⟩ := reab_ok hH'' hT'' hps hre
    exact ⟨n', hlt, T1, H1, s1, hI, h6, h5, h7⟩
  | exit id =>
    obtain ⟨g, T1, H1, hre, hK⟩ := hK
    obtain ⟨s1, h5, h6, h7⟩ := reab_ok hH'' hT'' hps hre
    exact hQ (.exit id) s1 _ _ a'' w'' hK h6 h5 h7
  | ret =>
    obtain ⟨g, T1, H1, hre, hK⟩ := hK
    obtain ⟨s1, h5, h6, h7⟩ := reab_ok hH'' hT'' hps hre
    exact hQ .ret s1 _ _ a'' w'' hK h6 h5 h7
end
end Go.FL

/-
  Blocks read as the compactor's objects again.
-/
set_option linter.unusedVariables false
set_option linter.unusedSimpArgs false
set_option linter.unusedSectionVars false
set_option linter.unusedSectionVars false
namespace Go.FL
variable [Fz]

def shMove (H : LH) (n : Nat) (k : PMove → List Nat → Prop) : Prop := match H.get n with
  | some (.cells 147 [.int .i64 addr, .int .i64 h1, .int .i64 h2, .int .i64 h3, .int .i64 h4, .bool h5, .int .i64 pc, .int .u64 w, p, .int .i64 sa, .int .i64 sc, .bool got, .int .i64 i, .int .u64 cell, .int .i64 m, .int .i64 out]) =>
    match p with
    | .nilp => k ⟨addr, ⟨h1, h2, h3, h4, h5⟩, pc, w, none, sa, sc, got, i, cell, m, out⟩ [n]
    | .ptr j 0 => match H.get j with
      | some (.obj (.place p)) => k ⟨addr, ⟨h1, h2, h3, h4, h5⟩, pc, w, some p, sa, sc, got, i, cell, m, out⟩ [n, j]
      | _ => False
    | _ => False
  | _ => False

def shAdv (H : LH) (n : Nat) (k : PAdv → List Nat → Prop) : Prop := match H.get n with
  | some (.cells 157 [.int .i64 pc, .int .u64 now, .int .i64 at_, .bool went]) => k ⟨pc, now, at_, went⟩ [n]
  | _ => False

def shSettle (H : LH) (n : Nat) (k : PSettle → List Nat → Prop) : Prop := match H.get n with
  | some (.cells 175 [.int .i64 chunk, .int .i64 pc, .int .u64 w, .int .u64 since, .int .i64 at_, .bool freed]) => k ⟨chunk, pc, w, since, at_, freed⟩ [n]
  | _ => False

theorem shMove_ok {H : LH} {n : Nat} {k : PMove → List Nat → Prop} (h : shMove H n k) : ∃ x c, k x c ∧ Clus H c (true, .move x) := by
  unfold shMove at h
  split at h
  · rename_i hg
    split at h
    · exact ⟨_, _, h, clus1 rfl rfl hg⟩
    · split at h
      · rename_i hi; exact ⟨_, _, h, clus2 rfl rfl rfl hg hi⟩
      · exact h.elim
    · exact h.elim
  · exact h.elim

theorem shAdv_ok {H : LH} {n : Nat} {k : PAdv → List Nat → Prop} (h : shAdv H n k) : ∃ x c, k x c ∧ Clus H c (true, .adv x) := by
  unfold shAdv at h
  split at h
  · rename_i hg; exact ⟨_, _, h, clus1 rfl rfl hg⟩
  · exact h.elim

theorem shSettle_ok {H : LH} {n : Nat} {k : PSettle → List Nat → Prop} (h : shSettle H n k) : ∃ x c, k x c ∧ Clus H c (true, .settle x) := by
  unfold shSettle at h
  split at h
  · rename_i hg; exact ⟨_, _, h, clus1 rfl rfl hg⟩
  · exact h.elim

theorem clusN {H : LH} {c : List Nat} {x : Ob} {bs : List LB} (he : ex x = bs) (h : blocksAt H c.length c bs c) : Clus H c (true, x) := by
  obtain ⟨h1, h2⟩ := blocksAt_get h
  refine ⟨by simp [exB, he, h1], ?_⟩
  intro j b hj
  simp only [exB, he] at hj
  exact h2 j b hj

def shComp (H : LH) (n : Nat) (k : PComp → Nat → List Nat → Prop) : Prop := match H.get n with
  | some (.cells 95 [.int .i64 pc, sl, .int .i64 at_, .int .i64 pos, .int .u64 w, .int .u64 now, pm, pa, pt, .int .i64 k1, .int .i64 k2, .int .i64 k3, .int .i64 k4, .int .i64 k5, .int .i64 l1, .int .i64 l2, .int .i64 l3, .int .i64 l4, .int .i64 l5, .int .i64 idle]) =>
    match sl with
    | .nils =>
      match pm with
      | .nilp =>
        match pa with
        | .nilp =>
          match pt with
          | .nilp => k ⟨pc, none, at_, pos, w, now, none, none, none, ⟨k1, k2, k3, k4, k5⟩, ⟨l1, l2, l3, l4, l5⟩, idle⟩ 0 [n]
          | .ptr jt 0 => match H.get jt with
            | some (.obj (.settle xpt)) => k ⟨pc, none, at_, pos, w, now, none, none, (some xpt), ⟨k1, k2, k3, k4, k5⟩, ⟨l1, l2, l3, l4, l5⟩, idle⟩ 0 [n, jt]
            | _ => False
          | _ => False
        | .ptr ja 0 => match H.get ja with
          | some (.obj (.adv xpa)) =>
            match pt with
            | .nilp => k ⟨pc, none, at_, pos, w, now, none, (some xpa), none, ⟨k1, k2, k3, k4, k5⟩, ⟨l1, l2, l3, l4, l5⟩, idle⟩ 0 [n, ja]
            | .ptr jt 0 => match H.get jt with
              | some (.obj (.settle xpt)) => k ⟨pc, none, at_, pos, w, now, none, (some xpa), (some xpt), ⟨k1, k2, k3, k4, k5⟩, ⟨l1, l2, l3, l4, l5⟩, idle⟩ 0 [n, ja, jt]
              | _ => False
            | _ => False
          | _ => False
        | _ => False
      | .ptr jm 0 => match H.get jm with
        | some (.obj (.move xpm)) =>
          match pa with
          | .nilp =>
            match pt with
            | .nilp => k ⟨pc, none, at_, pos, w, now, (some xpm), none, none, ⟨k1, k2, k3, k4, k5⟩, ⟨l1, l2, l3, l4, l5⟩, idle⟩ 0 [n, jm]
            | .ptr jt 0 => match H.get jt with
              | some (.obj (.settle xpt)) => k ⟨pc, none, at_, pos, w, now, (some xpm), none, (some xpt), ⟨k1, k2, k3, k4, k5⟩, ⟨l1, l2, l3, l4, l5⟩, idle⟩ 0 [n, jm, jt]
              | _ => False
            | _ => False
          | .ptr ja 0 => match H.get ja with
            | some (.obj (.adv xpa)) =>
              match pt with
              | .nilp => k ⟨pc, none, at_, pos, w, now, (some xpm), (some xpa), none, ⟨k1, k2, k3, k4, k5⟩, ⟨l1, l2, l3, l4, l5⟩, idle⟩ 0 [n, jm, ja]
              | .ptr jt 0 => match H.get jt with
                | some (.obj (.settle xpt)) => k ⟨pc, none, at_, pos, w, now, (some xpm), (some xpa), (some xpt), ⟨k1, k2, k3, k4, k5⟩, ⟨l1, l2, l3, l4, l5⟩, idle⟩ 0 [n, jm, ja, jt]
                | _ => False
              | _ => False
            | _ => False
          | _ => False
        | _ => False
      | _ => False
    | .slice j1 0 len cap => match H.get j1 with
      | some (.rows 138 6 len' cap' [.int .i64 c1, .int .i64 c2, .int .i64 c3, .int .i64 c4, .int .i64 c5, .bool c6]) => (len = len' ∧ cap = cap') ∧ (
        match pm with
        | .nilp =>
          match pa with
          | .nilp =>
            match pt with
            | .nilp => k ⟨pc, (some ⟨len', c1, c2, c3, c4, c5, c6⟩), at_, pos, w, now, none, none, none, ⟨k1, k2, k3, k4, k5⟩, ⟨l1, l2, l3, l4, l5⟩, idle⟩ cap' [n, j1]
            | .ptr jt 0 => match H.get jt with
              | some (.obj (.settle xpt)) => k ⟨pc, (some ⟨len', c1, c2, c3, c4, c5, c6⟩), at_, pos, w, now, none, none, (some xpt), ⟨k1, k2, k3, k4, k5⟩, ⟨l1, l2, l3, l4, l5⟩, idle⟩ cap' [n, j1, jt]
              | _ => False
            | _ => False
          | .ptr ja 0 => match H.get ja with
            | some (.obj (.adv xpa)) =>
              match pt with
              | .nilp => k ⟨pc, (some ⟨len', c1, c2, c3, c4, c5, c6⟩), at_, pos, w, now, none, (some xpa), none, ⟨k1, k2, k3, k4, k5⟩, ⟨l1, l2, l3, l4, l5⟩, idle⟩ cap' [n, j1, ja]
              | .ptr jt 0 => match H.get jt with
                | some (.obj (.settle xpt)) => k ⟨pc, (some ⟨len', c1, c2, c3, c4, c5, c6⟩), at_, pos, w, now, none, (some xpa), (some xpt), ⟨k1, k2, k3, k4, k5⟩, ⟨l1, l2, l3, l4, l5⟩, idle⟩ cap' [n, j1, ja, jt]
                | _ => False
              | _ => False
            | _ => False
          | _ => False
        | .ptr jm 0 => match H.get jm with
          | some (.obj (.move xpm)) =>
            match pa with
            | .nilp =>
              match pt with
              | .nilp => k ⟨pc, (some ⟨len', c1, c2, c3, c4, c5, c6⟩), at_, pos, w, now, (some xpm), none, none, ⟨k1, k2, k3, k4, k5⟩, ⟨l1, l2, l3, l4, l5⟩, idle⟩ cap' [n, j1, jm]
              | .ptr jt 0 => match H.get jt with
                | some (.obj (.settle xpt)) => k ⟨pc, (some ⟨len', c1, c2, c3, c4, c5, c6⟩), at_, pos, w, now, (some xpm), none, (some xpt), ⟨k1, k2, k3, k4, k5⟩, ⟨l1, l2, l3, l4, l5⟩, idle⟩ cap' [n, j1, jm, jt]
                | _ => False
              | _ => False
            | .ptr ja 0 => match H.get ja with
              | some (.obj (.adv xpa)) =>
                match pt with
                | .nilp => k ⟨pc, (some ⟨len', c1, c2, c3, c4, c5, c6⟩), at_, pos, w, now, (some xpm), (some xpa), none, ⟨k1, k2, k3, k4, k5⟩, ⟨l1, l2, l3, l4, l5⟩, idle⟩ cap' [n, j1, jm, ja]
                | .ptr jt 0 => match H.get jt with
                  | some (.obj (.settle xpt)) => k ⟨pc, (some ⟨len', c1, c2, c3, c4, c5, c6⟩), at_, pos, w, now, (some xpm), (some xpa), (some xpt), ⟨k1, k2, k3, k4, k5⟩, ⟨l1, l2, l3, l4, l5⟩, idle⟩ cap' [n, j1, jm, ja, jt]
                  | _ => False
                | _ => False
              | _ => False
            | _ => False
          | _ => False
        | _ => False
        )
      | _ => False
    | _ => False
  | _ => False

theorem shComp_ok {H : LH} {n : Nat} {k : PComp → Nat → List Nat → Prop} (h : shComp H n k) : ∃ x cap c, k x cap c ∧ Clus H c (true, .comp x cap) := by
  unfold shComp at h
  split at h
  case h_2 => exact h.elim
  rename_i hg
  split at h
  case h_3 => exact h.elim
  · skip
    split at h
    case h_3 => exact h.elim
    · skip
      split at h
      case h_3 => exact h.elim
      · skip
        split at h
        case h_3 => exact h.elim
        · skip
          exact ⟨_, _, _, h, clusN rfl ⟨⟨rfl, hg⟩, trivial⟩⟩
        · split at h
          case h_2 => exact h.elim
          rename_i hpt
          exact ⟨_, _, _, h, clusN rfl ⟨⟨rfl, hg⟩, ⟨rfl, hpt⟩, trivial⟩⟩
      · split at h
        case h_2 => exact h.elim
        rename_i hpa
        split at h
        case h_3 => exact h.elim
        · skip
          exact ⟨_, _, _, h, clusN rfl ⟨⟨rfl, hg⟩, ⟨rfl, hpa⟩, trivial⟩⟩
        · split at h
          case h_2 => exact h.elim
          rename_i hpt
          exact ⟨_, _, _, h, clusN rfl ⟨⟨rfl, hg⟩, ⟨rfl, hpa⟩, ⟨rfl, hpt⟩, trivial⟩⟩
    · split at h
      case h_2 => exact h.elim
      rename_i hpm
      split at h
      case h_3 => exact h.elim
      · skip
        split at h
        case h_3 => exact h.elim
        · skip
          exact ⟨_, _, _, h, clusN rfl ⟨⟨rfl, hg⟩, ⟨rfl, hpm⟩, trivial⟩⟩
        · split at h
          case h_2 => exact h.elim
          rename_i hpt
          exact ⟨_, _, _, h, clusN rfl ⟨⟨rfl, hg⟩, ⟨rfl, hpm⟩, ⟨rfl, hpt⟩, trivial⟩⟩
      · split at h
        case h_2 => exact h.elim
        rename_i hpa
        split at h
        case h_3 => exact h.elim
        · skip
          exact ⟨_, _, _, h, clusN rfl ⟨⟨rfl, hg⟩, ⟨rfl, hpm⟩, ⟨rfl, hpa⟩, trivial⟩⟩
        · split at h
          case h_2 => exact h.elim
          rename_i hpt
          exact ⟨_, _, _, h, clusN rfl ⟨⟨rfl, hg⟩, ⟨rfl, hpm⟩, ⟨rfl, hpa⟩, ⟨rfl, hpt⟩, trivial⟩⟩
  · split at h
    case h_2 => exact h.elim
    rename_i hs
    obtain ⟨⟨rfl, rfl⟩, h⟩ := h
    split at h
    case h_3 => exact h.elim
    · skip
      split at h
      case h_3 => exact h.elim
      · skip
        split at h
        case h_3 => exact h.elim
        · skip
          exact ⟨_, _, _, h, clusN rfl ⟨⟨rfl, hg⟩, ⟨rfl, hs⟩, trivial⟩⟩
        · split at h
          case h_2 => exact h.elim
          rename_i hpt
          exact ⟨_, _, _, h, clusN rfl ⟨⟨rfl, hg⟩, ⟨rfl, hs⟩, ⟨rfl, hpt⟩, trivial⟩⟩
      · split at h
        case h_2 => exact h.elim
        rename_i hpa
        split at h
        case h_3 => exact h.elim
        · skip
          exact ⟨_, _, _, h, clusN rfl ⟨⟨rfl, hg⟩, ⟨rfl, hs⟩, ⟨rfl, hpa⟩, trivial⟩⟩
        · split at h
          case h_2 => exact h.elim
          rename_i hpt
          exact ⟨_, _, _, h, clusN rfl ⟨⟨rfl, hg⟩, ⟨rfl, hs⟩, ⟨rfl, hpa⟩, ⟨rfl, hpt⟩, trivial⟩⟩
    · split at h
      case h_2 => exact h.elim
      rename_i hpm
      split at h
      case h_3 => exact h.elim
      · skip
        split at h
        case h_3 => exact h.elim
        · skip
          exact ⟨_, _, _, h, clusN rfl ⟨⟨rfl, hg⟩, ⟨rfl, hs⟩, ⟨rfl, hpm⟩, trivial⟩⟩
        · split at h
          case h_2 => exact h.elim
          rename_i hpt
          exact ⟨_, _, _, h, clusN rfl ⟨⟨rfl, hg⟩, ⟨rfl, hs⟩, ⟨rfl, hpm⟩, ⟨rfl, hpt⟩, trivial⟩⟩
      · split at h
        case h_2 => exact h.elim
        rename_i hpa
        split at h
        case h_3 => exact h.elim
        · skip
          exact ⟨_, _, _, h, clusN rfl ⟨⟨rfl, hg⟩, ⟨rfl, hs⟩, ⟨rfl, hpm⟩, ⟨rfl, hpa⟩, trivial⟩⟩
        · split at h
          case h_2 => exact h.elim
          rename_i hpt
          exact ⟨_, _, _, h, clusN rfl ⟨⟨rfl, hg⟩, ⟨rfl, hs⟩, ⟨rfl, hpm⟩, ⟨rfl, hpa⟩, ⟨rfl, hpt⟩, trivial⟩⟩

end Go.FL

/-
  Steps of the program's objects, as the evaluator has them.
-/
set_option linter.unusedVariables false
set_option linter.unusedSimpArgs false
set_option maxRecDepth 100000
namespace Go.FL

def moveStep0K {R : Type} (bot : R) (tw : (Prop → Prop) → R → R) (c : PCfg) (who : Int) (x : PMove) (m : PMem) (K : Bool → PMove → PMem → R) : R :=
  bif decide (x.pc = 0) then
   bif decide ((slotOf (PMem.eLoad m who (lSlot c.threads c.slots c.chunks c.words c.gens c.sparse c.tries x.head.slot)).fst).fst = 4) then
    bif decide ((slotOf (PMem.eLoad m who (lSlot c.threads c.slots c.chunks c.words c.gens c.sparse c.tries x.head.slot)).fst).snd.snd.fst = x.head.gen) then
     bif decide ((slotOf (PMem.eLoad m who (lSlot c.threads c.slots c.chunks c.words c.gens c.sparse c.tries x.head.slot)).fst).snd.fst = x.addr) then
      bif x.got then
       K (!x.got) ⟨(x.addr), ⟨(x.head.kind), (x.head.size), (x.head.slot), (x.head.gen), (x.head.own)⟩, 11, ((PMem.eLoad m who (lSlot c.threads c.slots c.chunks c.words c.gens c.sparse c.tries x.head.slot)).fst), none, (x.sa), (x.sc), (x.got), (x.i), (x.cell), (x.n), 3⟩ ((PMem.eLoad m who (lSlot c.threads c.slots c.chunks c.words c.gens c.sparse c.tries x.head.slot)).snd)
      else
       K (!x.got) ⟨(x.addr), ⟨(x.head.kind), (x.head.size), (x.head.slot), (x.head.gen), (x.head.own)⟩, (x.pc), ((PMem.eLoad m who (lSlot c.threads c.slots c.chunks c.words c.gens c.sparse c.tries x.head.slot)).fst), none, (x.sa), (x.sc), (x.got), (x.i), (x.cell), (x.n), 3⟩ ((PMem.eLoad m who (lSlot c.threads c.slots c.chunks c.words c.gens c.sparse c.tries x.head.slot)).snd)
     else
      bif !decide ((slotOf (PMem.eLoad m who (lSlot c.threads c.slots c.chunks c.words c.gens c.sparse c.tries x.head.slot)).fst).fst = 1) then
       bif x.got then
        K (!x.got) ⟨(x.addr), ⟨(x.head.kind), (x.head.size), (x.head.slot), (x.head.gen), (x.head.own)⟩, 11, ((PMem.eLoad m who (lSlot c.threads c.slots c.chunks c.words c.gens c.sparse c.tries x.head.slot)).fst), none, (x.sa), (x.sc), (x.got), (x.i), (x.cell), (x.n), 2⟩ ((PMem.eLoad m who (lSlot c.threads c.slots c.chunks c.words c.gens c.sparse c.tries x.head.slot)).snd)
       else
        K (!x.got) ⟨(x.addr), ⟨(x.head.kind), (x.head.size), (x.head.slot), (x.head.gen), (x.head.own)⟩, (x.pc), ((PMem.eLoad m who (lSlot c.threads c.slots c.chunks c.words c.gens c.sparse c.tries x.head.slot)).fst), none, (x.sa), (x.sc), (x.got), (x.i), (x.cell), (x.n), 2⟩ ((PMem.eLoad m who (lSlot c.threads c.slots c.chunks c.words c.gens c.sparse c.tries x.head.slot)).snd)
      else
       bif !decide ((slotOf (PMem.eLoad m who (lSlot c.threads c.slots c.chunks c.words c.gens c.sparse c.tries x.head.slot)).fst).snd.snd.fst = x.head.gen) then
        bif x.got then
         K (!x.got) ⟨(x.addr), ⟨(x.head.kind), (x.head.size), (x.head.slot), (x.head.gen), (x.head.own)⟩, 11, ((PMem.eLoad m who (lSlot c.threads c.slots c.chunks c.words c.gens c.sparse c.tries x.head.slot)).fst), none, (x.sa), (x.sc), (x.got), (x.i), (x.cell), (x.n), 2⟩ ((PMem.eLoad m who (lSlot c.threads c.slots c.chunks c.words c.gens c.sparse c.tries x.head.slot)).snd)
        else
         K (!x.got) ⟨(x.addr), ⟨(x.head.kind), (x.head.size), (x.head.slot), (x.head.gen), (x.head.own)⟩, (x.pc), ((PMem.eLoad m who (lSlot c.threads c.slots c.chunks c.words c.gens c.sparse c.tries x.head.slot)).fst), none, (x.sa), (x.sc), (x.got), (x.i), (x.cell), (x.n), 2⟩ ((PMem.eLoad m who (lSlot c.threads c.slots c.chunks c.words c.gens c.sparse c.tries x.head.slot)).snd)
       else
        bif !decide ((slotOf (PMem.eLoad m who (lSlot c.threads c.slots c.chunks c.words c.gens c.sparse c.tries x.head.slot)).fst).snd.fst = x.addr) then
         bif x.got then
          K (!x.got) ⟨(x.addr), ⟨(x.head.kind), (x.head.size), (x.head.slot), (x.head.gen), (x.head.own)⟩, 11, ((PMem.eLoad m who (lSlot c.threads c.slots c.chunks c.words c.gens c.sparse c.tries x.head.slot)).fst), none, (x.sa), (x.sc), (x.got), (x.i), (x.cell), (x.n), 2⟩ ((PMem.eLoad m who (lSlot c.threads c.slots c.chunks c.words c.gens c.sparse c.tries x.head.slot)).snd)
         else
          K (!x.got) ⟨(x.addr), ⟨(x.head.kind), (x.head.size), (x.head.slot), (x.head.gen), (x.head.own)⟩, (x.pc), ((PMem.eLoad m who (lSlot c.threads c.slots c.chunks c.words c.gens c.sparse c.tries x.head.slot)).fst), none, (x.sa), (x.sc), (x.got), (x.i), (x.cell), (x.n), 2⟩ ((PMem.eLoad m who (lSlot c.threads c.slots c.chunks c.words c.gens c.sparse c.tries x.head.slot)).snd)
        else
         bif decide (4194302 ≤ (slotOf (PMem.eLoad m who (lSlot c.threads c.slots c.chunks c.words c.gens c.sparse c.tries x.head.slot)).fst).snd.snd.snd) then
          bif x.got then
           K (!x.got) ⟨(x.addr), ⟨(x.head.kind), (x.head.size), (x.head.slot), (x.head.gen), (x.head.own)⟩, 11, ((PMem.eLoad m who (lSlot c.threads c.slots c.chunks c.words c.gens c.sparse c.tries x.head.slot)).fst), none, (x.sa), (x.sc), (x.got), (x.i), (x.cell), (x.n), 3⟩ ((PMem.eLoad m who (lSlot c.threads c.slots c.chunks c.words c.gens c.sparse c.tries x.head.slot)).snd)
          else
           K (!x.got) ⟨(x.addr), ⟨(x.head.kind), (x.head.size), (x.head.slot), (x.head.gen), (x.head.own)⟩, (x.pc), ((PMem.eLoad m who (lSlot c.threads c.slots c.chunks c.words c.gens c.sparse c.tries x.head.slot)).fst), none, (x.sa), (x.sc), (x.got), (x.i), (x.cell), (x.n), 3⟩ ((PMem.eLoad m who (lSlot c.threads c.slots c.chunks c.words c.gens c.sparse c.tries x.head.slot)).snd)
         else
          bif x.got then
           K false ⟨(x.addr), ⟨(x.head.kind), (x.head.size), (x.head.slot), (x.head.gen), (x.head.own)⟩, 3, ((PMem.eLoad m who (lSlot c.threads c.slots c.chunks c.words c.gens c.sparse c.tries x.head.slot)).fst), none, (x.sa), (x.sc), (x.got), (x.i), (x.cell), (x.n), (x.out)⟩ ((PMem.eLoad m who (lSlot c.threads c.slots c.chunks c.words c.gens c.sparse c.tries x.head.slot)).snd)
          else
           K false ⟨(x.addr), ⟨(x.head.kind), (x.head.size), (x.head.slot), (x.head.gen), (x.head.own)⟩, 1, ((PMem.eLoad m who (lSlot c.threads c.slots c.chunks c.words c.gens c.sparse c.tries x.head.slot)).fst), (some ⟨(lClass x.head.size), 0, 0, 0, 0, 0, 0, false⟩), (x.sa), (x.sc), (x.got), (x.i), (x.cell), (x.n), (x.out)⟩ ((PMem.eLoad m who (lSlot c.threads c.slots c.chunks c.words c.gens c.sparse c.tries x.head.slot)).snd)
    else
     bif !decide ((slotOf (PMem.eLoad m who (lSlot c.threads c.slots c.chunks c.words c.gens c.sparse c.tries x.head.slot)).fst).fst = 1) then
      bif x.got then
       K (!x.got) ⟨(x.addr), ⟨(x.head.kind), (x.head.size), (x.head.slot), (x.head.gen), (x.head.own)⟩, 11, ((PMem.eLoad m who (lSlot c.threads c.slots c.chunks c.words c.gens c.sparse c.tries x.head.slot)).fst), none, (x.sa), (x.sc), (x.got), (x.i), (x.cell), (x.n), 2⟩ ((PMem.eLoad m who (lSlot c.threads c.slots c.chunks c.words c.gens c.sparse c.tries x.head.slot)).snd)
      else
       K (!x.got) ⟨(x.addr), ⟨(x.head.kind), (x.head.size), (x.head.slot), (x.head.gen), (x.head.own)⟩, (x.pc), ((PMem.eLoad m who (lSlot c.threads c.slots c.chunks c.words c.gens c.sparse c.tries x.head.slot)).fst), none, (x.sa), (x.sc), (x.got), (x.i), (x.cell), (x.n), 2⟩ ((PMem.eLoad m who (lSlot c.threads c.slots c.chunks c.words c.gens c.sparse c.tries x.head.slot)).snd)
     else
      bif !decide ((slotOf (PMem.eLoad m who (lSlot c.threads c.slots c.chunks c.words c.gens c.sparse c.tries x.head.slot)).fst).snd.snd.fst = x.head.gen) then
       bif x.got then
        K (!x.got) ⟨(x.addr), ⟨(x.head.kind), (x.head.size), (x.head.slot), (x.head.gen), (x.head.own)⟩, 11, ((PMem.eLoad m who (lSlot c.threads c.slots c.chunks c.words c.gens c.sparse c.tries x.head.slot)).fst), none, (x.sa), (x.sc), (x.got), (x.i), (x.cell), (x.n), 2⟩ ((PMem.eLoad m who (lSlot c.threads c.slots c.chunks c.words c.gens c.sparse c.tries x.head.slot)).snd)
       else
        K (!x.got) ⟨(x.addr), ⟨(x.head.kind), (x.head.size), (x.head.slot), (x.head.gen), (x.head.own)⟩, (x.pc), ((PMem.eLoad m who (lSlot c.threads c.slots c.chunks c.words c.gens c.sparse c.tries x.head.slot)).fst), none, (x.sa), (x.sc), (x.got), (x.i), (x.cell), (x.n), 2⟩ ((PMem.eLoad m who (lSlot c.threads c.slots c.chunks c.words c.gens c.sparse c.tries x.head.slot)).snd)
      else
       bif !decide ((slotOf (PMem.eLoad m who (lSlot c.threads c.slots c.chunks c.words c.gens c.sparse c.tries x.head.slot)).fst).snd.fst = x.addr) then
        bif x.got then
         K (!x.got) ⟨(x.addr), ⟨(x.head.kind), (x.head.size), (x.head.slot), (x.head.gen), (x.head.own)⟩, 11, ((PMem.eLoad m who (lSlot c.threads c.slots c.chunks c.words c.gens c.sparse c.tries x.head.slot)).fst), none, (x.sa), (x.sc), (x.got), (x.i), (x.cell), (x.n), 2⟩ ((PMem.eLoad m who (lSlot c.threads c.slots c.chunks c.words c.gens c.sparse c.tries x.head.slot)).snd)
        else
         K (!x.got) ⟨(x.addr), ⟨(x.head.kind), (x.head.size), (x.head.slot), (x.head.gen), (x.head.own)⟩, (x.pc), ((PMem.eLoad m who (lSlot c.threads c.slots c.chunks c.words c.gens c.sparse c.tries x.head.slot)).fst), none, (x.sa), (x.sc), (x.got), (x.i), (x.cell), (x.n), 2⟩ ((PMem.eLoad m who (lSlot c.threads c.slots c.chunks c.words c.gens c.sparse c.tries x.head.slot)).snd)
       else
        bif decide (4194302 ≤ (slotOf (PMem.eLoad m who (lSlot c.threads c.slots c.chunks c.words c.gens c.sparse c.tries x.head.slot)).fst).snd.snd.snd) then
         bif x.got then
          K (!x.got) ⟨(x.addr), ⟨(x.head.kind), (x.head.size), (x.head.slot), (x.head.gen), (x.head.own)⟩, 11, ((PMem.eLoad m who (lSlot c.threads c.slots c.chunks c.words c.gens c.sparse c.tries x.head.slot)).fst), none, (x.sa), (x.sc), (x.got), (x.i), (x.cell), (x.n), 3⟩ ((PMem.eLoad m who (lSlot c.threads c.slots c.chunks c.words c.gens c.sparse c.tries x.head.slot)).snd)
         else
          K (!x.got) ⟨(x.addr), ⟨(x.head.kind), (x.head.size), (x.head.slot), (x.head.gen), (x.head.own)⟩, (x.pc), ((PMem.eLoad m who (lSlot c.threads c.slots c.chunks c.words c.gens c.sparse c.tries x.head.slot)).fst), none, (x.sa), (x.sc), (x.got), (x.i), (x.cell), (x.n), 3⟩ ((PMem.eLoad m who (lSlot c.threads c.slots c.chunks c.words c.gens c.sparse c.tries x.head.slot)).snd)
        else
         bif x.got then
          K false ⟨(x.addr), ⟨(x.head.kind), (x.head.size), (x.head.slot), (x.head.gen), (x.head.own)⟩, 3, ((PMem.eLoad m who (lSlot c.threads c.slots c.chunks c.words c.gens c.sparse c.tries x.head.slot)).fst), none, (x.sa), (x.sc), (x.got), (x.i), (x.cell), (x.n), (x.out)⟩ ((PMem.eLoad m who (lSlot c.threads c.slots c.chunks c.words c.gens c.sparse c.tries x.head.slot)).snd)
         else
          K false ⟨(x.addr), ⟨(x.head.kind), (x.head.size), (x.head.slot), (x.head.gen), (x.head.own)⟩, 1, ((PMem.eLoad m who (lSlot c.threads c.slots c.chunks c.words c.gens c.sparse c.tries x.head.slot)).fst), (some ⟨(lClass x.head.size), 0, 0, 0, 0, 0, 0, false⟩), (x.sa), (x.sc), (x.got), (x.i), (x.cell), (x.n), (x.out)⟩ ((PMem.eLoad m who (lSlot c.threads c.slots c.chunks c.words c.gens c.sparse c.tries x.head.slot)).snd)
   else
    bif !decide ((slotOf (PMem.eLoad m who (lSlot c.threads c.slots c.chunks c.words c.gens c.sparse c.tries x.head.slot)).fst).fst = 1) then
     bif x.got then
      K (!x.got) ⟨(x.addr), ⟨(x.head.kind), (x.head.size), (x.head.slot), (x.head.gen), (x.head.own)⟩, 11, ((PMem.eLoad m who (lSlot c.threads c.slots c.chunks c.words c.gens c.sparse c.tries x.head.slot)).fst), none, (x.sa), (x.sc), (x.got), (x.i), (x.cell), (x.n), 2⟩ ((PMem.eLoad m who (lSlot c.threads c.slots c.chunks c.words c.gens c.sparse c.tries x.head.slot)).snd)
     else
      K (!x.got) ⟨(x.addr), ⟨(x.head.kind), (x.head.size), (x.head.slot), (x.head.gen), (x.head.own)⟩, (x.pc), ((PMem.eLoad m who (lSlot c.threads c.slots c.chunks c.words c.gens c.sparse c.tries x.head.slot)).fst), none, (x.sa), (x.sc), (x.got), (x.i), (x.cell), (x.n), 2⟩ ((PMem.eLoad m who (lSlot c.threads c.slots c.chunks c.words c.gens c.sparse c.tries x.head.slot)).snd)
    else
     bif !decide ((slotOf (PMem.eLoad m who (lSlot c.threads c.slots c.chunks c.words c.gens c.sparse c.tries x.head.slot)).fst).snd.snd.fst = x.head.gen) then
      bif x.got then
       K (!x.got) ⟨(x.addr), ⟨(x.head.kind), (x.head.size), (x.head.slot), (x.head.gen), (x.head.own)⟩, 11, ((PMem.eLoad m who (lSlot c.threads c.slots c.chunks c.words c.gens c.sparse c.tries x.head.slot)).fst), none, (x.sa), (x.sc), (x.got), (x.i), (x.cell), (x.n), 2⟩ ((PMem.eLoad m who (lSlot c.threads c.slots c.chunks c.words c.gens c.sparse c.tries x.head.slot)).snd)
      else
       K (!x.got) ⟨(x.addr), ⟨(x.head.kind), (x.head.size), (x.head.slot), (x.head.gen), (x.head.own)⟩, (x.pc), ((PMem.eLoad m who (lSlot c.threads c.slots c.chunks c.words c.gens c.sparse c.tries x.head.slot)).fst), none, (x.sa), (x.sc), (x.got), (x.i), (x.cell), (x.n), 2⟩ ((PMem.eLoad m who (lSlot c.threads c.slots c.chunks c.words c.gens c.sparse c.tries x.head.slot)).snd)
     else
      bif !decide ((slotOf (PMem.eLoad m who (lSlot c.threads c.slots c.chunks c.words c.gens c.sparse c.tries x.head.slot)).fst).snd.fst = x.addr) then
       bif x.got then
        K (!x.got) ⟨(x.addr), ⟨(x.head.kind), (x.head.size), (x.head.slot), (x.head.gen), (x.head.own)⟩, 11, ((PMem.eLoad m who (lSlot c.threads c.slots c.chunks c.words c.gens c.sparse c.tries x.head.slot)).fst), none, (x.sa), (x.sc), (x.got), (x.i), (x.cell), (x.n), 2⟩ ((PMem.eLoad m who (lSlot c.threads c.slots c.chunks c.words c.gens c.sparse c.tries x.head.slot)).snd)
       else
        K (!x.got) ⟨(x.addr), ⟨(x.head.kind), (x.head.size), (x.head.slot), (x.head.gen), (x.head.own)⟩, (x.pc), ((PMem.eLoad m who (lSlot c.threads c.slots c.chunks c.words c.gens c.sparse c.tries x.head.slot)).fst), none, (x.sa), (x.sc), (x.got), (x.i), (x.cell), (x.n), 2⟩ ((PMem.eLoad m who (lSlot c.threads c.slots c.chunks c.words c.gens c.sparse c.tries x.head.slot)).snd)
      else
       bif decide (4194302 ≤ (slotOf (PMem.eLoad m who (lSlot c.threads c.slots c.chunks c.words c.gens c.sparse c.tries x.head.slot)).fst).snd.snd.snd) then
        bif x.got then
         K (!x.got) ⟨(x.addr), ⟨(x.head.kind), (x.head.size), (x.head.slot), (x.head.gen), (x.head.own)⟩, 11, ((PMem.eLoad m who (lSlot c.threads c.slots c.chunks c.words c.gens c.sparse c.tries x.head.slot)).fst), none, (x.sa), (x.sc), (x.got), (x.i), (x.cell), (x.n), 3⟩ ((PMem.eLoad m who (lSlot c.threads c.slots c.chunks c.words c.gens c.sparse c.tries x.head.slot)).snd)
        else
         K (!x.got) ⟨(x.addr), ⟨(x.head.kind), (x.head.size), (x.head.slot), (x.head.gen), (x.head.own)⟩, (x.pc), ((PMem.eLoad m who (lSlot c.threads c.slots c.chunks c.words c.gens c.sparse c.tries x.head.slot)).fst), none, (x.sa), (x.sc), (x.got), (x.i), (x.cell), (x.n), 3⟩ ((PMem.eLoad m who (lSlot c.threads c.slots c.chunks c.words c.gens c.sparse c.tries x.head.slot)).snd)
       else
        bif x.got then
         K false ⟨(x.addr), ⟨(x.head.kind), (x.head.size), (x.head.slot), (x.head.gen), (x.head.own)⟩, 3, ((PMem.eLoad m who (lSlot c.threads c.slots c.chunks c.words c.gens c.sparse c.tries x.head.slot)).fst), none, (x.sa), (x.sc), (x.got), (x.i), (x.cell), (x.n), (x.out)⟩ ((PMem.eLoad m who (lSlot c.threads c.slots c.chunks c.words c.gens c.sparse c.tries x.head.slot)).snd)
        else
         K false ⟨(x.addr), ⟨(x.head.kind), (x.head.size), (x.head.slot), (x.head.gen), (x.head.own)⟩, 1, ((PMem.eLoad m who (lSlot c.threads c.slots c.chunks c.words c.gens c.sparse c.tries x.head.slot)).fst), (some ⟨(lClass x.head.size), 0, 0, 0, 0, 0, 0, false⟩), (x.sa), (x.sc), (x.got), (x.i), (x.cell), (x.n), (x.out)⟩ ((PMem.eLoad m who (lSlot c.threads c.slots c.chunks c.words c.gens c.sparse c.tries x.head.slot)).snd)
  else
   bif decide (x.pc = 1) then
    K false ⟨(x.addr), ⟨(x.head.kind), (x.head.size), (x.head.slot), (x.head.gen), (x.head.own)⟩, (x.pc), (x.w), none, (x.sa), (x.sc), (x.got), (x.i), (x.cell), (x.n), (x.out)⟩ (m)
   else
    bif decide (x.pc = 2) then
     K false ⟨(x.addr), ⟨(x.head.kind), (x.head.size), (x.head.slot), (x.head.gen), (x.head.own)⟩, 3, (x.w), none, (x.sa), (x.sc), (x.got), (x.i), (x.cell), (x.n), (x.out)⟩ (PMem.eStore m who x.sa (putHead 1 x.head.size x.head.slot x.head.gen x.head.own))
    else
     bif decide (x.pc = 3) then
      bif (PMem.eCas m who (lSlot c.threads c.slots c.chunks c.words c.gens c.sparse c.tries x.head.slot) x.w (putSlot 2 x.addr (slotOf x.w).snd.snd.fst (wrI ((slotOf x.w).snd.snd.snd + 0)))).fst then
       K false ⟨(x.addr), ⟨(x.head.kind), (x.head.size), (x.head.slot), (x.head.gen), (x.head.own)⟩, 4, (x.w), none, (x.sa), (x.sc), (x.got), 0, (x.cell), (x.n), (x.out)⟩ ((PMem.eCas m who (lSlot c.threads c.slots c.chunks c.words c.gens c.sparse c.tries x.head.slot) x.w (putSlot 2 x.addr (slotOf x.w).snd.snd.fst (wrI ((slotOf x.w).snd.snd.snd + 0)))).snd)
      else
       K false ⟨(x.addr), ⟨(x.head.kind), (x.head.size), (x.head.slot), (x.head.gen), (x.head.own)⟩, 0, (x.w), none, (x.sa), (x.sc), (x.got), 0, (x.cell), (x.n), (x.out)⟩ ((PMem.eCas m who (lSlot c.threads c.slots c.chunks c.words c.gens c.sparse c.tries x.head.slot) x.w (putSlot 2 x.addr (slotOf x.w).snd.snd.fst (wrI ((slotOf x.w).snd.snd.snd + 0)))).snd)
     else
      bif decide (x.pc = 4) then
       bif (cellOf (PMem.eLoad m who (wrI (wrI (x.addr + 1) + x.i))).fst).snd.fst then
        bif decide ((cellOf (PMem.eLoad m who (wrI (wrI (x.addr + 1) + x.i))).fst).snd.snd = (slotOf x.w).snd.snd.snd) then
         K false ⟨(x.addr), ⟨(x.head.kind), (x.head.size), (x.head.slot), (x.head.gen), (x.head.own)⟩, 6, (x.w), none, (x.sa), (x.sc), (x.got), (x.i), ((PMem.eLoad m who (wrI (wrI (x.addr + 1) + x.i))).fst), (x.n), (x.out)⟩ ((PMem.eLoad m who (wrI (wrI (x.addr + 1) + x.i))).snd)
        else
         K false ⟨(x.addr), ⟨(x.head.kind), (x.head.size), (x.head.slot), (x.head.gen), (x.head.own)⟩, 5, (x.w), none, (x.sa), (x.sc), (x.got), (x.i), ((PMem.eLoad m who (wrI (wrI (x.addr + 1) + x.i))).fst), (x.n), (x.out)⟩ ((PMem.eLoad m who (wrI (wrI (x.addr + 1) + x.i))).snd)
       else
        K false ⟨(x.addr), ⟨(x.head.kind), (x.head.size), (x.head.slot), (x.head.gen), (x.head.own)⟩, 5, (x.w), none, (x.sa), (x.sc), (x.got), (x.i), ((PMem.eLoad m who (wrI (wrI (x.addr + 1) + x.i))).fst), (x.n), (x.out)⟩ ((PMem.eLoad m who (wrI (wrI (x.addr + 1) + x.i))).snd)
      else
       bif decide (x.pc = 5) then
        tw (fun p => ((p ∧ p) ∧ p)) (
         bif (PMem.eCas m who (wrI (wrI (x.addr + 1) + x.i)) x.cell (putCell (cellOf x.cell).fst true (slotOf x.w).snd.snd.snd)).fst then
          K false ⟨(x.addr), ⟨(x.head.kind), (x.head.size), (x.head.slot), (x.head.gen), (x.head.own)⟩, 6, (x.w), none, (x.sa), (x.sc), (x.got), (x.i), (x.cell), (x.n), (x.out)⟩ ((PMem.eCas m who (wrI (wrI (x.addr + 1) + x.i)) x.cell (putCell (cellOf x.cell).fst true (slotOf x.w).snd.snd.snd)).snd)
         else
          K false ⟨(x.addr), ⟨(x.head.kind), (x.head.size), (x.head.slot), (x.head.gen), (x.head.own)⟩, 4, (x.w), none, (x.sa), (x.sc), (x.got), (x.i), (x.cell), (x.n), (x.out)⟩ ((PMem.eCas m who (wrI (wrI (x.addr + 1) + x.i)) x.cell (putCell (cellOf x.cell).fst true (slotOf x.w).snd.snd.snd)).snd))
       else
        bif decide (x.pc = 6) then
         bif decide (x.head.size ≤ wrI (x.i + 1)) then
          K false ⟨(x.addr), ⟨(x.head.kind), (x.head.size), (x.head.slot), (x.head.gen), (x.head.own)⟩, 7, (x.w), none, (x.sa), (x.sc), (x.got), (wrI (x.i + 1)), (x.cell), (x.n), (x.out)⟩ (PMem.eStore m who (wrI (wrI (x.sa + 1) + x.i)) (putCell (cellOf x.cell).fst false 0))
         else
          K false ⟨(x.addr), ⟨(x.head.kind), (x.head.size), (x.head.slot), (x.head.gen), (x.head.own)⟩, 4, (x.w), none, (x.sa), (x.sc), (x.got), (wrI (x.i + 1)), (x.cell), (x.n), (x.out)⟩ (PMem.eStore m who (wrI (wrI (x.sa + 1) + x.i)) (putCell (cellOf x.cell).fst false 0))
        else
         bif decide (x.pc = 7) then
          bif (PMem.eCas m who (lSlot c.threads c.slots c.chunks c.words c.gens c.sparse c.tries x.head.slot) (putSlot 2 x.addr (slotOf x.w).snd.snd.fst (wrI ((slotOf x.w).snd.snd.snd + 0))) (putSlot 1 x.sa (slotOf x.w).snd.snd.fst (wrI ((slotOf x.w).snd.snd.snd + 1)))).fst then
           K false ⟨(x.addr), ⟨(x.head.kind), (x.head.size), (x.head.slot), (x.head.gen), (x.head.own)⟩, 8, (x.w), none, (x.sa), (x.sc), (x.got), (x.i), (x.cell), (x.n), (x.out)⟩ ((PMem.eCas m who (lSlot c.threads c.slots c.chunks c.words c.gens c.sparse c.tries x.head.slot) (putSlot 2 x.addr (slotOf x.w).snd.snd.fst (wrI ((slotOf x.w).snd.snd.snd + 0))) (putSlot 1 x.sa (slotOf x.w).snd.snd.fst (wrI ((slotOf x.w).snd.snd.snd + 1)))).snd)
          else
           bif decide (c.tries ≤ wrI (x.n + 1)) then
            bif x.got then
             K (!x.got) ⟨(x.addr), ⟨(x.head.kind), (x.head.size), (x.head.slot), (x.head.gen), (x.head.own)⟩, 11, (x.w), none, (x.sa), (x.sc), (x.got), (x.i), (x.cell), (wrI (x.n + 1)), 3⟩ ((PMem.eCas m who (lSlot c.threads c.slots c.chunks c.words c.gens c.sparse c.tries x.head.slot) (putSlot 2 x.addr (slotOf x.w).snd.snd.fst (wrI ((slotOf x.w).snd.snd.snd + 0))) (putSlot 1 x.sa (slotOf x.w).snd.snd.fst (wrI ((slotOf x.w).snd.snd.snd + 1)))).snd)
            else
             K (!x.got) ⟨(x.addr), ⟨(x.head.kind), (x.head.size), (x.head.slot), (x.head.gen), (x.head.own)⟩, 0, (x.w), none, (x.sa), (x.sc), (x.got), (x.i), (x.cell), (wrI (x.n + 1)), 3⟩ ((PMem.eCas m who (lSlot c.threads c.slots c.chunks c.words c.gens c.sparse c.tries x.head.slot) (putSlot 2 x.addr (slotOf x.w).snd.snd.fst (wrI ((slotOf x.w).snd.snd.snd + 0))) (putSlot 1 x.sa (slotOf x.w).snd.snd.fst (wrI ((slotOf x.w).snd.snd.snd + 1)))).snd)
           else
            K false ⟨(x.addr), ⟨(x.head.kind), (x.head.size), (x.head.slot), (x.head.gen), (x.head.own)⟩, 0, (x.w), none, (x.sa), (x.sc), (x.got), (x.i), (x.cell), (wrI (x.n + 1)), (x.out)⟩ ((PMem.eCas m who (lSlot c.threads c.slots c.chunks c.words c.gens c.sparse c.tries x.head.slot) (putSlot 2 x.addr (slotOf x.w).snd.snd.fst (wrI ((slotOf x.w).snd.snd.snd + 0))) (putSlot 1 x.sa (slotOf x.w).snd.snd.fst (wrI ((slotOf x.w).snd.snd.snd + 1)))).snd)
         else
          bif decide (x.pc = 8) then
           K false ⟨(x.addr), ⟨(x.head.kind), (x.head.size), (x.head.slot), (x.head.gen), (x.head.own)⟩, 9, (x.w), none, (x.sa), (x.sc), (x.got), (x.i), (x.cell), (x.n), (x.out)⟩ (PMem.eStore m who x.sa (putHead 2 x.head.size x.head.slot x.head.gen x.head.own))
          else
           bif decide (x.pc = 9) then
            K false ⟨(x.addr), ⟨(x.head.kind), (x.head.size), (x.head.slot), (x.head.gen), (x.head.own)⟩, 10, (x.w), none, (x.sa), (x.sc), (x.got), (x.i), (x.cell), (x.n), (x.out)⟩ (PMem.eAdd m who (wrI (lChunk c.threads c.slots c.chunks c.words c.gens c.sparse c.tries x.sc + 1)) (lRoom (lClass x.head.size)))
           else
            bif decide (x.pc = 10) then
             bif decide (c.words = 0) then
              bot
             else
              K true ⟨(x.addr), ⟨(x.head.kind), (x.head.size), (x.head.slot), (x.head.gen), (x.head.own)⟩, (x.pc), (x.w), none, (x.sa), (x.sc), (x.got), (x.i), (x.cell), (x.n), 1⟩ (PMem.eAdd m who (wrI (lChunk c.threads c.slots c.chunks c.words c.gens c.sparse c.tries (lOf c.threads c.slots c.chunks c.words c.gens c.sparse c.tries x.addr) + 1)) (wrI (0 - lRoom (lClass x.head.size))))
            else
             K true ⟨(x.addr), ⟨(x.head.kind), (x.head.size), (x.head.slot), (x.head.gen), (x.head.own)⟩, (x.pc), (x.w), none, (x.sa), (x.sc), (x.got), (x.i), (x.cell), (x.n), (x.out)⟩ (PMem.eStore m who x.sa (putHead 3 x.head.size x.head.slot x.head.gen x.head.own))

def moveStep0 (c : PCfg) (who : Int) (x : PMove) (m : PMem) : Bool × PMove × PMem := moveStep0K (false, x, m) twV c who x m fun r x m => (r, x, m)

theorem moveStep0K_eq (c : PCfg) (who : Int) (x : PMove) (m : PMem) (hc : c.words ≠ 0) (K : Bool → PMove → PMem → Prop) : moveStep0K False twP c who x m K = K (moveStep0 c who x m).1 (moveStep0 c who x m).2.1 (moveStep0 c who x m).2.2 := by
  show _ = app3 K (moveStep0K (false, x, m) twV c who x m fun r x m => (r, x, m))
  unfold moveStep0K
  repeat' first
    | refine condH (decide_eq_false hc) ?_
    | refine cond3 ?_ ?_
    | refine tw3 (fun p => by simp only [and_self]) ?_
    | exact rfl

def moveStep1K {R : Type} (bot : R) (tw : (Prop → Prop) → R → R) (c : PCfg) (who : Int) (x : PMove) (p : PPlace) (m : PMem) (K : Bool → PMove → PMem → R) : R :=
  bif decide (x.pc = 0) then
   bif decide ((slotOf (PMem.eLoad m who (lSlot c.threads c.slots c.chunks c.words c.gens c.sparse c.tries x.head.slot)).fst).fst = 4) then
    bif decide ((slotOf (PMem.eLoad m who (lSlot c.threads c.slots c.chunks c.words c.gens c.sparse c.tries x.head.slot)).fst).snd.snd.fst = x.head.gen) then
     bif decide ((slotOf (PMem.eLoad m who (lSlot c.threads c.slots c.chunks c.words c.gens c.sparse c.tries x.head.slot)).fst).snd.fst = x.addr) then
      bif x.got then
       K (!x.got) ⟨(x.addr), ⟨(x.head.kind), (x.head.size), (x.head.slot), (x.head.gen), (x.head.own)⟩, 11, ((PMem.eLoad m who (lSlot c.threads c.slots c.chunks c.words c.gens c.sparse c.tries x.head.slot)).fst), (some (p)), (x.sa), (x.sc), (x.got), (x.i), (x.cell), (x.n), 3⟩ ((PMem.eLoad m who (lSlot c.threads c.slots c.chunks c.words c.gens c.sparse c.tries x.head.slot)).snd)
      else
       K (!x.got) ⟨(x.addr), ⟨(x.head.kind), (x.head.size), (x.head.slot), (x.head.gen), (x.head.own)⟩, (x.pc), ((PMem.eLoad m who (lSlot c.threads c.slots c.chunks c.words c.gens c.sparse c.tries x.head.slot)).fst), (some (p)), (x.sa), (x.sc), (x.got), (x.i), (x.cell), (x.n), 3⟩ ((PMem.eLoad m who (lSlot c.threads c.slots c.chunks c.words c.gens c.sparse c.tries x.head.slot)).snd)
     else
      bif !decide ((slotOf (PMem.eLoad m who (lSlot c.threads c.slots c.chunks c.words c.gens c.sparse c.tries x.head.slot)).fst).fst = 1) then
       bif x.got then
        K (!x.got) ⟨(x.addr), ⟨(x.head.kind), (x.head.size), (x.head.slot), (x.head.gen), (x.head.own)⟩, 11, ((PMem.eLoad m who (lSlot c.threads c.slots c.chunks c.words c.gens c.sparse c.tries x.head.slot)).fst), (some (p)), (x.sa), (x.sc), (x.got), (x.i), (x.cell), (x.n), 2⟩ ((PMem.eLoad m who (lSlot c.threads c.slots c.chunks c.words c.gens c.sparse c.tries x.head.slot)).snd)
       else
        K (!x.got) ⟨(x.addr), ⟨(x.head.kind), (x.head.size), (x.head.slot), (x.head.gen), (x.head.own)⟩, (x.pc), ((PMem.eLoad m who (lSlot c.threads c.slots c.chunks c.words c.gens c.sparse c.tries x.head.slot)).fst), (some (p)), (x.sa), (x.sc), (x.got), (x.i), (x.cell), (x.n), 2⟩ ((PMem.eLoad m who (lSlot c.threads c.slots c.chunks c.words c.gens c.sparse c.tries x.head.slot)).snd)
      else
       bif !decide ((slotOf (PMem.eLoad m who (lSlot c.threads c.slots c.chunks c.words c.gens c.sparse c.tries x.head.slot)).fst).snd.snd.fst = x.head.gen) then
        bif x.got then
         K (!x.got) ⟨(x.addr), ⟨(x.head.kind), (x.head.size), (x.head.slot), (x.head.gen), (x.head.own)⟩, 11, ((PMem.eLoad m who (lSlot c.threads c.slots c.chunks c.words c.gens c.sparse c.tries x.head.slot)).fst), (some (p)), (x.sa), (x.sc), (x.got), (x.i), (x.cell), (x.n), 2⟩ ((PMem.eLoad m who (lSlot c.threads c.slots c.chunks c.words c.gens c.sparse c.tries x.head.slot)).snd)
        else
         K (!x.got) ⟨(x.addr), ⟨(x.head.kind), (x.head.size), (x.head.slot), (x.head.gen), (x.head.own)⟩, (x.pc), ((PMem.eLoad m who (lSlot c.threads c.slots c.chunks c.words c.gens c.sparse c.tries x.head.slot)).fst), (some (p)), (x.sa), (x.sc), (x.got), (x.i), (x.cell), (x.n), 2⟩ ((PMem.eLoad m who (lSlot c.threads c.slots c.chunks c.words c.gens c.sparse c.tries x.head.slot)).snd)
       else
        bif !decide ((slotOf (PMem.eLoad m who (lSlot c.threads c.slots c.chunks c.words c.gens c.sparse c.tries x.head.slot)).fst).snd.fst = x.addr) then
         bif x.got then
          K (!x.got) ⟨(x.addr), ⟨(x.head.kind), (x.head.size), (x.head.slot), (x.head.gen), (x.head.own)⟩, 11, ((PMem.eLoad m who (lSlot c.threads c.slots c.chunks c.words c.gens c.sparse c.tries x.head.slot)).fst), (some (p)), (x.sa), (x.sc), (x.got), (x.i), (x.cell), (x.n), 2⟩ ((PMem.eLoad m who (lSlot c.threads c.slots c.chunks c.words c.gens c.sparse c.tries x.head.slot)).snd)
         else
          K (!x.got) ⟨(x.addr), ⟨(x.head.kind), (x.head.size), (x.head.slot), (x.head.gen), (x.head.own)⟩, (x.pc), ((PMem.eLoad m who (lSlot c.threads c.slots c.chunks c.words c.gens c.sparse c.tries x.head.slot)).fst), (some (p)), (x.sa), (x.sc), (x.got), (x.i), (x.cell), (x.n), 2⟩ ((PMem.eLoad m who (lSlot c.threads c.slots c.chunks c.words c.gens c.sparse c.tries x.head.slot)).snd)
        else
         bif decide (4194302 ≤ (slotOf (PMem.eLoad m who (lSlot c.threads c.slots c.chunks c.words c.gens c.sparse c.tries x.head.slot)).fst).snd.snd.snd) then
          bif x.got then
           K (!x.got) ⟨(x.addr), ⟨(x.head.kind), (x.head.size), (x.head.slot), (x.head.gen), (x.head.own)⟩, 11, ((PMem.eLoad m who (lSlot c.threads c.slots c.chunks c.words c.gens c.sparse c.tries x.head.slot)).fst), (some (p)), (x.sa), (x.sc), (x.got), (x.i), (x.cell), (x.n), 3⟩ ((PMem.eLoad m who (lSlot c.threads c.slots c.chunks c.words c.gens c.sparse c.tries x.head.slot)).snd)
          else
           K (!x.got) ⟨(x.addr), ⟨(x.head.kind), (x.head.size), (x.head.slot), (x.head.gen), (x.head.own)⟩, (x.pc), ((PMem.eLoad m who (lSlot c.threads c.slots c.chunks c.words c.gens c.sparse c.tries x.head.slot)).fst), (some (p)), (x.sa), (x.sc), (x.got), (x.i), (x.cell), (x.n), 3⟩ ((PMem.eLoad m who (lSlot c.threads c.slots c.chunks c.words c.gens c.sparse c.tries x.head.slot)).snd)
         else
          bif x.got then
           K false ⟨(x.addr), ⟨(x.head.kind), (x.head.size), (x.head.slot), (x.head.gen), (x.head.own)⟩, 3, ((PMem.eLoad m who (lSlot c.threads c.slots c.chunks c.words c.gens c.sparse c.tries x.head.slot)).fst), (some (p)), (x.sa), (x.sc), (x.got), (x.i), (x.cell), (x.n), (x.out)⟩ ((PMem.eLoad m who (lSlot c.threads c.slots c.chunks c.words c.gens c.sparse c.tries x.head.slot)).snd)
          else
           K false ⟨(x.addr), ⟨(x.head.kind), (x.head.size), (x.head.slot), (x.head.gen), (x.head.own)⟩, 1, ((PMem.eLoad m who (lSlot c.threads c.slots c.chunks c.words c.gens c.sparse c.tries x.head.slot)).fst), (some ⟨(lClass x.head.size), 0, 0, 0, 0, 0, 0, false⟩), (x.sa), (x.sc), (x.got), (x.i), (x.cell), (x.n), (x.out)⟩ ((PMem.eLoad m who (lSlot c.threads c.slots c.chunks c.words c.gens c.sparse c.tries x.head.slot)).snd)
    else
     bif !decide ((slotOf (PMem.eLoad m who (lSlot c.threads c.slots c.chunks c.words c.gens c.sparse c.tries x.head.slot)).fst).fst = 1) then
      bif x.got then
       K (!x.got) ⟨(x.addr), ⟨(x.head.kind), (x.head.size), (x.head.slot), (x.head.gen), (x.head.own)⟩, 11, ((PMem.eLoad m who (lSlot c.threads c.slots c.chunks c.words c.gens c.sparse c.tries x.head.slot)).fst), (some (p)), (x.sa), (x.sc), (x.got), (x.i), (x.cell), (x.n), 2⟩ ((PMem.eLoad m who (lSlot c.threads c.slots c.chunks c.words c.gens c.sparse c.tries x.head.slot)).snd)
      else
       K (!x.got) ⟨(x.addr), ⟨(x.head.kind), (x.head.size), (x.head.slot), (x.head.gen), (x.head.own)⟩, (x.pc), ((PMem.eLoad m who (lSlot c.threads c.slots c.chunks c.words c.gens c.sparse c.tries x.head.slot)).fst), (some (p)), (x.sa), (x.sc), (x.got), (x.i), (x.cell), (x.n), 2⟩ ((PMem.eLoad m who (lSlot c.threads c.slots c.chunks c.words c.gens c.sparse c.tries x.head.slot)).snd)
     else
      bif !decide ((slotOf (PMem.eLoad m who (lSlot c.threads c.slots c.chunks c.words c.gens c.sparse c.tries x.head.slot)).fst).snd.snd.fst = x.head.gen) then
       bif x.got then
        K (!x.got) ⟨(x.addr), ⟨(x.head.kind), (x.head.size), (x.head.slot), (x.head.gen), (x.head.own)⟩, 11, ((PMem.eLoad m who (lSlot c.threads c.slots c.chunks c.words c.gens c.sparse c.tries x.head.slot)).fst), (some (p)), (x.sa), (x.sc), (x.got), (x.i), (x.cell), (x.n), 2⟩ ((PMem.eLoad m who (lSlot c.threads c.slots c.chunks c.words c.gens c.sparse c.tries x.head.slot)).snd)
       else
        K (!x.got) ⟨(x.addr), ⟨(x.head.kind), (x.head.size), (x.head.slot), (x.head.gen), (x.head.own)⟩, (x.pc), ((PMem.eLoad m who (lSlot c.threads c.slots c.chunks c.words c.gens c.sparse c.tries x.head.slot)).fst), (some (p)), (x.sa), (x.sc), (x.got), (x.i), (x.cell), (x.n), 2⟩ ((PMem.eLoad m who (lSlot c.threads c.slots c.chunks c.words c.gens c.sparse c.tries x.head.slot)).snd)
      else
       bif !decide ((slotOf (PMem.eLoad m who (lSlot c.threads c.slots c.chunks c.words c.gens c.sparse c.tries x.head.slot)).fst).snd.fst = x.addr) then
        bif x.got then
         K (!x.got) ⟨(x.addr), ⟨(x.head.kind), (x.head.size), (x.head.slot), (x.head.gen), (x.head.own)⟩, 11, ((PMem.eLoad m who (lSlot c.threads c.slots c.chunks c.words c.gens c.sparse c.tries x.head.slot)).fst), (some (p)), (x.sa), (x.sc), (x.got), (x.i), (x.cell), (x.n), 2⟩ ((PMem.eLoad m who (lSlot c.threads c.slots c.chunks c.words c.gens c.sparse c.tries x.head.slot)).snd)
        else
         K (!x.got) ⟨(x.addr), ⟨(x.head.kind), (x.head.size), (x.head.slot), (x.head.gen), (x.head.own)⟩, (x.pc), ((PMem.eLoad m who (lSlot c.threads c.slots c.chunks c.words c.gens c.sparse c.tries x.head.slot)).fst), (some (p)), (x.sa), (x.sc), (x.got), (x.i), (x.cell), (x.n), 2⟩ ((PMem.eLoad m who (lSlot c.threads c.slots c.chunks c.words c.gens c.sparse c.tries x.head.slot)).snd)
       else
        bif decide (4194302 ≤ (slotOf (PMem.eLoad m who (lSlot c.threads c.slots c.chunks c.words c.gens c.sparse c.tries x.head.slot)).fst).snd.snd.snd) then
         bif x.got then
          K (!x.got) ⟨(x.addr), ⟨(x.head.kind), (x.head.size), (x.head.slot), (x.head.gen), (x.head.own)⟩, 11, ((PMem.eLoad m who (lSlot c.threads c.slots c.chunks c.words c.gens c.sparse c.tries x.head.slot)).fst), (some (p)), (x.sa), (x.sc), (x.got), (x.i), (x.cell), (x.n), 3⟩ ((PMem.eLoad m who (lSlot c.threads c.slots c.chunks c.words c.gens c.sparse c.tries x.head.slot)).snd)
         else
          K (!x.got) ⟨(x.addr), ⟨(x.head.kind), (x.head.size), (x.head.slot), (x.head.gen), (x.head.own)⟩, (x.pc), ((PMem.eLoad m who (lSlot c.threads c.slots c.chunks c.words c.gens c.sparse c.tries x.head.slot)).fst), (some (p)), (x.sa), (x.sc), (x.got), (x.i), (x.cell), (x.n), 3⟩ ((PMem.eLoad m who (lSlot c.threads c.slots c.chunks c.words c.gens c.sparse c.tries x.head.slot)).snd)
        else
         bif x.got then
          K false ⟨(x.addr), ⟨(x.head.kind), (x.head.size), (x.head.slot), (x.head.gen), (x.head.own)⟩, 3, ((PMem.eLoad m who (lSlot c.threads c.slots c.chunks c.words c.gens c.sparse c.tries x.head.slot)).fst), (some (p)), (x.sa), (x.sc), (x.got), (x.i), (x.cell), (x.n), (x.out)⟩ ((PMem.eLoad m who (lSlot c.threads c.slots c.chunks c.words c.gens c.sparse c.tries x.head.slot)).snd)
         else
          K false ⟨(x.addr), ⟨(x.head.kind), (x.head.size), (x.head.slot), (x.head.gen), (x.head.own)⟩, 1, ((PMem.eLoad m who (lSlot c.threads c.slots c.chunks c.words c.gens c.sparse c.tries x.head.slot)).fst), (some ⟨(lClass x.head.size), 0, 0, 0, 0, 0, 0, false⟩), (x.sa), (x.sc), (x.got), (x.i), (x.cell), (x.n), (x.out)⟩ ((PMem.eLoad m who (lSlot c.threads c.slots c.chunks c.words c.gens c.sparse c.tries x.head.slot)).snd)
   else
    bif !decide ((slotOf (PMem.eLoad m who (lSlot c.threads c.slots c.chunks c.words c.gens c.sparse c.tries x.head.slot)).fst).fst = 1) then
     bif x.got then
      K (!x.got) ⟨(x.addr), ⟨(x.head.kind), (x.head.size), (x.head.slot), (x.head.gen), (x.head.own)⟩, 11, ((PMem.eLoad m who (lSlot c.threads c.slots c.chunks c.words c.gens c.sparse c.tries x.head.slot)).fst), (some (p)), (x.sa), (x.sc), (x.got), (x.i), (x.cell), (x.n), 2⟩ ((PMem.eLoad m who (lSlot c.threads c.slots c.chunks c.words c.gens c.sparse c.tries x.head.slot)).snd)
     else
      K (!x.got) ⟨(x.addr), ⟨(x.head.kind), (x.head.size), (x.head.slot), (x.head.gen), (x.head.own)⟩, (x.pc), ((PMem.eLoad m who (lSlot c.threads c.slots c.chunks c.words c.gens c.sparse c.tries x.head.slot)).fst), (some (p)), (x.sa), (x.sc), (x.got), (x.i), (x.cell), (x.n), 2⟩ ((PMem.eLoad m who (lSlot c.threads c.slots c.chunks c.words c.gens c.sparse c.tries x.head.slot)).snd)
    else
     bif !decide ((slotOf (PMem.eLoad m who (lSlot c.threads c.slots c.chunks c.words c.gens c.sparse c.tries x.head.slot)).fst).snd.snd.fst = x.head.gen) then
      bif x.got then
       K (!x.got) ⟨(x.addr), ⟨(x.head.kind), (x.head.size), (x.head.slot), (x.head.gen), (x.head.own)⟩, 11, ((PMem.eLoad m who (lSlot c.threads c.slots c.chunks c.words c.gens c.sparse c.tries x.head.slot)).fst), (some (p)), (x.sa), (x.sc), (x.got), (x.i), (x.cell), (x.n), 2⟩ ((PMem.eLoad m who (lSlot c.threads c.slots c.chunks c.words c.gens c.sparse c.tries x.head.slot)).snd)
      else
       K (!x.got) ⟨(x.addr), ⟨(x.head.kind), (x.head.size), (x.head.slot), (x.head.gen), (x.head.own)⟩, (x.pc), ((PMem.eLoad m who (lSlot c.threads c.slots c.chunks c.words c.gens c.sparse c.tries x.head.slot)).fst), (some (p)), (x.sa), (x.sc), (x.got), (x.i), (x.cell), (x.n), 2⟩ ((PMem.eLoad m who (lSlot c.threads c.slots c.chunks c.words c.gens c.sparse c.tries x.head.slot)).snd)
     else
      bif !decide ((slotOf (PMem.eLoad m who (lSlot c.threads c.slots c.chunks c.words c.gens c.sparse c.tries x.head.slot)).fst).snd.fst = x.addr) then
       bif x.got then
        K (!x.got) ⟨(x.addr), ⟨(x.head.kind), (x.head.size), (x.head.slot), (x.head.gen), (x.head.own)⟩, 11, ((PMem.eLoad m who (lSlot c.threads c.slots c.chunks c.words c.gens c.sparse c.tries x.head.slot)).fst), (some (p)), (x.sa), (x.sc), (x.got), (x.i), (x.cell), (x.n), 2⟩ ((PMem.eLoad m who (lSlot c.threads c.slots c.chunks c.words c.gens c.sparse c.tries x.head.slot)).snd)
       else
        K (!x.got) ⟨(x.addr), ⟨(x.head.kind), (x.head.size), (x.head.slot), (x.head.gen), (x.head.own)⟩, (x.pc), ((PMem.eLoad m who (lSlot c.threads c.slots c.chunks c.words c.gens c.sparse c.tries x.head.slot)).fst), (some (p)), (x.sa), (x.sc), (x.got), (x.i), (x.cell), (x.n), 2⟩ ((PMem.eLoad m who (lSlot c.threads c.slots c.chunks c.words c.gens c.sparse c.tries x.head.slot)).snd)
      else
       bif decide (4194302 ≤ (slotOf (PMem.eLoad m who (lSlot c.threads c.slots c.chunks c.words c.gens c.sparse c.tries x.head.slot)).fst).snd.snd.snd) then
        bif x.got then
         K (!x.got) ⟨(x.addr), ⟨(x.head.kind), (x.head.size), (x.head.slot), (x.head.gen), (x.head.own)⟩, 11, ((PMem.eLoad m who (lSlot c.threads c.slots c.chunks c.words c.gens c.sparse c.tries x.head.slot)).fst), (some (p)), (x.sa), (x.sc), (x.got), (x.i), (x.cell), (x.n), 3⟩ ((PMem.eLoad m who (lSlot c.threads c.slots c.chunks c.words c.gens c.sparse c.tries x.head.slot)).snd)
        else
         K (!x.got) ⟨(x.addr), ⟨(x.head.kind), (x.head.size), (x.head.slot), (x.head.gen), (x.head.own)⟩, (x.pc), ((PMem.eLoad m who (lSlot c.threads c.slots c.chunks c.words c.gens c.sparse c.tries x.head.slot)).fst), (some (p)), (x.sa), (x.sc), (x.got), (x.i), (x.cell), (x.n), 3⟩ ((PMem.eLoad m who (lSlot c.threads c.slots c.chunks c.words c.gens c.sparse c.tries x.head.slot)).snd)
       else
        bif x.got then
         K false ⟨(x.addr), ⟨(x.head.kind), (x.head.size), (x.head.slot), (x.head.gen), (x.head.own)⟩, 3, ((PMem.eLoad m who (lSlot c.threads c.slots c.chunks c.words c.gens c.sparse c.tries x.head.slot)).fst), (some (p)), (x.sa), (x.sc), (x.got), (x.i), (x.cell), (x.n), (x.out)⟩ ((PMem.eLoad m who (lSlot c.threads c.slots c.chunks c.words c.gens c.sparse c.tries x.head.slot)).snd)
        else
         K false ⟨(x.addr), ⟨(x.head.kind), (x.head.size), (x.head.slot), (x.head.gen), (x.head.own)⟩, 1, ((PMem.eLoad m who (lSlot c.threads c.slots c.chunks c.words c.gens c.sparse c.tries x.head.slot)).fst), (some ⟨(lClass x.head.size), 0, 0, 0, 0, 0, 0, false⟩), (x.sa), (x.sc), (x.got), (x.i), (x.cell), (x.n), (x.out)⟩ ((PMem.eLoad m who (lSlot c.threads c.slots c.chunks c.words c.gens c.sparse c.tries x.head.slot)).snd)
  else
   bif decide (x.pc = 1) then
    bif (placeStep c who p m).fst then
     bif !(placeStep c who p m).snd.fst.ok then
      bif (placeStep c who p m).snd.fst.ok then
       K (!(placeStep c who p m).snd.fst.ok) ⟨(x.addr), ⟨(x.head.kind), (x.head.size), (x.head.slot), (x.head.gen), (x.head.own)⟩, 11, (x.w), (some ((placeStep c who p m).snd.1)), (bif (placeStep c who p m).snd.fst.ok then (placeStep c who p m).snd.fst.sa else 0), (bif (placeStep c who p m).snd.fst.ok then (placeStep c who p m).snd.fst.sc else 0), ((placeStep c who p m).snd.fst.ok), (x.i), (x.cell), (x.n), 4⟩ ((placeStep c who p m).snd.snd)
      else
       K (!(placeStep c who p m).snd.fst.ok) ⟨(x.addr), ⟨(x.head.kind), (x.head.size), (x.head.slot), (x.head.gen), (x.head.own)⟩, 2, (x.w), (some ((placeStep c who p m).snd.1)), (bif (placeStep c who p m).snd.fst.ok then (placeStep c who p m).snd.fst.sa else 0), (bif (placeStep c who p m).snd.fst.ok then (placeStep c who p m).snd.fst.sc else 0), ((placeStep c who p m).snd.fst.ok), (x.i), (x.cell), (x.n), 4⟩ ((placeStep c who p m).snd.snd)
     else
      K false ⟨(x.addr), ⟨(x.head.kind), (x.head.size), (x.head.slot), (x.head.gen), (x.head.own)⟩, 2, (x.w), (some ((placeStep c who p m).snd.1)), (bif (placeStep c who p m).snd.fst.ok then (placeStep c who p m).snd.fst.sa else 0), (bif (placeStep c who p m).snd.fst.ok then (placeStep c who p m).snd.fst.sc else 0), ((placeStep c who p m).snd.fst.ok), (x.i), (x.cell), (x.n), (x.out)⟩ ((placeStep c who p m).snd.snd)
    else
     K false ⟨(x.addr), ⟨(x.head.kind), (x.head.size), (x.head.slot), (x.head.gen), (x.head.own)⟩, (x.pc), (x.w), (some ((placeStep c who p m).snd.1)), (x.sa), (x.sc), (x.got), (x.i), (x.cell), (x.n), (x.out)⟩ ((placeStep c who p m).snd.snd)
   else
    bif decide (x.pc = 2) then
     K false ⟨(x.addr), ⟨(x.head.kind), (x.head.size), (x.head.slot), (x.head.gen), (x.head.own)⟩, 3, (x.w), (some (p)), (x.sa), (x.sc), (x.got), (x.i), (x.cell), (x.n), (x.out)⟩ (PMem.eStore m who x.sa (putHead 1 x.head.size x.head.slot x.head.gen x.head.own))
    else
     bif decide (x.pc = 3) then
      bif (PMem.eCas m who (lSlot c.threads c.slots c.chunks c.words c.gens c.sparse c.tries x.head.slot) x.w (putSlot 2 x.addr (slotOf x.w).snd.snd.fst (wrI ((slotOf x.w).snd.snd.snd + 0)))).fst then
       K false ⟨(x.addr), ⟨(x.head.kind), (x.head.size), (x.head.slot), (x.head.gen), (x.head.own)⟩, 4, (x.w), (some (p)), (x.sa), (x.sc), (x.got), 0, (x.cell), (x.n), (x.out)⟩ ((PMem.eCas m who (lSlot c.threads c.slots c.chunks c.words c.gens c.sparse c.tries x.head.slot) x.w (putSlot 2 x.addr (slotOf x.w).snd.snd.fst (wrI ((slotOf x.w).snd.snd.snd + 0)))).snd)
      else
       K false ⟨(x.addr), ⟨(x.head.kind), (x.head.size), (x.head.slot), (x.head.gen), (x.head.own)⟩, 0, (x.w), (some (p)), (x.sa), (x.sc), (x.got), 0, (x.cell), (x.n), (x.out)⟩ ((PMem.eCas m who (lSlot c.threads c.slots c.chunks c.words c.gens c.sparse c.tries x.head.slot) x.w (putSlot 2 x.addr (slotOf x.w).snd.snd.fst (wrI ((slotOf x.w).snd.snd.snd + 0)))).snd)
     else
      bif decide (x.pc = 4) then
       bif (cellOf (PMem.eLoad m who (wrI (wrI (x.addr + 1) + x.i))).fst).snd.fst then
        bif decide ((cellOf (PMem.eLoad m who (wrI (wrI (x.addr + 1) + x.i))).fst).snd.snd = (slotOf x.w).snd.snd.snd) then
         K false ⟨(x.addr), ⟨(x.head.kind), (x.head.size), (x.head.slot), (x.head.gen), (x.head.own)⟩, 6, (x.w), (some (p)), (x.sa), (x.sc), (x.got), (x.i), ((PMem.eLoad m who (wrI (wrI (x.addr + 1) + x.i))).fst), (x.n), (x.out)⟩ ((PMem.eLoad m who (wrI (wrI (x.addr + 1) + x.i))).snd)
        else
         K false ⟨(x.addr), ⟨(x.head.kind), (x.head.size), (x.head.slot), (x.head.gen), (x.head.own)⟩, 5, (x.w), (some (p)), (x.sa), (x.sc), (x.got), (x.i), ((PMem.eLoad m who (wrI (wrI (x.addr + 1) + x.i))).fst), (x.n), (x.out)⟩ ((PMem.eLoad m who (wrI (wrI (x.addr + 1) + x.i))).snd)
       else
        K false ⟨(x.addr), ⟨(x.head.kind), (x.head.size), (x.head.slot), (x.head.gen), (x.head.own)⟩, 5, (x.w), (some (p)), (x.sa), (x.sc), (x.got), (x.i), ((PMem.eLoad m who (wrI (wrI (x.addr + 1) + x.i))).fst), (x.n), (x.out)⟩ ((PMem.eLoad m who (wrI (wrI (x.addr + 1) + x.i))).snd)
      else
       bif decide (x.pc = 5) then
        tw (fun p => ((p ∧ p) ∧ p)) (
         bif (PMem.eCas m who (wrI (wrI (x.addr + 1) + x.i)) x.cell (putCell (cellOf x.cell).fst true (slotOf x.w).snd.snd.snd)).fst then
          K false ⟨(x.addr), ⟨(x.head.kind), (x.head.size), (x.head.slot), (x.head.gen), (x.head.own)⟩, 6, (x.w), (some (p)), (x.sa), (x.sc), (x.got), (x.i), (x.cell), (x.n), (x.out)⟩ ((PMem.eCas m who (wrI (wrI (x.addr + 1) + x.i)) x.cell (putCell (cellOf x.cell).fst true (slotOf x.w).snd.snd.snd)).snd)
         else
          K false ⟨(x.addr), ⟨(x.head.kind), (x.head.size), (x.head.slot), (x.head.gen), (x.head.own)⟩, 4, (x.w), (some (p)), (x.sa), (x.sc), (x.got), (x.i), (x.cell), (x.n), (x.out)⟩ ((PMem.eCas m who (wrI (wrI (x.addr + 1) + x.i)) x.cell (putCell (cellOf x.cell).fst true (slotOf x.w).snd.snd.snd)).snd))
       else
        bif decide (x.pc = 6) then
         bif decide (x.head.size ≤ wrI (x.i + 1)) then
          K false ⟨(x.addr), ⟨(x.head.kind), (x.head.size), (x.head.slot), (x.head.gen), (x.head.own)⟩, 7, (x.w), (some (p)), (x.sa), (x.sc), (x.got), (wrI (x.i + 1)), (x.cell), (x.n), (x.out)⟩ (PMem.eStore m who (wrI (wrI (x.sa + 1) + x.i)) (putCell (cellOf x.cell).fst false 0))
         else
          K false ⟨(x.addr), ⟨(x.head.kind), (x.head.size), (x.head.slot), (x.head.gen), (x.head.own)⟩, 4, (x.w), (some (p)), (x.sa), (x.sc), (x.got), (wrI (x.i + 1)), (x.cell), (x.n), (x.out)⟩ (PMem.eStore m who (wrI (wrI (x.sa + 1) + x.i)) (putCell (cellOf x.cell).fst false 0))
        else
         bif decide (x.pc = 7) then
          bif (PMem.eCas m who (lSlot c.threads c.slots c.chunks c.words c.gens c.sparse c.tries x.head.slot) (putSlot 2 x.addr (slotOf x.w).snd.snd.fst (wrI ((slotOf x.w).snd.snd.snd + 0))) (putSlot 1 x.sa (slotOf x.w).snd.snd.fst (wrI ((slotOf x.w).snd.snd.snd + 1)))).fst then
           K false ⟨(x.addr), ⟨(x.head.kind), (x.head.size), (x.head.slot), (x.head.gen), (x.head.own)⟩, 8, (x.w), (some (p)), (x.sa), (x.sc), (x.got), (x.i), (x.cell), (x.n), (x.out)⟩ ((PMem.eCas m who (lSlot c.threads c.slots c.chunks c.words c.gens c.sparse c.tries x.head.slot) (putSlot 2 x.addr (slotOf x.w).snd.snd.fst (wrI ((slotOf x.w).snd.snd.snd + 0))) (putSlot 1 x.sa (slotOf x.w).snd.snd.fst (wrI ((slotOf x.w).snd.snd.snd + 1)))).snd)
          else
           bif decide (c.tries ≤ wrI (x.n + 1)) then
            bif x.got then
             K (!x.got) ⟨(x.addr), ⟨(x.head.kind), (x.head.size), (x.head.slot), (x.head.gen), (x.head.own)⟩, 11, (x.w), (some (p)), (x.sa), (x.sc), (x.got), (x.i), (x.cell), (wrI (x.n + 1)), 3⟩ ((PMem.eCas m who (lSlot c.threads c.slots c.chunks c.words c.gens c.sparse c.tries x.head.slot) (putSlot 2 x.addr (slotOf x.w).snd.snd.fst (wrI ((slotOf x.w).snd.snd.snd + 0))) (putSlot 1 x.sa (slotOf x.w).snd.snd.fst (wrI ((slotOf x.w).snd.snd.snd + 1)))).snd)
            else
             K (!x.got) ⟨(x.addr), ⟨(x.head.kind), (x.head.size), (x.head.slot), (x.head.gen), (x.head.own)⟩, 0, (x.w), (some (p)), (x.sa), (x.sc), (x.got), (x.i), (x.cell), (wrI (x.n + 1)), 3⟩ ((PMem.eCas m who (lSlot c.threads c.slots c.chunks c.words c.gens c.sparse c.tries x.head.slot) (putSlot 2 x.addr (slotOf x.w).snd.snd.fst (wrI ((slotOf x.w).snd.snd.snd + 0))) (putSlot 1 x.sa (slotOf x.w).snd.snd.fst (wrI ((slotOf x.w).snd.snd.snd + 1)))).snd)
           else
            K false ⟨(x.addr), ⟨(x.head.kind), (x.head.size), (x.head.slot), (x.head.gen), (x.head.own)⟩, 0, (x.w), (some (p)), (x.sa), (x.sc), (x.got), (x.i), (x.cell), (wrI (x.n + 1)), (x.out)⟩ ((PMem.eCas m who (lSlot c.threads c.slots c.chunks c.words c.gens c.sparse c.tries x.head.slot) (putSlot 2 x.addr (slotOf x.w).snd.snd.fst (wrI ((slotOf x.w).snd.snd.snd + 0))) (putSlot 1 x.sa (slotOf x.w).snd.snd.fst (wrI ((slotOf x.w).snd.snd.snd + 1)))).snd)
         else
          bif decide (x.pc = 8) then
           K false ⟨(x.addr), ⟨(x.head.kind), (x.head.size), (x.head.slot), (x.head.gen), (x.head.own)⟩, 9, (x.w), (some (p)), (x.sa), (x.sc), (x.got), (x.i), (x.cell), (x.n), (x.out)⟩ (PMem.eStore m who x.sa (putHead 2 x.head.size x.head.slot x.head.gen x.head.own))
          else
           bif decide (x.pc = 9) then
            K false ⟨(x.addr), ⟨(x.head.kind), (x.head.size), (x.head.slot), (x.head.gen), (x.head.own)⟩, 10, (x.w), (some (p)), (x.sa), (x.sc), (x.got), (x.i), (x.cell), (x.n), (x.out)⟩ (PMem.eAdd m who (wrI (lChunk c.threads c.slots c.chunks c.words c.gens c.sparse c.tries x.sc + 1)) (lRoom (lClass x.head.size)))
           else
            bif decide (x.pc = 10) then
             bif decide (c.words = 0) then
              bot
             else
              K true ⟨(x.addr), ⟨(x.head.kind), (x.head.size), (x.head.slot), (x.head.gen), (x.head.own)⟩, (x.pc), (x.w), (some (p)), (x.sa), (x.sc), (x.got), (x.i), (x.cell), (x.n), 1⟩ (PMem.eAdd m who (wrI (lChunk c.threads c.slots c.chunks c.words c.gens c.sparse c.tries (lOf c.threads c.slots c.chunks c.words c.gens c.sparse c.tries x.addr) + 1)) (wrI (0 - lRoom (lClass x.head.size))))
            else
             K true ⟨(x.addr), ⟨(x.head.kind), (x.head.size), (x.head.slot), (x.head.gen), (x.head.own)⟩, (x.pc), (x.w), (some (p)), (x.sa), (x.sc), (x.got), (x.i), (x.cell), (x.n), (x.out)⟩ (PMem.eStore m who x.sa (putHead 3 x.head.size x.head.slot x.head.gen x.head.own))

def moveStep1 (c : PCfg) (who : Int) (x : PMove) (p : PPlace) (m : PMem) : Bool × PMove × PMem := moveStep1K (false, x, m) twV c who x p m fun r x m => (r, x, m)

theorem moveStep1K_eq (c : PCfg) (who : Int) (x : PMove) (p : PPlace) (m : PMem) (hc : c.words ≠ 0) (K : Bool → PMove → PMem → Prop) : moveStep1K False twP c who x p m K = K (moveStep1 c who x p m).1 (moveStep1 c who x p m).2.1 (moveStep1 c who x p m).2.2 := by
  show _ = app3 K (moveStep1K (false, x, m) twV c who x p m fun r x m => (r, x, m))
  unfold moveStep1K
  repeat' first
    | refine condH (decide_eq_false hc) ?_
    | refine cond3 ?_ ?_
    | refine tw3 (fun p => by simp only [and_self]) ?_
    | exact rfl

def moveStep (c : PCfg) (who : Int) (x : PMove) (m : PMem) : Bool × PMove × PMem := match x.p with
  | none => moveStep0 c who x m
  | some p => moveStep1 c who x p m

def advStepK {R : Type} (bot : R) (tw : (Prop → Prop) → R → R) (c : PCfg) (who : Int) (x : PAdv) (m : PMem) (K : Bool → PAdv → PMem → R) : R :=
  bif decide (x.pc = 0) then
   K false ⟨1, ((PMem.eLoad m who 0).fst), (x.at_), (x.went)⟩ ((PMem.eLoad m who 0).snd)
  else
   bif decide (x.pc = 1) then
    bif !decide ((PMem.eLoad m who (wrI (6 + x.at_))).fst = 0) then
     bif !decide ((PMem.eLoad m who (wrI (6 + x.at_))).fst = wrU (x.now + 1)) then
      K true ⟨(x.pc), (x.now), (x.at_), (x.went)⟩ ((PMem.eLoad m who (wrI (6 + x.at_))).snd)
     else
      bif decide (c.threads ≤ wrI (x.at_ + 1)) then
       K false ⟨2, (x.now), (wrI (x.at_ + 1)), (x.went)⟩ ((PMem.eLoad m who (wrI (6 + x.at_))).snd)
      else
       K false ⟨(x.pc), (x.now), (wrI (x.at_ + 1)), (x.went)⟩ ((PMem.eLoad m who (wrI (6 + x.at_))).snd)
    else
     bif decide (c.threads ≤ wrI (x.at_ + 1)) then
      K false ⟨2, (x.now), (wrI (x.at_ + 1)), (x.went)⟩ ((PMem.eLoad m who (wrI (6 + x.at_))).snd)
     else
      K false ⟨(x.pc), (x.now), (wrI (x.at_ + 1)), (x.went)⟩ ((PMem.eLoad m who (wrI (6 + x.at_))).snd)
   else
    K true ⟨(x.pc), (x.now), (x.at_), ((PMem.eCas m who 0 x.now (wrU (x.now + 1))).fst)⟩ ((PMem.eCas m who 0 x.now (wrU (x.now + 1))).snd)

def advStep (c : PCfg) (who : Int) (x : PAdv) (m : PMem) : Bool × PAdv × PMem := advStepK (false, x, m) twV c who x m fun r x m => (r, x, m)

theorem advStepK_eq (c : PCfg) (who : Int) (x : PAdv) (m : PMem) (K : Bool → PAdv → PMem → Prop) : advStepK False twP c who x m K = K (advStep c who x m).1 (advStep c who x m).2.1 (advStep c who x m).2.2 := by
  show _ = app3 K (advStepK (false, x, m) twV c who x m fun r x m => (r, x, m))
  unfold advStepK
  repeat' first
    | refine cond3 ?_ ?_
    | refine tw3 (fun p => by simp only [and_self]) ?_
    | exact rfl

def settleStepK {R : Type} (bot : R) (tw : (Prop → Prop) → R → R) (c : PCfg) (who : Int) (x : PSettle) (m : PMem) (K : Bool → PSettle → PMem → R) : R :=
  bif decide (x.pc = 0) then
   K (!decide ((chunkOf (PMem.eLoad m who (lChunk c.threads c.slots c.chunks c.words c.gens c.sparse c.tries x.chunk)).fst).fst = 3)) ⟨(x.chunk), 1, ((PMem.eLoad m who (lChunk c.threads c.slots c.chunks c.words c.gens c.sparse c.tries x.chunk)).fst), (x.since), (x.at_), (x.freed)⟩ ((PMem.eLoad m who (lChunk c.threads c.slots c.chunks c.words c.gens c.sparse c.tries x.chunk)).snd)
  else
   bif decide (x.pc = 1) then
    K false ⟨(x.chunk), 2, (x.w), ((PMem.eLoad m who (wrI (lChunk c.threads c.slots c.chunks c.words c.gens c.sparse c.tries x.chunk + 2))).fst), (x.at_), (x.freed)⟩ ((PMem.eLoad m who (wrI (lChunk c.threads c.slots c.chunks c.words c.gens c.sparse c.tries x.chunk + 2))).snd)
   else
    bif decide (x.pc = 2) then
     K (decide ((PMem.eLoad m who 0).fst < wrU (x.since + 2))) ⟨(x.chunk), 3, (x.w), (x.since), (x.at_), (x.freed)⟩ ((PMem.eLoad m who 0).snd)
    else
     bif decide (x.pc = 3) then
      bif decide ((chunkOf x.w).snd.snd.fst ≤ wrI (x.at_ + 1)) then
       K false ⟨(x.chunk), 4, (x.w), (x.since), (wrI (x.at_ + 1)), (x.freed)⟩ (PMem.eStore m who (wrI (lBase c.threads c.slots c.chunks c.words c.gens c.sparse c.tries x.chunk + x.at_)) 0)
      else
       K false ⟨(x.chunk), (x.pc), (x.w), (x.since), (wrI (x.at_ + 1)), (x.freed)⟩ (PMem.eStore m who (wrI (lBase c.threads c.slots c.chunks c.words c.gens c.sparse c.tries x.chunk + x.at_)) 0)
     else
      bif decide (x.pc = 4) then
       K false ⟨(x.chunk), 5, (x.w), (x.since), (x.at_), (x.freed)⟩ (PMem.eStore m who (wrI (lChunk c.threads c.slots c.chunks c.words c.gens c.sparse c.tries x.chunk + 1)) 0)
      else
       K true ⟨(x.chunk), (x.pc), (x.w), (x.since), (x.at_), true⟩ (PMem.eStore m who (lChunk c.threads c.slots c.chunks c.words c.gens c.sparse c.tries x.chunk) (putChunk 0 0 0 (wrI ((chunkOf x.w).snd.snd.snd + 1))))

def settleStep (c : PCfg) (who : Int) (x : PSettle) (m : PMem) : Bool × PSettle × PMem := settleStepK (false, x, m) twV c who x m fun r x m => (r, x, m)

theorem settleStepK_eq (c : PCfg) (who : Int) (x : PSettle) (m : PMem) (K : Bool → PSettle → PMem → Prop) : settleStepK False twP c who x m K = K (settleStep c who x m).1 (settleStep c who x m).2.1 (settleStep c who x m).2.2 := by
  show _ = app3 K (settleStepK (false, x, m) twV c who x m fun r x m => (r, x, m))
  unfold settleStepK
  repeat' first
    | refine cond3 ?_ ?_
    | refine tw3 (fun p => by simp only [and_self]) ?_
    | exact rfl

end Go.FL

/-
  The contracts of steps.
-/
set_option linter.unusedVariables false
set_option linter.unusedSimpArgs false
set_option maxRecDepth 100000
set_option linter.unusedSectionVars false
namespace Go.Proofs.YtfjnkneoddankaaGreat
open Go Go.FL Go.Proofs
variable [Go.FL.Fz]

theorem moveStep0_ev (c : PCfg) (who : Int) (x : PMove) (m : PMem) (K : Bool → PMove → PMem → Prop) : evF Tryz.prog own3 10 20 52 [.c (.ptr 0 0), envV c 1 who] ⟨cat [(true, .move ({ x with p := none })), (false, .mem m)] 0, []⟩ (fun v H₁ => match v with | .c (.bool r) => (shMove H₁ 0 fun x' c' => shF H₁ 1 fun o c2 => match o with | .mem m' => (match chkAll [(true, .move ({ x with p := none })), (false, .mem m)] [c', c2] [] with | true => K r x' m' | false => False) | _ => False) | _ => False) = moveStep0K False twP c who x m K := by kernel_rfl

theorem moveStep1_ev (c : PCfg) (who : Int) (x : PMove) (p : PPlace) (m : PMem) (K : Bool → PMove → PMem → Prop) : evF Tryz.prog own3 10 20 52 [.c (.ptr 0 0), envV c 2 who] ⟨cat [(true, .move ({ x with p := some p })), (false, .mem m)] 0, []⟩ (fun v H₁ => match v with | .c (.bool r) => (shMove H₁ 0 fun x' c' => shF H₁ 2 fun o c2 => match o with | .mem m' => (match chkAll [(true, .move ({ x with p := some p })), (false, .mem m)] [c', c2] [] with | true => K r x' m' | false => False) | _ => False) | _ => False) = moveStep1K False twP c who x p m K := by kernel_rfl

def h_moveStep0 : Hd := fun args H K => match args with
  | [.c (.ptr p0 0), .agg [.int .i64 c1, .int .i64 c2, .int .i64 c3, .int .i64 c4, .int .i64 c5, .int .i64 c6, .int .i64 c7, .ptr m 0, .int .i64 who]] => match H.get p0, H.get m with
    | some (.obj (.move x)), some (.obj (.mem pm)) => match decide (c4 = 0) with | true => False | false => K (.c (.bool (moveStep ⟨c1, c2, c3, c4, c5, c6, c7⟩ who x pm).1)) ((H.put p0 (.obj (.move (moveStep ⟨c1, c2, c3, c4, c5, c6, c7⟩ who x pm).2.1))).put m (.obj (.mem (moveStep ⟨c1, c2, c3, c4, c5, c6, c7⟩ who x pm).2.2)))
    | _, _ => False
  | _ => False

theorem h_moveStep0_ok : HOK 52 h_moveStep0 := by
  intro args H K h
  unfold h_moveStep0 at h
  split at h
  · rename_i p0 c1 c2 c3 c4 c5 c6 c7 m who
    split at h
    · rename_i x pm hp hm
      split at h
      · exact h.elim
      rename_i hc
      have hc : c4 ≠ 0 := of_decide_eq_false hc
      obtain ⟨addr, head, pc, w, p, sa, sc, got, i, cell, n, out⟩ := x
      cases p with
      | none =>
        have e := (moveStep0_ev ⟨c1, c2, c3, c4, c5, c6, c7⟩ who ⟨addr, head, pc, w, none, sa, sc, got, i, cell, n, out⟩ pm (fun r x' m' => K (.c (.bool r)) ((H.put p0 (.obj (.move x'))).put m (.obj (.mem m'))))).mpr (by rw [moveStep0K_eq (hc := hc)]; exact h)
        exact step_ok own3_ok (c := ⟨c1, c2, c3, c4, c5, c6, c7⟩) (mk := .move) (fun _ _ _ => shMove_ok) (by intro hh; cases hh) hp hm e
      | some p =>
        have e := (moveStep1_ev ⟨c1, c2, c3, c4, c5, c6, c7⟩ who ⟨addr, head, pc, w, (some p), sa, sc, got, i, cell, n, out⟩ p pm (fun r x' m' => K (.c (.bool r)) ((H.put p0 (.obj (.move x'))).put m (.obj (.mem m'))))).mpr (by rw [moveStep1K_eq (hc := hc)]; exact h)
        exact step_ok own3_ok (c := ⟨c1, c2, c3, c4, c5, c6, c7⟩) (mk := .move) (fun _ _ _ => shMove_ok) (by intro hh; cases hh) hp hm e
    · exact h.elim
  · exact h.elim

def h_moveStep : Hd := orNil h_moveStep0

theorem h_moveStep_ok : HOK 52 h_moveStep := orNil_ok own3_ok h_moveStep0_ok (fuel := 10) (d := 20) (fun c who pm K h => cast (by kernel_rfl) h)

theorem advStep_ev (c : PCfg) (who : Int) (x : PAdv) (m : PMem) (K : Bool → PAdv → PMem → Prop) : evF Tryz.prog own3 10 20 107 [.c (.ptr 0 0), envV c 1 who] ⟨cat [(true, .adv x), (false, .mem m)] 0, []⟩ (fun v H₁ => match v with | .c (.bool r) => (shAdv H₁ 0 fun x' c' => shF H₁ 1 fun o c2 => match o with | .mem m' => (match chkAll [(true, .adv x), (false, .mem m)] [c', c2] [] with | true => K r x' m' | false => False) | _ => False) | _ => False) = advStepK False twP c who x m K := by kernel_rfl

def h_advStep0 : Hd := fun args H K => match args with
  | [.c (.ptr p0 0), .agg [.int .i64 c1, .int .i64 c2, .int .i64 c3, .int .i64 c4, .int .i64 c5, .int .i64 c6, .int .i64 c7, .ptr m 0, .int .i64 who]] => match H.get p0, H.get m with
    | some (.obj (.adv x)), some (.obj (.mem pm)) => K (.c (.bool (advStep ⟨c1, c2, c3, c4, c5, c6, c7⟩ who x pm).1)) ((H.put p0 (.obj (.adv (advStep ⟨c1, c2, c3, c4, c5, c6, c7⟩ who x pm).2.1))).put m (.obj (.mem (advStep ⟨c1, c2, c3, c4, c5, c6, c7⟩ who x pm).2.2)))
    | _, _ => False
  | _ => False

theorem h_advStep0_ok : HOK 107 h_advStep0 := by
  intro args H K h
  unfold h_advStep0 at h
  split at h
  · rename_i p0 c1 c2 c3 c4 c5 c6 c7 m who
    split at h
    · rename_i x pm hp hm
      have e := (advStep_ev ⟨c1, c2, c3, c4, c5, c6, c7⟩ who x pm (fun r x' m' => K (.c (.bool r)) ((H.put p0 (.obj (.adv x'))).put m (.obj (.mem m'))))).mpr (by rw [advStepK_eq]; exact h)
      exact step_ok own3_ok (c := ⟨c1, c2, c3, c4, c5, c6, c7⟩) (mk := .adv) (fun _ _ _ => shAdv_ok) (by intro hh; cases hh) hp hm e
    · exact h.elim
  · exact h.elim

def h_advStep : Hd := orNil h_advStep0

theorem h_advStep_ok : HOK 107 h_advStep := orNil_ok own3_ok h_advStep0_ok (fuel := 10) (d := 20) (fun c who pm K h => cast (by kernel_rfl) h)

theorem settleStep_ev (c : PCfg) (who : Int) (x : PSettle) (m : PMem) (K : Bool → PSettle → PMem → Prop) : evF Tryz.prog own3 10 20 109 [.c (.ptr 0 0), envV c 1 who] ⟨cat [(true, .settle x), (false, .mem m)] 0, []⟩ (fun v H₁ => match v with | .c (.bool r) => (shSettle H₁ 0 fun x' c' => shF H₁ 1 fun o c2 => match o with | .mem m' => (match chkAll [(true, .settle x), (false, .mem m)] [c', c2] [] with | true => K r x' m' | false => False) | _ => False) | _ => False) = settleStepK False twP c who x m K := by kernel_rfl

def h_settleStep0 : Hd := fun args H K => match args with
  | [.c (.ptr p0 0), .agg [.int .i64 c1, .int .i64 c2, .int .i64 c3, .int .i64 c4, .int .i64 c5, .int .i64 c6, .int .i64 c7, .ptr m 0, .int .i64 who]] => match H.get p0, H.get m with
    | some (.obj (.settle x)), some (.obj (.mem pm)) => K (.c (.bool (settleStep ⟨c1, c2, c3, c4, c5, c6, c7⟩ who x pm).1)) ((H.put p0 (.obj (.settle (settleStep ⟨c1, c2, c3, c4, c5, c6, c7⟩ who x pm).2.1))).put m (.obj (.mem (settleStep ⟨c1, c2, c3, c4, c5, c6, c7⟩ who x pm).2.2)))
    | _, _ => False
  | _ => False

theorem h_settleStep0_ok : HOK 109 h_settleStep0 := by
  intro args H K h
  unfold h_settleStep0 at h
  split at h
  · rename_i p0 c1 c2 c3 c4 c5 c6 c7 m who
    split at h
    · rename_i x pm hp hm
      have e := (settleStep_ev ⟨c1, c2, c3, c4, c5, c6, c7⟩ who x pm (fun r x' m' => K (.c (.bool r)) ((H.put p0 (.obj (.settle x'))).put m (.obj (.mem m'))))).mpr (by rw [settleStepK_eq]; exact h)
      exact step_ok own3_ok (c := ⟨c1, c2, c3, c4, c5, c6, c7⟩) (mk := .settle) (fun _ _ _ => shSettle_ok) (by intro hh; cases hh) hp hm e
    · exact h.elim
  · exact h.elim

def h_settleStep : Hd := orNil h_settleStep0

theorem h_settleStep_ok : HOK 109 h_settleStep := orNil_ok own3_ok h_settleStep0_ok (fuel := 10) (d := 20) (fun c who pm K h => cast (by kernel_rfl) h)

def h_moveOut : Hd := fun args H K => match args with
  | [.c (.ptr p0 0)] => match H.get p0 with
    | some (.obj (.move x)) => K (.c (cI x.out)) (H.put p0 (.obj (.move x)))
    | _ => False
  | _ => False

theorem h_moveOut_ok : HOK 105 h_moveOut := by
  intro args H K h
  unfold h_moveOut at h
  split at h
  · rename_i p0
    split at h
    · rename_i x hp
      obtain ⟨addr, head, pc, w, p, sa, sc, got, i, cell, n, out⟩ := x
      cases p with
      | none =>
        have e : evF Tryz.prog own3 10 20 105 [.c (.ptr 0 0)] ⟨cat [(true, .move ⟨addr, head, pc, w, none, sa, sc, got, i, cell, n, out⟩)] 0, []⟩ (fun v H₁ => match lowV v with
            | true => (shMove H₁ 0 fun x' c => match chkAll [(true, .move ⟨addr, head, pc, w, none, sa, sc, got, i, cell, n, out⟩)] [c] [] with
                | true => K v (H.put p0 (.obj (.move x')))
                | false => False)
            | false => False) := cast (by kernel_rfl) h
        exact ask_ok own3_ok (mk := .move) (fun _ _ _ => shMove_ok) (rest := []) rfl hp e
      | some p =>
        have e : evF Tryz.prog own3 10 20 105 [.c (.ptr 0 0)] ⟨cat [(true, .move ⟨addr, head, pc, w, (some p), sa, sc, got, i, cell, n, out⟩)] 0, []⟩ (fun v H₁ => match lowV v with
            | true => (shMove H₁ 0 fun x' c => match chkAll [(true, .move ⟨addr, head, pc, w, (some p), sa, sc, got, i, cell, n, out⟩)] [c] [] with
                | true => K v (H.put p0 (.obj (.move x')))
                | false => False)
            | false => False) := cast (by kernel_rfl) h
        exact ask_ok own3_ok (mk := .move) (fun _ _ _ => shMove_ok) (rest := []) rfl hp e
    · exact h.elim
  · exact h.elim

def h_settleFreed : Hd := fun args H K => match args with
  | [.c (.ptr p0 0)] => match H.get p0 with
    | some (.obj (.settle x)) => K (.c (.bool x.freed)) (H.put p0 (.obj (.settle x)))
    | _ => False
  | _ => False

theorem h_settleFreed_ok : HOK 110 h_settleFreed := by
  intro args H K h
  unfold h_settleFreed at h
  split at h
  · rename_i p0
    split at h
    · rename_i x hp
      have e : evF Tryz.prog own3 10 20 110 [.c (.ptr 0 0)] ⟨cat [(true, .settle x)] 0, []⟩ (fun v H₁ => match lowV v with
          | true => (shSettle H₁ 0 fun x' c => match chkAll [(true, .settle x)] [c] [] with
              | true => K v (H.put p0 (.obj (.settle x')))
              | false => False)
          | false => False) := cast (by kernel_rfl) h
      exact ask_ok own3_ok (mk := .settle) (fun _ _ _ => shSettle_ok) (rest := []) rfl hp e
    · exact h.elim
  · exact h.elim

def h_moveNew : Hd := fun args H K => match args with
  | [.c (.int .i64 a), .agg [.int .i64 x1, .int .i64 x2, .int .i64 x3, .int .i64 x4, .bool x5]] => K (.c (.ptr H.len 0)) (H.new (.obj (.move ⟨a, ⟨x1, x2, x3, x4, x5⟩, 0, 0, none, 0, 0, false, 0, 0, 0, 0⟩)))
  | _ => False

theorem h_moveNew_ok : HOK 95 h_moveNew := by
  intro args H K h
  unfold h_moveNew at h
  split at h
  · rename_i a x1 x2 x3 x4 x5
    have e : evF Tryz.prog own3 10 20 95 [.c (.int .i64 a), .agg [.int .i64 x1, .int .i64 x2, .int .i64 x3, .int .i64 x4, .bool x5]] ⟨[], []⟩ (fun v H₁ => match v with
        | .c (.ptr i 0) => (shMove H₁ i fun x c => match chkAll [] [] [c] && headOK i c with
          | true => K (.c (.ptr H.len 0)) (H.new (.obj (.move x)))
          | false => False)
        | _ => False) := cast (by kernel_rfl) h
    exact new_ok own3_ok (mk := .move) (fun _ _ _ => shMove_ok) rfl e
  · exact h.elim

def h_settleNew : Hd := fun args H K => match args with
  | [.c (.int .i64 a)] => K (.c (.ptr H.len 0)) (H.new (.obj (.settle ⟨a, 0, 0, 0, 0, false⟩)))
  | _ => False

theorem h_settleNew_ok : HOK 108 h_settleNew := by
  intro args H K h
  unfold h_settleNew at h
  split at h
  · rename_i a
    have e : evF Tryz.prog own3 10 20 108 [.c (.int .i64 a)] ⟨[], []⟩ (fun v H₁ => match v with
        | .c (.ptr i 0) => (shSettle H₁ i fun x c => match chkAll [] [] [c] && headOK i c with
          | true => K (.c (.ptr H.len 0)) (H.new (.obj (.settle x)))
          | false => False)
        | _ => False) := cast (by kernel_rfl) h
    exact new_ok own3_ok (mk := .settle) (fun _ _ _ => shSettle_ok) rfl e
  · exact h.elim

def tabK1 : List (FuncId × Hd) := [(52, h_moveStep), (107, h_advStep), (109, h_settleStep), (105, h_moveOut), (110, h_settleFreed), (95, h_moveNew), (108, h_settleNew)] ++ tab3

def ownK1 : FuncId → Option Hd := look tabK1

theorem allK1 : AllOK tabK1 := ⟨h_moveStep_ok, h_advStep_ok, h_settleStep_ok, h_moveOut_ok, h_settleFreed_ok, h_moveNew_ok, h_settleNew_ok, all3⟩

theorem ownK1_ok : OwnOK Tryz.prog ownK1 := look_ok allK1

end Go.Proofs.YtfjnkneoddankaaGreat
