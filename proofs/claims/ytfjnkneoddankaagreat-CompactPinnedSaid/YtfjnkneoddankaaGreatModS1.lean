/-
  Steps of the program's objects, as the evaluator has them.
-/
import Derived.Test.YtfjnkneoddankaaGreatModP
import Derived.Test.YtfjnkneoddankaaGreatModM
import Derived.Test.YtfjnkneoddankaaGreatSh
import Derived.Test.YtfjnkneoddankaaGreatTw
set_option linter.unusedVariables false
set_option linter.unusedSimpArgs false
set_option maxRecDepth 100000
namespace Go.FL

def giveStepK {R : Type} (bot : R) (tw : (Prop → Prop) → R → R) (c : PCfg) (who : Int) (x : PGive) (m : PMem) (K : Bool → PGive → PMem → R) : R :=
  bif decide (x.pc = 0) then
   K false ⟨1, (x.slot), ((PMem.eLoad m who 1).fst)⟩ ((PMem.eLoad m who 1).snd)
  else
   bif decide (x.pc = 1) then
    K false ⟨2, (x.slot), (x.top)⟩ (PMem.eStore m who (wrI (lSlot c.threads c.slots c.chunks c.words c.gens c.sparse c.tries x.slot + 1)) (putTop (topOf x.top).fst 0))
   else
    K ((PMem.eCas m who 1 x.top (putTop x.slot (wrI ((topOf x.top).snd + 1)))).fst) ⟨0, (x.slot), (x.top)⟩ ((PMem.eCas m who 1 x.top (putTop x.slot (wrI ((topOf x.top).snd + 1)))).snd)

def giveStep (c : PCfg) (who : Int) (x : PGive) (m : PMem) : Bool × PGive × PMem := giveStepK (false, x, m) twV c who x m fun r x m => (r, x, m)

theorem giveStepK_eq (c : PCfg) (who : Int) (x : PGive) (m : PMem) (K : Bool → PGive → PMem → Prop) : giveStepK False twP c who x m K = K (giveStep c who x m).1 (giveStep c who x m).2.1 (giveStep c who x m).2.2 := by
  show _ = app3 K (giveStepK (false, x, m) twV c who x m fun r x m => (r, x, m))
  unfold giveStepK
  repeat' first
    | refine cond3 ?_ ?_
    | refine tw3 (fun p => by simp only [and_self]) ?_
    | exact rfl

def placeStepK {R : Type} (bot : R) (tw : (Prop → Prop) → R → R) (c : PCfg) (who : Int) (x : PPlace) (m : PMem) (K : Bool → PPlace → PMem → R) : R :=
  bif decide (x.pc = 0) then
   bif decide (wrI (wrI (PMem.eLoad m who (wrI (2 + x.cls))).fst - 1) < 0) then
    K false ⟨(x.cls), 3, ((PMem.eLoad m who (wrI (2 + x.cls))).fst), 0, (x.w), (x.sa), (x.sc), (x.ok)⟩ ((PMem.eLoad m who (wrI (2 + x.cls))).snd)
   else
    K false ⟨(x.cls), 1, ((PMem.eLoad m who (wrI (2 + x.cls))).fst), (wrI (wrI (PMem.eLoad m who (wrI (2 + x.cls))).fst - 1)), (x.w), (x.sa), (x.sc), (x.ok)⟩ ((PMem.eLoad m who (wrI (2 + x.cls))).snd)
  else
   bif decide (x.pc = 1) then
    bif !decide ((chunkOf (PMem.eLoad m who (lChunk c.threads c.slots c.chunks c.words c.gens c.sparse c.tries x.at_)).fst).fst = 1) then
     K false ⟨(x.cls), 3, (x.opn), 0, ((PMem.eLoad m who (lChunk c.threads c.slots c.chunks c.words c.gens c.sparse c.tries x.at_)).fst), (x.sa), (x.sc), (x.ok)⟩ ((PMem.eLoad m who (lChunk c.threads c.slots c.chunks c.words c.gens c.sparse c.tries x.at_)).snd)
    else
     bif !decide ((chunkOf (PMem.eLoad m who (lChunk c.threads c.slots c.chunks c.words c.gens c.sparse c.tries x.at_)).fst).snd.fst = x.cls) then
      K false ⟨(x.cls), 3, (x.opn), 0, ((PMem.eLoad m who (lChunk c.threads c.slots c.chunks c.words c.gens c.sparse c.tries x.at_)).fst), (x.sa), (x.sc), (x.ok)⟩ ((PMem.eLoad m who (lChunk c.threads c.slots c.chunks c.words c.gens c.sparse c.tries x.at_)).snd)
     else
      bif decide (c.words < wrI ((chunkOf (PMem.eLoad m who (lChunk c.threads c.slots c.chunks c.words c.gens c.sparse c.tries x.at_)).fst).snd.snd.fst + lRoom x.cls)) then
       K false ⟨(x.cls), 3, (x.opn), 0, ((PMem.eLoad m who (lChunk c.threads c.slots c.chunks c.words c.gens c.sparse c.tries x.at_)).fst), (x.sa), (x.sc), (x.ok)⟩ ((PMem.eLoad m who (lChunk c.threads c.slots c.chunks c.words c.gens c.sparse c.tries x.at_)).snd)
      else
       K false ⟨(x.cls), 2, (x.opn), (x.at_), ((PMem.eLoad m who (lChunk c.threads c.slots c.chunks c.words c.gens c.sparse c.tries x.at_)).fst), (x.sa), (x.sc), (x.ok)⟩ ((PMem.eLoad m who (lChunk c.threads c.slots c.chunks c.words c.gens c.sparse c.tries x.at_)).snd)
   else
    bif decide (x.pc = 2) then
     bif !(PMem.eCas m who (lChunk c.threads c.slots c.chunks c.words c.gens c.sparse c.tries x.at_) x.w (putChunk (chunkOf x.w).fst (chunkOf x.w).snd.fst (wrI ((chunkOf x.w).snd.snd.fst + lRoom x.cls)) (chunkOf x.w).snd.snd.snd)).fst then
      K false ⟨(x.cls), 0, (x.opn), (x.at_), (x.w), (x.sa), (x.sc), (x.ok)⟩ ((PMem.eCas m who (lChunk c.threads c.slots c.chunks c.words c.gens c.sparse c.tries x.at_) x.w (putChunk (chunkOf x.w).fst (chunkOf x.w).snd.fst (wrI ((chunkOf x.w).snd.snd.fst + lRoom x.cls)) (chunkOf x.w).snd.snd.snd)).snd)
     else
      K true ⟨(x.cls), 0, (x.opn), (x.at_), (x.w), (wrI (lBase c.threads c.slots c.chunks c.words c.gens c.sparse c.tries x.at_ + (chunkOf x.w).snd.snd.fst)), (x.at_), true⟩ ((PMem.eCas m who (lChunk c.threads c.slots c.chunks c.words c.gens c.sparse c.tries x.at_) x.w (putChunk (chunkOf x.w).fst (chunkOf x.w).snd.fst (wrI ((chunkOf x.w).snd.snd.fst + lRoom x.cls)) (chunkOf x.w).snd.snd.snd)).snd)
    else
     bif decide (x.pc = 3) then
      bif !decide ((chunkOf (PMem.eLoad m who (lChunk c.threads c.slots c.chunks c.words c.gens c.sparse c.tries x.at_)).fst).fst = 0) then
       K (decide (c.chunks ≤ wrI (x.at_ + 1))) ⟨(x.cls), 3, (x.opn), (wrI (x.at_ + 1)), ((PMem.eLoad m who (lChunk c.threads c.slots c.chunks c.words c.gens c.sparse c.tries x.at_)).fst), (x.sa), (x.sc), (x.ok)⟩ ((PMem.eLoad m who (lChunk c.threads c.slots c.chunks c.words c.gens c.sparse c.tries x.at_)).snd)
      else
       K false ⟨(x.cls), 4, (x.opn), (x.at_), ((PMem.eLoad m who (lChunk c.threads c.slots c.chunks c.words c.gens c.sparse c.tries x.at_)).fst), (x.sa), (x.sc), (x.ok)⟩ ((PMem.eLoad m who (lChunk c.threads c.slots c.chunks c.words c.gens c.sparse c.tries x.at_)).snd)
     else
      bif decide (x.pc = 4) then
       bif !(PMem.eCas m who (lChunk c.threads c.slots c.chunks c.words c.gens c.sparse c.tries x.at_) x.w (putChunk 1 x.cls 0 (wrI ((chunkOf x.w).snd.snd.snd + 1)))).fst then
        K (decide (c.chunks ≤ wrI (x.at_ + 1))) ⟨(x.cls), 3, (x.opn), (wrI (x.at_ + 1)), (x.w), (x.sa), (x.sc), (x.ok)⟩ ((PMem.eCas m who (lChunk c.threads c.slots c.chunks c.words c.gens c.sparse c.tries x.at_) x.w (putChunk 1 x.cls 0 (wrI ((chunkOf x.w).snd.snd.snd + 1)))).snd)
       else
        K false ⟨(x.cls), 5, (x.opn), (x.at_), (x.w), (x.sa), (x.sc), (x.ok)⟩ ((PMem.eCas m who (lChunk c.threads c.slots c.chunks c.words c.gens c.sparse c.tries x.at_) x.w (putChunk 1 x.cls 0 (wrI ((chunkOf x.w).snd.snd.snd + 1)))).snd)
      else
       bif decide (x.pc = 5) then
        bif (PMem.eCas m who (wrI (2 + x.cls)) x.opn (wrU (wrI (x.at_ + 1)))).fst then
         K false ⟨(x.cls), 0, (x.opn), (x.at_), (x.w), (x.sa), (x.sc), (x.ok)⟩ ((PMem.eCas m who (wrI (2 + x.cls)) x.opn (wrU (wrI (x.at_ + 1)))).snd)
        else
         K false ⟨(x.cls), 6, (x.opn), (x.at_), (x.w), (x.sa), (x.sc), (x.ok)⟩ ((PMem.eCas m who (wrI (2 + x.cls)) x.opn (wrU (wrI (x.at_ + 1)))).snd)
       else
        K false ⟨(x.cls), 0, (x.opn), (x.at_), (x.w), (x.sa), (x.sc), (x.ok)⟩ ((PMem.eCas m who (lChunk c.threads c.slots c.chunks c.words c.gens c.sparse c.tries x.at_) (putChunk 1 x.cls 0 (wrI ((chunkOf x.w).snd.snd.snd + 1))) (putChunk 0 0 0 (wrI ((chunkOf x.w).snd.snd.snd + 2)))).snd)

def placeStep (c : PCfg) (who : Int) (x : PPlace) (m : PMem) : Bool × PPlace × PMem := placeStepK (false, x, m) twV c who x m fun r x m => (r, x, m)

theorem placeStepK_eq (c : PCfg) (who : Int) (x : PPlace) (m : PMem) (K : Bool → PPlace → PMem → Prop) : placeStepK False twP c who x m K = K (placeStep c who x m).1 (placeStep c who x m).2.1 (placeStep c who x m).2.2 := by
  show _ = app3 K (placeStepK (false, x, m) twV c who x m fun r x m => (r, x, m))
  unfold placeStepK
  repeat' first
    | refine cond3 ?_ ?_
    | refine tw3 (fun p => by simp only [and_self]) ?_
    | exact rfl

def helpStepK {R : Type} (bot : R) (tw : (Prop → Prop) → R → R) (c : PCfg) (who : Int) (x : PHelp) (m : PMem) (K : Bool → PHelp → PMem → R) : R :=
  bif decide (x.size ≤ x.i) then
   bif decide (c.gens ≤ (slotOf x.w).snd.snd.fst) then
    K true ⟨(x.slot), (x.w), (x.size), (x.i), (x.cell), (x.read), ((PMem.eCas m who (lSlot c.threads c.slots c.chunks c.words c.gens c.sparse c.tries x.slot) x.w (putSlot 3 0 (slotOf x.w).snd.snd.fst 0)).fst)⟩ ((PMem.eCas m who (lSlot c.threads c.slots c.chunks c.words c.gens c.sparse c.tries x.slot) x.w (putSlot 3 0 (slotOf x.w).snd.snd.fst 0)).snd)
   else
    K true ⟨(x.slot), (x.w), (x.size), (x.i), (x.cell), (x.read), ((PMem.eCas m who (lSlot c.threads c.slots c.chunks c.words c.gens c.sparse c.tries x.slot) x.w (putSlot 0 0 (wrI ((slotOf x.w).snd.snd.fst + 1)) 0)).fst)⟩ ((PMem.eCas m who (lSlot c.threads c.slots c.chunks c.words c.gens c.sparse c.tries x.slot) x.w (putSlot 0 0 (wrI ((slotOf x.w).snd.snd.fst + 1)) 0)).snd)
  else
   bif !x.read then
    bif !(cellOf (PMem.eLoad m who (wrI (wrI ((slotOf x.w).snd.fst + 1) + x.i))).fst).snd.fst then
     K false ⟨(x.slot), (x.w), (x.size), (x.i), ((PMem.eLoad m who (wrI (wrI ((slotOf x.w).snd.fst + 1) + x.i))).fst), true, (x.won)⟩ ((PMem.eLoad m who (wrI (wrI ((slotOf x.w).snd.fst + 1) + x.i))).snd)
    else
     bif !!decide ((cellOf (PMem.eLoad m who (wrI (wrI ((slotOf x.w).snd.fst + 1) + x.i))).fst).snd.snd = (slotOf x.w).snd.snd.snd) then
      K false ⟨(x.slot), (x.w), (x.size), (wrI (x.i + 1)), ((PMem.eLoad m who (wrI (wrI ((slotOf x.w).snd.fst + 1) + x.i))).fst), (!decide ((cellOf (PMem.eLoad m who (wrI (wrI ((slotOf x.w).snd.fst + 1) + x.i))).fst).snd.snd = (slotOf x.w).snd.snd.snd)), (x.won)⟩ ((PMem.eLoad m who (wrI (wrI ((slotOf x.w).snd.fst + 1) + x.i))).snd)
     else
      K false ⟨(x.slot), (x.w), (x.size), (x.i), ((PMem.eLoad m who (wrI (wrI ((slotOf x.w).snd.fst + 1) + x.i))).fst), (!decide ((cellOf (PMem.eLoad m who (wrI (wrI ((slotOf x.w).snd.fst + 1) + x.i))).fst).snd.snd = (slotOf x.w).snd.snd.snd)), (x.won)⟩ ((PMem.eLoad m who (wrI (wrI ((slotOf x.w).snd.fst + 1) + x.i))).snd)
   else
    bif (PMem.eCas m who (wrI (wrI ((slotOf x.w).snd.fst + 1) + x.i)) x.cell (putCell (cellOf x.cell).fst true (slotOf x.w).snd.snd.snd)).fst then
     K false ⟨(x.slot), (x.w), (x.size), (wrI (x.i + 1)), (x.cell), false, (x.won)⟩ ((PMem.eCas m who (wrI (wrI ((slotOf x.w).snd.fst + 1) + x.i)) x.cell (putCell (cellOf x.cell).fst true (slotOf x.w).snd.snd.snd)).snd)
    else
     K false ⟨(x.slot), (x.w), (x.size), (x.i), (x.cell), false, (x.won)⟩ ((PMem.eCas m who (wrI (wrI ((slotOf x.w).snd.fst + 1) + x.i)) x.cell (putCell (cellOf x.cell).fst true (slotOf x.w).snd.snd.snd)).snd)

def helpStep (c : PCfg) (who : Int) (x : PHelp) (m : PMem) : Bool × PHelp × PMem := helpStepK (false, x, m) twV c who x m fun r x m => (r, x, m)

theorem helpStepK_eq (c : PCfg) (who : Int) (x : PHelp) (m : PMem) (K : Bool → PHelp → PMem → Prop) : helpStepK False twP c who x m K = K (helpStep c who x m).1 (helpStep c who x m).2.1 (helpStep c who x m).2.2 := by
  show _ = app3 K (helpStepK (false, x, m) twV c who x m fun r x m => (r, x, m))
  unfold helpStepK
  repeat' first
    | refine cond3 ?_ ?_
    | refine tw3 (fun p => by simp only [and_self]) ?_
    | exact rfl

end Go.FL
