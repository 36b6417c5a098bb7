/-
  The compactor's steps, as the evaluator has them.
-/
import Derived.Test.YtfjnkneoddankaaGreatModS4
import Derived.Test.YtfjnkneoddankaaGreatCho
set_option linter.unusedVariables false
set_option linter.unusedSimpArgs false
set_option maxRecDepth 100000
namespace Go.FL

/-! A tree of choices as a proposition and as a value; the list's capacity may be any. -/

def rqP (p q : Prop) : Prop := p ∧ q
def rqV {R : Type} (p : Prop) (r : R) : R := r
def faP (f : Nat → Prop) : Prop := ∀ n, f n
def faV {R : Type} (f : Nat → R) : R := f 0
def rmP (b : Bool) (p q : Prop) : Prop := cond b p q
def rmV {R : Type} (b : Bool) (p q : R) : R := q

def appC (K : PComp → Nat → PMem → Prop) : Option (PComp × PMem) → Prop
  | none => False
  | some (x, m) => ∀ cap, K x cap m

theorem c_leaf {K : PComp → Nat → PMem → Prop} {x : PComp} {m : PMem} (cap : Nat) (h : appC K (some (x, m))) : K x cap m := h cap
theorem c_bot {K : PComp → Nat → PMem → Prop} {p : Prop} (h : appC K none) : p := h.elim
theorem c_cond {K : PComp → Nat → PMem → Prop} {b : Bool} {p q : Prop} {u v : Option (PComp × PMem)} (h1 : b = true → appC K u → p) (h2 : b = false → appC K v → q) (h : appC K (cond b u v)) : cond b p q := by
  cases b
  · exact h2 rfl h
  · exact h1 rfl h
theorem c_rm {K : PComp → Nat → PMem → Prop} {b b' : Bool} {p q : Prop} {u v : Option (PComp × PMem)} (h1 : appC K v → p) (h2 : appC K v → q) (h : appC K (rmV b' u v)) : rmP b p q := by
  cases b
  · exact h2 h
  · exact h1 h
theorem c_fa {K : PComp → Nat → PMem → Prop} {f : Nat → Option (PComp × PMem)} {g : Nat → Prop} (h1 : ∀ n, appC K (f 0) → g n) (h : appC K (faV f)) : faP g := fun n => h1 n h
theorem c_rq {K : PComp → Nat → PMem → Prop} {p p' q : Prop} {u : Option (PComp × PMem)} (hp : p) (h1 : appC K u → q) (h : appC K (rqV p' u)) : rqP p q := ⟨hp, h1 h⟩
theorem c_rq' {p q A : Prop} (hp : p) (h1 : A → q) (h : A) : rqP p q := ⟨hp, h1 h⟩
theorem c_bif {K : PComp → Nat → PMem → Prop} {a b : Int} {G : Prop} {u v : Option (PComp × PMem)} (h : appC K (bif decide (a = b) then u else v)) (h1 : a = b → appC K u → G) (h2 : appC K v → G) : G := by
  by_cases hab : a = b
  · simp only [hab, decide_true, cond_true] at h; exact h1 hab h
  · simp only [hab, decide_false, cond_false] at h; exact h2 h

def csStartK {R : Type} (bot : R) (rq : Prop → R → R) (fa : (Nat → R) → R) (rm : Bool → R → R → R) (c : PCfg) (who : Int) (x : PComp) (cap : Nat) (mm : PMem) (K : PComp → Nat → PMem → R) : R :=
  bif decide (x.at_ = 0) then
   fa (fun more =>
    rq (1 = 1 ∧ 1 + more = 1 + more) (
     K ⟨1, (some ⟨(1), (fun x_1 => (chunkOf (PMem.eLoad mm who (lChunk c.threads c.slots c.chunks c.words c.gens c.sparse c.tries x.at_)).fst).fst), (fun x_1 => (chunkOf (PMem.eLoad mm who (lChunk c.threads c.slots c.chunks c.words c.gens c.sparse c.tries x.at_)).fst).snd.fst), (fun x_1 => (chunkOf (PMem.eLoad mm who (lChunk c.threads c.slots c.chunks c.words c.gens c.sparse c.tries x.at_)).fst).snd.snd.fst), (fun x_1 => (chunkOf (PMem.eLoad mm who (lChunk c.threads c.slots c.chunks c.words c.gens c.sparse c.tries x.at_)).fst).snd.snd.snd), (fun x => 0), (fun x => false)⟩), (x.at_), (x.pos), (x.w), (x.now), none, none, none, ⟨(x.work.ev), (x.work.lf), (x.work.fr), (x.work.mv), (x.work.rd)⟩, ⟨(x.was.ev), (x.was.lf), (x.was.fr), (x.was.mv), (x.was.rd)⟩, (x.idle)⟩ (1 + more) ((PMem.eLoad mm who (lChunk c.threads c.slots c.chunks c.words c.gens c.sparse c.tries x.at_)).snd)))
  else
   fa (fun more =>
    rq (1 = 1 ∧ 1 + more = 1 + more) (
     K ⟨1, (some ⟨(1), (fun x_1 => (chunkOf (PMem.eLoad mm who (lChunk c.threads c.slots c.chunks c.words c.gens c.sparse c.tries x.at_)).fst).fst), (fun x_1 => (chunkOf (PMem.eLoad mm who (lChunk c.threads c.slots c.chunks c.words c.gens c.sparse c.tries x.at_)).fst).snd.fst), (fun x_1 => (chunkOf (PMem.eLoad mm who (lChunk c.threads c.slots c.chunks c.words c.gens c.sparse c.tries x.at_)).fst).snd.snd.fst), (fun x_1 => (chunkOf (PMem.eLoad mm who (lChunk c.threads c.slots c.chunks c.words c.gens c.sparse c.tries x.at_)).fst).snd.snd.snd), (fun x => 0), (fun x => false)⟩), (x.at_), (x.pos), (x.w), (x.now), none, none, none, ⟨(x.work.ev), (x.work.lf), (x.work.fr), (x.work.mv), (x.work.rd)⟩, ⟨(x.was.ev), (x.was.lf), (x.was.fr), (x.was.mv), (x.was.rd)⟩, (x.idle)⟩ (1 + more) ((PMem.eLoad mm who (lChunk c.threads c.slots c.chunks c.words c.gens c.sparse c.tries x.at_)).snd)))

def csStart (c : PCfg) (who : Int) (x : PComp) (mm : PMem) : Option (PComp × PMem) := csStartK none rqV faV rmV c who x 0 mm fun x _ m => some (x, m)

theorem csStartK_of (c : PCfg) (who : Int) (x : PComp) (cap : Nat) (mm : PMem) {K : PComp → Nat → PMem → Prop} : appC K (csStart c who x mm) → csStartK False rqP faP rmP c who x cap mm K := by
  unfold csStart csStartK
  repeat' first
    | exact c_leaf _
    | exact c_bot
    | refine c_cond (fun _ => ?_) (fun _ => ?_)
    | refine c_rm ?_ ?_
    | refine c_fa (fun _ => ?_)
    | refine c_rq ⟨rfl, rfl⟩ ?_
    | refine c_rq' ⟨rfl, rfl⟩ ?_

def cs0_0K {R : Type} (bot : R) (rq : Prop → R → R) (fa : (Nat → R) → R) (rm : Bool → R → R → R) (c : PCfg) (who : Int) (x : PComp) (seen : PSeenL) (cap : Nat) (mm : PMem) (K : PComp → Nat → PMem → R) : R :=
  bif decide (x.at_ = 0) then
   fa (fun more =>
    rq (1 = 1 ∧ 1 + more = 1 + more) (
     K ⟨1, (some ⟨(1), (fun x_1 => (chunkOf (PMem.eLoad mm who (lChunk c.threads c.slots c.chunks c.words c.gens c.sparse c.tries x.at_)).fst).fst), (fun x_1 => (chunkOf (PMem.eLoad mm who (lChunk c.threads c.slots c.chunks c.words c.gens c.sparse c.tries x.at_)).fst).snd.fst), (fun x_1 => (chunkOf (PMem.eLoad mm who (lChunk c.threads c.slots c.chunks c.words c.gens c.sparse c.tries x.at_)).fst).snd.snd.fst), (fun x_1 => (chunkOf (PMem.eLoad mm who (lChunk c.threads c.slots c.chunks c.words c.gens c.sparse c.tries x.at_)).fst).snd.snd.snd), (fun x => 0), (fun x => false)⟩), (x.at_), (x.pos), (x.w), (x.now), none, none, none, ⟨(x.work.ev), (x.work.lf), (x.work.fr), (x.work.mv), (x.work.rd)⟩, ⟨(x.was.ev), (x.was.lf), (x.was.fr), (x.was.mv), (x.was.rd)⟩, (x.idle)⟩ (1 + more) ((PMem.eLoad mm who (lChunk c.threads c.slots c.chunks c.words c.gens c.sparse c.tries x.at_)).snd)))
  else
   rq ((seen.len = seen.len ∧ cap = cap) ∧ seen.len ≤ 1048576) (
    rm (decide (seen.len + 1 ≤ cap)) (
     rq (seen.len + 1 = seen.len + 1 ∧ cap = cap) (
      K ⟨1, (some ⟨(seen.len + 1), (fun j => bif Nat.beq j (seen.len) then (chunkOf (PMem.eLoad mm who (lChunk c.threads c.slots c.chunks c.words c.gens c.sparse c.tries x.at_)).fst).fst else seen.st j), (fun j => bif Nat.beq j (seen.len) then (chunkOf (PMem.eLoad mm who (lChunk c.threads c.slots c.chunks c.words c.gens c.sparse c.tries x.at_)).fst).snd.fst else seen.cl j), (fun j => bif Nat.beq j (seen.len) then (chunkOf (PMem.eLoad mm who (lChunk c.threads c.slots c.chunks c.words c.gens c.sparse c.tries x.at_)).fst).snd.snd.fst else seen.us j), (fun j => bif Nat.beq j (seen.len) then (chunkOf (PMem.eLoad mm who (lChunk c.threads c.slots c.chunks c.words c.gens c.sparse c.tries x.at_)).fst).snd.snd.snd else seen.sp j), (fun j => bif Nat.beq j (seen.len) then 0 else seen.lv j), (fun j => bif Nat.beq j (seen.len) then false else seen.op j)⟩), (x.at_), (x.pos), (x.w), (x.now), none, none, none, ⟨(x.work.ev), (x.work.lf), (x.work.fr), (x.work.mv), (x.work.rd)⟩, ⟨(x.was.ev), (x.was.lf), (x.was.fr), (x.was.mv), (x.was.rd)⟩, (x.idle)⟩ (cap) ((PMem.eLoad mm who (lChunk c.threads c.slots c.chunks c.words c.gens c.sparse c.tries x.at_)).snd))) (
     fa (fun more =>
      rq (seen.len + 1 = seen.len + 1 ∧ seen.len + 1 + more = seen.len + 1 + more) (
       K ⟨1, (some ⟨(seen.len + 1), (fun j => bif Nat.beq j (seen.len) then (chunkOf (PMem.eLoad mm who (lChunk c.threads c.slots c.chunks c.words c.gens c.sparse c.tries x.at_)).fst).fst else seen.st j), (fun j => bif Nat.beq j (seen.len) then (chunkOf (PMem.eLoad mm who (lChunk c.threads c.slots c.chunks c.words c.gens c.sparse c.tries x.at_)).fst).snd.fst else seen.cl j), (fun j => bif Nat.beq j (seen.len) then (chunkOf (PMem.eLoad mm who (lChunk c.threads c.slots c.chunks c.words c.gens c.sparse c.tries x.at_)).fst).snd.snd.fst else seen.us j), (fun j => bif Nat.beq j (seen.len) then (chunkOf (PMem.eLoad mm who (lChunk c.threads c.slots c.chunks c.words c.gens c.sparse c.tries x.at_)).fst).snd.snd.snd else seen.sp j), (fun j => bif Nat.beq j (seen.len) then 0 else seen.lv j), (fun j => bif Nat.beq j (seen.len) then false else seen.op j)⟩), (x.at_), (x.pos), (x.w), (x.now), none, none, none, ⟨(x.work.ev), (x.work.lf), (x.work.fr), (x.work.mv), (x.work.rd)⟩, ⟨(x.was.ev), (x.was.lf), (x.was.fr), (x.was.mv), (x.was.rd)⟩, (x.idle)⟩ (seen.len + 1 + more) ((PMem.eLoad mm who (lChunk c.threads c.slots c.chunks c.words c.gens c.sparse c.tries x.at_)).snd)))))

def cs0_0 (c : PCfg) (who : Int) (x : PComp) (seen : PSeenL) (mm : PMem) : Option (PComp × PMem) := cs0_0K none rqV faV rmV c who x seen 0 mm fun x _ m => some (x, m)

theorem cs0_0K_of (c : PCfg) (who : Int) (x : PComp) (seen : PSeenL) (cap : Nat) (mm : PMem) (hlen : seen.len ≤ 1048576) {K : PComp → Nat → PMem → Prop} : appC K (cs0_0 c who x seen mm) → cs0_0K False rqP faP rmP c who x seen cap mm K := by
  unfold cs0_0 cs0_0K
  repeat' first
    | exact c_leaf _
    | exact c_bot
    | refine c_cond (fun _ => ?_) (fun _ => ?_)
    | refine c_rm ?_ ?_
    | refine c_fa (fun _ => ?_)
    | refine c_rq ⟨rfl, rfl⟩ ?_
    | refine c_rq' ⟨rfl, rfl⟩ ?_
    | refine c_rq ⟨⟨rfl, rfl⟩, hlen⟩ ?_
    | refine c_rq ⟨⟨rfl, rfl⟩, rfl, hlen⟩ ?_
    | refine c_rq (by simp only [decide_eq_true_eq] at *; omega) ?_

def cs1_0K {R : Type} (bot : R) (rq : Prop → R → R) (fa : (Nat → R) → R) (rm : Bool → R → R → R) (c : PCfg) (who : Int) (x : PComp) (seen : PSeenL) (cap : Nat) (mm : PMem) (K : PComp → Nat → PMem → R) : R :=
  bif decide (0 ≤ x.at_ ∧ x.at_ < ↑seen.len) then
   rq (Int.toNat x.at_ < seen.len) (
    bif decide (c.chunks ≤ wrI (x.at_ + 1)) then
     rq (seen.len = seen.len ∧ cap = cap) (
      K ⟨2, (some ⟨(seen.len), (seen.2), (seen.3), (seen.4), (seen.5), (fun j => bif Nat.beq j (Int.toNat x.at_) then wrI (PMem.eLoad mm who (wrI (lChunk c.threads c.slots c.chunks c.words c.gens c.sparse c.tries x.at_ + 1))).fst else seen.lv j), (seen.7)⟩), 0, (x.pos), (x.w), (x.now), none, none, none, ⟨(x.work.ev), (x.work.lf), (x.work.fr), (x.work.mv), (x.work.rd)⟩, ⟨(x.was.ev), (x.was.lf), (x.was.fr), (x.was.mv), (x.was.rd)⟩, (x.idle)⟩ (cap) ((PMem.eLoad mm who (wrI (lChunk c.threads c.slots c.chunks c.words c.gens c.sparse c.tries x.at_ + 1))).snd))
    else
     rq (seen.len = seen.len ∧ cap = cap) (
      K ⟨0, (some ⟨(seen.len), (seen.2), (seen.3), (seen.4), (seen.5), (fun j => bif Nat.beq j (Int.toNat x.at_) then wrI (PMem.eLoad mm who (wrI (lChunk c.threads c.slots c.chunks c.words c.gens c.sparse c.tries x.at_ + 1))).fst else seen.lv j), (seen.7)⟩), (wrI (x.at_ + 1)), (x.pos), (x.w), (x.now), none, none, none, ⟨(x.work.ev), (x.work.lf), (x.work.fr), (x.work.mv), (x.work.rd)⟩, ⟨(x.was.ev), (x.was.lf), (x.was.fr), (x.was.mv), (x.was.rd)⟩, (x.idle)⟩ (cap) ((PMem.eLoad mm who (wrI (lChunk c.threads c.slots c.chunks c.words c.gens c.sparse c.tries x.at_ + 1))).snd)))
  else
   bot

def cs1_0 (c : PCfg) (who : Int) (x : PComp) (seen : PSeenL) (mm : PMem) : Option (PComp × PMem) := cs1_0K none rqV faV rmV c who x seen 0 mm fun x _ m => some (x, m)

theorem cs1_0K_of (c : PCfg) (who : Int) (x : PComp) (seen : PSeenL) (cap : Nat) (mm : PMem) (hlen : seen.len ≤ 1048576) {K : PComp → Nat → PMem → Prop} : appC K (cs1_0 c who x seen mm) → cs1_0K False rqP faP rmP c who x seen cap mm K := by
  unfold cs1_0 cs1_0K
  repeat' first
    | exact c_leaf _
    | exact c_bot
    | refine c_cond (fun _ => ?_) (fun _ => ?_)
    | refine c_rm ?_ ?_
    | refine c_fa (fun _ => ?_)
    | refine c_rq ⟨rfl, rfl⟩ ?_
    | refine c_rq' ⟨rfl, rfl⟩ ?_
    | refine c_rq ⟨⟨rfl, rfl⟩, hlen⟩ ?_
    | refine c_rq ⟨⟨rfl, rfl⟩, rfl, hlen⟩ ?_
    | refine c_rq (by simp only [decide_eq_true_eq] at *; omega) ?_

def cs2_0K {R : Type} (bot : R) (rq : Prop → R → R) (fa : (Nat → R) → R) (rm : Bool → R → R → R) (c : PCfg) (who : Int) (x : PComp) (seen : PSeenL) (cap : Nat) (mm : PMem) (K : PComp → Nat → PMem → R) : R :=
  bif decide (0 < wrI (PMem.eLoad mm who (wrI (2 + x.at_))).fst) then
   bif decide (0 ≤ wrI (wrI (PMem.eLoad mm who (wrI (2 + x.at_))).fst - 1) ∧ wrI (wrI (PMem.eLoad mm who (wrI (2 + x.at_))).fst - 1) < ↑seen.len) then
    rq (Int.toNat (wrI (wrI (PMem.eLoad mm who (wrI (2 + x.at_))).fst - 1)) < seen.len) (
     bif decide (wrI (x.at_ + 1) < 4) then
      rq (seen.len = seen.len ∧ cap = cap) (
       K ⟨2, (some ⟨(seen.len), (seen.2), (seen.3), (seen.4), (seen.5), (seen.6), (fun j => bif Nat.beq j (Int.toNat (wrI (wrI (PMem.eLoad mm who (wrI (2 + x.at_))).fst - 1))) then true else seen.op j)⟩), (wrI (x.at_ + 1)), (x.pos), (x.w), (x.now), none, none, none, ⟨(x.work.ev), (x.work.lf), (x.work.fr), (x.work.mv), (x.work.rd)⟩, ⟨(x.was.ev), (x.was.lf), (x.was.fr), (x.was.mv), (x.was.rd)⟩, (x.idle)⟩ (cap) ((PMem.eLoad mm who (wrI (2 + x.at_))).snd))
     else
      rq ((seen.len = seen.len ∧ cap = cap) ∧ 138 = 138 ∧ seen.len ≤ 1048576) (
       bif decide ((chooseM c.sparse seen.len seen.st seen.us seen.lv fun j => bif Nat.beq j (Int.toNat (wrI (wrI (PMem.eLoad mm who (wrI (2 + x.at_))).fst - 1))) then true else seen.op j) < 0) then
        rq (seen.len = seen.len ∧ cap = cap) (
         K ⟨10, (some ⟨(seen.len), (seen.2), (seen.3), (seen.4), (seen.5), (seen.6), (fun j => bif Nat.beq j (Int.toNat (wrI (wrI (PMem.eLoad mm who (wrI (2 + x.at_))).fst - 1))) then true else seen.op j)⟩), (chooseM c.sparse seen.len seen.st seen.us seen.lv fun j => bif Nat.beq j (Int.toNat (wrI (wrI (PMem.eLoad mm who (wrI (2 + x.at_))).fst - 1))) then true else seen.op j), (x.pos), (x.w), (x.now), none, none, none, ⟨(x.work.ev), (x.work.lf), (x.work.fr), (x.work.mv), (x.work.rd)⟩, ⟨(x.was.ev), (x.was.lf), (x.was.fr), (x.was.mv), (x.was.rd)⟩, (x.idle)⟩ (cap) ((PMem.eLoad mm who (wrI (2 + x.at_))).snd))
       else
        bif decide ((0 ≤ chooseM c.sparse seen.len seen.st seen.us seen.lv fun j => bif Nat.beq j (Int.toNat (wrI (wrI (PMem.eLoad mm who (wrI (2 + x.at_))).fst - 1))) then true else seen.op j) ∧ (chooseM c.sparse seen.len seen.st seen.us seen.lv fun j => bif Nat.beq j (Int.toNat (wrI (wrI (PMem.eLoad mm who (wrI (2 + x.at_))).fst - 1))) then true else seen.op j) < ↑seen.len) then
         rq (Int.toNat (chooseM c.sparse seen.len seen.st seen.us seen.lv fun j => bif Nat.beq j (Int.toNat (wrI (wrI (PMem.eLoad mm who (wrI (2 + x.at_))).fst - 1))) then true else seen.op j) < seen.len) (
          rq (seen.len = seen.len ∧ cap = cap) (
           K ⟨3, (some ⟨(seen.len), (seen.2), (seen.3), (seen.4), (seen.5), (seen.6), (fun j => bif Nat.beq j (Int.toNat (wrI (wrI (PMem.eLoad mm who (wrI (2 + x.at_))).fst - 1))) then true else seen.op j)⟩), (chooseM c.sparse seen.len seen.st seen.us seen.lv fun j => bif Nat.beq j (Int.toNat (wrI (wrI (PMem.eLoad mm who (wrI (2 + x.at_))).fst - 1))) then true else seen.op j), (x.pos), (putChunk (seen.st (Int.toNat (chooseM c.sparse seen.len seen.st seen.us seen.lv fun j => bif Nat.beq j (Int.toNat (wrI (wrI (PMem.eLoad mm who (wrI (2 + x.at_))).fst - 1))) then true else seen.op j))) (seen.cl (Int.toNat (chooseM c.sparse seen.len seen.st seen.us seen.lv fun j => bif Nat.beq j (Int.toNat (wrI (wrI (PMem.eLoad mm who (wrI (2 + x.at_))).fst - 1))) then true else seen.op j))) (seen.us (Int.toNat (chooseM c.sparse seen.len seen.st seen.us seen.lv fun j => bif Nat.beq j (Int.toNat (wrI (wrI (PMem.eLoad mm who (wrI (2 + x.at_))).fst - 1))) then true else seen.op j))) (seen.sp (Int.toNat (chooseM c.sparse seen.len seen.st seen.us seen.lv fun j => bif Nat.beq j (Int.toNat (wrI (wrI (PMem.eLoad mm who (wrI (2 + x.at_))).fst - 1))) then true else seen.op j)))), (x.now), none, none, none, ⟨(x.work.ev), (x.work.lf), (x.work.fr), (x.work.mv), (x.work.rd)⟩, ⟨(x.was.ev), (x.was.lf), (x.was.fr), (x.was.mv), (x.was.rd)⟩, (x.idle)⟩ (cap) ((PMem.eLoad mm who (wrI (2 + x.at_))).snd)))
        else
         bot))
   else
    bot
  else
   bif decide (wrI (x.at_ + 1) < 4) then
    rq (seen.len = seen.len ∧ cap = cap) (
     K ⟨2, (some ⟨(seen.len), (seen.2), (seen.3), (seen.4), (seen.5), (seen.6), (seen.7)⟩), (wrI (x.at_ + 1)), (x.pos), (x.w), (x.now), none, none, none, ⟨(x.work.ev), (x.work.lf), (x.work.fr), (x.work.mv), (x.work.rd)⟩, ⟨(x.was.ev), (x.was.lf), (x.was.fr), (x.was.mv), (x.was.rd)⟩, (x.idle)⟩ (cap) ((PMem.eLoad mm who (wrI (2 + x.at_))).snd))
   else
    rq ((seen.len = seen.len ∧ cap = cap) ∧ 138 = 138 ∧ seen.len ≤ 1048576) (
     bif decide (chooseM c.sparse seen.len seen.st seen.us seen.lv seen.op < 0) then
      rq (seen.len = seen.len ∧ cap = cap) (
       K ⟨10, (some ⟨(seen.len), (seen.2), (seen.3), (seen.4), (seen.5), (seen.6), (seen.7)⟩), (chooseM c.sparse seen.len seen.st seen.us seen.lv seen.op), (x.pos), (x.w), (x.now), none, none, none, ⟨(x.work.ev), (x.work.lf), (x.work.fr), (x.work.mv), (x.work.rd)⟩, ⟨(x.was.ev), (x.was.lf), (x.was.fr), (x.was.mv), (x.was.rd)⟩, (x.idle)⟩ (cap) ((PMem.eLoad mm who (wrI (2 + x.at_))).snd))
     else
      bif decide (0 ≤ chooseM c.sparse seen.len seen.st seen.us seen.lv seen.op ∧ chooseM c.sparse seen.len seen.st seen.us seen.lv seen.op < ↑seen.len) then
       rq (Int.toNat (chooseM c.sparse seen.len seen.st seen.us seen.lv seen.op) < seen.len) (
        rq (seen.len = seen.len ∧ cap = cap) (
         K ⟨3, (some ⟨(seen.len), (seen.2), (seen.3), (seen.4), (seen.5), (seen.6), (seen.7)⟩), (chooseM c.sparse seen.len seen.st seen.us seen.lv seen.op), (x.pos), (putChunk (seen.st (Int.toNat (chooseM c.sparse seen.len seen.st seen.us seen.lv seen.op))) (seen.cl (Int.toNat (chooseM c.sparse seen.len seen.st seen.us seen.lv seen.op))) (seen.us (Int.toNat (chooseM c.sparse seen.len seen.st seen.us seen.lv seen.op))) (seen.sp (Int.toNat (chooseM c.sparse seen.len seen.st seen.us seen.lv seen.op)))), (x.now), none, none, none, ⟨(x.work.ev), (x.work.lf), (x.work.fr), (x.work.mv), (x.work.rd)⟩, ⟨(x.was.ev), (x.was.lf), (x.was.fr), (x.was.mv), (x.was.rd)⟩, (x.idle)⟩ (cap) ((PMem.eLoad mm who (wrI (2 + x.at_))).snd)))
      else
       bot)

def cs2_0 (c : PCfg) (who : Int) (x : PComp) (seen : PSeenL) (mm : PMem) : Option (PComp × PMem) := cs2_0K none rqV faV rmV c who x seen 0 mm fun x _ m => some (x, m)

theorem cs2_0K_of (c : PCfg) (who : Int) (x : PComp) (seen : PSeenL) (cap : Nat) (mm : PMem) (hlen : seen.len ≤ 1048576) {K : PComp → Nat → PMem → Prop} : appC K (cs2_0 c who x seen mm) → cs2_0K False rqP faP rmP c who x seen cap mm K := by
  unfold cs2_0 cs2_0K
  repeat' first
    | exact c_leaf _
    | exact c_bot
    | refine c_cond (fun _ => ?_) (fun _ => ?_)
    | refine c_rm ?_ ?_
    | refine c_fa (fun _ => ?_)
    | refine c_rq ⟨rfl, rfl⟩ ?_
    | refine c_rq' ⟨rfl, rfl⟩ ?_
    | refine c_rq ⟨⟨rfl, rfl⟩, hlen⟩ ?_
    | refine c_rq ⟨⟨rfl, rfl⟩, rfl, hlen⟩ ?_
    | refine c_rq (by simp only [decide_eq_true_eq] at *; omega) ?_

def cs3_0K {R : Type} (bot : R) (rq : Prop → R → R) (fa : (Nat → R) → R) (rm : Bool → R → R → R) (c : PCfg) (who : Int) (x : PComp) (seen : PSeenL) (cap : Nat) (mm : PMem) (K : PComp → Nat → PMem → R) : R :=
  bif (PMem.eCas mm who (lChunk c.threads c.slots c.chunks c.words c.gens c.sparse c.tries x.at_) x.w (putChunk 2 (chunkOf x.w).snd.fst (chunkOf x.w).snd.snd.fst (wrI ((chunkOf x.w).snd.snd.snd + 1)))).fst then
   rq (seen.len = seen.len ∧ cap = cap) (
    K ⟨4, (some ⟨(seen.len), (seen.2), (seen.3), (seen.4), (seen.5), (seen.6), (seen.7)⟩), (x.at_), 0, (putChunk 2 (chunkOf x.w).snd.fst (chunkOf x.w).snd.snd.fst (wrI ((chunkOf x.w).snd.snd.snd + 1))), (x.now), none, none, none, ⟨(x.work.ev), (x.work.lf), (x.work.fr), (x.work.mv), (x.work.rd)⟩, ⟨(x.was.ev), (x.was.lf), (x.was.fr), (x.was.mv), (x.was.rd)⟩, (x.idle)⟩ (cap) ((PMem.eCas mm who (lChunk c.threads c.slots c.chunks c.words c.gens c.sparse c.tries x.at_) x.w (putChunk 2 (chunkOf x.w).snd.fst (chunkOf x.w).snd.snd.fst (wrI ((chunkOf x.w).snd.snd.snd + 1)))).snd))
  else
   rq (seen.len = seen.len ∧ cap = cap) (
    K ⟨10, (some ⟨(seen.len), (seen.2), (seen.3), (seen.4), (seen.5), (seen.6), (seen.7)⟩), (x.at_), 0, (x.w), (x.now), none, none, none, ⟨(x.work.ev), (x.work.lf), (x.work.fr), (x.work.mv), (x.work.rd)⟩, ⟨(x.was.ev), (x.was.lf), (x.was.fr), (x.was.mv), (x.was.rd)⟩, (x.idle)⟩ (cap) ((PMem.eCas mm who (lChunk c.threads c.slots c.chunks c.words c.gens c.sparse c.tries x.at_) x.w (putChunk 2 (chunkOf x.w).snd.fst (chunkOf x.w).snd.snd.fst (wrI ((chunkOf x.w).snd.snd.snd + 1)))).snd))

def cs3_0 (c : PCfg) (who : Int) (x : PComp) (seen : PSeenL) (mm : PMem) : Option (PComp × PMem) := cs3_0K none rqV faV rmV c who x seen 0 mm fun x _ m => some (x, m)

theorem cs3_0K_of (c : PCfg) (who : Int) (x : PComp) (seen : PSeenL) (cap : Nat) (mm : PMem) (hlen : seen.len ≤ 1048576) {K : PComp → Nat → PMem → Prop} : appC K (cs3_0 c who x seen mm) → cs3_0K False rqP faP rmP c who x seen cap mm K := by
  unfold cs3_0 cs3_0K
  repeat' first
    | exact c_leaf _
    | exact c_bot
    | refine c_cond (fun _ => ?_) (fun _ => ?_)
    | refine c_rm ?_ ?_
    | refine c_fa (fun _ => ?_)
    | refine c_rq ⟨rfl, rfl⟩ ?_
    | refine c_rq' ⟨rfl, rfl⟩ ?_
    | refine c_rq ⟨⟨rfl, rfl⟩, hlen⟩ ?_
    | refine c_rq ⟨⟨rfl, rfl⟩, rfl, hlen⟩ ?_
    | refine c_rq (by simp only [decide_eq_true_eq] at *; omega) ?_

def cs4_0K {R : Type} (bot : R) (rq : Prop → R → R) (fa : (Nat → R) → R) (rm : Bool → R → R → R) (c : PCfg) (who : Int) (x : PComp) (seen : PSeenL) (cap : Nat) (mm : PMem) (K : PComp → Nat → PMem → R) : R :=
  bif decide ((headOf (PMem.eLoad mm who (wrI (lBase c.threads c.slots c.chunks c.words c.gens c.sparse c.tries x.at_ + x.pos))).fst).fst = 3) then
   bif decide ((chunkOf x.w).snd.snd.fst ≤ wrI (x.pos + lRoom (chunkOf x.w).snd.fst)) then
    rq (seen.len = seen.len ∧ cap = cap) (
     K ⟨6, (some ⟨(seen.len), (seen.2), (seen.3), (seen.4), (seen.5), (seen.6), (seen.7)⟩), (x.at_), (wrI (x.pos + lRoom (chunkOf x.w).snd.fst)), (x.w), (x.now), none, none, none, ⟨(x.work.ev), (x.work.lf), (x.work.fr), (x.work.mv), (x.work.rd)⟩, ⟨(x.was.ev), (x.was.lf), (x.was.fr), (x.was.mv), (x.was.rd)⟩, (x.idle)⟩ (cap) ((PMem.eLoad mm who (wrI (lBase c.threads c.slots c.chunks c.words c.gens c.sparse c.tries x.at_ + x.pos))).snd))
   else
    rq (seen.len = seen.len ∧ cap = cap) (
     K ⟨4, (some ⟨(seen.len), (seen.2), (seen.3), (seen.4), (seen.5), (seen.6), (seen.7)⟩), (x.at_), (wrI (x.pos + lRoom (chunkOf x.w).snd.fst)), (x.w), (x.now), none, none, none, ⟨(x.work.ev), (x.work.lf), (x.work.fr), (x.work.mv), (x.work.rd)⟩, ⟨(x.was.ev), (x.was.lf), (x.was.fr), (x.was.mv), (x.was.rd)⟩, (x.idle)⟩ (cap) ((PMem.eLoad mm who (wrI (lBase c.threads c.slots c.chunks c.words c.gens c.sparse c.tries x.at_ + x.pos))).snd))
  else
   bif decide ((headOf (PMem.eLoad mm who (wrI (lBase c.threads c.slots c.chunks c.words c.gens c.sparse c.tries x.at_ + x.pos))).fst).fst = 2) then
    rq (seen.len = seen.len ∧ cap = cap) (
     K ⟨5, (some ⟨(seen.len), (seen.2), (seen.3), (seen.4), (seen.5), (seen.6), (seen.7)⟩), (x.at_), (x.pos), (x.w), (x.now), (some ⟨(wrI (lBase c.threads c.slots c.chunks c.words c.gens c.sparse c.tries x.at_ + x.pos)), ⟨((headOf (PMem.eLoad mm who (wrI (lBase c.threads c.slots c.chunks c.words c.gens c.sparse c.tries x.at_ + x.pos))).fst).fst), ((headOf (PMem.eLoad mm who (wrI (lBase c.threads c.slots c.chunks c.words c.gens c.sparse c.tries x.at_ + x.pos))).fst).snd.fst), ((headOf (PMem.eLoad mm who (wrI (lBase c.threads c.slots c.chunks c.words c.gens c.sparse c.tries x.at_ + x.pos))).fst).snd.snd.fst), ((headOf (PMem.eLoad mm who (wrI (lBase c.threads c.slots c.chunks c.words c.gens c.sparse c.tries x.at_ + x.pos))).fst).snd.snd.snd.fst), ((headOf (PMem.eLoad mm who (wrI (lBase c.threads c.slots c.chunks c.words c.gens c.sparse c.tries x.at_ + x.pos))).fst).snd.snd.snd.snd)⟩, 0, 0, none, 0, 0, false, 0, 0, 0, 0⟩), none, none, ⟨(x.work.ev), (x.work.lf), (x.work.fr), (x.work.mv), (x.work.rd)⟩, ⟨(x.was.ev), (x.was.lf), (x.was.fr), (x.was.mv), (x.was.rd)⟩, (x.idle)⟩ (cap) ((PMem.eLoad mm who (wrI (lBase c.threads c.slots c.chunks c.words c.gens c.sparse c.tries x.at_ + x.pos))).snd))
   else
    rq (seen.len = seen.len ∧ cap = cap) (
     K ⟨9, (some ⟨(seen.len), (seen.2), (seen.3), (seen.4), (seen.5), (seen.6), (seen.7)⟩), (x.at_), (x.pos), (x.w), (x.now), none, none, none, ⟨(x.work.ev), (x.work.lf), (x.work.fr), (x.work.mv), (x.work.rd)⟩, ⟨(x.was.ev), (x.was.lf), (x.was.fr), (x.was.mv), (x.was.rd)⟩, (x.idle)⟩ (cap) ((PMem.eLoad mm who (wrI (lBase c.threads c.slots c.chunks c.words c.gens c.sparse c.tries x.at_ + x.pos))).snd))

def cs4_0 (c : PCfg) (who : Int) (x : PComp) (seen : PSeenL) (mm : PMem) : Option (PComp × PMem) := cs4_0K none rqV faV rmV c who x seen 0 mm fun x _ m => some (x, m)

theorem cs4_0K_of (c : PCfg) (who : Int) (x : PComp) (seen : PSeenL) (cap : Nat) (mm : PMem) (hlen : seen.len ≤ 1048576) {K : PComp → Nat → PMem → Prop} : appC K (cs4_0 c who x seen mm) → cs4_0K False rqP faP rmP c who x seen cap mm K := by
  unfold cs4_0 cs4_0K
  repeat' first
    | exact c_leaf _
    | exact c_bot
    | refine c_cond (fun _ => ?_) (fun _ => ?_)
    | refine c_rm ?_ ?_
    | refine c_fa (fun _ => ?_)
    | refine c_rq ⟨rfl, rfl⟩ ?_
    | refine c_rq' ⟨rfl, rfl⟩ ?_
    | refine c_rq ⟨⟨rfl, rfl⟩, hlen⟩ ?_
    | refine c_rq ⟨⟨rfl, rfl⟩, rfl, hlen⟩ ?_
    | refine c_rq (by simp only [decide_eq_true_eq] at *; omega) ?_

def cs5_0K {R : Type} (bot : R) (rq : Prop → R → R) (fa : (Nat → R) → R) (rm : Bool → R → R → R) (c : PCfg) (who : Int) (x : PComp) (seen : PSeenL) (cap : Nat) (mm : PMem) (K : PComp → Nat → PMem → R) : R :=
  rq (seen.len = seen.len ∧ cap = cap) (
   K ⟨5, (some ⟨(seen.len), (seen.2), (seen.3), (seen.4), (seen.5), (seen.6), (seen.7)⟩), (x.at_), (x.pos), (x.w), (x.now), none, none, none, ⟨(x.work.ev), (x.work.lf), (x.work.fr), (x.work.mv), (x.work.rd)⟩, ⟨(x.was.ev), (x.was.lf), (x.was.fr), (x.was.mv), (x.was.rd)⟩, (x.idle)⟩ (cap) (mm))

def cs5_0 (c : PCfg) (who : Int) (x : PComp) (seen : PSeenL) (mm : PMem) : Option (PComp × PMem) := cs5_0K none rqV faV rmV c who x seen 0 mm fun x _ m => some (x, m)

theorem cs5_0K_of (c : PCfg) (who : Int) (x : PComp) (seen : PSeenL) (cap : Nat) (mm : PMem) (hlen : seen.len ≤ 1048576) {K : PComp → Nat → PMem → Prop} : appC K (cs5_0 c who x seen mm) → cs5_0K False rqP faP rmP c who x seen cap mm K := by
  unfold cs5_0 cs5_0K
  repeat' first
    | exact c_leaf _
    | exact c_bot
    | refine c_cond (fun _ => ?_) (fun _ => ?_)
    | refine c_rm ?_ ?_
    | refine c_fa (fun _ => ?_)
    | refine c_rq ⟨rfl, rfl⟩ ?_
    | refine c_rq' ⟨rfl, rfl⟩ ?_
    | refine c_rq ⟨⟨rfl, rfl⟩, hlen⟩ ?_
    | refine c_rq ⟨⟨rfl, rfl⟩, rfl, hlen⟩ ?_
    | refine c_rq (by simp only [decide_eq_true_eq] at *; omega) ?_

def cs6_0K {R : Type} (bot : R) (rq : Prop → R → R) (fa : (Nat → R) → R) (rm : Bool → R → R → R) (c : PCfg) (who : Int) (x : PComp) (seen : PSeenL) (cap : Nat) (mm : PMem) (K : PComp → Nat → PMem → R) : R :=
  rq (seen.len = seen.len ∧ cap = cap) (
   K ⟨7, (some ⟨(seen.len), (seen.2), (seen.3), (seen.4), (seen.5), (seen.6), (seen.7)⟩), (x.at_), (x.pos), (x.w), ((PMem.eLoad mm who 0).fst), none, none, none, ⟨(x.work.ev), (x.work.lf), (x.work.fr), (x.work.mv), (x.work.rd)⟩, ⟨(x.was.ev), (x.was.lf), (x.was.fr), (x.was.mv), (x.was.rd)⟩, (x.idle)⟩ (cap) ((PMem.eLoad mm who 0).snd))

def cs6_0 (c : PCfg) (who : Int) (x : PComp) (seen : PSeenL) (mm : PMem) : Option (PComp × PMem) := cs6_0K none rqV faV rmV c who x seen 0 mm fun x _ m => some (x, m)

theorem cs6_0K_of (c : PCfg) (who : Int) (x : PComp) (seen : PSeenL) (cap : Nat) (mm : PMem) (hlen : seen.len ≤ 1048576) {K : PComp → Nat → PMem → Prop} : appC K (cs6_0 c who x seen mm) → cs6_0K False rqP faP rmP c who x seen cap mm K := by
  unfold cs6_0 cs6_0K
  repeat' first
    | exact c_leaf _
    | exact c_bot
    | refine c_cond (fun _ => ?_) (fun _ => ?_)
    | refine c_rm ?_ ?_
    | refine c_fa (fun _ => ?_)
    | refine c_rq ⟨rfl, rfl⟩ ?_
    | refine c_rq' ⟨rfl, rfl⟩ ?_
    | refine c_rq ⟨⟨rfl, rfl⟩, hlen⟩ ?_
    | refine c_rq ⟨⟨rfl, rfl⟩, rfl, hlen⟩ ?_
    | refine c_rq (by simp only [decide_eq_true_eq] at *; omega) ?_

def cs7_0K {R : Type} (bot : R) (rq : Prop → R → R) (fa : (Nat → R) → R) (rm : Bool → R → R → R) (c : PCfg) (who : Int) (x : PComp) (seen : PSeenL) (cap : Nat) (mm : PMem) (K : PComp → Nat → PMem → R) : R :=
  rq (seen.len = seen.len ∧ cap = cap) (
   K ⟨8, (some ⟨(seen.len), (seen.2), (seen.3), (seen.4), (seen.5), (seen.6), (seen.7)⟩), (x.at_), (x.pos), (x.w), (x.now), none, none, none, ⟨(x.work.ev), (x.work.lf), (x.work.fr), (x.work.mv), (x.work.rd)⟩, ⟨(x.was.ev), (x.was.lf), (x.was.fr), (x.was.mv), (x.was.rd)⟩, (x.idle)⟩ (cap) (PMem.eStore mm who (wrI (lChunk c.threads c.slots c.chunks c.words c.gens c.sparse c.tries x.at_ + 2)) x.now))

def cs7_0 (c : PCfg) (who : Int) (x : PComp) (seen : PSeenL) (mm : PMem) : Option (PComp × PMem) := cs7_0K none rqV faV rmV c who x seen 0 mm fun x _ m => some (x, m)

theorem cs7_0K_of (c : PCfg) (who : Int) (x : PComp) (seen : PSeenL) (cap : Nat) (mm : PMem) (hlen : seen.len ≤ 1048576) {K : PComp → Nat → PMem → Prop} : appC K (cs7_0 c who x seen mm) → cs7_0K False rqP faP rmP c who x seen cap mm K := by
  unfold cs7_0 cs7_0K
  repeat' first
    | exact c_leaf _
    | exact c_bot
    | refine c_cond (fun _ => ?_) (fun _ => ?_)
    | refine c_rm ?_ ?_
    | refine c_fa (fun _ => ?_)
    | refine c_rq ⟨rfl, rfl⟩ ?_
    | refine c_rq' ⟨rfl, rfl⟩ ?_
    | refine c_rq ⟨⟨rfl, rfl⟩, hlen⟩ ?_
    | refine c_rq ⟨⟨rfl, rfl⟩, rfl, hlen⟩ ?_
    | refine c_rq (by simp only [decide_eq_true_eq] at *; omega) ?_

def cs8_0K {R : Type} (bot : R) (rq : Prop → R → R) (fa : (Nat → R) → R) (rm : Bool → R → R → R) (c : PCfg) (who : Int) (x : PComp) (seen : PSeenL) (cap : Nat) (mm : PMem) (K : PComp → Nat → PMem → R) : R :=
  rq (seen.len = seen.len ∧ cap = cap) (
   K ⟨10, (some ⟨(seen.len), (seen.2), (seen.3), (seen.4), (seen.5), (seen.6), (seen.7)⟩), (x.at_), (x.pos), (x.w), (x.now), none, none, none, ⟨(wrI (x.work.ev + 1)), (x.work.lf), (x.work.fr), (x.work.mv), (x.work.rd)⟩, ⟨(x.was.ev), (x.was.lf), (x.was.fr), (x.was.mv), (x.was.rd)⟩, (x.idle)⟩ (cap) (PMem.eStore mm who (lChunk c.threads c.slots c.chunks c.words c.gens c.sparse c.tries x.at_) (putChunk 3 (chunkOf x.w).snd.fst (chunkOf x.w).snd.snd.fst (wrI ((chunkOf x.w).snd.snd.snd + 1)))))

def cs8_0 (c : PCfg) (who : Int) (x : PComp) (seen : PSeenL) (mm : PMem) : Option (PComp × PMem) := cs8_0K none rqV faV rmV c who x seen 0 mm fun x _ m => some (x, m)

theorem cs8_0K_of (c : PCfg) (who : Int) (x : PComp) (seen : PSeenL) (cap : Nat) (mm : PMem) (hlen : seen.len ≤ 1048576) {K : PComp → Nat → PMem → Prop} : appC K (cs8_0 c who x seen mm) → cs8_0K False rqP faP rmP c who x seen cap mm K := by
  unfold cs8_0 cs8_0K
  repeat' first
    | exact c_leaf _
    | exact c_bot
    | refine c_cond (fun _ => ?_) (fun _ => ?_)
    | refine c_rm ?_ ?_
    | refine c_fa (fun _ => ?_)
    | refine c_rq ⟨rfl, rfl⟩ ?_
    | refine c_rq' ⟨rfl, rfl⟩ ?_
    | refine c_rq ⟨⟨rfl, rfl⟩, hlen⟩ ?_
    | refine c_rq ⟨⟨rfl, rfl⟩, rfl, hlen⟩ ?_
    | refine c_rq (by simp only [decide_eq_true_eq] at *; omega) ?_

def cs9_0K {R : Type} (bot : R) (rq : Prop → R → R) (fa : (Nat → R) → R) (rm : Bool → R → R → R) (c : PCfg) (who : Int) (x : PComp) (seen : PSeenL) (cap : Nat) (mm : PMem) (K : PComp → Nat → PMem → R) : R :=
  rq (seen.len = seen.len ∧ cap = cap) (
   K ⟨10, (some ⟨(seen.len), (seen.2), (seen.3), (seen.4), (seen.5), (seen.6), (seen.7)⟩), (x.at_), (x.pos), (x.w), (x.now), none, none, none, ⟨(x.work.ev), (wrI (x.work.lf + 1)), (x.work.fr), (x.work.mv), (x.work.rd)⟩, ⟨(x.was.ev), (x.was.lf), (x.was.fr), (x.was.mv), (x.was.rd)⟩, (x.idle)⟩ (cap) (PMem.eStore mm who (lChunk c.threads c.slots c.chunks c.words c.gens c.sparse c.tries x.at_) (putChunk 1 (chunkOf x.w).snd.fst (chunkOf x.w).snd.snd.fst (wrI ((chunkOf x.w).snd.snd.snd + 1)))))

def cs9_0 (c : PCfg) (who : Int) (x : PComp) (seen : PSeenL) (mm : PMem) : Option (PComp × PMem) := cs9_0K none rqV faV rmV c who x seen 0 mm fun x _ m => some (x, m)

theorem cs9_0K_of (c : PCfg) (who : Int) (x : PComp) (seen : PSeenL) (cap : Nat) (mm : PMem) (hlen : seen.len ≤ 1048576) {K : PComp → Nat → PMem → Prop} : appC K (cs9_0 c who x seen mm) → cs9_0K False rqP faP rmP c who x seen cap mm K := by
  unfold cs9_0 cs9_0K
  repeat' first
    | exact c_leaf _
    | exact c_bot
    | refine c_cond (fun _ => ?_) (fun _ => ?_)
    | refine c_rm ?_ ?_
    | refine c_fa (fun _ => ?_)
    | refine c_rq ⟨rfl, rfl⟩ ?_
    | refine c_rq' ⟨rfl, rfl⟩ ?_
    | refine c_rq ⟨⟨rfl, rfl⟩, hlen⟩ ?_
    | refine c_rq ⟨⟨rfl, rfl⟩, rfl, hlen⟩ ?_
    | refine c_rq (by simp only [decide_eq_true_eq] at *; omega) ?_

def cs10_0K {R : Type} (bot : R) (rq : Prop → R → R) (fa : (Nat → R) → R) (rm : Bool → R → R → R) (c : PCfg) (who : Int) (x : PComp) (seen : PSeenL) (cap : Nat) (mm : PMem) (K : PComp → Nat → PMem → R) : R :=
  rq (seen.len = seen.len ∧ cap = cap) (
   K ⟨10, (some ⟨(seen.len), (seen.2), (seen.3), (seen.4), (seen.5), (seen.6), (seen.7)⟩), (x.at_), (x.pos), (x.w), (x.now), none, (some ⟨1, ((PMem.eLoad mm who 0).fst), 0, false⟩), none, ⟨(x.work.ev), (x.work.lf), (x.work.fr), (x.work.mv), (x.work.rd)⟩, ⟨(x.was.ev), (x.was.lf), (x.was.fr), (x.was.mv), (x.was.rd)⟩, (x.idle)⟩ (cap) ((advStep c who { pc := 0, now := 0, at_ := 0, went := false } mm).snd.snd))

def cs10_0 (c : PCfg) (who : Int) (x : PComp) (seen : PSeenL) (mm : PMem) : Option (PComp × PMem) := cs10_0K none rqV faV rmV c who x seen 0 mm fun x _ m => some (x, m)

theorem cs10_0K_of (c : PCfg) (who : Int) (x : PComp) (seen : PSeenL) (cap : Nat) (mm : PMem) (hlen : seen.len ≤ 1048576) {K : PComp → Nat → PMem → Prop} : appC K (cs10_0 c who x seen mm) → cs10_0K False rqP faP rmP c who x seen cap mm K := by
  unfold cs10_0 cs10_0K
  repeat' first
    | exact c_leaf _
    | exact c_bot
    | refine c_cond (fun _ => ?_) (fun _ => ?_)
    | refine c_rm ?_ ?_
    | refine c_fa (fun _ => ?_)
    | refine c_rq ⟨rfl, rfl⟩ ?_
    | refine c_rq' ⟨rfl, rfl⟩ ?_
    | refine c_rq ⟨⟨rfl, rfl⟩, hlen⟩ ?_
    | refine c_rq ⟨⟨rfl, rfl⟩, rfl, hlen⟩ ?_
    | refine c_rq (by simp only [decide_eq_true_eq] at *; omega) ?_

def cs11_0K {R : Type} (bot : R) (rq : Prop → R → R) (fa : (Nat → R) → R) (rm : Bool → R → R → R) (c : PCfg) (who : Int) (x : PComp) (seen : PSeenL) (cap : Nat) (mm : PMem) (K : PComp → Nat → PMem → R) : R :=
  bif !(settleStep c who { chunk := x.at_, pc := 0, w := 0, since := 0, at_ := 0, freed := false } mm).fst then
   rq (seen.len = seen.len ∧ cap = cap) (
    K ⟨11, (some ⟨(seen.len), (seen.2), (seen.3), (seen.4), (seen.5), (seen.6), (seen.7)⟩), (x.at_), (x.pos), (x.w), (x.now), none, none, (some ⟨(x.at_), 1, ((PMem.eLoad mm who (lChunk c.threads c.slots c.chunks c.words c.gens c.sparse c.tries x.at_)).fst), 0, 0, false⟩), ⟨(x.work.ev), (x.work.lf), (x.work.fr), (x.work.mv), (x.work.rd)⟩, ⟨(x.was.ev), (x.was.lf), (x.was.fr), (x.was.mv), (x.was.rd)⟩, (x.idle)⟩ (cap) ((settleStep c who { chunk := x.at_, pc := 0, w := 0, since := 0, at_ := 0, freed := false } mm).snd.snd))
  else
   bif decide (c.chunks ≤ wrI (x.at_ + 1)) then
    bif !decide (x.work.ev = x.was.ev) then
     rq (seen.len = seen.len ∧ cap = cap) (
      K ⟨0, (some ⟨(seen.len), (seen.2), (seen.3), (seen.4), (seen.5), (seen.6), (seen.7)⟩), 0, (x.pos), (x.w), (x.now), none, none, none, ⟨(x.work.ev), (x.work.lf), (x.work.fr), (x.work.mv), (wrI (x.work.rd + 1))⟩, ⟨(x.work.ev), (x.work.lf), (x.work.fr), (x.work.mv), (wrI (x.work.rd + 1))⟩, 0⟩ (cap) ((settleStep c who { chunk := x.at_, pc := 0, w := 0, since := 0, at_ := 0, freed := false } mm).snd.snd))
    else
     bif !decide (x.work.mv = x.was.mv) then
      rq (seen.len = seen.len ∧ cap = cap) (
       K ⟨0, (some ⟨(seen.len), (seen.2), (seen.3), (seen.4), (seen.5), (seen.6), (seen.7)⟩), 0, (x.pos), (x.w), (x.now), none, none, none, ⟨(x.work.ev), (x.work.lf), (x.work.fr), (x.work.mv), (wrI (x.work.rd + 1))⟩, ⟨(x.work.ev), (x.work.lf), (x.work.fr), (x.work.mv), (wrI (x.work.rd + 1))⟩, 0⟩ (cap) ((settleStep c who { chunk := x.at_, pc := 0, w := 0, since := 0, at_ := 0, freed := false } mm).snd.snd))
     else
      bif !decide (x.work.fr = x.was.fr) then
       rq (seen.len = seen.len ∧ cap = cap) (
        K ⟨0, (some ⟨(seen.len), (seen.2), (seen.3), (seen.4), (seen.5), (seen.6), (seen.7)⟩), 0, (x.pos), (x.w), (x.now), none, none, none, ⟨(x.work.ev), (x.work.lf), (x.work.fr), (x.work.mv), (wrI (x.work.rd + 1))⟩, ⟨(x.work.ev), (x.work.lf), (x.work.fr), (x.work.mv), (wrI (x.work.rd + 1))⟩, 0⟩ (cap) ((settleStep c who { chunk := x.at_, pc := 0, w := 0, since := 0, at_ := 0, freed := false } mm).snd.snd))
      else
       rq (seen.len = seen.len ∧ cap = cap) (
        K ⟨0, (some ⟨(seen.len), (seen.2), (seen.3), (seen.4), (seen.5), (seen.6), (seen.7)⟩), 0, (x.pos), (x.w), (x.now), none, none, none, ⟨(x.work.ev), (x.work.lf), (x.work.fr), (x.work.mv), (wrI (x.work.rd + 1))⟩, ⟨(x.work.ev), (x.work.lf), (x.work.fr), (x.work.mv), (wrI (x.work.rd + 1))⟩, (wrI (x.idle + 1))⟩ (cap) ((settleStep c who { chunk := x.at_, pc := 0, w := 0, since := 0, at_ := 0, freed := false } mm).snd.snd))
   else
    rq (seen.len = seen.len ∧ cap = cap) (
     K ⟨11, (some ⟨(seen.len), (seen.2), (seen.3), (seen.4), (seen.5), (seen.6), (seen.7)⟩), (wrI (x.at_ + 1)), (x.pos), (x.w), (x.now), none, none, none, ⟨(x.work.ev), (x.work.lf), (x.work.fr), (x.work.mv), (x.work.rd)⟩, ⟨(x.was.ev), (x.was.lf), (x.was.fr), (x.was.mv), (x.was.rd)⟩, (x.idle)⟩ (cap) ((settleStep c who { chunk := x.at_, pc := 0, w := 0, since := 0, at_ := 0, freed := false } mm).snd.snd))

def cs11_0 (c : PCfg) (who : Int) (x : PComp) (seen : PSeenL) (mm : PMem) : Option (PComp × PMem) := cs11_0K none rqV faV rmV c who x seen 0 mm fun x _ m => some (x, m)

theorem cs11_0K_of (c : PCfg) (who : Int) (x : PComp) (seen : PSeenL) (cap : Nat) (mm : PMem) (hlen : seen.len ≤ 1048576) {K : PComp → Nat → PMem → Prop} : appC K (cs11_0 c who x seen mm) → cs11_0K False rqP faP rmP c who x seen cap mm K := by
  unfold cs11_0 cs11_0K
  repeat' first
    | exact c_leaf _
    | exact c_bot
    | refine c_cond (fun _ => ?_) (fun _ => ?_)
    | refine c_rm ?_ ?_
    | refine c_fa (fun _ => ?_)
    | refine c_rq ⟨rfl, rfl⟩ ?_
    | refine c_rq' ⟨rfl, rfl⟩ ?_
    | refine c_rq ⟨⟨rfl, rfl⟩, hlen⟩ ?_
    | refine c_rq ⟨⟨rfl, rfl⟩, rfl, hlen⟩ ?_
    | refine c_rq (by simp only [decide_eq_true_eq] at *; omega) ?_

def csA_0K {R : Type} (bot : R) (rq : Prop → R → R) (fa : (Nat → R) → R) (rm : Bool → R → R → R) (c : PCfg) (who : Int) (x : PComp) (seen : PSeenL) (a : PAdv) (cap : Nat) (mm : PMem) (K : PComp → Nat → PMem → R) : R :=
  bif (advStep c who a mm).fst then
   rq (seen.len = seen.len ∧ cap = cap) (
    K ⟨11, (some ⟨(seen.len), (seen.2), (seen.3), (seen.4), (seen.5), (seen.6), (seen.7)⟩), 0, (x.pos), (x.w), (x.now), none, none, none, ⟨(x.work.ev), (x.work.lf), (x.work.fr), (x.work.mv), (x.work.rd)⟩, ⟨(x.was.ev), (x.was.lf), (x.was.fr), (x.was.mv), (x.was.rd)⟩, (x.idle)⟩ (cap) ((advStep c who a mm).snd.snd))
  else
   rq (seen.len = seen.len ∧ cap = cap) (
    K ⟨10, (some ⟨(seen.len), (seen.2), (seen.3), (seen.4), (seen.5), (seen.6), (seen.7)⟩), (x.at_), (x.pos), (x.w), (x.now), none, (some ((advStep c who a mm).snd.1)), none, ⟨(x.work.ev), (x.work.lf), (x.work.fr), (x.work.mv), (x.work.rd)⟩, ⟨(x.was.ev), (x.was.lf), (x.was.fr), (x.was.mv), (x.was.rd)⟩, (x.idle)⟩ (cap) ((advStep c who a mm).snd.snd))

def csA_0 (c : PCfg) (who : Int) (x : PComp) (seen : PSeenL) (a : PAdv) (mm : PMem) : Option (PComp × PMem) := csA_0K none rqV faV rmV c who x seen a 0 mm fun x _ m => some (x, m)

theorem csA_0K_of (c : PCfg) (who : Int) (x : PComp) (seen : PSeenL) (a : PAdv) (cap : Nat) (mm : PMem) (hlen : seen.len ≤ 1048576) {K : PComp → Nat → PMem → Prop} : appC K (csA_0 c who x seen a mm) → csA_0K False rqP faP rmP c who x seen a cap mm K := by
  unfold csA_0 csA_0K
  repeat' first
    | exact c_leaf _
    | exact c_bot
    | refine c_cond (fun _ => ?_) (fun _ => ?_)
    | refine c_rm ?_ ?_
    | refine c_fa (fun _ => ?_)
    | refine c_rq ⟨rfl, rfl⟩ ?_
    | refine c_rq' ⟨rfl, rfl⟩ ?_
    | refine c_rq ⟨⟨rfl, rfl⟩, hlen⟩ ?_
    | refine c_rq ⟨⟨rfl, rfl⟩, rfl, hlen⟩ ?_
    | refine c_rq (by simp only [decide_eq_true_eq] at *; omega) ?_

def csS_0K {R : Type} (bot : R) (rq : Prop → R → R) (fa : (Nat → R) → R) (rm : Bool → R → R → R) (c : PCfg) (who : Int) (x : PComp) (seen : PSeenL) (s : PSettle) (cap : Nat) (mm : PMem) (K : PComp → Nat → PMem → R) : R :=
  bif !(settleStep c who s mm).fst then
   rq (seen.len = seen.len ∧ cap = cap) (
    K ⟨11, (some ⟨(seen.len), (seen.2), (seen.3), (seen.4), (seen.5), (seen.6), (seen.7)⟩), (x.at_), (x.pos), (x.w), (x.now), none, none, (some ((settleStep c who s mm).snd.1)), ⟨(x.work.ev), (x.work.lf), (x.work.fr), (x.work.mv), (x.work.rd)⟩, ⟨(x.was.ev), (x.was.lf), (x.was.fr), (x.was.mv), (x.was.rd)⟩, (x.idle)⟩ (cap) ((settleStep c who s mm).snd.snd))
  else
   bif (settleStep c who s mm).snd.fst.freed then
    bif decide (c.chunks ≤ wrI (x.at_ + 1)) then
     bif !decide (x.work.ev = x.was.ev) then
      rq (seen.len = seen.len ∧ cap = cap) (
       K ⟨0, (some ⟨(seen.len), (seen.2), (seen.3), (seen.4), (seen.5), (seen.6), (seen.7)⟩), 0, (x.pos), (x.w), (x.now), none, none, none, ⟨(x.work.ev), (x.work.lf), (wrI (x.work.fr + 1)), (x.work.mv), (wrI (x.work.rd + 1))⟩, ⟨(x.work.ev), (x.work.lf), (wrI (x.work.fr + 1)), (x.work.mv), (wrI (x.work.rd + 1))⟩, 0⟩ (cap) ((settleStep c who s mm).snd.snd))
     else
      bif !decide (x.work.mv = x.was.mv) then
       rq (seen.len = seen.len ∧ cap = cap) (
        K ⟨0, (some ⟨(seen.len), (seen.2), (seen.3), (seen.4), (seen.5), (seen.6), (seen.7)⟩), 0, (x.pos), (x.w), (x.now), none, none, none, ⟨(x.work.ev), (x.work.lf), (wrI (x.work.fr + 1)), (x.work.mv), (wrI (x.work.rd + 1))⟩, ⟨(x.work.ev), (x.work.lf), (wrI (x.work.fr + 1)), (x.work.mv), (wrI (x.work.rd + 1))⟩, 0⟩ (cap) ((settleStep c who s mm).snd.snd))
      else
       bif !decide (wrI (x.work.fr + 1) = x.was.fr) then
        rq (seen.len = seen.len ∧ cap = cap) (
         K ⟨0, (some ⟨(seen.len), (seen.2), (seen.3), (seen.4), (seen.5), (seen.6), (seen.7)⟩), 0, (x.pos), (x.w), (x.now), none, none, none, ⟨(x.work.ev), (x.work.lf), (wrI (x.work.fr + 1)), (x.work.mv), (wrI (x.work.rd + 1))⟩, ⟨(x.work.ev), (x.work.lf), (wrI (x.work.fr + 1)), (x.work.mv), (wrI (x.work.rd + 1))⟩, 0⟩ (cap) ((settleStep c who s mm).snd.snd))
       else
        rq (seen.len = seen.len ∧ cap = cap) (
         K ⟨0, (some ⟨(seen.len), (seen.2), (seen.3), (seen.4), (seen.5), (seen.6), (seen.7)⟩), 0, (x.pos), (x.w), (x.now), none, none, none, ⟨(x.work.ev), (x.work.lf), (wrI (x.work.fr + 1)), (x.work.mv), (wrI (x.work.rd + 1))⟩, ⟨(x.work.ev), (x.work.lf), (wrI (x.work.fr + 1)), (x.work.mv), (wrI (x.work.rd + 1))⟩, (wrI (x.idle + 1))⟩ (cap) ((settleStep c who s mm).snd.snd))
    else
     rq (seen.len = seen.len ∧ cap = cap) (
      K ⟨11, (some ⟨(seen.len), (seen.2), (seen.3), (seen.4), (seen.5), (seen.6), (seen.7)⟩), (wrI (x.at_ + 1)), (x.pos), (x.w), (x.now), none, none, none, ⟨(x.work.ev), (x.work.lf), (wrI (x.work.fr + 1)), (x.work.mv), (x.work.rd)⟩, ⟨(x.was.ev), (x.was.lf), (x.was.fr), (x.was.mv), (x.was.rd)⟩, (x.idle)⟩ (cap) ((settleStep c who s mm).snd.snd))
   else
    bif decide (c.chunks ≤ wrI (x.at_ + 1)) then
     bif !decide (x.work.ev = x.was.ev) then
      rq (seen.len = seen.len ∧ cap = cap) (
       K ⟨0, (some ⟨(seen.len), (seen.2), (seen.3), (seen.4), (seen.5), (seen.6), (seen.7)⟩), 0, (x.pos), (x.w), (x.now), none, none, none, ⟨(x.work.ev), (x.work.lf), (x.work.fr), (x.work.mv), (wrI (x.work.rd + 1))⟩, ⟨(x.work.ev), (x.work.lf), (x.work.fr), (x.work.mv), (wrI (x.work.rd + 1))⟩, 0⟩ (cap) ((settleStep c who s mm).snd.snd))
     else
      bif !decide (x.work.mv = x.was.mv) then
       rq (seen.len = seen.len ∧ cap = cap) (
        K ⟨0, (some ⟨(seen.len), (seen.2), (seen.3), (seen.4), (seen.5), (seen.6), (seen.7)⟩), 0, (x.pos), (x.w), (x.now), none, none, none, ⟨(x.work.ev), (x.work.lf), (x.work.fr), (x.work.mv), (wrI (x.work.rd + 1))⟩, ⟨(x.work.ev), (x.work.lf), (x.work.fr), (x.work.mv), (wrI (x.work.rd + 1))⟩, 0⟩ (cap) ((settleStep c who s mm).snd.snd))
      else
       bif !decide (x.work.fr = x.was.fr) then
        rq (seen.len = seen.len ∧ cap = cap) (
         K ⟨0, (some ⟨(seen.len), (seen.2), (seen.3), (seen.4), (seen.5), (seen.6), (seen.7)⟩), 0, (x.pos), (x.w), (x.now), none, none, none, ⟨(x.work.ev), (x.work.lf), (x.work.fr), (x.work.mv), (wrI (x.work.rd + 1))⟩, ⟨(x.work.ev), (x.work.lf), (x.work.fr), (x.work.mv), (wrI (x.work.rd + 1))⟩, 0⟩ (cap) ((settleStep c who s mm).snd.snd))
       else
        rq (seen.len = seen.len ∧ cap = cap) (
         K ⟨0, (some ⟨(seen.len), (seen.2), (seen.3), (seen.4), (seen.5), (seen.6), (seen.7)⟩), 0, (x.pos), (x.w), (x.now), none, none, none, ⟨(x.work.ev), (x.work.lf), (x.work.fr), (x.work.mv), (wrI (x.work.rd + 1))⟩, ⟨(x.work.ev), (x.work.lf), (x.work.fr), (x.work.mv), (wrI (x.work.rd + 1))⟩, (wrI (x.idle + 1))⟩ (cap) ((settleStep c who s mm).snd.snd))
    else
     rq (seen.len = seen.len ∧ cap = cap) (
      K ⟨11, (some ⟨(seen.len), (seen.2), (seen.3), (seen.4), (seen.5), (seen.6), (seen.7)⟩), (wrI (x.at_ + 1)), (x.pos), (x.w), (x.now), none, none, none, ⟨(x.work.ev), (x.work.lf), (x.work.fr), (x.work.mv), (x.work.rd)⟩, ⟨(x.was.ev), (x.was.lf), (x.was.fr), (x.was.mv), (x.was.rd)⟩, (x.idle)⟩ (cap) ((settleStep c who s mm).snd.snd))

def csS_0 (c : PCfg) (who : Int) (x : PComp) (seen : PSeenL) (s : PSettle) (mm : PMem) : Option (PComp × PMem) := csS_0K none rqV faV rmV c who x seen s 0 mm fun x _ m => some (x, m)

theorem csS_0K_of (c : PCfg) (who : Int) (x : PComp) (seen : PSeenL) (s : PSettle) (cap : Nat) (mm : PMem) (hlen : seen.len ≤ 1048576) {K : PComp → Nat → PMem → Prop} : appC K (csS_0 c who x seen s mm) → csS_0K False rqP faP rmP c who x seen s cap mm K := by
  unfold csS_0 csS_0K
  repeat' first
    | exact c_leaf _
    | exact c_bot
    | refine c_cond (fun _ => ?_) (fun _ => ?_)
    | refine c_rm ?_ ?_
    | refine c_fa (fun _ => ?_)
    | refine c_rq ⟨rfl, rfl⟩ ?_
    | refine c_rq' ⟨rfl, rfl⟩ ?_
    | refine c_rq ⟨⟨rfl, rfl⟩, hlen⟩ ?_
    | refine c_rq ⟨⟨rfl, rfl⟩, rfl, hlen⟩ ?_
    | refine c_rq (by simp only [decide_eq_true_eq] at *; omega) ?_

def cs0_1K {R : Type} (bot : R) (rq : Prop → R → R) (fa : (Nat → R) → R) (rm : Bool → R → R → R) (c : PCfg) (who : Int) (x : PComp) (seen : PSeenL) (m : PMove) (cap : Nat) (mm : PMem) (K : PComp → Nat → PMem → R) : R :=
  bif decide (x.at_ = 0) then
   fa (fun more =>
    rq (1 = 1 ∧ 1 + more = 1 + more) (
     K ⟨1, (some ⟨(1), (fun x_1 => (chunkOf (PMem.eLoad mm who (lChunk c.threads c.slots c.chunks c.words c.gens c.sparse c.tries x.at_)).fst).fst), (fun x_1 => (chunkOf (PMem.eLoad mm who (lChunk c.threads c.slots c.chunks c.words c.gens c.sparse c.tries x.at_)).fst).snd.fst), (fun x_1 => (chunkOf (PMem.eLoad mm who (lChunk c.threads c.slots c.chunks c.words c.gens c.sparse c.tries x.at_)).fst).snd.snd.fst), (fun x_1 => (chunkOf (PMem.eLoad mm who (lChunk c.threads c.slots c.chunks c.words c.gens c.sparse c.tries x.at_)).fst).snd.snd.snd), (fun x => 0), (fun x => false)⟩), (x.at_), (x.pos), (x.w), (x.now), (some (m)), none, none, ⟨(x.work.ev), (x.work.lf), (x.work.fr), (x.work.mv), (x.work.rd)⟩, ⟨(x.was.ev), (x.was.lf), (x.was.fr), (x.was.mv), (x.was.rd)⟩, (x.idle)⟩ (1 + more) ((PMem.eLoad mm who (lChunk c.threads c.slots c.chunks c.words c.gens c.sparse c.tries x.at_)).snd)))
  else
   rq ((seen.len = seen.len ∧ cap = cap) ∧ seen.len ≤ 1048576) (
    rm (decide (seen.len + 1 ≤ cap)) (
     rq (seen.len + 1 = seen.len + 1 ∧ cap = cap) (
      K ⟨1, (some ⟨(seen.len + 1), (fun j => bif Nat.beq j (seen.len) then (chunkOf (PMem.eLoad mm who (lChunk c.threads c.slots c.chunks c.words c.gens c.sparse c.tries x.at_)).fst).fst else seen.st j), (fun j => bif Nat.beq j (seen.len) then (chunkOf (PMem.eLoad mm who (lChunk c.threads c.slots c.chunks c.words c.gens c.sparse c.tries x.at_)).fst).snd.fst else seen.cl j), (fun j => bif Nat.beq j (seen.len) then (chunkOf (PMem.eLoad mm who (lChunk c.threads c.slots c.chunks c.words c.gens c.sparse c.tries x.at_)).fst).snd.snd.fst else seen.us j), (fun j => bif Nat.beq j (seen.len) then (chunkOf (PMem.eLoad mm who (lChunk c.threads c.slots c.chunks c.words c.gens c.sparse c.tries x.at_)).fst).snd.snd.snd else seen.sp j), (fun j => bif Nat.beq j (seen.len) then 0 else seen.lv j), (fun j => bif Nat.beq j (seen.len) then false else seen.op j)⟩), (x.at_), (x.pos), (x.w), (x.now), (some (m)), none, none, ⟨(x.work.ev), (x.work.lf), (x.work.fr), (x.work.mv), (x.work.rd)⟩, ⟨(x.was.ev), (x.was.lf), (x.was.fr), (x.was.mv), (x.was.rd)⟩, (x.idle)⟩ (cap) ((PMem.eLoad mm who (lChunk c.threads c.slots c.chunks c.words c.gens c.sparse c.tries x.at_)).snd))) (
     fa (fun more =>
      rq (seen.len + 1 = seen.len + 1 ∧ seen.len + 1 + more = seen.len + 1 + more) (
       K ⟨1, (some ⟨(seen.len + 1), (fun j => bif Nat.beq j (seen.len) then (chunkOf (PMem.eLoad mm who (lChunk c.threads c.slots c.chunks c.words c.gens c.sparse c.tries x.at_)).fst).fst else seen.st j), (fun j => bif Nat.beq j (seen.len) then (chunkOf (PMem.eLoad mm who (lChunk c.threads c.slots c.chunks c.words c.gens c.sparse c.tries x.at_)).fst).snd.fst else seen.cl j), (fun j => bif Nat.beq j (seen.len) then (chunkOf (PMem.eLoad mm who (lChunk c.threads c.slots c.chunks c.words c.gens c.sparse c.tries x.at_)).fst).snd.snd.fst else seen.us j), (fun j => bif Nat.beq j (seen.len) then (chunkOf (PMem.eLoad mm who (lChunk c.threads c.slots c.chunks c.words c.gens c.sparse c.tries x.at_)).fst).snd.snd.snd else seen.sp j), (fun j => bif Nat.beq j (seen.len) then 0 else seen.lv j), (fun j => bif Nat.beq j (seen.len) then false else seen.op j)⟩), (x.at_), (x.pos), (x.w), (x.now), (some (m)), none, none, ⟨(x.work.ev), (x.work.lf), (x.work.fr), (x.work.mv), (x.work.rd)⟩, ⟨(x.was.ev), (x.was.lf), (x.was.fr), (x.was.mv), (x.was.rd)⟩, (x.idle)⟩ (seen.len + 1 + more) ((PMem.eLoad mm who (lChunk c.threads c.slots c.chunks c.words c.gens c.sparse c.tries x.at_)).snd)))))

def cs0_1 (c : PCfg) (who : Int) (x : PComp) (seen : PSeenL) (m : PMove) (mm : PMem) : Option (PComp × PMem) := cs0_1K none rqV faV rmV c who x seen m 0 mm fun x _ m => some (x, m)

theorem cs0_1K_of (c : PCfg) (who : Int) (x : PComp) (seen : PSeenL) (m : PMove) (cap : Nat) (mm : PMem) (hlen : seen.len ≤ 1048576) {K : PComp → Nat → PMem → Prop} : appC K (cs0_1 c who x seen m mm) → cs0_1K False rqP faP rmP c who x seen m cap mm K := by
  unfold cs0_1 cs0_1K
  repeat' first
    | exact c_leaf _
    | exact c_bot
    | refine c_cond (fun _ => ?_) (fun _ => ?_)
    | refine c_rm ?_ ?_
    | refine c_fa (fun _ => ?_)
    | refine c_rq ⟨rfl, rfl⟩ ?_
    | refine c_rq' ⟨rfl, rfl⟩ ?_
    | refine c_rq ⟨⟨rfl, rfl⟩, hlen⟩ ?_
    | refine c_rq ⟨⟨rfl, rfl⟩, rfl, hlen⟩ ?_
    | refine c_rq (by simp only [decide_eq_true_eq] at *; omega) ?_

def cs1_1K {R : Type} (bot : R) (rq : Prop → R → R) (fa : (Nat → R) → R) (rm : Bool → R → R → R) (c : PCfg) (who : Int) (x : PComp) (seen : PSeenL) (m : PMove) (cap : Nat) (mm : PMem) (K : PComp → Nat → PMem → R) : R :=
  bif decide (0 ≤ x.at_ ∧ x.at_ < ↑seen.len) then
   rq (Int.toNat x.at_ < seen.len) (
    bif decide (c.chunks ≤ wrI (x.at_ + 1)) then
     rq (seen.len = seen.len ∧ cap = cap) (
      K ⟨2, (some ⟨(seen.len), (seen.2), (seen.3), (seen.4), (seen.5), (fun j => bif Nat.beq j (Int.toNat x.at_) then wrI (PMem.eLoad mm who (wrI (lChunk c.threads c.slots c.chunks c.words c.gens c.sparse c.tries x.at_ + 1))).fst else seen.lv j), (seen.7)⟩), 0, (x.pos), (x.w), (x.now), (some (m)), none, none, ⟨(x.work.ev), (x.work.lf), (x.work.fr), (x.work.mv), (x.work.rd)⟩, ⟨(x.was.ev), (x.was.lf), (x.was.fr), (x.was.mv), (x.was.rd)⟩, (x.idle)⟩ (cap) ((PMem.eLoad mm who (wrI (lChunk c.threads c.slots c.chunks c.words c.gens c.sparse c.tries x.at_ + 1))).snd))
    else
     rq (seen.len = seen.len ∧ cap = cap) (
      K ⟨0, (some ⟨(seen.len), (seen.2), (seen.3), (seen.4), (seen.5), (fun j => bif Nat.beq j (Int.toNat x.at_) then wrI (PMem.eLoad mm who (wrI (lChunk c.threads c.slots c.chunks c.words c.gens c.sparse c.tries x.at_ + 1))).fst else seen.lv j), (seen.7)⟩), (wrI (x.at_ + 1)), (x.pos), (x.w), (x.now), (some (m)), none, none, ⟨(x.work.ev), (x.work.lf), (x.work.fr), (x.work.mv), (x.work.rd)⟩, ⟨(x.was.ev), (x.was.lf), (x.was.fr), (x.was.mv), (x.was.rd)⟩, (x.idle)⟩ (cap) ((PMem.eLoad mm who (wrI (lChunk c.threads c.slots c.chunks c.words c.gens c.sparse c.tries x.at_ + 1))).snd)))
  else
   bot

def cs1_1 (c : PCfg) (who : Int) (x : PComp) (seen : PSeenL) (m : PMove) (mm : PMem) : Option (PComp × PMem) := cs1_1K none rqV faV rmV c who x seen m 0 mm fun x _ m => some (x, m)

theorem cs1_1K_of (c : PCfg) (who : Int) (x : PComp) (seen : PSeenL) (m : PMove) (cap : Nat) (mm : PMem) (hlen : seen.len ≤ 1048576) {K : PComp → Nat → PMem → Prop} : appC K (cs1_1 c who x seen m mm) → cs1_1K False rqP faP rmP c who x seen m cap mm K := by
  unfold cs1_1 cs1_1K
  repeat' first
    | exact c_leaf _
    | exact c_bot
    | refine c_cond (fun _ => ?_) (fun _ => ?_)
    | refine c_rm ?_ ?_
    | refine c_fa (fun _ => ?_)
    | refine c_rq ⟨rfl, rfl⟩ ?_
    | refine c_rq' ⟨rfl, rfl⟩ ?_
    | refine c_rq ⟨⟨rfl, rfl⟩, hlen⟩ ?_
    | refine c_rq ⟨⟨rfl, rfl⟩, rfl, hlen⟩ ?_
    | refine c_rq (by simp only [decide_eq_true_eq] at *; omega) ?_

def cs2_1K {R : Type} (bot : R) (rq : Prop → R → R) (fa : (Nat → R) → R) (rm : Bool → R → R → R) (c : PCfg) (who : Int) (x : PComp) (seen : PSeenL) (m : PMove) (cap : Nat) (mm : PMem) (K : PComp → Nat → PMem → R) : R :=
  bif decide (0 < wrI (PMem.eLoad mm who (wrI (2 + x.at_))).fst) then
   bif decide (0 ≤ wrI (wrI (PMem.eLoad mm who (wrI (2 + x.at_))).fst - 1) ∧ wrI (wrI (PMem.eLoad mm who (wrI (2 + x.at_))).fst - 1) < ↑seen.len) then
    rq (Int.toNat (wrI (wrI (PMem.eLoad mm who (wrI (2 + x.at_))).fst - 1)) < seen.len) (
     bif decide (wrI (x.at_ + 1) < 4) then
      rq (seen.len = seen.len ∧ cap = cap) (
       K ⟨2, (some ⟨(seen.len), (seen.2), (seen.3), (seen.4), (seen.5), (seen.6), (fun j => bif Nat.beq j (Int.toNat (wrI (wrI (PMem.eLoad mm who (wrI (2 + x.at_))).fst - 1))) then true else seen.op j)⟩), (wrI (x.at_ + 1)), (x.pos), (x.w), (x.now), (some (m)), none, none, ⟨(x.work.ev), (x.work.lf), (x.work.fr), (x.work.mv), (x.work.rd)⟩, ⟨(x.was.ev), (x.was.lf), (x.was.fr), (x.was.mv), (x.was.rd)⟩, (x.idle)⟩ (cap) ((PMem.eLoad mm who (wrI (2 + x.at_))).snd))
     else
      rq ((seen.len = seen.len ∧ cap = cap) ∧ 138 = 138 ∧ seen.len ≤ 1048576) (
       bif decide ((chooseM c.sparse seen.len seen.st seen.us seen.lv fun j => bif Nat.beq j (Int.toNat (wrI (wrI (PMem.eLoad mm who (wrI (2 + x.at_))).fst - 1))) then true else seen.op j) < 0) then
        rq (seen.len = seen.len ∧ cap = cap) (
         K ⟨10, (some ⟨(seen.len), (seen.2), (seen.3), (seen.4), (seen.5), (seen.6), (fun j => bif Nat.beq j (Int.toNat (wrI (wrI (PMem.eLoad mm who (wrI (2 + x.at_))).fst - 1))) then true else seen.op j)⟩), (chooseM c.sparse seen.len seen.st seen.us seen.lv fun j => bif Nat.beq j (Int.toNat (wrI (wrI (PMem.eLoad mm who (wrI (2 + x.at_))).fst - 1))) then true else seen.op j), (x.pos), (x.w), (x.now), (some (m)), none, none, ⟨(x.work.ev), (x.work.lf), (x.work.fr), (x.work.mv), (x.work.rd)⟩, ⟨(x.was.ev), (x.was.lf), (x.was.fr), (x.was.mv), (x.was.rd)⟩, (x.idle)⟩ (cap) ((PMem.eLoad mm who (wrI (2 + x.at_))).snd))
       else
        bif decide ((0 ≤ chooseM c.sparse seen.len seen.st seen.us seen.lv fun j => bif Nat.beq j (Int.toNat (wrI (wrI (PMem.eLoad mm who (wrI (2 + x.at_))).fst - 1))) then true else seen.op j) ∧ (chooseM c.sparse seen.len seen.st seen.us seen.lv fun j => bif Nat.beq j (Int.toNat (wrI (wrI (PMem.eLoad mm who (wrI (2 + x.at_))).fst - 1))) then true else seen.op j) < ↑seen.len) then
         rq (Int.toNat (chooseM c.sparse seen.len seen.st seen.us seen.lv fun j => bif Nat.beq j (Int.toNat (wrI (wrI (PMem.eLoad mm who (wrI (2 + x.at_))).fst - 1))) then true else seen.op j) < seen.len) (
          rq (seen.len = seen.len ∧ cap = cap) (
           K ⟨3, (some ⟨(seen.len), (seen.2), (seen.3), (seen.4), (seen.5), (seen.6), (fun j => bif Nat.beq j (Int.toNat (wrI (wrI (PMem.eLoad mm who (wrI (2 + x.at_))).fst - 1))) then true else seen.op j)⟩), (chooseM c.sparse seen.len seen.st seen.us seen.lv fun j => bif Nat.beq j (Int.toNat (wrI (wrI (PMem.eLoad mm who (wrI (2 + x.at_))).fst - 1))) then true else seen.op j), (x.pos), (putChunk (seen.st (Int.toNat (chooseM c.sparse seen.len seen.st seen.us seen.lv fun j => bif Nat.beq j (Int.toNat (wrI (wrI (PMem.eLoad mm who (wrI (2 + x.at_))).fst - 1))) then true else seen.op j))) (seen.cl (Int.toNat (chooseM c.sparse seen.len seen.st seen.us seen.lv fun j => bif Nat.beq j (Int.toNat (wrI (wrI (PMem.eLoad mm who (wrI (2 + x.at_))).fst - 1))) then true else seen.op j))) (seen.us (Int.toNat (chooseM c.sparse seen.len seen.st seen.us seen.lv fun j => bif Nat.beq j (Int.toNat (wrI (wrI (PMem.eLoad mm who (wrI (2 + x.at_))).fst - 1))) then true else seen.op j))) (seen.sp (Int.toNat (chooseM c.sparse seen.len seen.st seen.us seen.lv fun j => bif Nat.beq j (Int.toNat (wrI (wrI (PMem.eLoad mm who (wrI (2 + x.at_))).fst - 1))) then true else seen.op j)))), (x.now), (some (m)), none, none, ⟨(x.work.ev), (x.work.lf), (x.work.fr), (x.work.mv), (x.work.rd)⟩, ⟨(x.was.ev), (x.was.lf), (x.was.fr), (x.was.mv), (x.was.rd)⟩, (x.idle)⟩ (cap) ((PMem.eLoad mm who (wrI (2 + x.at_))).snd)))
        else
         bot))
   else
    bot
  else
   bif decide (wrI (x.at_ + 1) < 4) then
    rq (seen.len = seen.len ∧ cap = cap) (
     K ⟨2, (some ⟨(seen.len), (seen.2), (seen.3), (seen.4), (seen.5), (seen.6), (seen.7)⟩), (wrI (x.at_ + 1)), (x.pos), (x.w), (x.now), (some (m)), none, none, ⟨(x.work.ev), (x.work.lf), (x.work.fr), (x.work.mv), (x.work.rd)⟩, ⟨(x.was.ev), (x.was.lf), (x.was.fr), (x.was.mv), (x.was.rd)⟩, (x.idle)⟩ (cap) ((PMem.eLoad mm who (wrI (2 + x.at_))).snd))
   else
    rq ((seen.len = seen.len ∧ cap = cap) ∧ 138 = 138 ∧ seen.len ≤ 1048576) (
     bif decide (chooseM c.sparse seen.len seen.st seen.us seen.lv seen.op < 0) then
      rq (seen.len = seen.len ∧ cap = cap) (
       K ⟨10, (some ⟨(seen.len), (seen.2), (seen.3), (seen.4), (seen.5), (seen.6), (seen.7)⟩), (chooseM c.sparse seen.len seen.st seen.us seen.lv seen.op), (x.pos), (x.w), (x.now), (some (m)), none, none, ⟨(x.work.ev), (x.work.lf), (x.work.fr), (x.work.mv), (x.work.rd)⟩, ⟨(x.was.ev), (x.was.lf), (x.was.fr), (x.was.mv), (x.was.rd)⟩, (x.idle)⟩ (cap) ((PMem.eLoad mm who (wrI (2 + x.at_))).snd))
     else
      bif decide (0 ≤ chooseM c.sparse seen.len seen.st seen.us seen.lv seen.op ∧ chooseM c.sparse seen.len seen.st seen.us seen.lv seen.op < ↑seen.len) then
       rq (Int.toNat (chooseM c.sparse seen.len seen.st seen.us seen.lv seen.op) < seen.len) (
        rq (seen.len = seen.len ∧ cap = cap) (
         K ⟨3, (some ⟨(seen.len), (seen.2), (seen.3), (seen.4), (seen.5), (seen.6), (seen.7)⟩), (chooseM c.sparse seen.len seen.st seen.us seen.lv seen.op), (x.pos), (putChunk (seen.st (Int.toNat (chooseM c.sparse seen.len seen.st seen.us seen.lv seen.op))) (seen.cl (Int.toNat (chooseM c.sparse seen.len seen.st seen.us seen.lv seen.op))) (seen.us (Int.toNat (chooseM c.sparse seen.len seen.st seen.us seen.lv seen.op))) (seen.sp (Int.toNat (chooseM c.sparse seen.len seen.st seen.us seen.lv seen.op)))), (x.now), (some (m)), none, none, ⟨(x.work.ev), (x.work.lf), (x.work.fr), (x.work.mv), (x.work.rd)⟩, ⟨(x.was.ev), (x.was.lf), (x.was.fr), (x.was.mv), (x.was.rd)⟩, (x.idle)⟩ (cap) ((PMem.eLoad mm who (wrI (2 + x.at_))).snd)))
      else
       bot)

def cs2_1 (c : PCfg) (who : Int) (x : PComp) (seen : PSeenL) (m : PMove) (mm : PMem) : Option (PComp × PMem) := cs2_1K none rqV faV rmV c who x seen m 0 mm fun x _ m => some (x, m)

theorem cs2_1K_of (c : PCfg) (who : Int) (x : PComp) (seen : PSeenL) (m : PMove) (cap : Nat) (mm : PMem) (hlen : seen.len ≤ 1048576) {K : PComp → Nat → PMem → Prop} : appC K (cs2_1 c who x seen m mm) → cs2_1K False rqP faP rmP c who x seen m cap mm K := by
  unfold cs2_1 cs2_1K
  repeat' first
    | exact c_leaf _
    | exact c_bot
    | refine c_cond (fun _ => ?_) (fun _ => ?_)
    | refine c_rm ?_ ?_
    | refine c_fa (fun _ => ?_)
    | refine c_rq ⟨rfl, rfl⟩ ?_
    | refine c_rq' ⟨rfl, rfl⟩ ?_
    | refine c_rq ⟨⟨rfl, rfl⟩, hlen⟩ ?_
    | refine c_rq ⟨⟨rfl, rfl⟩, rfl, hlen⟩ ?_
    | refine c_rq (by simp only [decide_eq_true_eq] at *; omega) ?_

def cs3_1K {R : Type} (bot : R) (rq : Prop → R → R) (fa : (Nat → R) → R) (rm : Bool → R → R → R) (c : PCfg) (who : Int) (x : PComp) (seen : PSeenL) (m : PMove) (cap : Nat) (mm : PMem) (K : PComp → Nat → PMem → R) : R :=
  bif (PMem.eCas mm who (lChunk c.threads c.slots c.chunks c.words c.gens c.sparse c.tries x.at_) x.w (putChunk 2 (chunkOf x.w).snd.fst (chunkOf x.w).snd.snd.fst (wrI ((chunkOf x.w).snd.snd.snd + 1)))).fst then
   rq (seen.len = seen.len ∧ cap = cap) (
    K ⟨4, (some ⟨(seen.len), (seen.2), (seen.3), (seen.4), (seen.5), (seen.6), (seen.7)⟩), (x.at_), 0, (putChunk 2 (chunkOf x.w).snd.fst (chunkOf x.w).snd.snd.fst (wrI ((chunkOf x.w).snd.snd.snd + 1))), (x.now), (some (m)), none, none, ⟨(x.work.ev), (x.work.lf), (x.work.fr), (x.work.mv), (x.work.rd)⟩, ⟨(x.was.ev), (x.was.lf), (x.was.fr), (x.was.mv), (x.was.rd)⟩, (x.idle)⟩ (cap) ((PMem.eCas mm who (lChunk c.threads c.slots c.chunks c.words c.gens c.sparse c.tries x.at_) x.w (putChunk 2 (chunkOf x.w).snd.fst (chunkOf x.w).snd.snd.fst (wrI ((chunkOf x.w).snd.snd.snd + 1)))).snd))
  else
   rq (seen.len = seen.len ∧ cap = cap) (
    K ⟨10, (some ⟨(seen.len), (seen.2), (seen.3), (seen.4), (seen.5), (seen.6), (seen.7)⟩), (x.at_), 0, (x.w), (x.now), (some (m)), none, none, ⟨(x.work.ev), (x.work.lf), (x.work.fr), (x.work.mv), (x.work.rd)⟩, ⟨(x.was.ev), (x.was.lf), (x.was.fr), (x.was.mv), (x.was.rd)⟩, (x.idle)⟩ (cap) ((PMem.eCas mm who (lChunk c.threads c.slots c.chunks c.words c.gens c.sparse c.tries x.at_) x.w (putChunk 2 (chunkOf x.w).snd.fst (chunkOf x.w).snd.snd.fst (wrI ((chunkOf x.w).snd.snd.snd + 1)))).snd))

def cs3_1 (c : PCfg) (who : Int) (x : PComp) (seen : PSeenL) (m : PMove) (mm : PMem) : Option (PComp × PMem) := cs3_1K none rqV faV rmV c who x seen m 0 mm fun x _ m => some (x, m)

theorem cs3_1K_of (c : PCfg) (who : Int) (x : PComp) (seen : PSeenL) (m : PMove) (cap : Nat) (mm : PMem) (hlen : seen.len ≤ 1048576) {K : PComp → Nat → PMem → Prop} : appC K (cs3_1 c who x seen m mm) → cs3_1K False rqP faP rmP c who x seen m cap mm K := by
  unfold cs3_1 cs3_1K
  repeat' first
    | exact c_leaf _
    | exact c_bot
    | refine c_cond (fun _ => ?_) (fun _ => ?_)
    | refine c_rm ?_ ?_
    | refine c_fa (fun _ => ?_)
    | refine c_rq ⟨rfl, rfl⟩ ?_
    | refine c_rq' ⟨rfl, rfl⟩ ?_
    | refine c_rq ⟨⟨rfl, rfl⟩, hlen⟩ ?_
    | refine c_rq ⟨⟨rfl, rfl⟩, rfl, hlen⟩ ?_
    | refine c_rq (by simp only [decide_eq_true_eq] at *; omega) ?_

def cs4_1K {R : Type} (bot : R) (rq : Prop → R → R) (fa : (Nat → R) → R) (rm : Bool → R → R → R) (c : PCfg) (who : Int) (x : PComp) (seen : PSeenL) (m : PMove) (cap : Nat) (mm : PMem) (K : PComp → Nat → PMem → R) : R :=
  bif decide ((headOf (PMem.eLoad mm who (wrI (lBase c.threads c.slots c.chunks c.words c.gens c.sparse c.tries x.at_ + x.pos))).fst).fst = 3) then
   bif decide ((chunkOf x.w).snd.snd.fst ≤ wrI (x.pos + lRoom (chunkOf x.w).snd.fst)) then
    rq (seen.len = seen.len ∧ cap = cap) (
     K ⟨6, (some ⟨(seen.len), (seen.2), (seen.3), (seen.4), (seen.5), (seen.6), (seen.7)⟩), (x.at_), (wrI (x.pos + lRoom (chunkOf x.w).snd.fst)), (x.w), (x.now), (some (m)), none, none, ⟨(x.work.ev), (x.work.lf), (x.work.fr), (x.work.mv), (x.work.rd)⟩, ⟨(x.was.ev), (x.was.lf), (x.was.fr), (x.was.mv), (x.was.rd)⟩, (x.idle)⟩ (cap) ((PMem.eLoad mm who (wrI (lBase c.threads c.slots c.chunks c.words c.gens c.sparse c.tries x.at_ + x.pos))).snd))
   else
    rq (seen.len = seen.len ∧ cap = cap) (
     K ⟨4, (some ⟨(seen.len), (seen.2), (seen.3), (seen.4), (seen.5), (seen.6), (seen.7)⟩), (x.at_), (wrI (x.pos + lRoom (chunkOf x.w).snd.fst)), (x.w), (x.now), (some (m)), none, none, ⟨(x.work.ev), (x.work.lf), (x.work.fr), (x.work.mv), (x.work.rd)⟩, ⟨(x.was.ev), (x.was.lf), (x.was.fr), (x.was.mv), (x.was.rd)⟩, (x.idle)⟩ (cap) ((PMem.eLoad mm who (wrI (lBase c.threads c.slots c.chunks c.words c.gens c.sparse c.tries x.at_ + x.pos))).snd))
  else
   bif decide ((headOf (PMem.eLoad mm who (wrI (lBase c.threads c.slots c.chunks c.words c.gens c.sparse c.tries x.at_ + x.pos))).fst).fst = 2) then
    rq (seen.len = seen.len ∧ cap = cap) (
     K ⟨5, (some ⟨(seen.len), (seen.2), (seen.3), (seen.4), (seen.5), (seen.6), (seen.7)⟩), (x.at_), (x.pos), (x.w), (x.now), (some ⟨(wrI (lBase c.threads c.slots c.chunks c.words c.gens c.sparse c.tries x.at_ + x.pos)), ⟨((headOf (PMem.eLoad mm who (wrI (lBase c.threads c.slots c.chunks c.words c.gens c.sparse c.tries x.at_ + x.pos))).fst).fst), ((headOf (PMem.eLoad mm who (wrI (lBase c.threads c.slots c.chunks c.words c.gens c.sparse c.tries x.at_ + x.pos))).fst).snd.fst), ((headOf (PMem.eLoad mm who (wrI (lBase c.threads c.slots c.chunks c.words c.gens c.sparse c.tries x.at_ + x.pos))).fst).snd.snd.fst), ((headOf (PMem.eLoad mm who (wrI (lBase c.threads c.slots c.chunks c.words c.gens c.sparse c.tries x.at_ + x.pos))).fst).snd.snd.snd.fst), ((headOf (PMem.eLoad mm who (wrI (lBase c.threads c.slots c.chunks c.words c.gens c.sparse c.tries x.at_ + x.pos))).fst).snd.snd.snd.snd)⟩, 0, 0, none, 0, 0, false, 0, 0, 0, 0⟩), none, none, ⟨(x.work.ev), (x.work.lf), (x.work.fr), (x.work.mv), (x.work.rd)⟩, ⟨(x.was.ev), (x.was.lf), (x.was.fr), (x.was.mv), (x.was.rd)⟩, (x.idle)⟩ (cap) ((PMem.eLoad mm who (wrI (lBase c.threads c.slots c.chunks c.words c.gens c.sparse c.tries x.at_ + x.pos))).snd))
   else
    rq (seen.len = seen.len ∧ cap = cap) (
     K ⟨9, (some ⟨(seen.len), (seen.2), (seen.3), (seen.4), (seen.5), (seen.6), (seen.7)⟩), (x.at_), (x.pos), (x.w), (x.now), (some (m)), none, none, ⟨(x.work.ev), (x.work.lf), (x.work.fr), (x.work.mv), (x.work.rd)⟩, ⟨(x.was.ev), (x.was.lf), (x.was.fr), (x.was.mv), (x.was.rd)⟩, (x.idle)⟩ (cap) ((PMem.eLoad mm who (wrI (lBase c.threads c.slots c.chunks c.words c.gens c.sparse c.tries x.at_ + x.pos))).snd))

def cs4_1 (c : PCfg) (who : Int) (x : PComp) (seen : PSeenL) (m : PMove) (mm : PMem) : Option (PComp × PMem) := cs4_1K none rqV faV rmV c who x seen m 0 mm fun x _ m => some (x, m)

theorem cs4_1K_of (c : PCfg) (who : Int) (x : PComp) (seen : PSeenL) (m : PMove) (cap : Nat) (mm : PMem) (hlen : seen.len ≤ 1048576) {K : PComp → Nat → PMem → Prop} : appC K (cs4_1 c who x seen m mm) → cs4_1K False rqP faP rmP c who x seen m cap mm K := by
  unfold cs4_1 cs4_1K
  repeat' first
    | exact c_leaf _
    | exact c_bot
    | refine c_cond (fun _ => ?_) (fun _ => ?_)
    | refine c_rm ?_ ?_
    | refine c_fa (fun _ => ?_)
    | refine c_rq ⟨rfl, rfl⟩ ?_
    | refine c_rq' ⟨rfl, rfl⟩ ?_
    | refine c_rq ⟨⟨rfl, rfl⟩, hlen⟩ ?_
    | refine c_rq ⟨⟨rfl, rfl⟩, rfl, hlen⟩ ?_
    | refine c_rq (by simp only [decide_eq_true_eq] at *; omega) ?_

def cs5_1K {R : Type} (bot : R) (rq : Prop → R → R) (fa : (Nat → R) → R) (rm : Bool → R → R → R) (c : PCfg) (who : Int) (x : PComp) (seen : PSeenL) (m : PMove) (cap : Nat) (mm : PMem) (K : PComp → Nat → PMem → R) : R :=
  bif decide (c.words = 0) then
   bot
  else
   bif (moveStep c who m mm).fst then
    bif decide ((moveStep c who m mm).snd.fst.out = 1) then
     bif decide ((chunkOf x.w).snd.snd.fst ≤ wrI (x.pos + lRoom (chunkOf x.w).snd.fst)) then
      rq (seen.len = seen.len ∧ cap = cap) (
       K ⟨6, (some ⟨(seen.len), (seen.2), (seen.3), (seen.4), (seen.5), (seen.6), (seen.7)⟩), (x.at_), (wrI (x.pos + lRoom (chunkOf x.w).snd.fst)), (x.w), (x.now), (some ((moveStep c who m mm).snd.1)), none, none, ⟨(x.work.ev), (x.work.lf), (x.work.fr), (wrI (x.work.mv + 1)), (x.work.rd)⟩, ⟨(x.was.ev), (x.was.lf), (x.was.fr), (x.was.mv), (x.was.rd)⟩, (x.idle)⟩ (cap) ((moveStep c who m mm).snd.snd))
     else
      rq (seen.len = seen.len ∧ cap = cap) (
       K ⟨4, (some ⟨(seen.len), (seen.2), (seen.3), (seen.4), (seen.5), (seen.6), (seen.7)⟩), (x.at_), (wrI (x.pos + lRoom (chunkOf x.w).snd.fst)), (x.w), (x.now), (some ((moveStep c who m mm).snd.1)), none, none, ⟨(x.work.ev), (x.work.lf), (x.work.fr), (wrI (x.work.mv + 1)), (x.work.rd)⟩, ⟨(x.was.ev), (x.was.lf), (x.was.fr), (x.was.mv), (x.was.rd)⟩, (x.idle)⟩ (cap) ((moveStep c who m mm).snd.snd))
    else
     bif decide ((moveStep c who m mm).snd.fst.out = 2) then
      bif decide ((chunkOf x.w).snd.snd.fst ≤ wrI (x.pos + lRoom (chunkOf x.w).snd.fst)) then
       rq (seen.len = seen.len ∧ cap = cap) (
        K ⟨6, (some ⟨(seen.len), (seen.2), (seen.3), (seen.4), (seen.5), (seen.6), (seen.7)⟩), (x.at_), (wrI (x.pos + lRoom (chunkOf x.w).snd.fst)), (x.w), (x.now), (some ((moveStep c who m mm).snd.1)), none, none, ⟨(x.work.ev), (x.work.lf), (x.work.fr), (x.work.mv), (x.work.rd)⟩, ⟨(x.was.ev), (x.was.lf), (x.was.fr), (x.was.mv), (x.was.rd)⟩, (x.idle)⟩ (cap) ((moveStep c who m mm).snd.snd))
      else
       rq (seen.len = seen.len ∧ cap = cap) (
        K ⟨4, (some ⟨(seen.len), (seen.2), (seen.3), (seen.4), (seen.5), (seen.6), (seen.7)⟩), (x.at_), (wrI (x.pos + lRoom (chunkOf x.w).snd.fst)), (x.w), (x.now), (some ((moveStep c who m mm).snd.1)), none, none, ⟨(x.work.ev), (x.work.lf), (x.work.fr), (x.work.mv), (x.work.rd)⟩, ⟨(x.was.ev), (x.was.lf), (x.was.fr), (x.was.mv), (x.was.rd)⟩, (x.idle)⟩ (cap) ((moveStep c who m mm).snd.snd))
     else
      rq (seen.len = seen.len ∧ cap = cap) (
       K ⟨9, (some ⟨(seen.len), (seen.2), (seen.3), (seen.4), (seen.5), (seen.6), (seen.7)⟩), (x.at_), (x.pos), (x.w), (x.now), (some ((moveStep c who m mm).snd.1)), none, none, ⟨(x.work.ev), (x.work.lf), (x.work.fr), (x.work.mv), (x.work.rd)⟩, ⟨(x.was.ev), (x.was.lf), (x.was.fr), (x.was.mv), (x.was.rd)⟩, (x.idle)⟩ (cap) ((moveStep c who m mm).snd.snd))
   else
    rq (seen.len = seen.len ∧ cap = cap) (
     K ⟨5, (some ⟨(seen.len), (seen.2), (seen.3), (seen.4), (seen.5), (seen.6), (seen.7)⟩), (x.at_), (x.pos), (x.w), (x.now), (some ((moveStep c who m mm).snd.1)), none, none, ⟨(x.work.ev), (x.work.lf), (x.work.fr), (x.work.mv), (x.work.rd)⟩, ⟨(x.was.ev), (x.was.lf), (x.was.fr), (x.was.mv), (x.was.rd)⟩, (x.idle)⟩ (cap) ((moveStep c who m mm).snd.snd))

def cs5_1 (c : PCfg) (who : Int) (x : PComp) (seen : PSeenL) (m : PMove) (mm : PMem) : Option (PComp × PMem) := cs5_1K none rqV faV rmV c who x seen m 0 mm fun x _ m => some (x, m)

theorem cs5_1K_of (c : PCfg) (who : Int) (x : PComp) (seen : PSeenL) (m : PMove) (cap : Nat) (mm : PMem) (hlen : seen.len ≤ 1048576) {K : PComp → Nat → PMem → Prop} : appC K (cs5_1 c who x seen m mm) → cs5_1K False rqP faP rmP c who x seen m cap mm K := by
  unfold cs5_1 cs5_1K
  repeat' first
    | exact c_leaf _
    | exact c_bot
    | refine c_cond (fun _ => ?_) (fun _ => ?_)
    | refine c_rm ?_ ?_
    | refine c_fa (fun _ => ?_)
    | refine c_rq ⟨rfl, rfl⟩ ?_
    | refine c_rq' ⟨rfl, rfl⟩ ?_
    | refine c_rq ⟨⟨rfl, rfl⟩, hlen⟩ ?_
    | refine c_rq ⟨⟨rfl, rfl⟩, rfl, hlen⟩ ?_
    | refine c_rq (by simp only [decide_eq_true_eq] at *; omega) ?_

def cs6_1K {R : Type} (bot : R) (rq : Prop → R → R) (fa : (Nat → R) → R) (rm : Bool → R → R → R) (c : PCfg) (who : Int) (x : PComp) (seen : PSeenL) (m : PMove) (cap : Nat) (mm : PMem) (K : PComp → Nat → PMem → R) : R :=
  rq (seen.len = seen.len ∧ cap = cap) (
   K ⟨7, (some ⟨(seen.len), (seen.2), (seen.3), (seen.4), (seen.5), (seen.6), (seen.7)⟩), (x.at_), (x.pos), (x.w), ((PMem.eLoad mm who 0).fst), (some (m)), none, none, ⟨(x.work.ev), (x.work.lf), (x.work.fr), (x.work.mv), (x.work.rd)⟩, ⟨(x.was.ev), (x.was.lf), (x.was.fr), (x.was.mv), (x.was.rd)⟩, (x.idle)⟩ (cap) ((PMem.eLoad mm who 0).snd))

def cs6_1 (c : PCfg) (who : Int) (x : PComp) (seen : PSeenL) (m : PMove) (mm : PMem) : Option (PComp × PMem) := cs6_1K none rqV faV rmV c who x seen m 0 mm fun x _ m => some (x, m)

theorem cs6_1K_of (c : PCfg) (who : Int) (x : PComp) (seen : PSeenL) (m : PMove) (cap : Nat) (mm : PMem) (hlen : seen.len ≤ 1048576) {K : PComp → Nat → PMem → Prop} : appC K (cs6_1 c who x seen m mm) → cs6_1K False rqP faP rmP c who x seen m cap mm K := by
  unfold cs6_1 cs6_1K
  repeat' first
    | exact c_leaf _
    | exact c_bot
    | refine c_cond (fun _ => ?_) (fun _ => ?_)
    | refine c_rm ?_ ?_
    | refine c_fa (fun _ => ?_)
    | refine c_rq ⟨rfl, rfl⟩ ?_
    | refine c_rq' ⟨rfl, rfl⟩ ?_
    | refine c_rq ⟨⟨rfl, rfl⟩, hlen⟩ ?_
    | refine c_rq ⟨⟨rfl, rfl⟩, rfl, hlen⟩ ?_
    | refine c_rq (by simp only [decide_eq_true_eq] at *; omega) ?_

def cs7_1K {R : Type} (bot : R) (rq : Prop → R → R) (fa : (Nat → R) → R) (rm : Bool → R → R → R) (c : PCfg) (who : Int) (x : PComp) (seen : PSeenL) (m : PMove) (cap : Nat) (mm : PMem) (K : PComp → Nat → PMem → R) : R :=
  rq (seen.len = seen.len ∧ cap = cap) (
   K ⟨8, (some ⟨(seen.len), (seen.2), (seen.3), (seen.4), (seen.5), (seen.6), (seen.7)⟩), (x.at_), (x.pos), (x.w), (x.now), (some (m)), none, none, ⟨(x.work.ev), (x.work.lf), (x.work.fr), (x.work.mv), (x.work.rd)⟩, ⟨(x.was.ev), (x.was.lf), (x.was.fr), (x.was.mv), (x.was.rd)⟩, (x.idle)⟩ (cap) (PMem.eStore mm who (wrI (lChunk c.threads c.slots c.chunks c.words c.gens c.sparse c.tries x.at_ + 2)) x.now))

def cs7_1 (c : PCfg) (who : Int) (x : PComp) (seen : PSeenL) (m : PMove) (mm : PMem) : Option (PComp × PMem) := cs7_1K none rqV faV rmV c who x seen m 0 mm fun x _ m => some (x, m)

theorem cs7_1K_of (c : PCfg) (who : Int) (x : PComp) (seen : PSeenL) (m : PMove) (cap : Nat) (mm : PMem) (hlen : seen.len ≤ 1048576) {K : PComp → Nat → PMem → Prop} : appC K (cs7_1 c who x seen m mm) → cs7_1K False rqP faP rmP c who x seen m cap mm K := by
  unfold cs7_1 cs7_1K
  repeat' first
    | exact c_leaf _
    | exact c_bot
    | refine c_cond (fun _ => ?_) (fun _ => ?_)
    | refine c_rm ?_ ?_
    | refine c_fa (fun _ => ?_)
    | refine c_rq ⟨rfl, rfl⟩ ?_
    | refine c_rq' ⟨rfl, rfl⟩ ?_
    | refine c_rq ⟨⟨rfl, rfl⟩, hlen⟩ ?_
    | refine c_rq ⟨⟨rfl, rfl⟩, rfl, hlen⟩ ?_
    | refine c_rq (by simp only [decide_eq_true_eq] at *; omega) ?_

def cs8_1K {R : Type} (bot : R) (rq : Prop → R → R) (fa : (Nat → R) → R) (rm : Bool → R → R → R) (c : PCfg) (who : Int) (x : PComp) (seen : PSeenL) (m : PMove) (cap : Nat) (mm : PMem) (K : PComp → Nat → PMem → R) : R :=
  rq (seen.len = seen.len ∧ cap = cap) (
   K ⟨10, (some ⟨(seen.len), (seen.2), (seen.3), (seen.4), (seen.5), (seen.6), (seen.7)⟩), (x.at_), (x.pos), (x.w), (x.now), (some (m)), none, none, ⟨(wrI (x.work.ev + 1)), (x.work.lf), (x.work.fr), (x.work.mv), (x.work.rd)⟩, ⟨(x.was.ev), (x.was.lf), (x.was.fr), (x.was.mv), (x.was.rd)⟩, (x.idle)⟩ (cap) (PMem.eStore mm who (lChunk c.threads c.slots c.chunks c.words c.gens c.sparse c.tries x.at_) (putChunk 3 (chunkOf x.w).snd.fst (chunkOf x.w).snd.snd.fst (wrI ((chunkOf x.w).snd.snd.snd + 1)))))

def cs8_1 (c : PCfg) (who : Int) (x : PComp) (seen : PSeenL) (m : PMove) (mm : PMem) : Option (PComp × PMem) := cs8_1K none rqV faV rmV c who x seen m 0 mm fun x _ m => some (x, m)

theorem cs8_1K_of (c : PCfg) (who : Int) (x : PComp) (seen : PSeenL) (m : PMove) (cap : Nat) (mm : PMem) (hlen : seen.len ≤ 1048576) {K : PComp → Nat → PMem → Prop} : appC K (cs8_1 c who x seen m mm) → cs8_1K False rqP faP rmP c who x seen m cap mm K := by
  unfold cs8_1 cs8_1K
  repeat' first
    | exact c_leaf _
    | exact c_bot
    | refine c_cond (fun _ => ?_) (fun _ => ?_)
    | refine c_rm ?_ ?_
    | refine c_fa (fun _ => ?_)
    | refine c_rq ⟨rfl, rfl⟩ ?_
    | refine c_rq' ⟨rfl, rfl⟩ ?_
    | refine c_rq ⟨⟨rfl, rfl⟩, hlen⟩ ?_
    | refine c_rq ⟨⟨rfl, rfl⟩, rfl, hlen⟩ ?_
    | refine c_rq (by simp only [decide_eq_true_eq] at *; omega) ?_

def cs9_1K {R : Type} (bot : R) (rq : Prop → R → R) (fa : (Nat → R) → R) (rm : Bool → R → R → R) (c : PCfg) (who : Int) (x : PComp) (seen : PSeenL) (m : PMove) (cap : Nat) (mm : PMem) (K : PComp → Nat → PMem → R) : R :=
  rq (seen.len = seen.len ∧ cap = cap) (
   K ⟨10, (some ⟨(seen.len), (seen.2), (seen.3), (seen.4), (seen.5), (seen.6), (seen.7)⟩), (x.at_), (x.pos), (x.w), (x.now), (some (m)), none, none, ⟨(x.work.ev), (wrI (x.work.lf + 1)), (x.work.fr), (x.work.mv), (x.work.rd)⟩, ⟨(x.was.ev), (x.was.lf), (x.was.fr), (x.was.mv), (x.was.rd)⟩, (x.idle)⟩ (cap) (PMem.eStore mm who (lChunk c.threads c.slots c.chunks c.words c.gens c.sparse c.tries x.at_) (putChunk 1 (chunkOf x.w).snd.fst (chunkOf x.w).snd.snd.fst (wrI ((chunkOf x.w).snd.snd.snd + 1)))))

def cs9_1 (c : PCfg) (who : Int) (x : PComp) (seen : PSeenL) (m : PMove) (mm : PMem) : Option (PComp × PMem) := cs9_1K none rqV faV rmV c who x seen m 0 mm fun x _ m => some (x, m)

theorem cs9_1K_of (c : PCfg) (who : Int) (x : PComp) (seen : PSeenL) (m : PMove) (cap : Nat) (mm : PMem) (hlen : seen.len ≤ 1048576) {K : PComp → Nat → PMem → Prop} : appC K (cs9_1 c who x seen m mm) → cs9_1K False rqP faP rmP c who x seen m cap mm K := by
  unfold cs9_1 cs9_1K
  repeat' first
    | exact c_leaf _
    | exact c_bot
    | refine c_cond (fun _ => ?_) (fun _ => ?_)
    | refine c_rm ?_ ?_
    | refine c_fa (fun _ => ?_)
    | refine c_rq ⟨rfl, rfl⟩ ?_
    | refine c_rq' ⟨rfl, rfl⟩ ?_
    | refine c_rq ⟨⟨rfl, rfl⟩, hlen⟩ ?_
    | refine c_rq ⟨⟨rfl, rfl⟩, rfl, hlen⟩ ?_
    | refine c_rq (by simp only [decide_eq_true_eq] at *; omega) ?_

def cs10_1K {R : Type} (bot : R) (rq : Prop → R → R) (fa : (Nat → R) → R) (rm : Bool → R → R → R) (c : PCfg) (who : Int) (x : PComp) (seen : PSeenL) (m : PMove) (cap : Nat) (mm : PMem) (K : PComp → Nat → PMem → R) : R :=
  rq (seen.len = seen.len ∧ cap = cap) (
   K ⟨10, (some ⟨(seen.len), (seen.2), (seen.3), (seen.4), (seen.5), (seen.6), (seen.7)⟩), (x.at_), (x.pos), (x.w), (x.now), (some (m)), (some ⟨1, ((PMem.eLoad mm who 0).fst), 0, false⟩), none, ⟨(x.work.ev), (x.work.lf), (x.work.fr), (x.work.mv), (x.work.rd)⟩, ⟨(x.was.ev), (x.was.lf), (x.was.fr), (x.was.mv), (x.was.rd)⟩, (x.idle)⟩ (cap) ((advStep c who { pc := 0, now := 0, at_ := 0, went := false } mm).snd.snd))

def cs10_1 (c : PCfg) (who : Int) (x : PComp) (seen : PSeenL) (m : PMove) (mm : PMem) : Option (PComp × PMem) := cs10_1K none rqV faV rmV c who x seen m 0 mm fun x _ m => some (x, m)

theorem cs10_1K_of (c : PCfg) (who : Int) (x : PComp) (seen : PSeenL) (m : PMove) (cap : Nat) (mm : PMem) (hlen : seen.len ≤ 1048576) {K : PComp → Nat → PMem → Prop} : appC K (cs10_1 c who x seen m mm) → cs10_1K False rqP faP rmP c who x seen m cap mm K := by
  unfold cs10_1 cs10_1K
  repeat' first
    | exact c_leaf _
    | exact c_bot
    | refine c_cond (fun _ => ?_) (fun _ => ?_)
    | refine c_rm ?_ ?_
    | refine c_fa (fun _ => ?_)
    | refine c_rq ⟨rfl, rfl⟩ ?_
    | refine c_rq' ⟨rfl, rfl⟩ ?_
    | refine c_rq ⟨⟨rfl, rfl⟩, hlen⟩ ?_
    | refine c_rq ⟨⟨rfl, rfl⟩, rfl, hlen⟩ ?_
    | refine c_rq (by simp only [decide_eq_true_eq] at *; omega) ?_

def cs11_1K {R : Type} (bot : R) (rq : Prop → R → R) (fa : (Nat → R) → R) (rm : Bool → R → R → R) (c : PCfg) (who : Int) (x : PComp) (seen : PSeenL) (m : PMove) (cap : Nat) (mm : PMem) (K : PComp → Nat → PMem → R) : R :=
  bif !(settleStep c who { chunk := x.at_, pc := 0, w := 0, since := 0, at_ := 0, freed := false } mm).fst then
   rq (seen.len = seen.len ∧ cap = cap) (
    K ⟨11, (some ⟨(seen.len), (seen.2), (seen.3), (seen.4), (seen.5), (seen.6), (seen.7)⟩), (x.at_), (x.pos), (x.w), (x.now), (some (m)), none, (some ⟨(x.at_), 1, ((PMem.eLoad mm who (lChunk c.threads c.slots c.chunks c.words c.gens c.sparse c.tries x.at_)).fst), 0, 0, false⟩), ⟨(x.work.ev), (x.work.lf), (x.work.fr), (x.work.mv), (x.work.rd)⟩, ⟨(x.was.ev), (x.was.lf), (x.was.fr), (x.was.mv), (x.was.rd)⟩, (x.idle)⟩ (cap) ((settleStep c who { chunk := x.at_, pc := 0, w := 0, since := 0, at_ := 0, freed := false } mm).snd.snd))
  else
   bif decide (c.chunks ≤ wrI (x.at_ + 1)) then
    bif !decide (x.work.ev = x.was.ev) then
     rq (seen.len = seen.len ∧ cap = cap) (
      K ⟨0, (some ⟨(seen.len), (seen.2), (seen.3), (seen.4), (seen.5), (seen.6), (seen.7)⟩), 0, (x.pos), (x.w), (x.now), (some (m)), none, none, ⟨(x.work.ev), (x.work.lf), (x.work.fr), (x.work.mv), (wrI (x.work.rd + 1))⟩, ⟨(x.work.ev), (x.work.lf), (x.work.fr), (x.work.mv), (wrI (x.work.rd + 1))⟩, 0⟩ (cap) ((settleStep c who { chunk := x.at_, pc := 0, w := 0, since := 0, at_ := 0, freed := false } mm).snd.snd))
    else
     bif !decide (x.work.mv = x.was.mv) then
      rq (seen.len = seen.len ∧ cap = cap) (
       K ⟨0, (some ⟨(seen.len), (seen.2), (seen.3), (seen.4), (seen.5), (seen.6), (seen.7)⟩), 0, (x.pos), (x.w), (x.now), (some (m)), none, none, ⟨(x.work.ev), (x.work.lf), (x.work.fr), (x.work.mv), (wrI (x.work.rd + 1))⟩, ⟨(x.work.ev), (x.work.lf), (x.work.fr), (x.work.mv), (wrI (x.work.rd + 1))⟩, 0⟩ (cap) ((settleStep c who { chunk := x.at_, pc := 0, w := 0, since := 0, at_ := 0, freed := false } mm).snd.snd))
     else
      bif !decide (x.work.fr = x.was.fr) then
       rq (seen.len = seen.len ∧ cap = cap) (
        K ⟨0, (some ⟨(seen.len), (seen.2), (seen.3), (seen.4), (seen.5), (seen.6), (seen.7)⟩), 0, (x.pos), (x.w), (x.now), (some (m)), none, none, ⟨(x.work.ev), (x.work.lf), (x.work.fr), (x.work.mv), (wrI (x.work.rd + 1))⟩, ⟨(x.work.ev), (x.work.lf), (x.work.fr), (x.work.mv), (wrI (x.work.rd + 1))⟩, 0⟩ (cap) ((settleStep c who { chunk := x.at_, pc := 0, w := 0, since := 0, at_ := 0, freed := false } mm).snd.snd))
      else
       rq (seen.len = seen.len ∧ cap = cap) (
        K ⟨0, (some ⟨(seen.len), (seen.2), (seen.3), (seen.4), (seen.5), (seen.6), (seen.7)⟩), 0, (x.pos), (x.w), (x.now), (some (m)), none, none, ⟨(x.work.ev), (x.work.lf), (x.work.fr), (x.work.mv), (wrI (x.work.rd + 1))⟩, ⟨(x.work.ev), (x.work.lf), (x.work.fr), (x.work.mv), (wrI (x.work.rd + 1))⟩, (wrI (x.idle + 1))⟩ (cap) ((settleStep c who { chunk := x.at_, pc := 0, w := 0, since := 0, at_ := 0, freed := false } mm).snd.snd))
   else
    rq (seen.len = seen.len ∧ cap = cap) (
     K ⟨11, (some ⟨(seen.len), (seen.2), (seen.3), (seen.4), (seen.5), (seen.6), (seen.7)⟩), (wrI (x.at_ + 1)), (x.pos), (x.w), (x.now), (some (m)), none, none, ⟨(x.work.ev), (x.work.lf), (x.work.fr), (x.work.mv), (x.work.rd)⟩, ⟨(x.was.ev), (x.was.lf), (x.was.fr), (x.was.mv), (x.was.rd)⟩, (x.idle)⟩ (cap) ((settleStep c who { chunk := x.at_, pc := 0, w := 0, since := 0, at_ := 0, freed := false } mm).snd.snd))

def cs11_1 (c : PCfg) (who : Int) (x : PComp) (seen : PSeenL) (m : PMove) (mm : PMem) : Option (PComp × PMem) := cs11_1K none rqV faV rmV c who x seen m 0 mm fun x _ m => some (x, m)

theorem cs11_1K_of (c : PCfg) (who : Int) (x : PComp) (seen : PSeenL) (m : PMove) (cap : Nat) (mm : PMem) (hlen : seen.len ≤ 1048576) {K : PComp → Nat → PMem → Prop} : appC K (cs11_1 c who x seen m mm) → cs11_1K False rqP faP rmP c who x seen m cap mm K := by
  unfold cs11_1 cs11_1K
  repeat' first
    | exact c_leaf _
    | exact c_bot
    | refine c_cond (fun _ => ?_) (fun _ => ?_)
    | refine c_rm ?_ ?_
    | refine c_fa (fun _ => ?_)
    | refine c_rq ⟨rfl, rfl⟩ ?_
    | refine c_rq' ⟨rfl, rfl⟩ ?_
    | refine c_rq ⟨⟨rfl, rfl⟩, hlen⟩ ?_
    | refine c_rq ⟨⟨rfl, rfl⟩, rfl, hlen⟩ ?_
    | refine c_rq (by simp only [decide_eq_true_eq] at *; omega) ?_

def csA_1K {R : Type} (bot : R) (rq : Prop → R → R) (fa : (Nat → R) → R) (rm : Bool → R → R → R) (c : PCfg) (who : Int) (x : PComp) (seen : PSeenL) (m : PMove) (a : PAdv) (cap : Nat) (mm : PMem) (K : PComp → Nat → PMem → R) : R :=
  bif (advStep c who a mm).fst then
   rq (seen.len = seen.len ∧ cap = cap) (
    K ⟨11, (some ⟨(seen.len), (seen.2), (seen.3), (seen.4), (seen.5), (seen.6), (seen.7)⟩), 0, (x.pos), (x.w), (x.now), (some (m)), none, none, ⟨(x.work.ev), (x.work.lf), (x.work.fr), (x.work.mv), (x.work.rd)⟩, ⟨(x.was.ev), (x.was.lf), (x.was.fr), (x.was.mv), (x.was.rd)⟩, (x.idle)⟩ (cap) ((advStep c who a mm).snd.snd))
  else
   rq (seen.len = seen.len ∧ cap = cap) (
    K ⟨10, (some ⟨(seen.len), (seen.2), (seen.3), (seen.4), (seen.5), (seen.6), (seen.7)⟩), (x.at_), (x.pos), (x.w), (x.now), (some (m)), (some ((advStep c who a mm).snd.1)), none, ⟨(x.work.ev), (x.work.lf), (x.work.fr), (x.work.mv), (x.work.rd)⟩, ⟨(x.was.ev), (x.was.lf), (x.was.fr), (x.was.mv), (x.was.rd)⟩, (x.idle)⟩ (cap) ((advStep c who a mm).snd.snd))

def csA_1 (c : PCfg) (who : Int) (x : PComp) (seen : PSeenL) (m : PMove) (a : PAdv) (mm : PMem) : Option (PComp × PMem) := csA_1K none rqV faV rmV c who x seen m a 0 mm fun x _ m => some (x, m)

theorem csA_1K_of (c : PCfg) (who : Int) (x : PComp) (seen : PSeenL) (m : PMove) (a : PAdv) (cap : Nat) (mm : PMem) (hlen : seen.len ≤ 1048576) {K : PComp → Nat → PMem → Prop} : appC K (csA_1 c who x seen m a mm) → csA_1K False rqP faP rmP c who x seen m a cap mm K := by
  unfold csA_1 csA_1K
  repeat' first
    | exact c_leaf _
    | exact c_bot
    | refine c_cond (fun _ => ?_) (fun _ => ?_)
    | refine c_rm ?_ ?_
    | refine c_fa (fun _ => ?_)
    | refine c_rq ⟨rfl, rfl⟩ ?_
    | refine c_rq' ⟨rfl, rfl⟩ ?_
    | refine c_rq ⟨⟨rfl, rfl⟩, hlen⟩ ?_
    | refine c_rq ⟨⟨rfl, rfl⟩, rfl, hlen⟩ ?_
    | refine c_rq (by simp only [decide_eq_true_eq] at *; omega) ?_

def csS_1K {R : Type} (bot : R) (rq : Prop → R → R) (fa : (Nat → R) → R) (rm : Bool → R → R → R) (c : PCfg) (who : Int) (x : PComp) (seen : PSeenL) (m : PMove) (s : PSettle) (cap : Nat) (mm : PMem) (K : PComp → Nat → PMem → R) : R :=
  bif !(settleStep c who s mm).fst then
   rq (seen.len = seen.len ∧ cap = cap) (
    K ⟨11, (some ⟨(seen.len), (seen.2), (seen.3), (seen.4), (seen.5), (seen.6), (seen.7)⟩), (x.at_), (x.pos), (x.w), (x.now), (some (m)), none, (some ((settleStep c who s mm).snd.1)), ⟨(x.work.ev), (x.work.lf), (x.work.fr), (x.work.mv), (x.work.rd)⟩, ⟨(x.was.ev), (x.was.lf), (x.was.fr), (x.was.mv), (x.was.rd)⟩, (x.idle)⟩ (cap) ((settleStep c who s mm).snd.snd))
  else
   bif (settleStep c who s mm).snd.fst.freed then
    bif decide (c.chunks ≤ wrI (x.at_ + 1)) then
     bif !decide (x.work.ev = x.was.ev) then
      rq (seen.len = seen.len ∧ cap = cap) (
       K ⟨0, (some ⟨(seen.len), (seen.2), (seen.3), (seen.4), (seen.5), (seen.6), (seen.7)⟩), 0, (x.pos), (x.w), (x.now), (some (m)), none, none, ⟨(x.work.ev), (x.work.lf), (wrI (x.work.fr + 1)), (x.work.mv), (wrI (x.work.rd + 1))⟩, ⟨(x.work.ev), (x.work.lf), (wrI (x.work.fr + 1)), (x.work.mv), (wrI (x.work.rd + 1))⟩, 0⟩ (cap) ((settleStep c who s mm).snd.snd))
     else
      bif !decide (x.work.mv = x.was.mv) then
       rq (seen.len = seen.len ∧ cap = cap) (
        K ⟨0, (some ⟨(seen.len), (seen.2), (seen.3), (seen.4), (seen.5), (seen.6), (seen.7)⟩), 0, (x.pos), (x.w), (x.now), (some (m)), none, none, ⟨(x.work.ev), (x.work.lf), (wrI (x.work.fr + 1)), (x.work.mv), (wrI (x.work.rd + 1))⟩, ⟨(x.work.ev), (x.work.lf), (wrI (x.work.fr + 1)), (x.work.mv), (wrI (x.work.rd + 1))⟩, 0⟩ (cap) ((settleStep c who s mm).snd.snd))
      else
       bif !decide (wrI (x.work.fr + 1) = x.was.fr) then
        rq (seen.len = seen.len ∧ cap = cap) (
         K ⟨0, (some ⟨(seen.len), (seen.2), (seen.3), (seen.4), (seen.5), (seen.6), (seen.7)⟩), 0, (x.pos), (x.w), (x.now), (some (m)), none, none, ⟨(x.work.ev), (x.work.lf), (wrI (x.work.fr + 1)), (x.work.mv), (wrI (x.work.rd + 1))⟩, ⟨(x.work.ev), (x.work.lf), (wrI (x.work.fr + 1)), (x.work.mv), (wrI (x.work.rd + 1))⟩, 0⟩ (cap) ((settleStep c who s mm).snd.snd))
       else
        rq (seen.len = seen.len ∧ cap = cap) (
         K ⟨0, (some ⟨(seen.len), (seen.2), (seen.3), (seen.4), (seen.5), (seen.6), (seen.7)⟩), 0, (x.pos), (x.w), (x.now), (some (m)), none, none, ⟨(x.work.ev), (x.work.lf), (wrI (x.work.fr + 1)), (x.work.mv), (wrI (x.work.rd + 1))⟩, ⟨(x.work.ev), (x.work.lf), (wrI (x.work.fr + 1)), (x.work.mv), (wrI (x.work.rd + 1))⟩, (wrI (x.idle + 1))⟩ (cap) ((settleStep c who s mm).snd.snd))
    else
     rq (seen.len = seen.len ∧ cap = cap) (
      K ⟨11, (some ⟨(seen.len), (seen.2), (seen.3), (seen.4), (seen.5), (seen.6), (seen.7)⟩), (wrI (x.at_ + 1)), (x.pos), (x.w), (x.now), (some (m)), none, none, ⟨(x.work.ev), (x.work.lf), (wrI (x.work.fr + 1)), (x.work.mv), (x.work.rd)⟩, ⟨(x.was.ev), (x.was.lf), (x.was.fr), (x.was.mv), (x.was.rd)⟩, (x.idle)⟩ (cap) ((settleStep c who s mm).snd.snd))
   else
    bif decide (c.chunks ≤ wrI (x.at_ + 1)) then
     bif !decide (x.work.ev = x.was.ev) then
      rq (seen.len = seen.len ∧ cap = cap) (
       K ⟨0, (some ⟨(seen.len), (seen.2), (seen.3), (seen.4), (seen.5), (seen.6), (seen.7)⟩), 0, (x.pos), (x.w), (x.now), (some (m)), none, none, ⟨(x.work.ev), (x.work.lf), (x.work.fr), (x.work.mv), (wrI (x.work.rd + 1))⟩, ⟨(x.work.ev), (x.work.lf), (x.work.fr), (x.work.mv), (wrI (x.work.rd + 1))⟩, 0⟩ (cap) ((settleStep c who s mm).snd.snd))
     else
      bif !decide (x.work.mv = x.was.mv) then
       rq (seen.len = seen.len ∧ cap = cap) (
        K ⟨0, (some ⟨(seen.len), (seen.2), (seen.3), (seen.4), (seen.5), (seen.6), (seen.7)⟩), 0, (x.pos), (x.w), (x.now), (some (m)), none, none, ⟨(x.work.ev), (x.work.lf), (x.work.fr), (x.work.mv), (wrI (x.work.rd + 1))⟩, ⟨(x.work.ev), (x.work.lf), (x.work.fr), (x.work.mv), (wrI (x.work.rd + 1))⟩, 0⟩ (cap) ((settleStep c who s mm).snd.snd))
      else
       bif !decide (x.work.fr = x.was.fr) then
        rq (seen.len = seen.len ∧ cap = cap) (
         K ⟨0, (some ⟨(seen.len), (seen.2), (seen.3), (seen.4), (seen.5), (seen.6), (seen.7)⟩), 0, (x.pos), (x.w), (x.now), (some (m)), none, none, ⟨(x.work.ev), (x.work.lf), (x.work.fr), (x.work.mv), (wrI (x.work.rd + 1))⟩, ⟨(x.work.ev), (x.work.lf), (x.work.fr), (x.work.mv), (wrI (x.work.rd + 1))⟩, 0⟩ (cap) ((settleStep c who s mm).snd.snd))
       else
        rq (seen.len = seen.len ∧ cap = cap) (
         K ⟨0, (some ⟨(seen.len), (seen.2), (seen.3), (seen.4), (seen.5), (seen.6), (seen.7)⟩), 0, (x.pos), (x.w), (x.now), (some (m)), none, none, ⟨(x.work.ev), (x.work.lf), (x.work.fr), (x.work.mv), (wrI (x.work.rd + 1))⟩, ⟨(x.work.ev), (x.work.lf), (x.work.fr), (x.work.mv), (wrI (x.work.rd + 1))⟩, (wrI (x.idle + 1))⟩ (cap) ((settleStep c who s mm).snd.snd))
    else
     rq (seen.len = seen.len ∧ cap = cap) (
      K ⟨11, (some ⟨(seen.len), (seen.2), (seen.3), (seen.4), (seen.5), (seen.6), (seen.7)⟩), (wrI (x.at_ + 1)), (x.pos), (x.w), (x.now), (some (m)), none, none, ⟨(x.work.ev), (x.work.lf), (x.work.fr), (x.work.mv), (x.work.rd)⟩, ⟨(x.was.ev), (x.was.lf), (x.was.fr), (x.was.mv), (x.was.rd)⟩, (x.idle)⟩ (cap) ((settleStep c who s mm).snd.snd))

def csS_1 (c : PCfg) (who : Int) (x : PComp) (seen : PSeenL) (m : PMove) (s : PSettle) (mm : PMem) : Option (PComp × PMem) := csS_1K none rqV faV rmV c who x seen m s 0 mm fun x _ m => some (x, m)

theorem csS_1K_of (c : PCfg) (who : Int) (x : PComp) (seen : PSeenL) (m : PMove) (s : PSettle) (cap : Nat) (mm : PMem) (hlen : seen.len ≤ 1048576) {K : PComp → Nat → PMem → Prop} : appC K (csS_1 c who x seen m s mm) → csS_1K False rqP faP rmP c who x seen m s cap mm K := by
  unfold csS_1 csS_1K
  repeat' first
    | exact c_leaf _
    | exact c_bot
    | refine c_cond (fun _ => ?_) (fun _ => ?_)
    | refine c_rm ?_ ?_
    | refine c_fa (fun _ => ?_)
    | refine c_rq ⟨rfl, rfl⟩ ?_
    | refine c_rq' ⟨rfl, rfl⟩ ?_
    | refine c_rq ⟨⟨rfl, rfl⟩, hlen⟩ ?_
    | refine c_rq ⟨⟨rfl, rfl⟩, rfl, hlen⟩ ?_
    | refine c_rq (by simp only [decide_eq_true_eq] at *; omega) ?_

def compStep (c : PCfg) (who : Int) (x : PComp) (mm : PMem) : Option (PComp × PMem) := match x.seen with
  | none => match x.m with
    | some _ => none
    | none => match x.a with
      | some _ => none
      | none => match x.s with
        | some _ => none
        | none => bif decide (x.pc = 0) then csStart c who x mm else none
  | some seen => bif decide (seen.len ≤ 1048576) then match x.m with
    | none => match x.a with
      | none => match x.s with
        | none => bif decide (x.pc = 0) then cs0_0 c who x seen mm else bif decide (x.pc = 1) then cs1_0 c who x seen mm else bif decide (x.pc = 2) then cs2_0 c who x seen mm else bif decide (x.pc = 3) then cs3_0 c who x seen mm else bif decide (x.pc = 4) then cs4_0 c who x seen mm else bif decide (x.pc = 5) then cs5_0 c who x seen mm else bif decide (x.pc = 6) then cs6_0 c who x seen mm else bif decide (x.pc = 7) then cs7_0 c who x seen mm else bif decide (x.pc = 8) then cs8_0 c who x seen mm else bif decide (x.pc = 9) then cs9_0 c who x seen mm else bif decide (x.pc = 10) then cs10_0 c who x seen mm else bif decide (x.pc = 11) then cs11_0 c who x seen mm else none
        | some s => bif decide (x.pc = 11) then csS_0 c who x seen s mm else none
      | some a => match x.s with
        | none => bif decide (x.pc = 10) then csA_0 c who x seen a mm else none
        | some _ => none
    | some m => match x.a with
      | none => match x.s with
        | none => bif decide (x.pc = 0) then cs0_1 c who x seen m mm else bif decide (x.pc = 1) then cs1_1 c who x seen m mm else bif decide (x.pc = 2) then cs2_1 c who x seen m mm else bif decide (x.pc = 3) then cs3_1 c who x seen m mm else bif decide (x.pc = 4) then cs4_1 c who x seen m mm else bif decide (x.pc = 5) then cs5_1 c who x seen m mm else bif decide (x.pc = 6) then cs6_1 c who x seen m mm else bif decide (x.pc = 7) then cs7_1 c who x seen m mm else bif decide (x.pc = 8) then cs8_1 c who x seen m mm else bif decide (x.pc = 9) then cs9_1 c who x seen m mm else bif decide (x.pc = 10) then cs10_1 c who x seen m mm else bif decide (x.pc = 11) then cs11_1 c who x seen m mm else none
        | some s => bif decide (x.pc = 11) then csS_1 c who x seen m s mm else none
      | some a => match x.s with
        | none => bif decide (x.pc = 10) then csA_1 c who x seen m a mm else none
        | some _ => none
    else none

def compOk (c : PCfg) (who : Int) (x : PComp) (mm : PMem) : Bool := (compStep c who x mm).isSome

def compX (c : PCfg) (who : Int) (x : PComp) (mm : PMem) : PComp × PMem := (compStep c who x mm).getD (x, mm)

end Go.FL
