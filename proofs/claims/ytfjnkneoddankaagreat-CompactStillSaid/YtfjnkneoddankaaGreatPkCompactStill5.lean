/-
  Objects made, let go, read and laid alone.
-/
import Derived.Test.YtfjnkneoddankaaGreatPkCompactStill4
import Derived.Test.YtfjnkneoddankaaGreatRows
import Derived.Test.YtfjnkneoddankaaGreatPkCompactStill1
import Derived.ProofKit
import Derived.Test.YtfjnkneoddankaaGreatPkCompactStill2
import Derived.Lib.SmallJoins
import Derived.IntWalk
import Derived.KernelRfl
import Derived.Test.YtfjnkneoddankaaGreatPkCompactStill3
set_option linter.unusedVariables false
set_option linter.unusedSimpArgs false
set_option maxRecDepth 100000

set_option linter.unusedSectionVars false
namespace Go.FL

/-- So many steps at most. -/
def makeRun (c : PCfg) (who : Int) : Nat → PAlloc → PMem → PAlloc × PMem
  | 0, a, m => (a, m)
  | n + 1, a, m => match (allocStep c who a m).1 with
    | true => ((allocStep c who a m).2.1, (allocStep c who a m).2.2)
    | false => makeRun c who n (allocStep c who a m).2.1 (allocStep c who a m).2.2

theorem makeRun_zero (c : PCfg) (who : Int) (a : PAlloc) (m : PMem) : makeRun c who 0 a m = (a, m) := rfl

theorem makeRun_succ (c : PCfg) (who : Int) (n : Nat) (a : PAlloc) (m : PMem) : makeRun c who (n + 1) a m = (match (allocStep c who a m).1 with
    | true => ((allocStep c who a m).2.1, (allocStep c who a m).2.2)
    | false => makeRun c who n (allocStep c who a m).2.1 (allocStep c who a m).2.2) := rfl

attribute [irreducible] makeRun

def makeM (c : PCfg) (who : Int) (pm : PMem) (a : Int) (b : Bool) : PDone × PMem := ((makeRun c who 400 ⟨a, b, 0, ⟨0, 0, 0, 0, false⟩, 0, 0, none, 0, 0, none, ⟨0, 0, 0, 0⟩⟩ pm).1.out, (makeRun c who 400 ⟨a, b, 0, ⟨0, 0, 0, 0, false⟩, 0, 0, none, 0, 0, none, ⟨0, 0, 0, 0⟩⟩ pm).2)

end Go.FL

namespace Go.Proofs.YtfjnkneoddankaaGreat
open Go Go.FL Go.Proofs
variable [Go.FL.Fz]

abbrev makeF : FuncId := 11

abbrev makeT (i : Int) : Tm := [(3, .c (.ptr 1 0)), (6, .c (.ptr 2 0)), (7, .c (.ptr 3 0)), (8, .c (cI i))]

abbrev makeH (c : PCfg) (who : Int) (bx : LB) (a : PAlloc) (m : PMem) : List LB := [.obj (.mem m), .cells 27 [cI c.threads, cI c.slots, cI c.chunks, cI c.words, cI c.gens, cI c.sparse, cI c.tries, .ptr 0 0, cI who], bx, .obj (.alloc a)]

theorem makeBody_ev (c : PCfg) (who : Int) (bx : LB) (a : PAlloc) (m : PMem) (wr : List Nat) (i : Int) (k : X → Tm → LH → Prop) :
    evC Tryz.prog (evF Tryz.prog ownK6 10 20) (tmpsF Tryz.prog makeF) noLo 10 (loopF Tryz.prog makeF 0) (makeT i) ⟨makeH c who bx a m, wr⟩ (fun x T H => k x (Tm.norm [3, 6, 7, 8] T) H) =
    (bif decide (i < 400) then 
      bif (allocStep c who a m).1 then k (.exit 0) (makeT i) ⟨makeH c who bx (allocStep c who a m).2.1 (allocStep c who a m).2.2, 0 :: 3 :: wr⟩
      else k .normal (makeT (IntKind.wrap .i64 (i + 1))) ⟨makeH c who bx (allocStep c who a m).2.1 (allocStep c who a m).2.2, 0 :: 3 :: wr⟩
    else k (.exit 0) (makeT i) ⟨makeH c who bx a m, wr⟩) := by kernel_rfl

def lh_make : LHd := fun T H K => match Tm.norm [3, 6, 7, 8] T with
  | [(3, .c (.ptr 1 0)), (6, .c (.ptr 2 0)), (7, .c (.ptr 3 0)), (8, .c (.int .i64 i))] => match H.bl with
    | [.obj (.mem m), .cells t [.int .i64 c1, .int .i64 c2, .int .i64 c3, .int .i64 c4, .int .i64 c5, .int .i64 c6, .int .i64 c7, .ptr 0 0, .int .i64 who], bx, .obj (.alloc a)] =>
      match Nat.beq t 27 && decide (i = 0) with
      | false => False
      | true => ( K (.exit 0) [(3, .c (.ptr 1 0)), (6, .c (.ptr 2 0)), (7, .c (.ptr 3 0))] ⟨makeH ⟨c1, c2, c3, c4, c5, c6, c7⟩ who bx (makeRun ⟨c1, c2, c3, c4, c5, c6, c7⟩ who 400 a m).1 (makeRun ⟨c1, c2, c3, c4, c5, c6, c7⟩ who 400 a m).2, 0 :: 3 :: H.wr⟩)
    | _ => False
  | _ => False

theorem lh_make_ok : BodyOK Tryz.prog (tmpsF Tryz.prog makeF) (.loop (loopF Tryz.prog makeF 0)) lh_make := by
  refine loopN_ok (evC_ok fnOK mixed (evF_ok fnOK mixed ownK6_ok 10 20) _ (lo := noLo) 10 _ LoOK.no) ?_
  intro T H K h
  unfold lh_make at h
  split at h
  case h_2 => exact h.elim
  rename_i x i hT
  split at h
  case h_2 => exact h.elim
  rename_i x' m t c1 c2 c3 c4 c5 c6 c7 who bx a hH
  split at h
  · exact h.elim
  rename_i hti
  simp only [Bool.and_eq_true] at hti
  have ht := Nat.eq_of_beq_eq_true hti.1
  have hi : i = 0 := of_decide_eq_true hti.2
  subst ht
  subst hi
  generalize hr : makeRun ⟨c1, c2, c3, c4, c5, c6, c7⟩ who 400 a m = r at h
  refine ⟨[3, 6, 7, 8], [3, 6, 7], fun n T' H' => ∃ (j : Nat) (a' : PAlloc) (m' : PMem), j ≤ 400 ∧ n = 400 - j ∧ T' = makeT (j : Int) ∧ H'.bl = makeH ⟨c1, c2, c3, c4, c5, c6, c7⟩ who bx a' m' ∧ (∀ n ∈ H'.wr, n ∈ 0 :: 3 :: H.wr) ∧
    makeRun ⟨c1, c2, c3, c4, c5, c6, c7⟩ who (400 - j) a' m' = r, ⟨400, 0, a, m, by omega, rfl, hT, hH, fun n hn => by simp [hn], hr⟩, ?_⟩
  rintro n T' ⟨bl, wr⟩ ⟨j, a', m', hj, rfl, rfl, hbl, hwr, hrun⟩
  simp only at hbl hwr
  subst hbl
  rw [makeBody_ev]
  by_cases hlt : j < 400
  · have h1 : decide ((j : Int) < 400) = true := by simp; omega
    obtain ⟨q, hq⟩ : ∃ q, 400 - j = q + 1 := ⟨400 - (j + 1), by omega⟩
    have hq' : q = 400 - (j + 1) := by omega
    rw [hq, makeRun_succ] at hrun
    rw [h1]
    simp only [cond_true]
    have hw2 : ∀ n ∈ 0 :: 3 :: wr, n ∈ 0 :: 3 :: H.wr := by
      intro n hn
      simp only [List.mem_cons] at hn ⊢
      rcases hn with h | h | h
      · exact .inl h
      · exact .inr (.inl h)
      · simpa using hwr n h
    cases hst : (allocStep ⟨c1, c2, c3, c4, c5, c6, c7⟩ who a' m').1 with
    | true =>
      rw [hst] at hrun
      simp only [cond_true] at hrun ⊢
      subst hrun
      exact ⟨0 :: 3 :: H.wr, hw2, h⟩
    | false =>
      rw [hst] at hrun
      simp only [cond_false] at hrun ⊢
      refine ⟨400 - (j + 1), by omega, j + 1, _, _, hlt, rfl, ?_, rfl, hw2, by rw [← hq']; exact hrun⟩
      have hi : IntKind.i64.wrap ((j : Int) + 1) = ((j + 1 : Nat) : Int) := by rw [IntKind.wrap_i64]; omega
      rw [hi]
  · have h1 : decide ((j : Int) < 400) = false := by simp; omega
    rw [h1]
    simp only [cond_false]
    have hz : 400 - j = 0 := by omega
    rw [hz, makeRun_zero] at hrun
    subst hrun
    exact ⟨0 :: 3 :: H.wr, hwr, h⟩

theorem makeLo : LoOK Tryz.prog (tmpsF Tryz.prog makeF) (fun _ => some lh_make) (loopsF Tryz.prog makeF) := by
  have h : loopsF Tryz.prog makeF = [loopF Tryz.prog makeF 0] := by kernel_rfl
  rw [h]
  intro c hc hd he
  have hc : c = loopF Tryz.prog makeF 0 := by simpa using hc
  subst hc
  cases he
  exact lh_make_ok

theorem make_ev (c : PCfg) (who : Int) (m : PMem) (a : Int) (b : Bool) (K : PDone → PMem → Prop) :
    evL Tryz.prog ownK6 (fun _ => some lh_make) 10 20 makeF [envV c 0 who, .c (.int .i64 a), .c (.bool b)] ⟨cat [(false, .mem m)] 0, []⟩ (fun v H₁ => match v with
      | .agg [.int .i64 e, .int .u64 h, .int .i64 v, .int .i64 st] => shF H₁ 0 fun o c2 => match o with
        | .mem m' => match chkAll [(false, .mem m)] [c2] [] with
          | true => K ⟨e, h, v, st⟩ m'
          | false => False
        | _ => False
      | _ => False) =
    ( K ⟨(makeRun c who 400 ⟨a, b, 0, ⟨0, 0, 0, 0, false⟩, 0, 0, none, 0, 0, none, ⟨0, 0, 0, 0⟩⟩ m).1.out.e, (makeRun c who 400 ⟨a, b, 0, ⟨0, 0, 0, 0, false⟩, 0, 0, none, 0, 0, none, ⟨0, 0, 0, 0⟩⟩ m).1.out.h, (makeRun c who 400 ⟨a, b, 0, ⟨0, 0, 0, 0, false⟩, 0, 0, none, 0, 0, none, ⟨0, 0, 0, 0⟩⟩ m).1.out.v, (makeRun c who 400 ⟨a, b, 0, ⟨0, 0, 0, 0, false⟩, 0, 0, none, 0, 0, none, ⟨0, 0, 0, 0⟩⟩ m).1.out.st⟩ (makeRun c who 400 ⟨a, b, 0, ⟨0, 0, 0, 0, false⟩, 0, 0, none, 0, 0, none, ⟨0, 0, 0, 0⟩⟩ m).2) := by kernel_rfl

def h_make : Hd := fun args H K => match args with
  | [.agg [.int .i64 c1, .int .i64 c2, .int .i64 c3, .int .i64 c4, .int .i64 c5, .int .i64 c6, .int .i64 c7, .ptr m 0, .int .i64 who], .c (.int .i64 a), .c (.bool b)] =>
    match H.get m with
    | some (.obj (.mem pm)) => ( K (.agg [cI (makeM ⟨c1, c2, c3, c4, c5, c6, c7⟩ who pm a b).1.e, cU (makeM ⟨c1, c2, c3, c4, c5, c6, c7⟩ who pm a b).1.h, cI (makeM ⟨c1, c2, c3, c4, c5, c6, c7⟩ who pm a b).1.v, cI (makeM ⟨c1, c2, c3, c4, c5, c6, c7⟩ who pm a b).1.st]) (H.put m (.obj (.mem (makeM ⟨c1, c2, c3, c4, c5, c6, c7⟩ who pm a b).2))))
    | _ => False
  | _ => False

theorem h_make_ok : HOK makeF h_make := by
  intro args H K h
  unfold h_make at h
  split at h
  case h_2 => exact h.elim
  rename_i c1 c2 c3 c4 c5 c6 c7 m who a b
  split at h
  case h_2 => exact h.elim
  rename_i pm hm
  have e := (make_ev ⟨c1, c2, c3, c4, c5, c6, c7⟩ who pm a b (fun d m' => K (.agg [cI d.e, cU d.h, cI d.v, cI d.st]) (H.put m (.obj (.mem m'))))).mpr (by
    unfold makeM at h
    skip
    exact h)
  refine objs_of (ns := [m]) (xs := [(false, .mem pm)]) rfl ?_ (by simp) ?_ (evL_ok fnOK mixed ownK6_ok makeLo e) ?_
  · intro i n x' hi hx
    match i, hi, hx with
    | 0, hi, hx => simp at hi hx; subst hi; subst hx; exact get_obj hm
    | i + 1, hi, hx => simp at hi
  · intro s s₁ vs hh hr
    match vs, hr with
    | u :: vs, ⟨h1, h2⟩ =>
      have e0 := hh 0 m rfl
      simp only [base, Nat.zero_add] at e0
      exact ⟨rel_env (c := ⟨c1, c2, c3, c4, c5, c6, c7⟩) e0 h1, RelVs.low rfl h2⟩
  · intro v₁ H₁ hk
    split at hk
    · rename_i e1 h1 v1 st1
      obtain ⟨o, c2, hk, hc2⟩ := shF_ok hk
      split at hk
      · rename_i pm'
        split at hk
        · rename_i hchk
          exact ⟨[c2], [(false, .mem pm')], [], [], .agg [.int .i64 e1, .int .u64 h1, .int .i64 v1, .int .i64 st1], hchk, ⟨hc2, trivial⟩, trivial, fun _ _ _ _ _ h => RelV.low rfl h, hk⟩
        · exact hk.elim
      · exact hk.elim
    · exact hk.elim

end Go.Proofs.YtfjnkneoddankaaGreat

namespace Go.FL

/-- So many steps at most. -/
def dropdRun (c : PCfg) (who : Int) : Nat → PDrop → PMem → PDrop × PMem
  | 0, a, m => (a, m)
  | n + 1, a, m => match (dropStep c who a m).1 with
    | true => ((dropStep c who a m).2.1, (dropStep c who a m).2.2)
    | false => dropdRun c who n (dropStep c who a m).2.1 (dropStep c who a m).2.2

theorem dropdRun_zero (c : PCfg) (who : Int) (a : PDrop) (m : PMem) : dropdRun c who 0 a m = (a, m) := rfl

theorem dropdRun_succ (c : PCfg) (who : Int) (n : Nat) (a : PDrop) (m : PMem) : dropdRun c who (n + 1) a m = (match (dropStep c who a m).1 with
    | true => ((dropStep c who a m).2.1, (dropStep c who a m).2.2)
    | false => dropdRun c who n (dropStep c who a m).2.1 (dropStep c who a m).2.2) := rfl

attribute [irreducible] dropdRun

def dropdM (c : PCfg) (who : Int) (pm : PMem) (a : Int) (b : Bool) : PDone × PMem := ((dropdRun c who 200 ⟨a, b, 0, 0, 0, 0, 0, none, none, ⟨0, 0, 0, 0⟩⟩ pm).1.out, (dropdRun c who 200 ⟨a, b, 0, 0, 0, 0, 0, none, none, ⟨0, 0, 0, 0⟩⟩ pm).2)

end Go.FL

namespace Go.Proofs.YtfjnkneoddankaaGreat
open Go Go.FL Go.Proofs
variable [Go.FL.Fz]

abbrev dropdF : FuncId := 17

abbrev dropdT (i : Int) : Tm := [(3, .c (.ptr 1 0)), (6, .c (.ptr 2 0)), (7, .c (.ptr 3 0)), (8, .c (cI i))]

abbrev dropdH (c : PCfg) (who : Int) (bx : LB) (a : PDrop) (m : PMem) : List LB := [.obj (.mem m), .cells 27 [cI c.threads, cI c.slots, cI c.chunks, cI c.words, cI c.gens, cI c.sparse, cI c.tries, .ptr 0 0, cI who], bx, .obj (.drop a)]

theorem dropdBody_ev (c : PCfg) (who : Int) (bx : LB) (a : PDrop) (m : PMem) (wr : List Nat) (i : Int) (k : X → Tm → LH → Prop) :
    evC Tryz.prog (evF Tryz.prog ownK6 10 20) (tmpsF Tryz.prog dropdF) noLo 10 (loopF Tryz.prog dropdF 0) (dropdT i) ⟨dropdH c who bx a m, wr⟩ (fun x T H => k x (Tm.norm [3, 6, 7, 8] T) H) =
    (bif decide (i < 200) then bif decide (c.words = 0) then False else
      bif (dropStep c who a m).1 then k (.exit 0) (dropdT i) ⟨dropdH c who bx (dropStep c who a m).2.1 (dropStep c who a m).2.2, 0 :: 3 :: wr⟩
      else k .normal (dropdT (IntKind.wrap .i64 (i + 1))) ⟨dropdH c who bx (dropStep c who a m).2.1 (dropStep c who a m).2.2, 0 :: 3 :: wr⟩
    else k (.exit 0) (dropdT i) ⟨dropdH c who bx a m, wr⟩) := by kernel_rfl

def lh_dropd : LHd := fun T H K => match Tm.norm [3, 6, 7, 8] T with
  | [(3, .c (.ptr 1 0)), (6, .c (.ptr 2 0)), (7, .c (.ptr 3 0)), (8, .c (.int .i64 i))] => match H.bl with
    | [.obj (.mem m), .cells t [.int .i64 c1, .int .i64 c2, .int .i64 c3, .int .i64 c4, .int .i64 c5, .int .i64 c6, .int .i64 c7, .ptr 0 0, .int .i64 who], bx, .obj (.drop a)] =>
      match Nat.beq t 27 && decide (i = 0) with
      | false => False
      | true => (match decide (c4 = 0) with | true => False | false => K (.exit 0) [(3, .c (.ptr 1 0)), (6, .c (.ptr 2 0)), (7, .c (.ptr 3 0))] ⟨dropdH ⟨c1, c2, c3, c4, c5, c6, c7⟩ who bx (dropdRun ⟨c1, c2, c3, c4, c5, c6, c7⟩ who 200 a m).1 (dropdRun ⟨c1, c2, c3, c4, c5, c6, c7⟩ who 200 a m).2, 0 :: 3 :: H.wr⟩)
    | _ => False
  | _ => False

theorem lh_dropd_ok : BodyOK Tryz.prog (tmpsF Tryz.prog dropdF) (.loop (loopF Tryz.prog dropdF 0)) lh_dropd := by
  refine loopN_ok (evC_ok fnOK mixed (evF_ok fnOK mixed ownK6_ok 10 20) _ (lo := noLo) 10 _ LoOK.no) ?_
  intro T H K h
  unfold lh_dropd at h
  split at h
  case h_2 => exact h.elim
  rename_i x i hT
  split at h
  case h_2 => exact h.elim
  rename_i x' m t c1 c2 c3 c4 c5 c6 c7 who bx a hH
  split at h
  · exact h.elim
  rename_i hti
  split at h
  · exact h.elim
  rename_i hc
  have hcd : decide (c4 = 0) = false := hc
  simp only [Bool.and_eq_true] at hti
  have ht := Nat.eq_of_beq_eq_true hti.1
  have hi : i = 0 := of_decide_eq_true hti.2
  subst ht
  subst hi
  generalize hr : dropdRun ⟨c1, c2, c3, c4, c5, c6, c7⟩ who 200 a m = r at h
  refine ⟨[3, 6, 7, 8], [3, 6, 7], fun n T' H' => ∃ (j : Nat) (a' : PDrop) (m' : PMem), j ≤ 200 ∧ n = 200 - j ∧ T' = dropdT (j : Int) ∧ H'.bl = dropdH ⟨c1, c2, c3, c4, c5, c6, c7⟩ who bx a' m' ∧ (∀ n ∈ H'.wr, n ∈ 0 :: 3 :: H.wr) ∧
    dropdRun ⟨c1, c2, c3, c4, c5, c6, c7⟩ who (200 - j) a' m' = r, ⟨200, 0, a, m, by omega, rfl, hT, hH, fun n hn => by simp [hn], hr⟩, ?_⟩
  rintro n T' ⟨bl, wr⟩ ⟨j, a', m', hj, rfl, rfl, hbl, hwr, hrun⟩
  simp only at hbl hwr
  subst hbl
  rw [dropdBody_ev]
  by_cases hlt : j < 200
  · have h1 : decide ((j : Int) < 200) = true := by simp; omega
    obtain ⟨q, hq⟩ : ∃ q, 200 - j = q + 1 := ⟨200 - (j + 1), by omega⟩
    have hq' : q = 200 - (j + 1) := by omega
    rw [hq, dropdRun_succ] at hrun
    rw [h1]
    simp only [cond_true, hcd, cond_false]
    have hw2 : ∀ n ∈ 0 :: 3 :: wr, n ∈ 0 :: 3 :: H.wr := by
      intro n hn
      simp only [List.mem_cons] at hn ⊢
      rcases hn with h | h | h
      · exact .inl h
      · exact .inr (.inl h)
      · simpa using hwr n h
    cases hst : (dropStep ⟨c1, c2, c3, c4, c5, c6, c7⟩ who a' m').1 with
    | true =>
      rw [hst] at hrun
      simp only [cond_true] at hrun ⊢
      subst hrun
      exact ⟨0 :: 3 :: H.wr, hw2, h⟩
    | false =>
      rw [hst] at hrun
      simp only [cond_false] at hrun ⊢
      refine ⟨200 - (j + 1), by omega, j + 1, _, _, hlt, rfl, ?_, rfl, hw2, by rw [← hq']; exact hrun⟩
      have hi : IntKind.i64.wrap ((j : Int) + 1) = ((j + 1 : Nat) : Int) := by rw [IntKind.wrap_i64]; omega
      rw [hi]
  · have h1 : decide ((j : Int) < 200) = false := by simp; omega
    rw [h1]
    simp only [cond_false]
    have hz : 200 - j = 0 := by omega
    rw [hz, dropdRun_zero] at hrun
    subst hrun
    exact ⟨0 :: 3 :: H.wr, hwr, h⟩

theorem dropdLo : LoOK Tryz.prog (tmpsF Tryz.prog dropdF) (fun _ => some lh_dropd) (loopsF Tryz.prog dropdF) := by
  have h : loopsF Tryz.prog dropdF = [loopF Tryz.prog dropdF 0] := by kernel_rfl
  rw [h]
  intro c hc hd he
  have hc : c = loopF Tryz.prog dropdF 0 := by simpa using hc
  subst hc
  cases he
  exact lh_dropd_ok

theorem dropd_ev (c : PCfg) (who : Int) (m : PMem) (a : Int) (b : Bool) (K : PDone → PMem → Prop) :
    evL Tryz.prog ownK6 (fun _ => some lh_dropd) 10 20 dropdF [envV c 0 who, .c (.int .u64 a), .c (.bool b)] ⟨cat [(false, .mem m)] 0, []⟩ (fun v H₁ => match v with
      | .agg [.int .i64 e, .int .u64 h, .int .i64 v, .int .i64 st] => shF H₁ 0 fun o c2 => match o with
        | .mem m' => match chkAll [(false, .mem m)] [c2] [] with
          | true => K ⟨e, h, v, st⟩ m'
          | false => False
        | _ => False
      | _ => False) =
    (bif decide (c.words = 0) then False else K ⟨(dropdRun c who 200 ⟨a, b, 0, 0, 0, 0, 0, none, none, ⟨0, 0, 0, 0⟩⟩ m).1.out.e, (dropdRun c who 200 ⟨a, b, 0, 0, 0, 0, 0, none, none, ⟨0, 0, 0, 0⟩⟩ m).1.out.h, (dropdRun c who 200 ⟨a, b, 0, 0, 0, 0, 0, none, none, ⟨0, 0, 0, 0⟩⟩ m).1.out.v, (dropdRun c who 200 ⟨a, b, 0, 0, 0, 0, 0, none, none, ⟨0, 0, 0, 0⟩⟩ m).1.out.st⟩ (dropdRun c who 200 ⟨a, b, 0, 0, 0, 0, 0, none, none, ⟨0, 0, 0, 0⟩⟩ m).2) := by kernel_rfl

def h_dropd : Hd := fun args H K => match args with
  | [.agg [.int .i64 c1, .int .i64 c2, .int .i64 c3, .int .i64 c4, .int .i64 c5, .int .i64 c6, .int .i64 c7, .ptr m 0, .int .i64 who], .c (.int .u64 a), .c (.bool b)] =>
    match H.get m with
    | some (.obj (.mem pm)) => (match decide (c4 = 0) with | true => False | false => K (.agg [cI (dropdM ⟨c1, c2, c3, c4, c5, c6, c7⟩ who pm a b).1.e, cU (dropdM ⟨c1, c2, c3, c4, c5, c6, c7⟩ who pm a b).1.h, cI (dropdM ⟨c1, c2, c3, c4, c5, c6, c7⟩ who pm a b).1.v, cI (dropdM ⟨c1, c2, c3, c4, c5, c6, c7⟩ who pm a b).1.st]) (H.put m (.obj (.mem (dropdM ⟨c1, c2, c3, c4, c5, c6, c7⟩ who pm a b).2))))
    | _ => False
  | _ => False

theorem h_dropd_ok : HOK dropdF h_dropd := by
  intro args H K h
  unfold h_dropd at h
  split at h
  case h_2 => exact h.elim
  rename_i c1 c2 c3 c4 c5 c6 c7 m who a b
  split at h
  case h_2 => exact h.elim
  rename_i pm hm
  split at h
  · exact h.elim
  rename_i hc
  have e := (dropd_ev ⟨c1, c2, c3, c4, c5, c6, c7⟩ who pm a b (fun d m' => K (.agg [cI d.e, cU d.h, cI d.v, cI d.st]) (H.put m (.obj (.mem m'))))).mpr (by
    unfold dropdM at h
    simp only [hc, cond_false]
    exact h)
  refine objs_of (ns := [m]) (xs := [(false, .mem pm)]) rfl ?_ (by simp) ?_ (evL_ok fnOK mixed ownK6_ok dropdLo e) ?_
  · intro i n x' hi hx
    match i, hi, hx with
    | 0, hi, hx => simp at hi hx; subst hi; subst hx; exact get_obj hm
    | i + 1, hi, hx => simp at hi
  · intro s s₁ vs hh hr
    match vs, hr with
    | u :: vs, ⟨h1, h2⟩ =>
      have e0 := hh 0 m rfl
      simp only [base, Nat.zero_add] at e0
      exact ⟨rel_env (c := ⟨c1, c2, c3, c4, c5, c6, c7⟩) e0 h1, RelVs.low rfl h2⟩
  · intro v₁ H₁ hk
    split at hk
    · rename_i e1 h1 v1 st1
      obtain ⟨o, c2, hk, hc2⟩ := shF_ok hk
      split at hk
      · rename_i pm'
        split at hk
        · rename_i hchk
          exact ⟨[c2], [(false, .mem pm')], [], [], .agg [.int .i64 e1, .int .u64 h1, .int .i64 v1, .int .i64 st1], hchk, ⟨hc2, trivial⟩, trivial, fun _ _ _ _ _ h => RelV.low rfl h, hk⟩
        · exact hk.elim
      · exact hk.elim
    · exact hk.elim

end Go.Proofs.YtfjnkneoddankaaGreat

namespace Go.FL

/-- So many steps at most. -/
def accdRun (c : PCfg) (who : Int) : Nat → PAccess → PMem → PAccess × PMem
  | 0, a, m => (a, m)
  | n + 1, a, m => match (accessStep c who a m).1 with
    | true => ((accessStep c who a m).2.1, (accessStep c who a m).2.2)
    | false => accdRun c who n (accessStep c who a m).2.1 (accessStep c who a m).2.2

theorem accdRun_zero (c : PCfg) (who : Int) (a : PAccess) (m : PMem) : accdRun c who 0 a m = (a, m) := rfl

theorem accdRun_succ (c : PCfg) (who : Int) (n : Nat) (a : PAccess) (m : PMem) : accdRun c who (n + 1) a m = (match (accessStep c who a m).1 with
    | true => ((accessStep c who a m).2.1, (accessStep c who a m).2.2)
    | false => accdRun c who n (accessStep c who a m).2.1 (accessStep c who a m).2.2) := rfl

attribute [irreducible] accdRun

def accdM (c : PCfg) (who : Int) (pm : PMem) (x1 x2 x3 x4 x5 : Int) (b : Bool) : PDone × PMem := ((accdRun c who 200 ⟨⟨x1, x2, x3, x4, x5⟩, b, 0, 0, 0, 0, 0, 0, 0, 0, none, ⟨0, 0, 0, 0⟩⟩ pm).1.out, (accdRun c who 200 ⟨⟨x1, x2, x3, x4, x5⟩, b, 0, 0, 0, 0, 0, 0, 0, 0, none, ⟨0, 0, 0, 0⟩⟩ pm).2)

end Go.FL

namespace Go.Proofs.YtfjnkneoddankaaGreat
open Go Go.FL Go.Proofs
variable [Go.FL.Fz]

abbrev accdF : FuncId := 30

abbrev accdT (i : Int) : Tm := [(3, .c (.ptr 1 0)), (6, .c (.ptr 3 0)), (7, .c (.ptr 4 0)), (8, .c (cI i))]

abbrev accdH (c : PCfg) (who : Int) (bw bx : LB) (a : PAccess) (m : PMem) : List LB := [.obj (.mem m), .cells 27 [cI c.threads, cI c.slots, cI c.chunks, cI c.words, cI c.gens, cI c.sparse, cI c.tries, .ptr 0 0, cI who], bw, bx, .obj (.access a)]

theorem accdBody_ev (c : PCfg) (who : Int) (bw bx : LB) (a : PAccess) (m : PMem) (wr : List Nat) (i : Int) (k : X → Tm → LH → Prop) :
    evC Tryz.prog (evF Tryz.prog ownK6 10 20) (tmpsF Tryz.prog accdF) noLo 10 (loopF Tryz.prog accdF 0) (accdT i) ⟨accdH c who bw bx a m, wr⟩ (fun x T H => k x (Tm.norm [3, 6, 7, 8] T) H) =
    (bif decide (i < 200) then 
      bif (accessStep c who a m).1 then k (.exit 0) (accdT i) ⟨accdH c who bw bx (accessStep c who a m).2.1 (accessStep c who a m).2.2, 0 :: 4 :: wr⟩
      else k .normal (accdT (IntKind.wrap .i64 (i + 1))) ⟨accdH c who bw bx (accessStep c who a m).2.1 (accessStep c who a m).2.2, 0 :: 4 :: wr⟩
    else k (.exit 0) (accdT i) ⟨accdH c who bw bx a m, wr⟩) := by kernel_rfl

def lh_accd : LHd := fun T H K => match Tm.norm [3, 6, 7, 8] T with
  | [(3, .c (.ptr 1 0)), (6, .c (.ptr 3 0)), (7, .c (.ptr 4 0)), (8, .c (.int .i64 i))] => match H.bl with
    | [.obj (.mem m), .cells t [.int .i64 c1, .int .i64 c2, .int .i64 c3, .int .i64 c4, .int .i64 c5, .int .i64 c6, .int .i64 c7, .ptr 0 0, .int .i64 who], bw, bx, .obj (.access a)] =>
      match Nat.beq t 27 && decide (i = 0) with
      | false => False
      | true => ( K (.exit 0) [(3, .c (.ptr 1 0)), (6, .c (.ptr 3 0)), (7, .c (.ptr 4 0))] ⟨accdH ⟨c1, c2, c3, c4, c5, c6, c7⟩ who bw bx (accdRun ⟨c1, c2, c3, c4, c5, c6, c7⟩ who 200 a m).1 (accdRun ⟨c1, c2, c3, c4, c5, c6, c7⟩ who 200 a m).2, 0 :: 4 :: H.wr⟩)
    | _ => False
  | _ => False

theorem lh_accd_ok : BodyOK Tryz.prog (tmpsF Tryz.prog accdF) (.loop (loopF Tryz.prog accdF 0)) lh_accd := by
  refine loopN_ok (evC_ok fnOK mixed (evF_ok fnOK mixed ownK6_ok 10 20) _ (lo := noLo) 10 _ LoOK.no) ?_
  intro T H K h
  unfold lh_accd at h
  split at h
  case h_2 => exact h.elim
  rename_i x i hT
  split at h
  case h_2 => exact h.elim
  rename_i x' m t c1 c2 c3 c4 c5 c6 c7 who bw bx a hH
  split at h
  · exact h.elim
  rename_i hti
  simp only [Bool.and_eq_true] at hti
  have ht := Nat.eq_of_beq_eq_true hti.1
  have hi : i = 0 := of_decide_eq_true hti.2
  subst ht
  subst hi
  generalize hr : accdRun ⟨c1, c2, c3, c4, c5, c6, c7⟩ who 200 a m = r at h
  refine ⟨[3, 6, 7, 8], [3, 6, 7], fun n T' H' => ∃ (j : Nat) (a' : PAccess) (m' : PMem), j ≤ 200 ∧ n = 200 - j ∧ T' = accdT (j : Int) ∧ H'.bl = accdH ⟨c1, c2, c3, c4, c5, c6, c7⟩ who bw bx a' m' ∧ (∀ n ∈ H'.wr, n ∈ 0 :: 4 :: H.wr) ∧
    accdRun ⟨c1, c2, c3, c4, c5, c6, c7⟩ who (200 - j) a' m' = r, ⟨200, 0, a, m, by omega, rfl, hT, hH, fun n hn => by simp [hn], hr⟩, ?_⟩
  rintro n T' ⟨bl, wr⟩ ⟨j, a', m', hj, rfl, rfl, hbl, hwr, hrun⟩
  simp only at hbl hwr
  subst hbl
  rw [accdBody_ev]
  by_cases hlt : j < 200
  · have h1 : decide ((j : Int) < 200) = true := by simp; omega
    obtain ⟨q, hq⟩ : ∃ q, 200 - j = q + 1 := ⟨200 - (j + 1), by omega⟩
    have hq' : q = 200 - (j + 1) := by omega
    rw [hq, accdRun_succ] at hrun
    rw [h1]
    simp only [cond_true]
    have hw2 : ∀ n ∈ 0 :: 4 :: wr, n ∈ 0 :: 4 :: H.wr := by
      intro n hn
      simp only [List.mem_cons] at hn ⊢
      rcases hn with h | h | h
      · exact .inl h
      · exact .inr (.inl h)
      · simpa using hwr n h
    cases hst : (accessStep ⟨c1, c2, c3, c4, c5, c6, c7⟩ who a' m').1 with
    | true =>
      rw [hst] at hrun
      simp only [cond_true] at hrun ⊢
      subst hrun
      exact ⟨0 :: 4 :: H.wr, hw2, h⟩
    | false =>
      rw [hst] at hrun
      simp only [cond_false] at hrun ⊢
      refine ⟨200 - (j + 1), by omega, j + 1, _, _, hlt, rfl, ?_, rfl, hw2, by rw [← hq']; exact hrun⟩
      have hi : IntKind.i64.wrap ((j : Int) + 1) = ((j + 1 : Nat) : Int) := by rw [IntKind.wrap_i64]; omega
      rw [hi]
  · have h1 : decide ((j : Int) < 200) = false := by simp; omega
    rw [h1]
    simp only [cond_false]
    have hz : 200 - j = 0 := by omega
    rw [hz, accdRun_zero] at hrun
    subst hrun
    exact ⟨0 :: 4 :: H.wr, hwr, h⟩

theorem accdLo : LoOK Tryz.prog (tmpsF Tryz.prog accdF) (fun _ => some lh_accd) (loopsF Tryz.prog accdF) := by
  have h : loopsF Tryz.prog accdF = [loopF Tryz.prog accdF 0] := by kernel_rfl
  rw [h]
  intro c hc hd he
  have hc : c = loopF Tryz.prog accdF 0 := by simpa using hc
  subst hc
  cases he
  exact lh_accd_ok

theorem accd_ev (c : PCfg) (who : Int) (m : PMem) (x1 x2 x3 x4 x5 : Int) (b : Bool) (K : PDone → PMem → Prop) :
    evL Tryz.prog ownK6 (fun _ => some lh_accd) 10 20 accdF [envV c 0 who, .agg [.int .i64 x1, .int .u64 x2, .int .i64 x3, .int .i64 x4, .int .i64 x5], .c (.bool b)] ⟨cat [(false, .mem m)] 0, []⟩ (fun v H₁ => match v with
      | .agg [.int .i64 e, .int .u64 h, .int .i64 v, .int .i64 st] => shF H₁ 0 fun o c2 => match o with
        | .mem m' => match chkAll [(false, .mem m)] [c2] [] with
          | true => K ⟨e, h, v, st⟩ m'
          | false => False
        | _ => False
      | _ => False) =
    ( K ⟨(accdRun c who 200 ⟨⟨x1, x2, x3, x4, x5⟩, b, 0, 0, 0, 0, 0, 0, 0, 0, none, ⟨0, 0, 0, 0⟩⟩ m).1.out.e, (accdRun c who 200 ⟨⟨x1, x2, x3, x4, x5⟩, b, 0, 0, 0, 0, 0, 0, 0, 0, none, ⟨0, 0, 0, 0⟩⟩ m).1.out.h, (accdRun c who 200 ⟨⟨x1, x2, x3, x4, x5⟩, b, 0, 0, 0, 0, 0, 0, 0, 0, none, ⟨0, 0, 0, 0⟩⟩ m).1.out.v, (accdRun c who 200 ⟨⟨x1, x2, x3, x4, x5⟩, b, 0, 0, 0, 0, 0, 0, 0, 0, none, ⟨0, 0, 0, 0⟩⟩ m).1.out.st⟩ (accdRun c who 200 ⟨⟨x1, x2, x3, x4, x5⟩, b, 0, 0, 0, 0, 0, 0, 0, 0, none, ⟨0, 0, 0, 0⟩⟩ m).2) := by kernel_rfl

def h_accd : Hd := fun args H K => match args with
  | [.agg [.int .i64 c1, .int .i64 c2, .int .i64 c3, .int .i64 c4, .int .i64 c5, .int .i64 c6, .int .i64 c7, .ptr m 0, .int .i64 who], .agg [.int .i64 x1, .int .u64 x2, .int .i64 x3, .int .i64 x4, .int .i64 x5], .c (.bool b)] =>
    match H.get m with
    | some (.obj (.mem pm)) => ( K (.agg [cI (accdM ⟨c1, c2, c3, c4, c5, c6, c7⟩ who pm x1 x2 x3 x4 x5 b).1.e, cU (accdM ⟨c1, c2, c3, c4, c5, c6, c7⟩ who pm x1 x2 x3 x4 x5 b).1.h, cI (accdM ⟨c1, c2, c3, c4, c5, c6, c7⟩ who pm x1 x2 x3 x4 x5 b).1.v, cI (accdM ⟨c1, c2, c3, c4, c5, c6, c7⟩ who pm x1 x2 x3 x4 x5 b).1.st]) (H.put m (.obj (.mem (accdM ⟨c1, c2, c3, c4, c5, c6, c7⟩ who pm x1 x2 x3 x4 x5 b).2))))
    | _ => False
  | _ => False

theorem h_accd_ok : HOK accdF h_accd := by
  intro args H K h
  unfold h_accd at h
  split at h
  case h_2 => exact h.elim
  rename_i c1 c2 c3 c4 c5 c6 c7 m who x1 x2 x3 x4 x5 b
  split at h
  case h_2 => exact h.elim
  rename_i pm hm
  have e := (accd_ev ⟨c1, c2, c3, c4, c5, c6, c7⟩ who pm x1 x2 x3 x4 x5 b (fun d m' => K (.agg [cI d.e, cU d.h, cI d.v, cI d.st]) (H.put m (.obj (.mem m'))))).mpr (by
    unfold accdM at h
    skip
    exact h)
  refine objs_of (ns := [m]) (xs := [(false, .mem pm)]) rfl ?_ (by simp) ?_ (evL_ok fnOK mixed ownK6_ok accdLo e) ?_
  · intro i n x' hi hx
    match i, hi, hx with
    | 0, hi, hx => simp at hi hx; subst hi; subst hx; exact get_obj hm
    | i + 1, hi, hx => simp at hi
  · intro s s₁ vs hh hr
    match vs, hr with
    | u :: vs, ⟨h1, h2⟩ =>
      have e0 := hh 0 m rfl
      simp only [base, Nat.zero_add] at e0
      exact ⟨rel_env (c := ⟨c1, c2, c3, c4, c5, c6, c7⟩) e0 h1, RelVs.low rfl h2⟩
  · intro v₁ H₁ hk
    split at hk
    · rename_i e1 h1 v1 st1
      obtain ⟨o, c2, hk, hc2⟩ := shF_ok hk
      split at hk
      · rename_i pm'
        split at hk
        · rename_i hchk
          exact ⟨[c2], [(false, .mem pm')], [], [], .agg [.int .i64 e1, .int .u64 h1, .int .i64 v1, .int .i64 st1], hchk, ⟨hc2, trivial⟩, trivial, fun _ _ _ _ _ h => RelV.low rfl h, hk⟩
        · exact hk.elim
      · exact hk.elim
    · exact hk.elim

end Go.Proofs.YtfjnkneoddankaaGreat

namespace Go.Proofs.YtfjnkneoddankaaGreat
open Go Go.FL Go.Proofs
variable [Go.FL.Fz]

def tabK7 : List (FuncId × Hd) := [(makeF, h_make), (dropdF, h_dropd), (accdF, h_accd)] ++ tabK6
def ownK7 : FuncId → Option Hd := look tabK7
theorem allK7 : AllOK tabK7 := ⟨h_make_ok, h_dropd_ok, h_accd_ok, allK6⟩
theorem ownK7_ok : OwnOK Tryz.prog ownK7 := look_ok allK7

end Go.Proofs.YtfjnkneoddankaaGreat

/-
  Memory is made.
-/
set_option linter.unusedVariables false
set_option linter.unusedSimpArgs false
set_option maxRecDepth 100000
set_option linter.unusedSectionVars false
namespace Go.FL

def PMem.store (m : PMem) (a b : Int) : Int × PMem :=
  if a < 0 then (2, m) else if (m.n : Int) ≤ a then (2, m) else (0, m.lay m.who a b)

def mStoreT (m : PMem) (a b : Int) (bot : Prop) (K : Int → PMem → Prop) : Prop :=
  bif decide (a < 0) then
   (m.n = m.n ∧ m.n = m.n ∧ m.n = m.n ∧ m.n = m.n ∧ m.n = m.n) ∧
   K 2 ⟨(m.n), (m.w), (m.t), (m.steps), (m.who), (m.la), (m.lw), (m.lc)⟩
  else
   bif decide (↑m.n ≤ a) then
    (m.n = m.n ∧ m.n = m.n ∧ m.n = m.n ∧ m.n = m.n ∧ m.n = m.n) ∧
    K 2 ⟨(m.n), (m.w), (m.t), (m.steps), (m.who), (m.la), (m.lw), (m.lc)⟩
   else
    bif decide (0 ≤ a ∧ a < ↑m.n) then
     (Int.toNat a < m.n) ∧
     bif !decide (m.w (Int.toNat a) = b) then
      bif decide (0 ≤ a ∧ a < ↑m.n) then
       (Int.toNat a < m.n) ∧
       bif decide (0 ≤ a ∧ a < ↑m.n) then
        (Int.toNat a < m.n) ∧
        (m.n = m.n ∧ m.n = m.n ∧ m.n = m.n ∧ m.n = m.n ∧ m.n = m.n) ∧
        K 0 ⟨(m.n), (fun j => bif Nat.beq j (Int.toNat a) then b else m.w j), (fun j => bif Nat.beq j (Int.toNat a) then IntKind.wrap IntKind.i64 (m.steps + 1) else m.t j), (IntKind.wrap IntKind.i64 (m.steps + 1)), (m.who), (a), (m.who), (!decide (m.w (Int.toNat a) = b))⟩
       else
        bot
      else
       bot
     else
      bif decide (0 ≤ a ∧ a < ↑m.n) then
       (Int.toNat a < m.n) ∧
       (m.n = m.n ∧ m.n = m.n ∧ m.n = m.n ∧ m.n = m.n ∧ m.n = m.n) ∧
       K 0 ⟨(m.n), (fun j => bif Nat.beq j (Int.toNat a) then b else m.w j), (m.t), (IntKind.wrap IntKind.i64 (m.steps + 1)), (m.who), (a), (m.who), (!decide (m.w (Int.toNat a) = b))⟩
      else
       bot
    else
     bot

theorem mStoreT_of (m : PMem) (a b : Int) {K : Int → PMem → Prop} (h : K (m.store a b).1 (m.store a b).2) : mStoreT m a b False K := by
  unfold mStoreT
  by_cases h1 : a < 0
  · simp [PMem.store, h1] at h ⊢
    exact h
  · by_cases h2 : (m.n : Int) ≤ a
    · simp [PMem.store, h1, h2] at h ⊢
      exact h
    · have h3 : 0 ≤ a ∧ a < (m.n : Int) := by omega
      have h4 : a.toNat < m.n := by omega
      by_cases h5 : m.w a.toNat = b
      · simp [PMem.store, PMem.lay, upd, h1, h2, h3, h4, h5] at h ⊢
        exact h
      · simp [PMem.store, PMem.lay, upd, h1, h2, h3, h4, h5] at h ⊢
        exact h

def lCheckK (c1 c2 c3 c4 c5 c6 c7 : Int) (K : Bool → Prop) : Prop :=
  bif decide (1 ≤ c1) then
   bif decide (c1 ≤ 8) then
    bif decide (1 ≤ c2) then
     bif decide (1 ≤ c3) then
      bif decide (c3 ≤ 64) then
       bif decide (17 ≤ c4) then
        bif decide (1 ≤ c5) then
         bif decide (c5 ≤ 65535) then
          bif decide (0 ≤ c6) then
           bif decide (c6 ≤ 1000) then
            bif decide (1 ≤ c7) then
             bif decide (c2 ≤ 65536) then
              bif decide (c4 ≤ 256) then
               K (decide (c7 ≤ 16))
              else
               K false
             else
              K false
            else
             bif decide (c2 ≤ 65536) then
              bif decide (c4 ≤ 256) then
               K false
              else
               K false
             else
              K false
           else
            bif decide (c2 ≤ 65536) then
             bif decide (c4 ≤ 256) then
              K false
             else
              K false
            else
             K false
          else
           bif decide (c2 ≤ 65536) then
            bif decide (c4 ≤ 256) then
             K false
            else
             K false
           else
            K false
         else
          bif decide (c2 ≤ 65536) then
           bif decide (c4 ≤ 256) then
            K false
           else
            K false
          else
           K false
        else
         bif decide (c2 ≤ 65536) then
          bif decide (c4 ≤ 256) then
           K false
          else
           K false
         else
          K false
       else
        bif decide (1 ≤ c5) then
         bif decide (c5 ≤ 65535) then
          bif decide (0 ≤ c6) then
           bif decide (c6 ≤ 1000) then
            bif decide (1 ≤ c7) then
             bif decide (c2 ≤ 65536) then
              K false
             else
              K false
            else
             bif decide (c2 ≤ 65536) then
              K false
             else
              K false
           else
            bif decide (c2 ≤ 65536) then
             K false
            else
             K false
          else
           bif decide (c2 ≤ 65536) then
            K false
           else
            K false
         else
          bif decide (c2 ≤ 65536) then
           K false
          else
           K false
        else
         bif decide (c2 ≤ 65536) then
          K false
         else
          K false
      else
       bif decide (1 ≤ c5) then
        bif decide (c5 ≤ 65535) then
         bif decide (0 ≤ c6) then
          bif decide (c6 ≤ 1000) then
           bif decide (1 ≤ c7) then
            bif decide (c2 ≤ 65536) then
             K false
            else
             K false
           else
            bif decide (c2 ≤ 65536) then
             K false
            else
             K false
          else
           bif decide (c2 ≤ 65536) then
            K false
           else
            K false
         else
          bif decide (c2 ≤ 65536) then
           K false
          else
           K false
        else
         bif decide (c2 ≤ 65536) then
          K false
         else
          K false
       else
        bif decide (c2 ≤ 65536) then
         K false
        else
         K false
     else
      bif decide (1 ≤ c5) then
       bif decide (c5 ≤ 65535) then
        bif decide (0 ≤ c6) then
         bif decide (c6 ≤ 1000) then
          bif decide (1 ≤ c7) then
           bif decide (c2 ≤ 65536) then
            K false
           else
            K false
          else
           bif decide (c2 ≤ 65536) then
            K false
           else
            K false
         else
          bif decide (c2 ≤ 65536) then
           K false
          else
           K false
        else
         bif decide (c2 ≤ 65536) then
          K false
         else
          K false
       else
        bif decide (c2 ≤ 65536) then
         K false
        else
         K false
      else
       bif decide (c2 ≤ 65536) then
        K false
       else
        K false
    else
     bif decide (1 ≤ c3) then
      bif decide (c3 ≤ 64) then
       bif decide (17 ≤ c4) then
        bif decide (1 ≤ c5) then
         bif decide (c5 ≤ 65535) then
          bif decide (0 ≤ c6) then
           bif decide (c6 ≤ 1000) then
            bif decide (1 ≤ c7) then
             K false
            else
             K false
           else
            K false
          else
           K false
         else
          K false
        else
         K false
       else
        bif decide (1 ≤ c5) then
         bif decide (c5 ≤ 65535) then
          bif decide (0 ≤ c6) then
           bif decide (c6 ≤ 1000) then
            bif decide (1 ≤ c7) then
             K false
            else
             K false
           else
            K false
          else
           K false
         else
          K false
        else
         K false
      else
       bif decide (1 ≤ c5) then
        bif decide (c5 ≤ 65535) then
         bif decide (0 ≤ c6) then
          bif decide (c6 ≤ 1000) then
           bif decide (1 ≤ c7) then
            K false
           else
            K false
          else
           K false
         else
          K false
        else
         K false
       else
        K false
     else
      bif decide (1 ≤ c5) then
       bif decide (c5 ≤ 65535) then
        bif decide (0 ≤ c6) then
         bif decide (c6 ≤ 1000) then
          bif decide (1 ≤ c7) then
           K false
          else
           K false
         else
          K false
        else
         K false
       else
        K false
      else
       K false
   else
    bif decide (1 ≤ c3) then
     bif decide (c3 ≤ 64) then
      bif decide (17 ≤ c4) then
       bif decide (1 ≤ c5) then
        bif decide (c5 ≤ 65535) then
         bif decide (0 ≤ c6) then
          bif decide (c6 ≤ 1000) then
           bif decide (1 ≤ c7) then
            K false
           else
            K false
          else
           K false
         else
          K false
        else
         K false
       else
        K false
      else
       bif decide (1 ≤ c5) then
        bif decide (c5 ≤ 65535) then
         bif decide (0 ≤ c6) then
          bif decide (c6 ≤ 1000) then
           bif decide (1 ≤ c7) then
            K false
           else
            K false
          else
           K false
         else
          K false
        else
         K false
       else
        K false
     else
      bif decide (1 ≤ c5) then
       bif decide (c5 ≤ 65535) then
        bif decide (0 ≤ c6) then
         bif decide (c6 ≤ 1000) then
          bif decide (1 ≤ c7) then
           K false
          else
           K false
         else
          K false
        else
         K false
       else
        K false
      else
       K false
    else
     bif decide (1 ≤ c5) then
      bif decide (c5 ≤ 65535) then
       bif decide (0 ≤ c6) then
        bif decide (c6 ≤ 1000) then
         bif decide (1 ≤ c7) then
          K false
         else
          K false
        else
         K false
       else
        K false
      else
       K false
     else
      K false
  else
   bif decide (1 ≤ c3) then
    bif decide (c3 ≤ 64) then
     bif decide (17 ≤ c4) then
      bif decide (1 ≤ c5) then
       bif decide (c5 ≤ 65535) then
        bif decide (0 ≤ c6) then
         bif decide (c6 ≤ 1000) then
          bif decide (1 ≤ c7) then
           K false
          else
           K false
         else
          K false
        else
         K false
       else
        K false
      else
       K false
     else
      bif decide (1 ≤ c5) then
       bif decide (c5 ≤ 65535) then
        bif decide (0 ≤ c6) then
         bif decide (c6 ≤ 1000) then
          bif decide (1 ≤ c7) then
           K false
          else
           K false
         else
          K false
        else
         K false
       else
        K false
      else
       K false
    else
     bif decide (1 ≤ c5) then
      bif decide (c5 ≤ 65535) then
       bif decide (0 ≤ c6) then
        bif decide (c6 ≤ 1000) then
         bif decide (1 ≤ c7) then
          K false
         else
          K false
        else
         K false
       else
        K false
      else
       K false
     else
      K false
   else
    bif decide (1 ≤ c5) then
     bif decide (c5 ≤ 65535) then
      bif decide (0 ≤ c6) then
       bif decide (c6 ≤ 1000) then
        bif decide (1 ≤ c7) then
         K false
        else
         K false
       else
        K false
      else
       K false
     else
      K false
    else
     K false

/-- Which arenas may be. -/
def lCheck (c1 c2 c3 c4 c5 c6 c7 : Int) : Bool := decide (1 ≤ c1) && (decide (c1 ≤ 8) && (decide (1 ≤ c2) && (decide (1 ≤ c3) && (decide (c3 ≤ 64) && (decide (17 ≤ c4) && (decide (1 ≤ c5) && (decide (c5 ≤ 65535) && (decide (0 ≤ c6) && (decide (c6 ≤ 1000) &&
  (decide (1 ≤ c7) && (decide (c2 ≤ 65536) && (decide (c4 ≤ 256) && decide (c7 ≤ 16)))))))))))))

theorem cond_and {K : Bool → Prop} {b x : Bool} : (bif b then K x else K false) = K (b && x) := by cases b <;> rfl

theorem cond_same {p : Prop} {b : Bool} : (bif b then p else p) = p := by cases b <;> rfl

theorem lCheckK_eq (c1 c2 c3 c4 c5 c6 c7 : Int) (K : Bool → Prop) : lCheckK c1 c2 c3 c4 c5 c6 c7 K = K (lCheck c1 c2 c3 c4 c5 c6 c7) := by
  unfold lCheckK lCheck
  simp only [cond_same, cond_and]

def newMem (n : Int) : PMem := ⟨n.toNat, fun _ => 0, fun _ => 0, 0, 0, 0, 0, false⟩

end Go.FL

namespace Go.Proofs.YtfjnkneoddankaaGreat
open Go Go.FL Go.Proofs
variable [Go.FL.Fz]

theorem lCheck_ev (c1 c2 c3 c4 c5 c6 c7 : Int) (K : Bool → Prop) : evF Tryz.prog ownK7 10 20 67 [.agg [.int .i64 c1, .int .i64 c2, .int .i64 c3, .int .i64 c4, .int .i64 c5, .int .i64 c6, .int .i64 c7]] ⟨[], []⟩ (fun v _ => match v with
    | .c (.bool x) => K x
    | _ => False) = lCheckK c1 c2 c3 c4 c5 c6 c7 K := by kernel_rfl

def h_lCheck : Hd := fun args H K => match args with
  | [.agg [.int .i64 c1, .int .i64 c2, .int .i64 c3, .int .i64 c4, .int .i64 c5, .int .i64 c6, .int .i64 c7]] => K (.c (.bool (lCheck c1 c2 c3 c4 c5 c6 c7))) H
  | _ => False

theorem h_lCheck_ok : HOK 67 h_lCheck := by
  intro args H K h
  unfold h_lCheck at h
  split at h
  · rename_i c1 c2 c3 c4 c5 c6 c7
    have e := lCheck_ev c1 c2 c3 c4 c5 c6 c7 (fun x => K (.c (.bool x)) H)
    rw [lCheckK_eq] at e
    have e := e.mpr h
    refine pure_ok (fuel := 10) (d := 20) ownK7_ok rfl e ?_
    intro v H₁ hv
    split at hv
    · exact ⟨rfl, hv⟩
    · exact hv.elim
  · exact h.elim

theorem mStore_ev (m : PMem) (a b : Int) (K : Int → PMem → Prop) : evF Tryz.prog ownK7 10 20 33 [.c (.ptr 0 0), .c (.int .i64 a), .c (.int .u64 b)] ⟨cat [(true, .mem m)] 0, []⟩ (fun v H => match v with
    | .c (.int .i64 e) => (shMem H 0 fun m' c' => match chkAll [(true, .mem m)] [c'] [] with | true => K e m' | false => False)
    | _ => False) = mStoreT m a b False K := by kernel_rfl

def h_mStore : Hd := fun args H K => match args with
  | [.c (.ptr m 0), .c (.int .i64 a), .c (.int .u64 b)] => match H.get m with
    | some (.obj (.mem pm)) => K (.c (.int .i64 (pm.store a b).1)) (H.put m (.obj (.mem (pm.store a b).2)))
    | _ => False
  | _ => False

theorem h_mStore_ok : HOK 33 h_mStore := by
  intro args H K h
  unfold h_mStore at h
  split at h
  · rename_i m a b
    split at h
    · rename_i pm hm
      have e := (mStore_ev pm a b (fun e m' => K (.c (.int .i64 e)) (H.put m (.obj (.mem m'))))).mpr (mStoreT_of pm a b h)
      refine objs_ok ownK7_ok (ns := [m]) (xs := [(true, .mem pm)]) rfl (get_one hm) (by simp) ?_ e ?_
      · intro s s₁ vs hh hr
        have e0 := hh 0 m rfl
        simp only [base] at e0
        exact rel_args1 (rel_ptr e0) hr
      · intro v₁ H₁ hk
        split at hk
        · obtain ⟨m', c', hk, hc⟩ := shMem_ok hk
          split at hk
          · rename_i hchk
            exact ⟨[c'], [(true, .mem m')], [], [], _, hchk, ⟨hc, trivial⟩, trivial, fun _ _ _ _ _ h => RelV.low rfl h, hk⟩
          · exact hk.elim
        · exact hk.elim
    · exact h.elim
  · exact h.elim

theorem memNew_ev (n : Int) (K : Option PMem → Int → Prop) : evF Tryz.prog ownK7 10 20 68 [.c (.int .i64 n)] ⟨[], []⟩ (fun v H₁ => match v with
    | .tup [.c .nilp, .c (.int .i64 e)] => K none e
    | .tup [.c (.ptr i 0), .c (.int .i64 e)] => (shMem H₁ i fun x c => match chkAll [] [] [c] && headOK i c with
      | true => K (some x) e
      | false => False)
    | _ => False) = (bif decide (n < 1) then K none 1 else bif decide (1048576 < n) then K none 1 else
      (((IntKind.u64 = IntKind.u64 ∧ 1 = 1 ∧ 8 ≤ 8) ∧ n = n ∧ 0 ≤ n ∧ n ≤ 1048576) ∧ ((IntKind.i64 = IntKind.i64 ∧ 1 = 1 ∧ 8 ≤ 8) ∧ n = n ∧ 0 ≤ n ∧ n ≤ 1048576) ∧
        (n.toNat = n.toNat ∧ n.toNat = n.toNat ∧ n.toNat = n.toNat ∧ n.toNat = n.toNat ∧ n.toNat = n.toNat) ∧ K (some (newMem n)) 0) ∧
      (((IntKind.i64 = IntKind.i64 ∧ 1 = 1 ∧ 8 ≤ 8) ∧ n = n ∧ 0 ≤ n ∧ n ≤ 1048576) ∧ ((IntKind.u64 = IntKind.u64 ∧ 1 = 1 ∧ 8 ≤ 8) ∧ n = n ∧ 0 ≤ n ∧ n ≤ 1048576) ∧
        (n.toNat = n.toNat ∧ n.toNat = n.toNat ∧ n.toNat = n.toNat ∧ n.toNat = n.toNat ∧ n.toNat = n.toNat) ∧ K (some (newMem n)) 0)) := by kernel_rfl

def h_memNew : Hd := fun args H K => match args with
  | [.c (.int .i64 n)] => match decide (n < 1) || decide (1048576 < n) with
    | true => K (.tup [.c .nilp, .c (cI 1)]) H
    | false => K (.tup [.c (.ptr H.len 0), .c (cI 0)]) (H.new (.obj (.mem (newMem n))))
  | _ => False

/-- Something that makes an object, or says why not. -/
theorem new2_ok {own : FuncId → Option Hd} {b : Bool} {f : FuncId} {R : Type} {mk : R → Ob} {sh : LH → Nat → (R → List Nat → Prop) → Prop}
    (hsh : ∀ H n k, sh H n k → ∃ x c, k x c ∧ Clus H c (b, mk x)) {args : List LV} {H : LH} {K : LV → LH → Prop} (hlow : lowVs args = true)
    (hev : (∃ fn, Tryz.prog.funcs[f]? = some fn ∧ fn.body.isSome = true) ∧ CSpec Tryz.prog f args ⟨[], []⟩ (fun v H₁ => match v with
      | .tup [.c .nilp, .c (.int .i64 e)] => K (.tup [.c .nilp, .c (cI e)]) H
      | .tup [.c (.ptr i 0), .c (.int .i64 e)] => (sh H₁ i fun x c => match chkAll [] [] [c] && headOK i c with
        | true => K (.tup [.c (.ptr H.len 0), .c (cI e)]) (H.new (.obj (mk x)))
        | false => False)
      | _ => False)) :
    (∃ fn, Tryz.prog.funcs[f]? = some fn ∧ fn.body.isSome = true) ∧ CSpec Tryz.prog f args H K := by
  refine objs_of (ns := []) (xs := []) rfl (by simp) List.nodup_nil (fun s s₁ vs _ h => RelVs.low hlow h) hev ?_
  intro v₁ H₁ hk
  split at hk
  · rename_i e'
    exact ⟨[], [], [], [], .tup [.c .nilp, .c (cI e')], rfl, trivial, trivial, fun s₁ s' v' _ _ hr => RelV.low rfl hr, hk⟩
  · rename_i i e'
    obtain ⟨x, c, hk, hc⟩ := hsh _ _ _ hk
    split at hk
    · rename_i hchk
      simp only [Bool.and_eq_true] at hchk
      obtain ⟨h1, h2⟩ := hchk
      refine ⟨[], [], [c], [(b, mk x)], .tup [.c (.ptr H.len 0), .c (cI e')], h1, trivial, ⟨hc, trivial⟩, ?_, hk⟩
      intro s₁ s' v' _ hd' hr
      have h0 : c[0]? = some i := by
        unfold headOK at h2
        split at h2
        · have := Nat.eq_of_beq_eq_true h2; simp [this]
        · cases h2
      have := hd' 0 c i rfl h0
      simp only [Nat.add_zero] at this
      obtain ⟨vs, rfl, hr⟩ := hr
      refine ⟨vs, rfl, ?_⟩
      generalize vs.toList = us at hr ⊢
      match us, hr with
      | [u, v], ⟨h3, h4, _⟩ =>
        refine ⟨?_, h4, trivial⟩
        obtain ⟨r, h5, h6⟩ := h3
        exact ⟨r, by rw [this]; exact h5, h6⟩
    · exact hk.elim
  · exact hk.elim

theorem h_memNew_ok : HOK 68 h_memNew := by
  intro args H K h
  unfold h_memNew at h
  split at h
  · rename_i n
    refine new2_ok (own := ownK7) (mk := .mem) (fun _ _ _ => shMem_ok) rfl (evF_ok fnOK mixed ownK7_ok 10 20 _ _ _ _ ((memNew_ev n (fun o e => match o with
      | some x => K (.tup [.c (.ptr H.len 0), .c (cI e)]) (H.new (.obj (.mem x)))
      | none => K (.tup [.c .nilp, .c (cI e)]) H)).mpr ?_))
    by_cases h1 : n < 1
    · simp only [h1, decide_true, Bool.true_or, cond_true] at h ⊢
      exact h
    · by_cases h2 : 1048576 < n
      · simp only [h1, h2, decide_true, decide_false, Bool.or_true, cond_true, cond_false] at h ⊢
        exact h
      · simp only [h1, h2, decide_false, Bool.or_false, cond_false, true_and, and_self, Nat.le_refl] at h ⊢
        have h3 : 0 ≤ n := by omega
        have h4 : n ≤ 1048576 := by omega
        exact ⟨⟨h3, h4⟩, ⟨h3, h4⟩, h⟩
  · exact h.elim

def tab7 : List (FuncId × Hd) := (67, h_lCheck) :: (33, h_mStore) :: (68, h_memNew) :: tabK7

def own7 : FuncId → Option Hd := look tab7

theorem all7 : AllOK tab7 := ⟨h_lCheck_ok, h_mStore_ok, h_memNew_ok, allK7⟩

theorem own7_ok : OwnOK Tryz.prog own7 := look_ok all7

end Go.Proofs.YtfjnkneoddankaaGreat

/-
  An arena's memory at the beginning.
-/
set_option linter.unusedVariables false
set_option linter.unusedSimpArgs false
set_option maxRecDepth 100000
set_option linter.unusedSectionVars false
namespace Go.FL

def slotInit (c1 c2 c3 c4 c5 c6 c7 i : Int) (m : PMem) : PMem :=
  (PMem.store (PMem.store m (lSlot c1 c2 c3 c4 c5 c6 c7 i) (putSlot 0 0 1 0)).2 (IntKind.wrap IntKind.i64 (lSlot c1 c2 c3 c4 c5 c6 c7 i + 1)) (putTop (IntKind.wrap IntKind.i64 (i + 1)) 0)).2

/-- So many slots from that one on. -/
def freshRun (c1 c2 c3 c4 c5 c6 c7 : Int) : Nat → Int → PMem → PMem
  | 0, _, m => m
  | k + 1, i, m => freshRun c1 c2 c3 c4 c5 c6 c7 k (i + 1) (slotInit c1 c2 c3 c4 c5 c6 c7 i m)

theorem freshRun_zero (c1 c2 c3 c4 c5 c6 c7 i : Int) (m : PMem) : freshRun c1 c2 c3 c4 c5 c6 c7 0 i m = m := rfl

theorem freshRun_succ (c1 c2 c3 c4 c5 c6 c7 i : Int) (k : Nat) (m : PMem) : freshRun c1 c2 c3 c4 c5 c6 c7 (k + 1) i m = freshRun c1 c2 c3 c4 c5 c6 c7 k (i + 1) (slotInit c1 c2 c3 c4 c5 c6 c7 i m) := rfl

def freshEnd (c1 c2 c3 c4 c5 c6 c7 : Int) (m : PMem) : PMem :=
  (PMem.store (PMem.store m (IntKind.wrap IntKind.i64 (lSlot c1 c2 c3 c4 c5 c6 c7 (IntKind.wrap IntKind.i64 (c2 - 1)) + 1)) (putTop (-1) 0)).2 1 (putTop 0 0)).2

/-- An arena's memory at the beginning. -/
def freshM (c1 c2 c3 c4 c5 c6 c7 : Int) : PMem := freshEnd c1 c2 c3 c4 c5 c6 c7 (freshRun c1 c2 c3 c4 c5 c6 c7 c2.toNat 0 (newMem (lLen c1 c2 c3 c4 c5 c6 c7)))

attribute [irreducible] freshRun

def shMemF (H : LH) (n : Nat) (k : PMem → List Nat → Prop) : Prop := shF H n fun o c => match o with
  | .mem x => k x c
  | _ => False

theorem shMemF_ok [Fz] {H : LH} {n : Nat} {k : PMem → List Nat → Prop} (h : shMemF H n k) : ∃ x c, k x c ∧ Clus H c (false, .mem x) := by
  obtain ⟨o, c, hk, hc⟩ := shF_ok h
  split at hk
  · exact ⟨_, c, hk, hc⟩
  · exact hk.elim

end Go.FL

namespace Go.Proofs.YtfjnkneoddankaaGreat
open Go Go.FL Go.Proofs
variable [Go.FL.Fz]

abbrev frF : FuncId := 40

abbrev frT (c2 i : Int) : Tm := [(1, .c (.ptr 0 0)), (4, .c (.ptr 1 0)), (20, .c (cI c2)), (21, .c (cI i))]

abbrev frH (c1 c2 c3 c4 c5 c6 c7 : Int) (m : PMem) : List LB := [.cells 24 [.int .i64 c1, .int .i64 c2, .int .i64 c3, .int .i64 c4, .int .i64 c5, .int .i64 c6, .int .i64 c7], .obj (.mem m)]

theorem frBody_ev (c1 c2 c3 c4 c5 c6 c7 i : Int) (m : PMem) (wr : List Nat) (k : X → Tm → LH → Prop) :
    evC Tryz.prog (evF Tryz.prog own7 10 20) (tmpsF Tryz.prog frF) noLo 10 (loopF Tryz.prog frF 0) (frT c2 i) ⟨frH c1 c2 c3 c4 c5 c6 c7 m, wr⟩ (fun x T H => k x (Tm.norm [1, 4, 20, 21] T) H) =
    (bif decide (i < c2) then k .normal (frT c2 (IntKind.wrap .i64 (i + 1))) ⟨frH c1 c2 c3 c4 c5 c6 c7 (slotInit c1 c2 c3 c4 c5 c6 c7 i m), 1 :: 1 :: wr⟩
    else k (.exit 0) (frT c2 i) ⟨frH c1 c2 c3 c4 c5 c6 c7 m, wr⟩) := by kernel_rfl

def lhFr : LHd := fun T H K => match Tm.norm [1, 4, 20, 21] T with
  | [(1, .c (.ptr 0 0)), (4, .c (.ptr 1 0)), (20, .c (.int .i64 n)), (21, .c (.int .i64 i))] => match H.bl with
    | [.cells t [.int .i64 c1, .int .i64 c2, .int .i64 c3, .int .i64 c4, .int .i64 c5, .int .i64 c6, .int .i64 c7], .obj (.mem m)] =>
      match Nat.beq t 24 && decide (i = 0) with
      | false => False
      | true => match decide (n ≤ 65536) with
      | false => False
      | true => n = c2 ∧ K (.exit 0) [(1, .c (.ptr 0 0)), (4, .c (.ptr 1 0))] ⟨frH c1 c2 c3 c4 c5 c6 c7 (freshRun c1 c2 c3 c4 c5 c6 c7 c2.toNat 0 m), 1 :: H.wr⟩
    | _ => False
  | _ => False

theorem lhFr_ok : BodyOK Tryz.prog (tmpsF Tryz.prog frF) (.loop (loopF Tryz.prog frF 0)) lhFr := by
  refine loopN_ok (evC_ok fnOK mixed (evF_ok fnOK mixed own7_ok 10 20) _ (lo := noLo) 10 _ LoOK.no) ?_
  intro T H K h
  unfold lhFr at h
  split at h
  case h_2 => exact h.elim
  rename_i x n i hT
  split at h
  case h_2 => exact h.elim
  rename_i x' t c1 c2 c3 c4 c5 c6 c7 m hH
  split at h
  · exact h.elim
  rename_i hti
  split at h
  · exact h.elim
  rename_i hc
  obtain ⟨rfl, h⟩ := h
  simp only [Bool.and_eq_true] at hti
  have ht := Nat.eq_of_beq_eq_true hti.1
  have hi : i = 0 := of_decide_eq_true hti.2
  have hc : n ≤ 65536 := of_decide_eq_true hc
  subst ht
  subst hi
  generalize hr : freshRun c1 n c3 c4 c5 c6 c7 n.toNat 0 m = r at h
  refine ⟨[1, 4, 20, 21], [1, 4], fun k T' H' => ∃ (j : Nat) (m' : PMem), k = n.toNat - j ∧ T' = frT n (j : Int) ∧ H'.bl = frH c1 n c3 c4 c5 c6 c7 m' ∧ (∀ n ∈ H'.wr, n ∈ 1 :: H.wr) ∧
    (j : Int) ≤ 65536 ∧ freshRun c1 n c3 c4 c5 c6 c7 (n.toNat - j) (j : Int) m' = r, ⟨n.toNat, 0, m, rfl, hT, hH, fun n hn => by simp [hn], by omega, hr⟩, ?_⟩
  rintro k T' ⟨bl, wr⟩ ⟨j, m', rfl, rfl, hbl, hwr, hj, hrun⟩
  simp only at hbl hwr
  subst hbl
  rw [frBody_ev]
  by_cases hlt : (j : Int) < n
  · have h1 : decide ((j : Int) < n) = true := by simpa using hlt
    obtain ⟨q, hq⟩ : ∃ q, n.toNat - j = q + 1 := ⟨n.toNat - (j + 1), by omega⟩
    have hq' : q = n.toNat - (j + 1) := by omega
    rw [hq, freshRun_succ] at hrun
    rw [h1]
    simp only [cond_true]
    have hw2 : ∀ n ∈ 1 :: 1 :: wr, n ∈ 1 :: H.wr := by
      intro n hn
      simp only [List.mem_cons] at hn ⊢
      rcases hn with h | h | h
      · exact .inl h
      · exact .inl h
      · simpa using hwr n h
    have hi : IntKind.i64.wrap ((j : Int) + 1) = ((j + 1 : Nat) : Int) := by rw [IntKind.wrap_i64]; omega
    refine ⟨n.toNat - (j + 1), by omega, j + 1, _, rfl, by rw [hi], rfl, hw2, by omega, ?_⟩
    rw [← hq']
    exact hrun
  · have h1 : decide ((j : Int) < n) = false := by simpa using hlt
    rw [h1]
    simp only [cond_false]
    have hz : n.toNat - j = 0 := by omega
    rw [hz, freshRun_zero] at hrun
    subst hrun
    exact ⟨1 :: H.wr, hwr, h⟩

theorem frLo : LoOK Tryz.prog (tmpsF Tryz.prog frF) (fun _ => some lhFr) (loopsF Tryz.prog frF) := by
  have h : loopsF Tryz.prog frF = [loopF Tryz.prog frF 0] := by kernel_rfl
  rw [h]
  intro c hc hd he
  have hc : c = loopF Tryz.prog frF 0 := by simpa using hc
  subst hc
  cases he
  exact lhFr_ok

theorem fresh_ev (c1 c2 c3 c4 c5 c6 c7 : Int) (K : Option PMem → Int → Prop) :
    evL Tryz.prog own7 (fun _ => some lhFr) 10 20 frF [.agg [.int .i64 c1, .int .i64 c2, .int .i64 c3, .int .i64 c4, .int .i64 c5, .int .i64 c6, .int .i64 c7]] ⟨[], []⟩ (fun v H₁ => match v with
      | .tup [.c .nilp, .c (.int .i64 e)] => K none e
      | .tup [.c (.ptr i 0), .c (.int .i64 e)] => (shMemF H₁ i fun x c => match chkAll [] [] [c] && headOK i c with
        | true => K (some x) e
        | false => False)
      | _ => False) =
    (bif !lCheck c1 c2 c3 c4 c5 c6 c7 then K none 1 else bif decide (lLen c1 c2 c3 c4 c5 c6 c7 < 1) || decide (1048576 < lLen c1 c2 c3 c4 c5 c6 c7) then K none 1 else
      bif decide (c2 ≤ 65536) then c2 = c2 ∧ K (some (freshM c1 c2 c3 c4 c5 c6 c7)) 0 else False) := by kernel_rfl

def h_fresh : Hd := fun args H K => match args with
  | [.agg [.int .i64 c1, .int .i64 c2, .int .i64 c3, .int .i64 c4, .int .i64 c5, .int .i64 c6, .int .i64 c7]] => match lCheck c1 c2 c3 c4 c5 c6 c7 with
    | false => K (.tup [.c .nilp, .c (cI 1)]) H
    | true => match decide (lLen c1 c2 c3 c4 c5 c6 c7 < 1) || decide (1048576 < lLen c1 c2 c3 c4 c5 c6 c7) with
      | true => K (.tup [.c .nilp, .c (cI 1)]) H
      | false => K (.tup [.c (.ptr H.len 0), .c (cI 0)]) (H.new (.obj (.mem (freshM c1 c2 c3 c4 c5 c6 c7))))
  | _ => False

theorem h_fresh_ok : HOK frF h_fresh := by
  intro args H K h
  unfold h_fresh at h
  split at h
  · rename_i c1 c2 c3 c4 c5 c6 c7
    refine new2_ok (own := own7) (b := false) (mk := .mem) (fun _ _ _ => shMemF_ok) rfl (evL_ok fnOK mixed own7_ok frLo ((fresh_ev c1 c2 c3 c4 c5 c6 c7 (fun o e => match o with
      | some x => K (.tup [.c (.ptr H.len 0), .c (cI e)]) (H.new (.obj (.mem x)))
      | none => K (.tup [.c .nilp, .c (cI e)]) H)).mpr ?_))
    split at h
    · rename_i hb
      simp only [hb, Bool.not_false, cond_true]
      exact h
    · rename_i hb
      simp only [hb, Bool.not_true, cond_false]
      have hle : c2 ≤ 65536 := by
        unfold lCheck at hb
        simp only [Bool.and_eq_true, decide_eq_true_eq] at hb
        exact hb.2.2.2.2.2.2.2.2.2.2.2.1
      split at h
      · rename_i hb2
        simp only [hb2, cond_true]
        exact h
      · rename_i hb2
        simp only [hb2, cond_false, hle, decide_true, cond_true, true_and]
        exact h
  · exact h.elim

def tab8 : List (FuncId × Hd) := (frF, h_fresh) :: tab7

def own8 : FuncId → Option Hd := look tab8

theorem all8 : AllOK tab8 := ⟨h_fresh_ok, all7⟩

theorem own8_ok : OwnOK Tryz.prog own8 := look_ok all8

end Go.Proofs.YtfjnkneoddankaaGreat

/-
  An arena is made.
-/
set_option linter.unusedVariables false
set_option linter.unusedSimpArgs false
set_option maxRecDepth 100000
set_option linter.unusedSectionVars false
namespace Go.FL

def arOk (a b c d : Int) : Bool := lCheck a b c d 100 600 3 && !(decide (lLen a b c d 100 600 3 < 1) || decide (1048576 < lLen a b c d 100 600 3))

def arM (a b c d : Int) : PMem := freshM a b c d 100 600 3

end Go.FL

namespace Go.Proofs.YtfjnkneoddankaaGreat
open Go Go.FL Go.Proofs
variable [Go.FL.Fz]

theorem arena_ev (a b c d : Int) (K : Option PMem → Prop) : evF Tryz.prog own8 10 20 9 [.c (.int .i64 a), .c (.int .i64 b), .c (.int .i64 c), .c (.int .i64 d)] ⟨[], []⟩ (fun v H₁ => match v with
    | .tup [.agg [.int .i64 a', .int .i64 b', .int .i64 c', .int .i64 d', .int .i64 e', .int .i64 f', .int .i64 g', .nilp, .int .i64 w], .c (.bool false)] =>
      (a' = a ∧ b' = b ∧ c' = c ∧ d' = d ∧ e' = 100 ∧ f' = 600 ∧ g' = 3 ∧ w = 0) ∧ K none
    | .tup [.agg [.int .i64 a', .int .i64 b', .int .i64 c', .int .i64 d', .int .i64 e', .int .i64 f', .int .i64 g', .ptr i 0, .int .i64 w], .c (.bool true)] =>
      (a' = a ∧ b' = b ∧ c' = c ∧ d' = d ∧ e' = 100 ∧ f' = 600 ∧ g' = 3 ∧ w = 0) ∧ (shMemF H₁ i fun x c => match chkAll [] [] [c] && headOK i c with
        | true => K (some x)
        | false => False)
    | _ => False) =
    (bif lCheck a b c d 100 600 3 then bif decide (lLen a b c d 100 600 3 < 1) || decide (1048576 < lLen a b c d 100 600 3) then (a = a ∧ b = b ∧ c = c ∧ d = d ∧ (100 : Int) = 100 ∧ (600 : Int) = 600 ∧ (3 : Int) = 3 ∧ (0 : Int) = 0) ∧ K none
      else (a = a ∧ b = b ∧ c = c ∧ d = d ∧ (100 : Int) = 100 ∧ (600 : Int) = 600 ∧ (3 : Int) = 3 ∧ (0 : Int) = 0) ∧ K (some (arM a b c d))
    else (a = a ∧ b = b ∧ c = c ∧ d = d ∧ (100 : Int) = 100 ∧ (600 : Int) = 600 ∧ (3 : Int) = 3 ∧ (0 : Int) = 0) ∧ K none) := by kernel_rfl

def h_arena : Hd := fun args H K => match args with
  | [.c (.int .i64 a), .c (.int .i64 b), .c (.int .i64 c), .c (.int .i64 d)] => match arOk a b c d with
    | false => K (.tup [.agg [cI a, cI b, cI c, cI d, cI 100, cI 600, cI 3, .nilp, cI 0], .c (.bool false)]) H
    | true => K (.tup [.agg [cI a, cI b, cI c, cI d, cI 100, cI 600, cI 3, .ptr H.len 0, cI 0], .c (.bool true)]) (H.new (.obj (.mem (arM a b c d))))
  | _ => False

theorem h_arena_ok : HOK 9 h_arena := by
  intro args H K h
  unfold h_arena at h
  split at h
  case h_2 => exact h.elim
  rename_i a b c d
  have e := (arena_ev a b c d (fun o => match o with
    | some x => K (.tup [.agg [cI a, cI b, cI c, cI d, cI 100, cI 600, cI 3, .ptr H.len 0, cI 0], .c (.bool true)]) (H.new (.obj (.mem x)))
    | none => K (.tup [.agg [cI a, cI b, cI c, cI d, cI 100, cI 600, cI 3, .nilp, cI 0], .c (.bool false)]) H)).mpr (by
      unfold arOk at h
      cases h1 : lCheck a b c d 100 600 3 with
      | false =>
        simp only [h1, Bool.false_and] at h
        simp only [cond_false, true_and, and_self]
        exact h
      | true =>
        cases h2 : decide (lLen a b c d 100 600 3 < 1) || decide (1048576 < lLen a b c d 100 600 3) with
        | true =>
          simp only [h1, h2, Bool.not_true, Bool.and_false] at h
          simp only [cond_true, true_and, and_self]
          exact h
        | false =>
          simp only [h1, h2, Bool.not_false, Bool.and_true] at h
          simp only [cond_true, cond_false, true_and, and_self]
          exact h)
  refine objs_ok own8_ok (ns := []) (xs := []) rfl (by simp) List.nodup_nil (fun s s₁ vs _ h => RelVs.low rfl h) e ?_
  intro v₁ H₁ hk
  split at hk
  · rename_i a' b' c' d' e' f' g' w
    obtain ⟨⟨rfl, rfl, rfl, rfl, rfl, rfl, rfl, rfl⟩, hk⟩ := hk
    exact ⟨[], [], [], [], _, rfl, trivial, trivial, fun s₁ s' v' _ _ hr => RelV.low rfl hr, hk⟩
  · rename_i a' b' c' d' e' f' g' i w
    obtain ⟨⟨rfl, rfl, rfl, rfl, rfl, rfl, rfl, rfl⟩, hk⟩ := hk
    obtain ⟨x, c, hk, hc⟩ := shMemF_ok hk
    split at hk
    · rename_i hchk
      simp only [Bool.and_eq_true] at hchk
      obtain ⟨h1, h2⟩ := hchk
      refine ⟨[], [], [c], [(false, .mem x)], _, h1, trivial, ⟨hc, trivial⟩, ?_, hk⟩
      intro s₁ s' v' _ hd' hr
      have h0 : c[0]? = some i := by
        unfold headOK at h2
        split at h2
        · have := Nat.eq_of_beq_eq_true h2; simp [this]
        · cases h2
      have := hd' 0 c i rfl h0
      simp only [Nat.add_zero] at this
      obtain ⟨vs, rfl, hr⟩ := hr
      refine ⟨vs, rfl, ?_⟩
      generalize vs.toList = us at hr ⊢
      match us, hr with
      | [u, v], ⟨h3, h4, _⟩ =>
        refine ⟨?_, h4, trivial⟩
        obtain ⟨cs, rfl, h3⟩ := h3
        refine ⟨cs, rfl, ?_⟩
        generalize cs.toList = us at h3 ⊢
        match us, h3 with
        | [a, b, c, d, e, f, g, p, q], ⟨h1, h2, h3, h4, h5, h6, h7, ⟨r, h8, h9⟩, h10, _⟩ => exact ⟨h1, h2, h3, h4, h5, h6, h7, ⟨r, by rw [this]; exact h8, h9⟩, h10, trivial⟩
    · exact hk.elim
  · exact hk.elim

def tab9 : List (FuncId × Hd) := (9, h_arena) :: tab8

def own9 : FuncId → Option Hd := look tab9

theorem all9 : AllOK tab9 := ⟨h_arena_ok, all8⟩

theorem own9_ok : OwnOK Tryz.prog own9 := look_ok all9

end Go.Proofs.YtfjnkneoddankaaGreat

/-
  The compactor works for so many rounds; how many chunks are in a state; where an object stands.
-/
set_option linter.unusedVariables false
set_option linter.unusedSimpArgs false
set_option maxRecDepth 100000
set_option linter.unusedSectionVars false
namespace Go.FL

def roundsRun (c : PCfg) (want : Int) : Nat → PComp → PMem → Option (PComp × PMem)
  | 0, x, m => some (x, m)
  | n + 1, x, m => bif decide (x.work.rd < want) then (match compStep c (-1) x m with
    | none => none
    | some r => roundsRun c want n r.1 r.2) else some (x, m)

theorem roundsRun_zero (c : PCfg) (want : Int) (x : PComp) (m : PMem) : roundsRun c want 0 x m = some (x, m) := rfl

theorem roundsRun_succ (c : PCfg) (want : Int) (n : Nat) (x : PComp) (m : PMem) : roundsRun c want (n + 1) x m = bif decide (x.work.rd < want) then (match compStep c (-1) x m with
    | none => none
    | some r => roundsRun c want n r.1 r.2) else some (x, m) := rfl

attribute [irreducible] roundsRun

def roundsWant (n : Int) (x : PComp) : Int := IntKind.wrap .i64 (x.work.rd + n)

/-- So many rounds alone. -/
def roundsO (c : PCfg) (n : Int) (x : PComp) (m : PMem) : Option (PComp × PMem) := roundsRun c (roundsWant n x) (3000 * n).toNat x m

def roundsOk (c : PCfg) (n : Int) (x : PComp) (m : PMem) : Bool := (roundsO c n x m).isSome

def roundsX (c : PCfg) (n : Int) (x : PComp) (m : PMem) : PComp × PMem := (roundsO c n x m).getD (x, m)

def manyRun (c : PCfg) (s : Int) (m : PMem) : Nat → Int → Int → Int
  | 0, _, r => r
  | n + 1, i, r => manyRun c s m n (i + 1) (bif decide ((chunkOf (m.peek (lChunk c.threads c.slots c.chunks c.words c.gens c.sparse c.tries i))).1 = s) then r + 1 else r)

theorem manyRun_succ (c : PCfg) (s : Int) (m : PMem) (n : Nat) (i r : Int) : manyRun c s m (n + 1) i r =
    manyRun c s m n (i + 1) (bif decide ((chunkOf (m.peek (lChunk c.threads c.slots c.chunks c.words c.gens c.sparse c.tries i))).1 = s) then r + 1 else r) := rfl

attribute [irreducible] manyRun

def manyM (c : PCfg) (s : Int) (m : PMem) : Int := manyRun c s m c.chunks.toNat 0 0

def placeM (c : PCfg) (m : PMem) (h : Int) : Int := (slotOf (m.peek (lSlot c.threads c.slots c.chunks c.words c.gens c.sparse c.tries (handle h).1))).2.1

end Go.FL

namespace Go.Proofs.YtfjnkneoddankaaGreat
open Go Go.FL Go.Proofs
variable [Go.FL.Fz]

abbrev rdF : FuncId := 15
abbrev rdEnv (c1 c2 c3 c4 c5 c6 c7 : Int) : LB := .cells 27 [cI c1, cI c2, cI c3, cI c4, cI c5, cI c6, cI c7, .ptr 1 0, cI (-1)]
abbrev rdT (n want i : Int) : Tm := [(1, .c (.ptr 0 0)), (2, .c (cI n)), (3, .c (.ptr 2 0)), (7, .c (cI want)), (8, .c (cI i))]

theorem rdBody_ev (c1 c2 c3 c4 c5 c6 c7 : Int) (n want i : Int) (x : PComp) (cap : Nat) (m : PMem) (wr : List Nat) (k : X → Tm → LH → Prop) :
    evC Tryz.prog (evF Tryz.prog own9 10 20) (tmpsF Tryz.prog rdF) noLo 10 (loopF Tryz.prog rdF 0) (rdT n want i) ⟨[.obj (.comp x cap), .obj (.mem m), rdEnv c1 c2 c3 c4 c5 c6 c7], wr⟩ (fun x T H => k x (Tm.norm [1,2,3,7,8] T) H) =
    (bif decide (i < IntKind.wrap IntKind.i64 (3000 * n)) then bif decide (x.work.rd < want) then
      (compOk ⟨c1, c2, c3, c4, c5, c6, c7⟩ (-1) x m = true) ∧ ∀ cap' : Nat, k .normal (rdT n want (IntKind.wrap .i64 (i + 1))) ⟨[.obj (.comp (compX ⟨c1, c2, c3, c4, c5, c6, c7⟩ (-1) x m).1 cap'), .obj (.mem (compX ⟨c1, c2, c3, c4, c5, c6, c7⟩ (-1) x m).2), rdEnv c1 c2 c3 c4 c5 c6 c7], 1 :: 0 :: 0 :: wr⟩
      else k (.exit 0) (rdT n want i) ⟨[.obj (.comp x (capOf x cap)), .obj (.mem m), rdEnv c1 c2 c3 c4 c5 c6 c7], 0 :: wr⟩
    else k (.exit 0) (rdT n want i) ⟨[.obj (.comp x cap), .obj (.mem m), rdEnv c1 c2 c3 c4 c5 c6 c7], wr⟩) := by kernel_rfl

def lhRd : LHd := fun T H K => match Tm.norm [1,2,3,7,8] T with
  | [(1, .c (.ptr 0 0)), (2, .c (.int .i64 n)), (3, .c (.ptr 2 0)), (7, .c (.int .i64 want)), (8, .c (.int .i64 i))] => match H.bl with
    | [.obj (.comp x cap), .obj (.mem m), .cells t [.int .i64 c1, .int .i64 c2, .int .i64 c3, .int .i64 c4, .int .i64 c5, .int .i64 c6, .int .i64 c7, .ptr 1 0, .int .i64 w]] =>
      ((t = 27 ∧ i = 0 ∧ w = -1) ∧ (0 ≤ n ∧ n ≤ 1000) ∧ want = roundsWant n x) ∧ roundsOk ⟨c1, c2, c3, c4, c5, c6, c7⟩ n x m = true ∧
      ∀ cap' : Nat, K (.exit 0) [(1, .c (.ptr 0 0)), (7, .c (cI want))] ⟨[.obj (.comp (roundsX ⟨c1, c2, c3, c4, c5, c6, c7⟩ n x m).1 cap'), .obj (.mem (roundsX ⟨c1, c2, c3, c4, c5, c6, c7⟩ n x m).2), rdEnv c1 c2 c3 c4 c5 c6 c7], 1 :: 0 :: H.wr⟩
    | _ => False
  | _ => False

theorem lhRd_ok : BodyOK Tryz.prog (tmpsF Tryz.prog rdF) (.loop (loopF Tryz.prog rdF 0)) lhRd := by
  refine loopN_ok (evC_ok fnOK mixed (evF_ok fnOK mixed own9_ok 10 20) _ (lo := noLo) 10 _ LoOK.no) ?_
  intro T H K h
  unfold lhRd at h
  split at h
  case h_2 => exact h.elim
  rename_i x0 n want i hT
  split at h
  case h_2 => exact h.elim
  rename_i x' x cap m t c1 c2 c3 c4 c5 c6 c7 w hH
  obtain ⟨⟨⟨rfl, rfl, rfl⟩, ⟨hn0, hn1⟩, rfl⟩, hok, h⟩ := h
  unfold roundsOk at hok
  unfold roundsX at h
  unfold roundsO at hok h
  generalize hr : roundsRun ⟨c1, c2, c3, c4, c5, c6, c7⟩ (roundsWant n x) (3000 * n).toNat x m = r at h hok
  cases r with
  | none => cases hok
  | some r =>
    simp only [Option.getD_some] at h
    generalize hwt : roundsWant n x = want at h hr hT
    refine ⟨[1,2,3,7,8], [1,7], fun k T' H' => ∃ (j : Nat) (x' : PComp) (cap' : Nat) (m' : PMem), (j : Int) ≤ 3000 * n ∧ k = (3000 * n).toNat - j ∧ T' = rdT n want (j : Int) ∧ H'.bl = [.obj (.comp x' cap'), .obj (.mem m'), rdEnv c1 c2 c3 c4 c5 c6 c7] ∧ (∀ n ∈ H'.wr, n ∈ 1 :: 0 :: H.wr) ∧
      roundsRun ⟨c1, c2, c3, c4, c5, c6, c7⟩ want ((3000 * n).toNat - j) x' m' = some r, ⟨(3000 * n).toNat, 0, x, cap, m, by omega, rfl, hT, hH, fun n hn => by simp [hn], hr⟩, ?_⟩
    rintro k T' ⟨bl, wr⟩ ⟨j, x', cap', m', hj, rfl, rfl, hbl, hwr, hrun⟩
    simp only at hbl hwr
    subst hbl
    rw [rdBody_ev]
    have h3 : IntKind.wrap IntKind.i64 (3000 * n) = 3000 * n := by rw [IntKind.wrap_i64]; omega
    rw [h3]
    by_cases hlt : (j : Int) < 3000 * n
    · have h1 : decide ((j : Int) < 3000 * n) = true := by simpa using hlt
      obtain ⟨q, hq⟩ : ∃ q, (3000 * n).toNat - j = q + 1 := ⟨(3000 * n).toNat - (j + 1), by omega⟩
      have hq' : q = (3000 * n).toNat - (j + 1) := by omega
      rw [hq, roundsRun_succ] at hrun
      rw [h1]
      simp only [cond_true]
      cases hb : decide (x'.work.rd < want) with
      | false =>
        rw [hb] at hrun
        simp only [cond_false] at hrun ⊢
        cases hrun
        exact ⟨1 :: 0 :: H.wr, fun k hk => by
          rcases List.mem_cons.1 hk with rfl | hk
          · simp
          · exact hwr k hk, h _⟩
      | true =>
        rw [hb] at hrun
        simp only [cond_true] at hrun ⊢
        cases hs : compStep ⟨c1, c2, c3, c4, c5, c6, c7⟩ (-1) x' m' with
        | none => rw [hs] at hrun; cases hrun
        | some z =>
          rw [hs] at hrun
          have hX : compX ⟨c1, c2, c3, c4, c5, c6, c7⟩ (-1) x' m' = z := by unfold compX; rw [hs]; rfl
          refine ⟨by unfold compOk; rw [hs]; rfl, fun cap2 => ?_⟩
          rw [hX]
          have hi : IntKind.i64.wrap ((j : Int) + 1) = ((j + 1 : Nat) : Int) := by rw [IntKind.wrap_i64]; omega
          refine ⟨(3000 * n).toNat - (j + 1), by omega, j + 1, z.1, cap2, z.2, by omega, rfl, by rw [hi], rfl, ?_, by rw [← hq']; exact hrun⟩
          intro k hk
          simp only [List.mem_cons] at hk ⊢
          rcases hk with h | h | h | h
          · exact .inl h
          · exact .inr (.inl h)
          · exact .inr (.inl h)
          · simpa using hwr k h
    · have h1 : decide ((j : Int) < 3000 * n) = false := by simpa using hlt
      rw [h1]
      simp only [cond_false]
      have hz : (3000 * n).toNat - j = 0 := by omega
      rw [hz, roundsRun_zero] at hrun
      cases hrun
      exact ⟨1 :: 0 :: H.wr, hwr, h _⟩

theorem rdLo : LoOK Tryz.prog (tmpsF Tryz.prog rdF) (fun _ => some lhRd) (loopsF Tryz.prog rdF) := by
  have h : loopsF Tryz.prog rdF = [loopF Tryz.prog rdF 0] := by kernel_rfl
  rw [h]
  intro c hc hd he
  have hc : c = loopF Tryz.prog rdF 0 := by simpa using hc
  subst hc
  cases he
  exact lhRd_ok

theorem rounds_ev (c : PCfg) (who n : Int) (x : PComp) (cap : Nat) (m : PMem) (K : Bool → PComp → Nat → PMem → Prop) :
    evL Tryz.prog own9 (fun _ => some lhRd) 10 20 rdF [envV c 1 who, .c (.ptr 0 0), .c (cI n)] ⟨cat [(false, .comp x cap), (false, .mem m)] 0, []⟩ (fun v H₁ => match v with
      | .c (.bool r) => shF H₁ 0 fun o c1 => match o with
        | .comp x' cap' => shF H₁ 1 fun o c2 => match o with
          | .mem m' => match chkAll [(false, .comp x cap), (false, .mem m)] [c1, c2] [] with
            | true => K r x' cap' m'
            | false => False
          | _ => False
        | _ => False
      | _ => False) =
    (((27 = 27 ∧ (0 : Int) = 0 ∧ (-1 : Int) = -1) ∧ (0 ≤ n ∧ n ≤ 1000) ∧ roundsWant n x = roundsWant n x) ∧ roundsOk c n x m = true ∧
      ∀ cap' : Nat, K (decide (roundsWant n x ≤ (roundsX c n x m).1.work.rd)) (roundsX c n x m).1 (capOf (roundsX c n x m).1 cap') (roundsX c n x m).2) := by kernel_rfl

def h_rounds : Hd := fun args H K => match args with
  | [.agg [.int .i64 c1, .int .i64 c2, .int .i64 c3, .int .i64 c4, .int .i64 c5, .int .i64 c6, .int .i64 c7, .ptr m 0, .int .i64 who], .c (.ptr p 0), .c (.int .i64 n)] => match H.get p, H.get m with
    | some (.obj (.comp x cap)), some (.obj (.mem pm)) => ((0 ≤ n ∧ n ≤ 1000) ∧ roundsOk ⟨c1, c2, c3, c4, c5, c6, c7⟩ n x pm = true) ∧ ∀ cap' : Nat,
        K (.c (.bool (decide (roundsWant n x ≤ (roundsX ⟨c1, c2, c3, c4, c5, c6, c7⟩ n x pm).1.work.rd)))) ((H.put p (.obj (.comp (roundsX ⟨c1, c2, c3, c4, c5, c6, c7⟩ n x pm).1 cap'))).put m (.obj (.mem (roundsX ⟨c1, c2, c3, c4, c5, c6, c7⟩ n x pm).2)))
    | _, _ => False
  | _ => False

theorem h_rounds_ok : HOK rdF h_rounds := by
  intro args H K h
  unfold h_rounds at h
  split at h
  case h_2 => exact h.elim
  rename_i c1 c2 c3 c4 c5 c6 c7 m who p n
  split at h
  case h_2 => exact h.elim
  rename_i x cap pm hp hm
  obtain ⟨⟨hn, hok⟩, h⟩ := h
  have hpm : p ≠ m := by
    rintro rfl
    rw [hp] at hm
    injection hm with hm; injection hm with hm; cases hm
  have e := (rounds_ev ⟨c1, c2, c3, c4, c5, c6, c7⟩ who n x cap pm (fun r x' cap' m' => K (.c (.bool r)) ((H.put p (.obj (.comp x' cap'))).put m (.obj (.mem m'))))).mpr ⟨⟨⟨rfl, rfl, rfl⟩, hn, rfl⟩, hok, fun cap' => h _⟩
  refine objs_of (ns := [p, m]) (xs := [(false, .comp x cap), (false, .mem pm)]) rfl ?_ (by simpa using hpm) ?_ (evL_ok fnOK mixed own9_ok rdLo e) ?_
  · intro i n x' hi hx
    match i, hi, hx with
    | 0, hi, hx => simp at hi hx; subst hi; subst hx; exact get_obj hp
    | 1, hi, hx => simp at hi hx; subst hi; subst hx; exact get_obj hm
    | i + 2, hi, hx => simp at hi
  · intro s s₁ vs hh hr
    match vs, hr with
    | [u, v, z], ⟨h1, h2, h3, _⟩ =>
      have e0 := hh 0 p rfl
      have e1 := hh 1 m rfl
      simp only [base, Nat.zero_add] at e0 e1
      exact ⟨rel_env (c := ⟨c1, c2, c3, c4, c5, c6, c7⟩) e1 h1, rel_ptr e0 h2, RelV.low rfl h3, trivial⟩
    | [], h => exact h.elim
    | [_], h => exact h.2.elim
    | [_, _], h => exact h.2.2.elim
    | _ :: _ :: _ :: _ :: _, h => exact h.2.2.2.elim
  · intro v₁ H₁ hk
    split at hk
    · obtain ⟨o, c1', hk, hc1⟩ := shF_ok hk
      split at hk
      · obtain ⟨o, c2, hk, hc2⟩ := shF_ok hk
        split at hk
        · split at hk
          · rename_i hchk
            exact ⟨[_, _], [(false, .comp _ _), (false, .mem _)], [], [], _, hchk, ⟨hc1, hc2, trivial⟩, trivial, fun _ _ _ _ _ h => RelV.low rfl h, hk⟩
          · exact hk.elim
        · exact hk.elim
      · exact hk.elim
    · exact hk.elim

abbrev mnF : FuncId := 28
abbrev mnEnv (c1 c2 c3 c4 c5 c6 c7 who : Int) : LB := .cells 27 [cI c1, cI c2, cI c3, cI c4, cI c5, cI c6, cI c7, .ptr 0 0, cI who]
abbrev mnT (n r i : Int) : Tm := [(1, .c (cI n)), (2, .c (.ptr 1 0)), (5, .c (cI r)), (6, .c (cI i))]

theorem mnBody_ev (c1 c2 c3 c4 c5 c6 c7 who n r i : Int) (m : PMem) (wr : List Nat) (k : X → Tm → LH → Prop) :
    evC Tryz.prog (evF Tryz.prog own9 10 20) (tmpsF Tryz.prog mnF) noLo 10 (loopF Tryz.prog mnF 0) (mnT n r i) ⟨[.obj (.mem m), mnEnv c1 c2 c3 c4 c5 c6 c7 who], wr⟩ (fun x T H => k x (Tm.norm [1,2,5,6] T) H) =
    (bif decide (i < c3) then bif decide ((chunkOf (m.peek (lChunk c1 c2 c3 c4 c5 c6 c7 i))).1 = n) then
      k .normal (mnT n (IntKind.wrap .i64 (r + 1)) (IntKind.wrap .i64 (i + 1))) ⟨[.obj (.mem m), mnEnv c1 c2 c3 c4 c5 c6 c7 who], 0 :: wr⟩
      else k .normal (mnT n r (IntKind.wrap .i64 (i + 1))) ⟨[.obj (.mem m), mnEnv c1 c2 c3 c4 c5 c6 c7 who], 0 :: wr⟩
    else k (.exit 0) (mnT n r i) ⟨[.obj (.mem m), mnEnv c1 c2 c3 c4 c5 c6 c7 who], wr⟩) := by kernel_rfl

def lhMn : LHd := fun T H K => match Tm.norm [1,2,5,6] T with
  | [(1, .c (.int .i64 n)), (2, .c (.ptr 1 0)), (5, .c (.int .i64 r)), (6, .c (.int .i64 i))] => match H.bl with
    | [.obj (.mem m), .cells t [.int .i64 c1, .int .i64 c2, .int .i64 c3, .int .i64 c4, .int .i64 c5, .int .i64 c6, .int .i64 c7, .ptr 0 0, .int .i64 who]] =>
      ((t = 27 ∧ i = 0 ∧ r = 0) ∧ c3 ≤ 1000000) ∧ K (.exit 0) [(5, .c (cI (manyM ⟨c1, c2, c3, c4, c5, c6, c7⟩ n m)))] ⟨[.obj (.mem m), mnEnv c1 c2 c3 c4 c5 c6 c7 who], 0 :: H.wr⟩
    | _ => False
  | _ => False

theorem lhMn_ok : BodyOK Tryz.prog (tmpsF Tryz.prog mnF) (.loop (loopF Tryz.prog mnF 0)) lhMn := by
  refine loopN_ok (evC_ok fnOK mixed (evF_ok fnOK mixed own9_ok 10 20) _ (lo := noLo) 10 _ LoOK.no) ?_
  intro T H K h
  unfold lhMn at h
  split at h
  case h_2 => exact h.elim
  rename_i x0 n r i hT
  split at h
  case h_2 => exact h.elim
  rename_i x' m t c1 c2 c3 c4 c5 c6 c7 who hH
  obtain ⟨⟨⟨rfl, rfl, rfl⟩, hc⟩, h⟩ := h
  unfold manyM at h
  generalize hr : manyRun ⟨c1, c2, c3, c4, c5, c6, c7⟩ n m c3.toNat 0 0 = r at h
  refine ⟨[1,2,5,6], [5], fun k T' H' => ∃ (j : Nat) (q : Int), k = c3.toNat - j ∧ (0 ≤ q ∧ q ≤ j) ∧ j ≤ 1000000 ∧ T' = mnT n q (j : Int) ∧ H'.bl = [.obj (.mem m), mnEnv c1 c2 c3 c4 c5 c6 c7 who] ∧ (∀ n ∈ H'.wr, n ∈ 0 :: H.wr) ∧
    manyRun ⟨c1, c2, c3, c4, c5, c6, c7⟩ n m (c3.toNat - j) (j : Int) q = r, ⟨c3.toNat, 0, 0, rfl, by omega, by omega, hT, hH, fun n hn => by simp [hn], hr⟩, ?_⟩
  rintro k T' ⟨bl, wr⟩ ⟨j, q, rfl, hq, hj, rfl, hbl, hwr, hrun⟩
  simp only at hbl hwr
  subst hbl
  rw [mnBody_ev]
  by_cases hlt : (j : Int) < c3
  · have h1 : decide ((j : Int) < c3) = true := by simpa using hlt
    obtain ⟨z, hz⟩ : ∃ z, c3.toNat - j = z + 1 := ⟨c3.toNat - (j + 1), by omega⟩
    have hz' : z = c3.toNat - (j + 1) := by omega
    rw [hz, manyRun_succ] at hrun
    rw [h1]
    simp only [cond_true]
    have hi : IntKind.i64.wrap ((j : Int) + 1) = ((j + 1 : Nat) : Int) := by rw [IntKind.wrap_i64]; omega
    have hq1 : IntKind.i64.wrap (q + 1) = q + 1 := by rw [IntKind.wrap_i64]; omega
    have hw2 : ∀ k ∈ 0 :: wr, k ∈ 0 :: H.wr := by
      intro k hk
      rcases List.mem_cons.1 hk with rfl | hk
      · simp
      · exact hwr k hk
    cases hb : decide ((chunkOf (m.peek (lChunk c1 c2 c3 c4 c5 c6 c7 (j : Int)))).1 = n) with
    | true =>
      rw [hb] at hrun
      simp only [cond_true] at hrun ⊢
      exact ⟨c3.toNat - (j + 1), by omega, j + 1, q + 1, rfl, by omega, by omega, by rw [hi, hq1], rfl, hw2, by rw [← hz']; exact hrun⟩
    | false =>
      rw [hb] at hrun
      simp only [cond_false] at hrun ⊢
      exact ⟨c3.toNat - (j + 1), by omega, j + 1, q, rfl, by omega, by omega, by rw [hi], rfl, hw2, by rw [← hz']; exact hrun⟩
  · have h1 : decide ((j : Int) < c3) = false := by simpa using hlt
    rw [h1]
    simp only [cond_false]
    have hz : c3.toNat - j = 0 := by omega
    rw [hz] at hrun
    unfold manyRun at hrun
    subst hrun
    exact ⟨0 :: H.wr, hwr, h⟩

theorem mnLo : LoOK Tryz.prog (tmpsF Tryz.prog mnF) (fun _ => some lhMn) (loopsF Tryz.prog mnF) := by
  have h : loopsF Tryz.prog mnF = [loopF Tryz.prog mnF 0] := by kernel_rfl
  rw [h]
  intro c hc hd he
  have hc : c = loopF Tryz.prog mnF 0 := by simpa using hc
  subst hc
  cases he
  exact lhMn_ok

theorem many_ev (c : PCfg) (who n : Int) (m : PMem) (K : Int → PMem → Prop) :
    evL Tryz.prog own9 (fun _ => some lhMn) 10 20 mnF [envV c 0 who, .c (cI n)] ⟨cat [(false, .mem m)] 0, []⟩ (fun v H₁ => match v with
      | .c (.int .i64 r) => shF H₁ 0 fun o c2 => match o with
        | .mem m' => match chkAll [(false, .mem m)] [c2] [] with
          | true => K r m'
          | false => False
        | _ => False
      | _ => False) =
    (((27 = 27 ∧ (0 : Int) = 0 ∧ (0 : Int) = 0) ∧ c.chunks ≤ 1000000) ∧ K (manyM c n m) m) := by kernel_rfl

def h_many : Hd := fun args H K => match args with
  | [.agg [.int .i64 c1, .int .i64 c2, .int .i64 c3, .int .i64 c4, .int .i64 c5, .int .i64 c6, .int .i64 c7, .ptr m 0, .int .i64 who], .c (.int .i64 n)] => match H.get m with
    | some (.obj (.mem pm)) => match decide (c3 ≤ 1000000) with
      | true => K (.c (cI (manyM ⟨c1, c2, c3, c4, c5, c6, c7⟩ n pm))) (H.put m (.obj (.mem pm)))
      | false => False
    | _ => False
  | _ => False

/-- A question of the arena: the memory stays an object. -/
theorem envAsk_ok {f : FuncId} {c : PCfg} {who : Int} {m : Nat} {pm : PMem} {rest : List LV} {H : LH} {K : LV → LH → Prop} {K₁ : LV → LH → Prop} (hm : H.get m = some (.obj (.mem pm))) (hlow : lowVs rest = true)
    (hev : (∃ fn, Tryz.prog.funcs[f]? = some fn ∧ fn.body.isSome = true) ∧ CSpec Tryz.prog f (envV c 0 who :: rest) ⟨cat [(false, .mem pm)] 0, []⟩ K₁)
    (hK : ∀ v H₁, K₁ v H₁ → lowV v = true ∧ shF H₁ 0 fun o c2 => match o with
      | .mem m' => match chkAll [(false, .mem pm)] [c2] [] with
        | true => K v (H.put m (.obj (.mem m')))
        | false => False
      | _ => False) : (∃ fn, Tryz.prog.funcs[f]? = some fn ∧ fn.body.isSome = true) ∧ CSpec Tryz.prog f (envV c m who :: rest) H K := by
  refine objs_of (ns := [m]) (xs := [(false, .mem pm)]) rfl ?_ (by simp) ?_ hev ?_
  · intro i n x' hi hx
    match i, hi, hx with
    | 0, hi, hx => simp at hi hx; subst hi; subst hx; exact get_obj hm
    | i + 1, hi, hx => simp at hi
  · intro s s₁ vs hh hr
    match vs, hr with
    | u :: vs, ⟨h1, h2⟩ =>
      have e0 := hh 0 m rfl
      simp only [base, Nat.zero_add] at e0
      exact ⟨rel_env (c := c) e0 h1, RelVs.low hlow h2⟩
  · intro v₁ H₁ hk
    obtain ⟨hl, hk⟩ := hK v₁ H₁ hk
    obtain ⟨o, c2, hk, hc2⟩ := shF_ok hk
    split at hk
    · split at hk
      · rename_i hchk
        exact ⟨[_], [(false, .mem _)], [], [], v₁, hchk, ⟨hc2, trivial⟩, trivial, fun _ _ _ _ _ h => RelV.low hl h, hk⟩
      · exact hk.elim
    · exact hk.elim

theorem h_many_ok : HOK mnF h_many := by
  intro args H K h
  unfold h_many at h
  split at h
  case h_2 => exact h.elim
  rename_i c1 c2 c3 c4 c5 c6 c7 m who n
  split at h
  case h_2 => exact h.elim
  rename_i pm hm
  split at h
  case h_2 => exact h.elim
  rename_i hc
  have e := (many_ev ⟨c1, c2, c3, c4, c5, c6, c7⟩ who n pm (fun r m' => K (.c (cI r)) (H.put m (.obj (.mem m'))))).mpr ⟨⟨⟨rfl, rfl, rfl⟩, of_decide_eq_true hc⟩, h⟩
  refine envAsk_ok (c := ⟨c1, c2, c3, c4, c5, c6, c7⟩) hm rfl (evL_ok fnOK mixed own9_ok mnLo e) ?_
  intro v H₁ hk
  split at hk
  · exact ⟨rfl, hk⟩
  · exact hk.elim

theorem place_ev (c : PCfg) (who h : Int) (m : PMem) (K : Int → PMem → Prop) :
    evF Tryz.prog own9 10 20 32 [envV c 0 who, .c (cU h)] ⟨cat [(false, .mem m)] 0, []⟩ (fun v H₁ => match v with
      | .c (.int .i64 r) => shF H₁ 0 fun o c2 => match o with
        | .mem m' => match chkAll [(false, .mem m)] [c2] [] with
          | true => K r m'
          | false => False
        | _ => False
      | _ => False) = K (placeM c m h) m := by kernel_rfl

def h_placeM : Hd := fun args H K => match args with
  | [.agg [.int .i64 c1, .int .i64 c2, .int .i64 c3, .int .i64 c4, .int .i64 c5, .int .i64 c6, .int .i64 c7, .ptr m 0, .int .i64 who], .c (.int .u64 h)] => match H.get m with
    | some (.obj (.mem pm)) => K (.c (cI (placeM ⟨c1, c2, c3, c4, c5, c6, c7⟩ pm h))) (H.put m (.obj (.mem pm)))
    | _ => False
  | _ => False

theorem h_placeM_ok : HOK 32 h_placeM := by
  intro args H K h
  unfold h_placeM at h
  split at h
  case h_2 => exact h.elim
  rename_i c1 c2 c3 c4 c5 c6 c7 m who n
  split at h
  case h_2 => exact h.elim
  rename_i pm hm
  have e := (place_ev ⟨c1, c2, c3, c4, c5, c6, c7⟩ who n pm (fun r m' => K (.c (cI r)) (H.put m (.obj (.mem m'))))).mpr h
  refine envAsk_ok (c := ⟨c1, c2, c3, c4, c5, c6, c7⟩) hm rfl (evF_ok fnOK mixed own9_ok 10 20 _ _ _ _ e) ?_
  intro v H₁ hk
  split at hk
  · exact ⟨rfl, hk⟩
  · exact hk.elim

def tabK8 : List (FuncId × Hd) := [(rdF, h_rounds), (mnF, h_many), (32, h_placeM)] ++ tab9
def ownK8 : FuncId → Option Hd := look tabK8
theorem allK8 : AllOK tabK8 := ⟨h_rounds_ok, h_many_ok, h_placeM_ok, all9⟩
theorem ownK8_ok : OwnOK Tryz.prog ownK8 := look_ok allK8

end Go.Proofs.YtfjnkneoddankaaGreat

/-
  The laws' loops: objects are made, and kept in a list; they are let go.
-/
set_option linter.unusedVariables false
set_option linter.unusedSimpArgs false
set_option maxRecDepth 100000
set_option linter.unusedSectionVars false
namespace Go.FL

def pushF (n : Nat) (f : Nat → Int) (v : Int) : Nat → Int := match n with
  | 0 => fun _ => v
  | n + 1 => fun j => bif Nat.beq j (n + 1) then v else f j

/-- So many objects are made; 'cond': those that came to nothing are not listed. -/
def bldRun (c : PCfg) (who sz : Int) (cond : Bool) : Nat → Nat → (Nat → Int) → PMem → Nat × (Nat → Int) × PMem
  | 0, n, f, m => (n, f, m)
  | k + 1, n, f, m => match makeM c who m sz false with
    | (d, m') => bif cond && !decide (d.e = 0) then bldRun c who sz cond k n f m' else bldRun c who sz cond k (n + 1) (pushF n f d.h) m'

theorem bldRun_succ (c : PCfg) (who sz : Int) (cond : Bool) (k n : Nat) (f : Nat → Int) (m : PMem) : bldRun c who sz cond (k + 1) n f m =
    (bif cond && !decide ((makeM c who m sz false).1.e = 0) then bldRun c who sz cond k n f (makeM c who m sz false).2 else bldRun c who sz cond k (n + 1) (pushF n f (makeM c who m sz false).1.h) (makeM c who m sz false).2) := rfl

theorem bldRun_zero (c : PCfg) (who sz : Int) (cond : Bool) (n : Nat) (f : Nat → Int) (m : PMem) : bldRun c who sz cond 0 n f m = (n, f, m) := rfl

attribute [irreducible] bldRun

/-- So many objects of a list are let go, from that one on. -/
def dropRun2 (c : PCfg) (who : Int) (f : Nat → Int) : Nat → Nat → PMem → PMem
  | 0, _, m => m
  | k + 1, i, m => dropRun2 c who f k (i + 1) (dropdM c who m (f i) false).2

theorem dropRun2_succ (c : PCfg) (who : Int) (f : Nat → Int) (k i : Nat) (m : PMem) : dropRun2 c who f (k + 1) i m = dropRun2 c who f k (i + 1) (dropdM c who m (f i) false).2 := rfl
theorem dropRun2_zero (c : PCfg) (who : Int) (f : Nat → Int) (i : Nat) (m : PMem) : dropRun2 c who f 0 i m = m := rfl

attribute [irreducible] dropRun2

end Go.FL

namespace Go.Proofs.YtfjnkneoddankaaGreat
open Go Go.FL Go.Proofs
variable [Go.FL.Fz]

abbrev lawEnv (c1 c2 c3 c4 c5 c6 c7 who : Int) : LB := .cells 27 [cI c1, cI c2, cI c3, cI c4, cI c5, cI c6, cI c7, .ptr 0 0, cI who]
abbrev litB : LB := .cells 32 []
abbrev usB (n cap : Nat) (f : Nat → Int) : LB := .rows 32 1 n cap [.int .u64 f]

abbrev pbF : FuncId := 5
abbrev pbTA (sz : Int) (b : Int) (i : Int) : Tm := [(1, .c (.int .i64 b)), (5, .c (.ptr 1 0)), (7, .c (.int .i64 sz)), (8, .c (.slice 2 0 0 0)), (9, .c (cI i))]
abbrev pbTB (sz : Int) (b : Int) (k n cap : Nat) (i : Int) : Tm := [(1, .c (.int .i64 b)), (5, .c (.ptr 1 0)), (7, .c (.int .i64 sz)), (8, .c (.slice k 0 n cap)), (9, .c (cI i))]

theorem pbA_ev (c1 c2 c3 c4 c5 c6 c7 who : Int) (sz : Int) (b : Int) (i : Int) (m : PMem) (wr : List Nat) (k : X → Tm → LH → Prop) :
    evC Tryz.prog (evF Tryz.prog ownK8 10 20) (tmpsF Tryz.prog pbF) noLo 10 (loopF Tryz.prog pbF 0) (pbTA sz b i) ⟨[.obj (.mem m), lawEnv c1 c2 c3 c4 c5 c6 c7 who, litB], wr⟩ (fun x T H => k x (Tm.norm [1, 5, 7, 8, 9] T) H) =
    (bif decide (i < 30) then bif decide ((makeM ⟨c1, c2, c3, c4, c5, c6, c7⟩ who m sz false).1.e = 0) then (((0 : Nat) = 0 ∧ (0 : Nat) = 0) ∧ ∀ more : Nat, k .normal (pbTB sz b 5 1 (1 + more) (IntKind.wrap .i64 (i + 1))) ⟨[.obj (.mem (makeM ⟨c1, c2, c3, c4, c5, c6, c7⟩ who m sz false).2), lawEnv c1 c2 c3 c4 c5 c6 c7 who, litB, .cells 34 [cI (makeM ⟨c1, c2, c3, c4, c5, c6, c7⟩ who m sz false).1.e, cU (makeM ⟨c1, c2, c3, c4, c5, c6, c7⟩ who m sz false).1.h, cI (makeM ⟨c1, c2, c3, c4, c5, c6, c7⟩ who m sz false).1.v, cI (makeM ⟨c1, c2, c3, c4, c5, c6, c7⟩ who m sz false).1.st], .cells 32 [cU (makeM ⟨c1, c2, c3, c4, c5, c6, c7⟩ who m sz false).1.h], usB 1 (1 + more) (fun _ => (makeM ⟨c1, c2, c3, c4, c5, c6, c7⟩ who m sz false).1.h)], 3 :: 0 :: wr⟩)
      else k .normal (pbTA sz b (IntKind.wrap .i64 (i + 1))) ⟨[.obj (.mem (makeM ⟨c1, c2, c3, c4, c5, c6, c7⟩ who m sz false).2), lawEnv c1 c2 c3 c4 c5 c6 c7 who, litB, .cells 34 [cI (makeM ⟨c1, c2, c3, c4, c5, c6, c7⟩ who m sz false).1.e, cU (makeM ⟨c1, c2, c3, c4, c5, c6, c7⟩ who m sz false).1.h, cI (makeM ⟨c1, c2, c3, c4, c5, c6, c7⟩ who m sz false).1.v, cI (makeM ⟨c1, c2, c3, c4, c5, c6, c7⟩ who m sz false).1.st]], 3 :: 0 :: wr⟩
    else k (.exit 0) (pbTA sz b i) ⟨[.obj (.mem m), lawEnv c1 c2 c3 c4 c5 c6 c7 who, litB], wr⟩) := by kernel_rfl

theorem pbB_ev (c1 c2 c3 c4 c5 c6 c7 who : Int) (sz : Int) (b : Int) (i : Int) (n cap : Nat) (f : Nat → Int) (m : PMem) (wr : List Nat) (k : X → Tm → LH → Prop) :
    evC Tryz.prog (evF Tryz.prog ownK8 10 20) (tmpsF Tryz.prog pbF) noLo 10 (loopF Tryz.prog pbF 0) (pbTB sz b 3 n cap i) ⟨[.obj (.mem m), lawEnv c1 c2 c3 c4 c5 c6 c7 who, litB, usB n cap f], wr⟩ (fun x T H => k x (Tm.norm [1, 5, 7, 8, 9] T) H) =
    (bif decide (i < 30) then bif decide ((makeM ⟨c1, c2, c3, c4, c5, c6, c7⟩ who m sz false).1.e = 0) then (((n = n ∧ cap = cap) ∧ n ≤ 1048576) ∧ bif decide (n + 1 ≤ cap) then
        k .normal (pbTB sz b 3 (n + 1) cap (IntKind.wrap .i64 (i + 1))) ⟨[.obj (.mem (makeM ⟨c1, c2, c3, c4, c5, c6, c7⟩ who m sz false).2), lawEnv c1 c2 c3 c4 c5 c6 c7 who, litB, usB (n + 1) cap (fun j => bif Nat.beq j (n) then (makeM ⟨c1, c2, c3, c4, c5, c6, c7⟩ who m sz false).1.h else f j), .cells 34 [cI (makeM ⟨c1, c2, c3, c4, c5, c6, c7⟩ who m sz false).1.e, cU (makeM ⟨c1, c2, c3, c4, c5, c6, c7⟩ who m sz false).1.h, cI (makeM ⟨c1, c2, c3, c4, c5, c6, c7⟩ who m sz false).1.v, cI (makeM ⟨c1, c2, c3, c4, c5, c6, c7⟩ who m sz false).1.st], .cells 32 [cU (makeM ⟨c1, c2, c3, c4, c5, c6, c7⟩ who m sz false).1.h]], 3 :: 4 :: 0 :: wr⟩
        else ∀ more : Nat, k .normal (pbTB sz b 6 (n + 1) (n + 1 + more) (IntKind.wrap .i64 (i + 1))) ⟨[.obj (.mem (makeM ⟨c1, c2, c3, c4, c5, c6, c7⟩ who m sz false).2), lawEnv c1 c2 c3 c4 c5 c6 c7 who, litB, usB n cap f, .cells 34 [cI (makeM ⟨c1, c2, c3, c4, c5, c6, c7⟩ who m sz false).1.e, cU (makeM ⟨c1, c2, c3, c4, c5, c6, c7⟩ who m sz false).1.h, cI (makeM ⟨c1, c2, c3, c4, c5, c6, c7⟩ who m sz false).1.v, cI (makeM ⟨c1, c2, c3, c4, c5, c6, c7⟩ who m sz false).1.st], .cells 32 [cU (makeM ⟨c1, c2, c3, c4, c5, c6, c7⟩ who m sz false).1.h], usB (n + 1) (n + 1 + more) (fun j => bif Nat.beq j (n) then (makeM ⟨c1, c2, c3, c4, c5, c6, c7⟩ who m sz false).1.h else f j)], 4 :: 0 :: wr⟩)
      else k .normal (pbTB sz b 3 n cap (IntKind.wrap .i64 (i + 1))) ⟨[.obj (.mem (makeM ⟨c1, c2, c3, c4, c5, c6, c7⟩ who m sz false).2), lawEnv c1 c2 c3 c4 c5 c6 c7 who, litB, usB n cap f, .cells 34 [cI (makeM ⟨c1, c2, c3, c4, c5, c6, c7⟩ who m sz false).1.e, cU (makeM ⟨c1, c2, c3, c4, c5, c6, c7⟩ who m sz false).1.h, cI (makeM ⟨c1, c2, c3, c4, c5, c6, c7⟩ who m sz false).1.v, cI (makeM ⟨c1, c2, c3, c4, c5, c6, c7⟩ who m sz false).1.st]], 4 :: 0 :: wr⟩
    else k (.exit 0) (pbTB sz b 3 n cap i) ⟨[.obj (.mem m), lawEnv c1 c2 c3 c4 c5 c6 c7 who, litB, usB n cap f], wr⟩) := by kernel_rfl

def lh_pb : LHd := fun T H K => match Tm.norm [1, 5, 7, 8, 9] T with
  | [(1, .c (.int .i64 b)), (5, .c (.ptr 1 0)), (7, .c (.int .i64 sz)), (8, .c (.slice 2 0 0 0)), (9, .c (.int .i64 i))] => match H.bl with
    | [.obj (.mem m), .cells t [.int .i64 c1, .int .i64 c2, .int .i64 c3, .int .i64 c4, .int .i64 c5, .int .i64 c6, .int .i64 c7, .ptr 0 0, .int .i64 who], .cells t2 []] =>
      ((t = 27 ∧ t2 = 32 ∧ i = 0) ∧ Nat.beq (bldRun ⟨c1, c2, c3, c4, c5, c6, c7⟩ who sz true 30 0 (fun _ => 0) m).1 0 = false) ∧
      ∀ cap : Nat, K (.exit 0) [(1, .c (.int .i64 b)), (5, .c (.ptr 1 0)), (7, .c (.int .i64 sz)), (8, .c (.slice 3 0 (bldRun ⟨c1, c2, c3, c4, c5, c6, c7⟩ who sz true 30 0 (fun _ => 0) m).1 cap))]
        ⟨[.obj (.mem (bldRun ⟨c1, c2, c3, c4, c5, c6, c7⟩ who sz true 30 0 (fun _ => 0) m).2.2), lawEnv c1 c2 c3 c4 c5 c6 c7 who, litB, usB (bldRun ⟨c1, c2, c3, c4, c5, c6, c7⟩ who sz true 30 0 (fun _ => 0) m).1 cap (bldRun ⟨c1, c2, c3, c4, c5, c6, c7⟩ who sz true 30 0 (fun _ => 0) m).2.1], 0 :: 3 :: 4 :: H.wr⟩
    | _ => False
  | _ => False

abbrev pbSt (c1 c2 c3 c4 c5 c6 c7 who : Int) (sz : Int) (b : Int) : Nat → Nat → (Nat → Int) → PMem → Int → Tm → List LB → Prop
  | 0, _, _, m, i, T, bl => T = pbTA sz b i ∧ bl = [.obj (.mem m), lawEnv c1 c2 c3 c4 c5 c6 c7 who, litB]
  | n + 1, cap, f, m, i, T, bl => T = pbTB sz b 3 (n + 1) cap i ∧ bl = [.obj (.mem m), lawEnv c1 c2 c3 c4 c5 c6 c7 who, litB, usB (n + 1) cap f]

theorem lh_pb_ok : BodyOK Tryz.prog (tmpsF Tryz.prog pbF) (.loop (loopF Tryz.prog pbF 0)) lh_pb := by
  refine loopR_ok (evC_ok fnOK mixed (evF_ok fnOK mixed ownK8_ok 10 20) _ (lo := noLo) 10 _ LoOK.no) ?_
  intro T H K h
  unfold lh_pb at h
  split at h
  case h_2 => exact h.elim
  rename_i x0 b sz i hT
  split at h
  case h_2 => exact h.elim
  rename_i x' m t c1 c2 c3 c4 c5 c6 c7 who t2 hH
  obtain ⟨⟨⟨rfl, rfl, rfl⟩, hne⟩, h⟩ := h
  have hl3 : H.bl.length = 3 := by rw [hH]; rfl
  rw [hl3]
  generalize hr : bldRun ⟨c1, c2, c3, c4, c5, c6, c7⟩ who sz true 30 0 (fun _ => 0) m = r at h hne
  refine ⟨[1, 5, 7, 8, 9], fun k T' H' => ∃ (j n cap : Nat) (f : Nat → Int) (m' : PMem), k = 30 - j ∧ j ≤ 30 ∧ n ≤ j ∧ pbSt c1 c2 c3 c4 c5 c6 c7 who sz b n cap f m' (j : Int) T' H'.bl ∧ (∀ k ∈ H'.wr, k ∈ 0 :: 3 :: 4 :: H.wr) ∧
    bldRun ⟨c1, c2, c3, c4, c5, c6, c7⟩ who sz true (30 - j) n f m' = r, ⟨30, 0, 0, 0, fun _ => 0, m, rfl, by omega, by omega, ⟨hT, hH⟩, fun k hk => by simp [hk], hr⟩, ?_⟩
  rintro k T' ⟨bl, wr⟩ ⟨j, n, cap, f, m, rfl, hj, hnj, hst, hwr, hrun⟩
  simp only at hwr
  have hi : IntKind.i64.wrap ((j : Int) + 1) = ((j + 1 : Nat) : Int) := by rw [IntKind.wrap_i64]; omega
  have sub : ∀ l : List Nat, (∀ k ∈ l, k = 0 ∨ k = 3 ∨ k = 4) → ∀ k ∈ l ++ wr, k ∈ 0 :: 3 :: 4 :: H.wr := by
    intro l hl k hk
    rcases List.mem_append.1 hk with hk | hk
    · rcases hl k hk with rfl | rfl | rfl <;> simp
    · exact hwr k hk
  by_cases hlt : j < 30
  · have h1 : decide ((j : Int) < 30) = true := by simp; omega
    obtain ⟨q, hq⟩ : ∃ q, 30 - j = q + 1 := ⟨30 - (j + 1), by omega⟩
    have hq' : q = 30 - (j + 1) := by omega
    rw [hq, bldRun_succ] at hrun
    cases n with
    | zero =>
      obtain ⟨rfl, hbl⟩ := hst
      simp only at hbl
      subst hbl
      rw [pbA_ev, h1]
      simp only [cond_true]
      cases hd : decide ((makeM ⟨c1, c2, c3, c4, c5, c6, c7⟩ who m sz false).1.e = 0) with
      | true =>
        rw [hd] at hrun
        simp only [Bool.not_true, Bool.and_false, cond_false] at hrun
        simp only [cond_true]
        refine ⟨⟨trivial, trivial⟩, fun more => ?_⟩
        refine ⟨30 - (j + 1), by omega, [0, 1, 2, 5], pbTB sz b 3 (0 + 1) (1 + more) ((j + 1 : Nat) : Int), ⟨[.obj (.mem (makeM ⟨c1, c2, c3, c4, c5, c6, c7⟩ who m sz false).2), lawEnv c1 c2 c3 c4 c5 c6 c7 who, litB, usB (0 + 1) (1 + more) (pushF 0 f (makeM ⟨c1, c2, c3, c4, c5, c6, c7⟩ who m sz false).1.h)], [3, 0] ++ wr⟩, ⟨rfl, ⟨⟨rfl, rfl⟩, ⟨rfl, rfl⟩, ⟨rfl, rfl⟩, ⟨rfl, rfl⟩, trivial⟩, ?_, fun _ hk => hk⟩, j + 1, 0 + 1, (1 + more), pushF 0 f (makeM ⟨c1, c2, c3, c4, c5, c6, c7⟩ who m sz false).1.h, (makeM ⟨c1, c2, c3, c4, c5, c6, c7⟩ who m sz false).2, rfl, by omega, by omega, ⟨rfl, rfl⟩, sub [3, 0] (by simp), by rw [← hq']; exact hrun⟩
        rw [hi]
        exact ⟨⟨rfl, rfl⟩, ⟨rfl, rfl⟩, ⟨rfl, rfl⟩, ⟨rfl, rfl⟩, ⟨rfl, rfl⟩, trivial⟩
      | false =>
        rw [hd] at hrun
        simp only [Bool.not_false, Bool.and_true, Bool.true_and, cond_true] at hrun
        simp only [cond_false]
        refine ⟨30 - (j + 1), by omega, [0, 1, 2], pbTA sz b ((j + 1 : Nat) : Int), ⟨[.obj (.mem (makeM ⟨c1, c2, c3, c4, c5, c6, c7⟩ who m sz false).2), lawEnv c1 c2 c3 c4 c5 c6 c7 who, litB], [3, 0] ++ wr⟩, ⟨rfl, ⟨⟨rfl, rfl⟩, ⟨rfl, rfl⟩, ⟨rfl, rfl⟩, trivial⟩, ?_, fun _ hk => hk⟩, j + 1, 0, 0, f, (makeM ⟨c1, c2, c3, c4, c5, c6, c7⟩ who m sz false).2, rfl, by omega, by omega, ⟨rfl, rfl⟩, sub [3, 0] (by simp), by rw [← hq']; exact hrun⟩
        rw [hi]
        exact ⟨⟨rfl, rfl⟩, ⟨rfl, rfl⟩, ⟨rfl, rfl⟩, ⟨rfl, rfl⟩, ⟨rfl, rfl⟩, trivial⟩
    | succ n =>
      obtain ⟨rfl, hbl⟩ := hst
      simp only at hbl
      subst hbl
      rw [pbB_ev, h1]
      simp only [cond_true]
      cases hd : decide ((makeM ⟨c1, c2, c3, c4, c5, c6, c7⟩ who m sz false).1.e = 0) with
      | true =>
        rw [hd] at hrun
        simp only [Bool.not_true, Bool.and_false, cond_false] at hrun
        simp only [cond_true]
        refine ⟨⟨⟨trivial, trivial⟩, by omega⟩, ?_⟩
        cases hc : decide (n + 1 + 1 ≤ cap) with
        | true =>
          simp only [cond_true]
          refine ⟨30 - (j + 1), by omega, [0, 1, 2, 3], pbTB sz b 3 ((n + 1) + 1) cap ((j + 1 : Nat) : Int), ⟨[.obj (.mem (makeM ⟨c1, c2, c3, c4, c5, c6, c7⟩ who m sz false).2), lawEnv c1 c2 c3 c4 c5 c6 c7 who, litB, usB ((n + 1) + 1) cap (pushF (n + 1) f (makeM ⟨c1, c2, c3, c4, c5, c6, c7⟩ who m sz false).1.h)], [3, 4, 0] ++ wr⟩, ⟨rfl, ⟨⟨rfl, rfl⟩, ⟨rfl, rfl⟩, ⟨rfl, rfl⟩, ⟨rfl, rfl⟩, trivial⟩, ?_, fun _ hk => hk⟩, j + 1, (n + 1) + 1, cap, pushF (n + 1) f (makeM ⟨c1, c2, c3, c4, c5, c6, c7⟩ who m sz false).1.h, (makeM ⟨c1, c2, c3, c4, c5, c6, c7⟩ who m sz false).2, rfl, by omega, by omega, ⟨rfl, rfl⟩, sub [3, 4, 0] (by simp), by rw [← hq']; exact hrun⟩
          rw [hi]
          exact ⟨⟨rfl, rfl⟩, ⟨rfl, rfl⟩, ⟨rfl, rfl⟩, ⟨rfl, rfl⟩, ⟨rfl, rfl⟩, trivial⟩
        | false =>
          simp only [cond_false]
          intro more
          refine ⟨30 - (j + 1), by omega, [0, 1, 2, 6], pbTB sz b 3 ((n + 1) + 1) (n + 1 + 1 + more) ((j + 1 : Nat) : Int), ⟨[.obj (.mem (makeM ⟨c1, c2, c3, c4, c5, c6, c7⟩ who m sz false).2), lawEnv c1 c2 c3 c4 c5 c6 c7 who, litB, usB ((n + 1) + 1) (n + 1 + 1 + more) (pushF (n + 1) f (makeM ⟨c1, c2, c3, c4, c5, c6, c7⟩ who m sz false).1.h)], [4, 0] ++ wr⟩, ⟨rfl, ⟨⟨rfl, rfl⟩, ⟨rfl, rfl⟩, ⟨rfl, rfl⟩, ⟨rfl, rfl⟩, trivial⟩, ?_, fun _ hk => hk⟩, j + 1, (n + 1) + 1, (n + 1 + 1 + more), pushF (n + 1) f (makeM ⟨c1, c2, c3, c4, c5, c6, c7⟩ who m sz false).1.h, (makeM ⟨c1, c2, c3, c4, c5, c6, c7⟩ who m sz false).2, rfl, by omega, by omega, ⟨rfl, rfl⟩, sub [4, 0] (by simp), by rw [← hq']; exact hrun⟩
          rw [hi]
          exact ⟨⟨rfl, rfl⟩, ⟨rfl, rfl⟩, ⟨rfl, rfl⟩, ⟨rfl, rfl⟩, ⟨rfl, rfl⟩, trivial⟩
      | false =>
        rw [hd] at hrun
        simp only [Bool.not_false, Bool.and_true, Bool.true_and, cond_true] at hrun
        simp only [cond_false]
        refine ⟨30 - (j + 1), by omega, [0, 1, 2, 3], pbTB sz b 3 (n + 1) cap ((j + 1 : Nat) : Int), ⟨[.obj (.mem (makeM ⟨c1, c2, c3, c4, c5, c6, c7⟩ who m sz false).2), lawEnv c1 c2 c3 c4 c5 c6 c7 who, litB, usB (n + 1) cap f], [4, 0] ++ wr⟩, ⟨rfl, ⟨⟨rfl, rfl⟩, ⟨rfl, rfl⟩, ⟨rfl, rfl⟩, ⟨rfl, rfl⟩, trivial⟩, ?_, fun _ hk => hk⟩, j + 1, n + 1, cap, f, (makeM ⟨c1, c2, c3, c4, c5, c6, c7⟩ who m sz false).2, rfl, by omega, by omega, ⟨rfl, rfl⟩, sub [4, 0] (by simp), by rw [← hq']; exact hrun⟩
        rw [hi]
        exact ⟨⟨rfl, rfl⟩, ⟨rfl, rfl⟩, ⟨rfl, rfl⟩, ⟨rfl, rfl⟩, ⟨rfl, rfl⟩, trivial⟩
  · have h1 : decide ((j : Int) < 30) = false := by simp; omega
    have hz : 30 - j = 0 := by omega
    rw [hz, bldRun_zero] at hrun
    subst hrun
    cases n with
    | zero => cases hne
    | succ n =>
      obtain ⟨rfl, hbl⟩ := hst
      simp only at hbl
      subst hbl
      rw [pbB_ev, h1]
      simp only [cond_false]
      exact ⟨[0, 1, 2, 3], [(1, .c (.int .i64 b)), (5, .c (.ptr 1 0)), (7, .c (.int .i64 sz)), (8, .c (.slice 3 0 (n + 1) cap))], ⟨[.obj (.mem m), lawEnv c1 c2 c3 c4 c5 c6 c7 who, litB, usB (n + 1) cap f], 0 :: 3 :: 4 :: H.wr⟩, ⟨rfl, ⟨⟨rfl, rfl⟩, ⟨rfl, rfl⟩, ⟨rfl, rfl⟩, ⟨rfl, rfl⟩, trivial⟩, ⟨⟨rfl, rfl⟩, ⟨rfl, rfl⟩, ⟨rfl, rfl⟩, ⟨rfl, rfl⟩, trivial⟩, hwr⟩, h cap⟩

abbrev abF : FuncId := 10
abbrev abTA (i : Int) : Tm := [(1, .c (.ptr 1 0)), (3, .c (.slice 2 0 0 0)), (4, .c (cI i))]
abbrev abTB (k n cap : Nat) (i : Int) : Tm := [(1, .c (.ptr 1 0)), (3, .c (.slice k 0 n cap)), (4, .c (cI i))]

theorem abA_ev (c1 c2 c3 c4 c5 c6 c7 who : Int) (i : Int) (m : PMem) (wr : List Nat) (k : X → Tm → LH → Prop) :
    evC Tryz.prog (evF Tryz.prog ownK8 10 20) (tmpsF Tryz.prog abF) noLo 10 (loopF Tryz.prog abF 0) (abTA i) ⟨[.obj (.mem m), lawEnv c1 c2 c3 c4 c5 c6 c7 who, litB], wr⟩ (fun x T H => k x (Tm.norm [1, 3, 4] T) H) =
    (bif decide (i < 7) then (((0 : Nat) = 0 ∧ (0 : Nat) = 0) ∧ ∀ more : Nat, k .normal (abTB 4 1 (1 + more) (IntKind.wrap .i64 (i + 1))) ⟨[.obj (.mem (makeM ⟨c1, c2, c3, c4, c5, c6, c7⟩ who m 2 false).2), lawEnv c1 c2 c3 c4 c5 c6 c7 who, litB, .cells 32 [cU (makeM ⟨c1, c2, c3, c4, c5, c6, c7⟩ who m 2 false).1.h], usB 1 (1 + more) (fun _ => (makeM ⟨c1, c2, c3, c4, c5, c6, c7⟩ who m 2 false).1.h)], 0 :: wr⟩)
      
    else k (.exit 0) (abTA i) ⟨[.obj (.mem m), lawEnv c1 c2 c3 c4 c5 c6 c7 who, litB], wr⟩) := by kernel_rfl

theorem abB_ev (c1 c2 c3 c4 c5 c6 c7 who : Int) (i : Int) (n cap : Nat) (f : Nat → Int) (m : PMem) (wr : List Nat) (k : X → Tm → LH → Prop) :
    evC Tryz.prog (evF Tryz.prog ownK8 10 20) (tmpsF Tryz.prog abF) noLo 10 (loopF Tryz.prog abF 0) (abTB 3 n cap i) ⟨[.obj (.mem m), lawEnv c1 c2 c3 c4 c5 c6 c7 who, litB, usB n cap f], wr⟩ (fun x T H => k x (Tm.norm [1, 3, 4] T) H) =
    (bif decide (i < 7) then (((n = n ∧ cap = cap) ∧ n ≤ 1048576) ∧ bif decide (n + 1 ≤ cap) then
        k .normal (abTB 3 (n + 1) cap (IntKind.wrap .i64 (i + 1))) ⟨[.obj (.mem (makeM ⟨c1, c2, c3, c4, c5, c6, c7⟩ who m 2 false).2), lawEnv c1 c2 c3 c4 c5 c6 c7 who, litB, usB (n + 1) cap (fun j => bif Nat.beq j (n) then (makeM ⟨c1, c2, c3, c4, c5, c6, c7⟩ who m 2 false).1.h else f j), .cells 32 [cU (makeM ⟨c1, c2, c3, c4, c5, c6, c7⟩ who m 2 false).1.h]], 3 :: 0 :: wr⟩
        else ∀ more : Nat, k .normal (abTB 5 (n + 1) (n + 1 + more) (IntKind.wrap .i64 (i + 1))) ⟨[.obj (.mem (makeM ⟨c1, c2, c3, c4, c5, c6, c7⟩ who m 2 false).2), lawEnv c1 c2 c3 c4 c5 c6 c7 who, litB, usB n cap f, .cells 32 [cU (makeM ⟨c1, c2, c3, c4, c5, c6, c7⟩ who m 2 false).1.h], usB (n + 1) (n + 1 + more) (fun j => bif Nat.beq j (n) then (makeM ⟨c1, c2, c3, c4, c5, c6, c7⟩ who m 2 false).1.h else f j)], 0 :: wr⟩)
      
    else k (.exit 0) (abTB 3 n cap i) ⟨[.obj (.mem m), lawEnv c1 c2 c3 c4 c5 c6 c7 who, litB, usB n cap f], wr⟩) := by kernel_rfl

def lh_ab : LHd := fun T H K => match Tm.norm [1, 3, 4] T with
  | [(1, .c (.ptr 1 0)), (3, .c (.slice 2 0 0 0)), (4, .c (.int .i64 i))] => match H.bl with
    | [.obj (.mem m), .cells t [.int .i64 c1, .int .i64 c2, .int .i64 c3, .int .i64 c4, .int .i64 c5, .int .i64 c6, .int .i64 c7, .ptr 0 0, .int .i64 who], .cells t2 []] =>
      ((t = 27 ∧ t2 = 32 ∧ i = 0) ∧ Nat.beq (bldRun ⟨c1, c2, c3, c4, c5, c6, c7⟩ who 2 false 7 0 (fun _ => 0) m).1 0 = false) ∧
      ∀ cap : Nat, K (.exit 0) [(1, .c (.ptr 1 0)), (3, .c (.slice 3 0 (bldRun ⟨c1, c2, c3, c4, c5, c6, c7⟩ who 2 false 7 0 (fun _ => 0) m).1 cap))]
        ⟨[.obj (.mem (bldRun ⟨c1, c2, c3, c4, c5, c6, c7⟩ who 2 false 7 0 (fun _ => 0) m).2.2), lawEnv c1 c2 c3 c4 c5 c6 c7 who, litB, usB (bldRun ⟨c1, c2, c3, c4, c5, c6, c7⟩ who 2 false 7 0 (fun _ => 0) m).1 cap (bldRun ⟨c1, c2, c3, c4, c5, c6, c7⟩ who 2 false 7 0 (fun _ => 0) m).2.1], 0 :: 3 :: 4 :: H.wr⟩
    | _ => False
  | _ => False

abbrev abSt (c1 c2 c3 c4 c5 c6 c7 who : Int) : Nat → Nat → (Nat → Int) → PMem → Int → Tm → List LB → Prop
  | 0, _, _, m, i, T, bl => T = abTA i ∧ bl = [.obj (.mem m), lawEnv c1 c2 c3 c4 c5 c6 c7 who, litB]
  | n + 1, cap, f, m, i, T, bl => T = abTB 3 (n + 1) cap i ∧ bl = [.obj (.mem m), lawEnv c1 c2 c3 c4 c5 c6 c7 who, litB, usB (n + 1) cap f]

theorem lh_ab_ok : BodyOK Tryz.prog (tmpsF Tryz.prog abF) (.loop (loopF Tryz.prog abF 0)) lh_ab := by
  refine loopR_ok (evC_ok fnOK mixed (evF_ok fnOK mixed ownK8_ok 10 20) _ (lo := noLo) 10 _ LoOK.no) ?_
  intro T H K h
  unfold lh_ab at h
  split at h
  case h_2 => exact h.elim
  rename_i x0 i hT
  split at h
  case h_2 => exact h.elim
  rename_i x' m t c1 c2 c3 c4 c5 c6 c7 who t2 hH
  obtain ⟨⟨⟨rfl, rfl, rfl⟩, hne⟩, h⟩ := h
  have hl3 : H.bl.length = 3 := by rw [hH]; rfl
  rw [hl3]
  generalize hr : bldRun ⟨c1, c2, c3, c4, c5, c6, c7⟩ who 2 false 7 0 (fun _ => 0) m = r at h hne
  refine ⟨[1, 3, 4], fun k T' H' => ∃ (j n cap : Nat) (f : Nat → Int) (m' : PMem), k = 7 - j ∧ j ≤ 7 ∧ n ≤ j ∧ abSt c1 c2 c3 c4 c5 c6 c7 who n cap f m' (j : Int) T' H'.bl ∧ (∀ k ∈ H'.wr, k ∈ 0 :: 3 :: 4 :: H.wr) ∧
    bldRun ⟨c1, c2, c3, c4, c5, c6, c7⟩ who 2 false (7 - j) n f m' = r, ⟨7, 0, 0, 0, fun _ => 0, m, rfl, by omega, by omega, ⟨hT, hH⟩, fun k hk => by simp [hk], hr⟩, ?_⟩
  rintro k T' ⟨bl, wr⟩ ⟨j, n, cap, f, m, rfl, hj, hnj, hst, hwr, hrun⟩
  simp only at hwr
  have hi : IntKind.i64.wrap ((j : Int) + 1) = ((j + 1 : Nat) : Int) := by rw [IntKind.wrap_i64]; omega
  have sub : ∀ l : List Nat, (∀ k ∈ l, k = 0 ∨ k = 3 ∨ k = 4) → ∀ k ∈ l ++ wr, k ∈ 0 :: 3 :: 4 :: H.wr := by
    intro l hl k hk
    rcases List.mem_append.1 hk with hk | hk
    · rcases hl k hk with rfl | rfl | rfl <;> simp
    · exact hwr k hk
  by_cases hlt : j < 7
  · have h1 : decide ((j : Int) < 7) = true := by simp; omega
    obtain ⟨q, hq⟩ : ∃ q, 7 - j = q + 1 := ⟨7 - (j + 1), by omega⟩
    have hq' : q = 7 - (j + 1) := by omega
    rw [hq, bldRun_succ] at hrun
    cases n with
    | zero =>
      obtain ⟨rfl, hbl⟩ := hst
      simp only at hbl
      subst hbl
      rw [abA_ev, h1]
      simp only [cond_true]
      simp only [Bool.false_and, cond_false] at hrun
      refine ⟨⟨trivial, trivial⟩, fun more => ?_⟩
      refine ⟨7 - (j + 1), by omega, [0, 1, 2, 4], abTB 3 (0 + 1) (1 + more) ((j + 1 : Nat) : Int), ⟨[.obj (.mem (makeM ⟨c1, c2, c3, c4, c5, c6, c7⟩ who m 2 false).2), lawEnv c1 c2 c3 c4 c5 c6 c7 who, litB, usB (0 + 1) (1 + more) (pushF 0 f (makeM ⟨c1, c2, c3, c4, c5, c6, c7⟩ who m 2 false).1.h)], [0] ++ wr⟩, ⟨rfl, ⟨⟨rfl, rfl⟩, ⟨rfl, rfl⟩, ⟨rfl, rfl⟩, ⟨rfl, rfl⟩, trivial⟩, ?_, fun _ hk => hk⟩, j + 1, 0 + 1, (1 + more), pushF 0 f (makeM ⟨c1, c2, c3, c4, c5, c6, c7⟩ who m 2 false).1.h, (makeM ⟨c1, c2, c3, c4, c5, c6, c7⟩ who m 2 false).2, rfl, by omega, by omega, ⟨rfl, rfl⟩, sub [0] (by simp), by rw [← hq']; exact hrun⟩
      rw [hi]
      exact ⟨⟨rfl, rfl⟩, ⟨rfl, rfl⟩, ⟨rfl, rfl⟩, trivial⟩
    | succ n =>
      obtain ⟨rfl, hbl⟩ := hst
      simp only at hbl
      subst hbl
      rw [abB_ev, h1]
      simp only [cond_true]
      simp only [Bool.false_and, cond_false] at hrun
      refine ⟨⟨⟨trivial, trivial⟩, by omega⟩, ?_⟩
      cases hc : decide (n + 1 + 1 ≤ cap) with
      | true =>
        simp only [cond_true]
        refine ⟨7 - (j + 1), by omega, [0, 1, 2, 3], abTB 3 ((n + 1) + 1) cap ((j + 1 : Nat) : Int), ⟨[.obj (.mem (makeM ⟨c1, c2, c3, c4, c5, c6, c7⟩ who m 2 false).2), lawEnv c1 c2 c3 c4 c5 c6 c7 who, litB, usB ((n + 1) + 1) cap (pushF (n + 1) f (makeM ⟨c1, c2, c3, c4, c5, c6, c7⟩ who m 2 false).1.h)], [3, 0] ++ wr⟩, ⟨rfl, ⟨⟨rfl, rfl⟩, ⟨rfl, rfl⟩, ⟨rfl, rfl⟩, ⟨rfl, rfl⟩, trivial⟩, ?_, fun _ hk => hk⟩, j + 1, (n + 1) + 1, cap, pushF (n + 1) f (makeM ⟨c1, c2, c3, c4, c5, c6, c7⟩ who m 2 false).1.h, (makeM ⟨c1, c2, c3, c4, c5, c6, c7⟩ who m 2 false).2, rfl, by omega, by omega, ⟨rfl, rfl⟩, sub [3, 0] (by simp), by rw [← hq']; exact hrun⟩
        rw [hi]
        exact ⟨⟨rfl, rfl⟩, ⟨rfl, rfl⟩, ⟨rfl, rfl⟩, trivial⟩
      | false =>
        simp only [cond_false]
        intro more
        refine ⟨7 - (j + 1), by omega, [0, 1, 2, 5], abTB 3 ((n + 1) + 1) (n + 1 + 1 + more) ((j + 1 : Nat) : Int), ⟨[.obj (.mem (makeM ⟨c1, c2, c3, c4, c5, c6, c7⟩ who m 2 false).2), lawEnv c1 c2 c3 c4 c5 c6 c7 who, litB, usB ((n + 1) + 1) (n + 1 + 1 + more) (pushF (n + 1) f (makeM ⟨c1, c2, c3, c4, c5, c6, c7⟩ who m 2 false).1.h)], [0] ++ wr⟩, ⟨rfl, ⟨⟨rfl, rfl⟩, ⟨rfl, rfl⟩, ⟨rfl, rfl⟩, ⟨rfl, rfl⟩, trivial⟩, ?_, fun _ hk => hk⟩, j + 1, (n + 1) + 1, (n + 1 + 1 + more), pushF (n + 1) f (makeM ⟨c1, c2, c3, c4, c5, c6, c7⟩ who m 2 false).1.h, (makeM ⟨c1, c2, c3, c4, c5, c6, c7⟩ who m 2 false).2, rfl, by omega, by omega, ⟨rfl, rfl⟩, sub [0] (by simp), by rw [← hq']; exact hrun⟩
        rw [hi]
        exact ⟨⟨rfl, rfl⟩, ⟨rfl, rfl⟩, ⟨rfl, rfl⟩, trivial⟩
  · have h1 : decide ((j : Int) < 7) = false := by simp; omega
    have hz : 7 - j = 0 := by omega
    rw [hz, bldRun_zero] at hrun
    subst hrun
    cases n with
    | zero => cases hne
    | succ n =>
      obtain ⟨rfl, hbl⟩ := hst
      simp only at hbl
      subst hbl
      rw [abB_ev, h1]
      simp only [cond_false]
      exact ⟨[0, 1, 2, 3], [(1, .c (.ptr 1 0)), (3, .c (.slice 3 0 (n + 1) cap))], ⟨[.obj (.mem m), lawEnv c1 c2 c3 c4 c5 c6 c7 who, litB, usB (n + 1) cap f], 0 :: 3 :: 4 :: H.wr⟩, ⟨rfl, ⟨⟨rfl, rfl⟩, ⟨rfl, rfl⟩, ⟨rfl, rfl⟩, ⟨rfl, rfl⟩, trivial⟩, ⟨⟨rfl, rfl⟩, ⟨rfl, rfl⟩, trivial⟩, hwr⟩, h cap⟩

abbrev adF : FuncId := 10
abbrev adT (n cap : Nat) (i : Int) : Tm := [(1, .c (.ptr 1 0)), (3, .c (.slice 3 0 n cap)), (5, .c (cI i))]

theorem ad_ev (c1 c2 c3 c4 c5 c6 c7 who : Int) (i : Int) (n cap : Nat) (f : Nat → Int) (m : PMem) (wr : List Nat) (k : X → Tm → LH → Prop) :
    evC Tryz.prog (evF Tryz.prog ownK8 10 20) (tmpsF Tryz.prog adF) noLo 10 (loopF Tryz.prog adF 1) (adT n cap i) ⟨[.obj (.mem m), lawEnv c1 c2 c3 c4 c5 c6 c7 who, litB, usB n cap f], wr⟩ (fun x T H => k x (Tm.norm [1, 3, 5] T) H) =
    (bif decide (i < 6) then bif decide (0 ≤ i ∧ i < (n : Int)) then (i.toNat < n) ∧ bif decide (c4 = 0) then False else
        k .normal (adT n cap (IntKind.wrap .i64 (i + 1))) ⟨[.obj (.mem (dropdM ⟨c1, c2, c3, c4, c5, c6, c7⟩ who m (f i.toNat) false).2), lawEnv c1 c2 c3 c4 c5 c6 c7 who, litB, usB n cap f], 0 :: wr⟩ else False
    else k (.exit 2) (adT n cap i) ⟨[.obj (.mem m), lawEnv c1 c2 c3 c4 c5 c6 c7 who, litB, usB n cap f], wr⟩) := by kernel_rfl

def lh_ad : LHd := fun T H K => match Tm.norm [1, 3, 5] T with
  | [(1, .c (.ptr 1 0)), (3, .c (.slice 3 0 n cap)), (5, .c (.int .i64 i))] => match H.bl with
    | [.obj (.mem m), .cells t [.int .i64 c1, .int .i64 c2, .int .i64 c3, .int .i64 c4, .int .i64 c5, .int .i64 c6, .int .i64 c7, .ptr 0 0, .int .i64 who], .cells t2 [], .rows t3 1 n2 cap2 [.int .u64 f]] =>
      ((t = 27 ∧ t2 = 32 ∧ t3 = 32 ∧ i = 0 ∧ n2 = n ∧ cap2 = cap) ∧ Nat.ble 6 n = true ∧ n ≤ 1048576) ∧ (match decide (c4 = 0) with
      | true => False
      | false => K (.exit 2) [(1, .c (.ptr 1 0)), (3, .c (.slice 3 0 n cap))] ⟨[.obj (.mem (dropRun2 ⟨c1, c2, c3, c4, c5, c6, c7⟩ who f (6 - 0) 0 m)), lawEnv c1 c2 c3 c4 c5 c6 c7 who, litB, usB n cap f], 0 :: H.wr⟩)
    | _ => False
  | _ => False

theorem lh_ad_ok : BodyOK Tryz.prog (tmpsF Tryz.prog adF) (.loop (loopF Tryz.prog adF 1)) lh_ad := by
  refine loopN_ok (evC_ok fnOK mixed (evF_ok fnOK mixed ownK8_ok 10 20) _ (lo := noLo) 10 _ LoOK.no) ?_
  intro T H K h
  unfold lh_ad at h
  split at h
  case h_2 => exact h.elim
  rename_i x0 n cap i hT
  split at h
  case h_2 => exact h.elim
  rename_i x' m t c1 c2 c3 c4 c5 c6 c7 who t2 t3 n2 cap2 f hH
  obtain ⟨⟨⟨rfl, rfl, rfl, rfl, rfl, rfl⟩, hbn, hn⟩, h⟩ := h
  split at h
  · exact h.elim
  rename_i hc4
  have hbn := Nat.le_of_ble_eq_true hbn
  generalize hr : dropRun2 ⟨c1, c2, c3, c4, c5, c6, c7⟩ who f (6 - 0) 0 m = r at h
  refine ⟨[1, 3, 5], [1, 3], fun k T' H' => ∃ (j : Nat) (m' : PMem), k = 6 - j ∧ 0 ≤ j ∧ (j ≤ 6 ∨ j = 0) ∧ T' = adT n2 cap2 (j : Int) ∧ H'.bl = [.obj (.mem m'), lawEnv c1 c2 c3 c4 c5 c6 c7 who, litB, usB n2 cap2 f] ∧ (∀ k ∈ H'.wr, k ∈ 0 :: H.wr) ∧
    dropRun2 ⟨c1, c2, c3, c4, c5, c6, c7⟩ who f (6 - j) j m' = r, ⟨6 - 0, 0, m, rfl, by omega, by omega, hT, hH, fun k hk => by simp [hk], hr⟩, ?_⟩
  rintro k T' ⟨bl, wr⟩ ⟨j, m', rfl, hj0, hj, rfl, hbl, hwr, hrun⟩
  simp only at hbl hwr
  subst hbl
  rw [ad_ev]
  have hi : IntKind.i64.wrap ((j : Int) + 1) = ((j + 1 : Nat) : Int) := by rw [IntKind.wrap_i64]; omega
  by_cases hlt : j < 6
  · have h1 : decide ((j : Int) < 6) = true := by simp; omega
    have h2 : decide (0 ≤ (j : Int) ∧ (j : Int) < (n2 : Int)) = true := by simp; omega
    obtain ⟨q, hq⟩ : ∃ q, 6 - j = q + 1 := ⟨6 - (j + 1), by omega⟩
    have hq' : q = 6 - (j + 1) := by omega
    rw [hq, dropRun2_succ] at hrun
    rw [h1, h2, hc4]
    simp only [cond_true, cond_false, Int.toNat_natCast]
    refine ⟨by omega, 6 - (j + 1), by omega, j + 1, _, rfl, by omega, by omega, by rw [hi], rfl, ?_, by rw [← hq']; exact hrun⟩
    intro k hk
    rcases List.mem_cons.1 hk with rfl | hk
    · simp
    · exact hwr k hk
  · have h1 : decide ((j : Int) < 6) = false := by simp; omega
    rw [h1]
    simp only [cond_false]
    have hz : 6 - j = 0 := by omega
    rw [hz, dropRun2_zero] at hrun
    subst hrun
    exact ⟨0 :: H.wr, hwr, h⟩

abbrev pdF : FuncId := 5
abbrev pdT (b : Int) (n cap : Nat) (i : Int) : Tm := [(1, .c (.int .i64 b)), (5, .c (.ptr 1 0)), (8, .c (.slice 3 0 n cap)), (13, .c (cI i))]

theorem pd_ev (c1 c2 c3 c4 c5 c6 c7 who : Int) (b : Int) (bi : LB) (i : Int) (n cap : Nat) (f : Nat → Int) (m : PMem) (wr : List Nat) (k : X → Tm → LH → Prop) :
    evC Tryz.prog (evF Tryz.prog ownK8 10 20) (tmpsF Tryz.prog pdF) noLo 10 (loopF Tryz.prog pdF 2) (pdT b n cap i) ⟨[.obj (.mem m), lawEnv c1 c2 c3 c4 c5 c6 c7 who, litB, usB n cap f, bi], wr⟩ (fun x T H => k x (Tm.norm [1, 5, 8, 13] T) H) =
    (bif decide (i < (n : Int)) then bif decide (0 ≤ i ∧ i < (n : Int)) then (i.toNat < n) ∧ bif decide (c4 = 0) then False else
        k .normal (pdT b n cap (IntKind.wrap .i64 (i + 1))) ⟨[.obj (.mem (dropdM ⟨c1, c2, c3, c4, c5, c6, c7⟩ who m (f i.toNat) false).2), lawEnv c1 c2 c3 c4 c5 c6 c7 who, litB, usB n cap f, bi], 0 :: wr⟩ else False
    else k (.exit 4) (pdT b n cap i) ⟨[.obj (.mem m), lawEnv c1 c2 c3 c4 c5 c6 c7 who, litB, usB n cap f, bi], wr⟩) := by kernel_rfl

def lh_pd : LHd := fun T H K => match Tm.norm [1, 5, 8, 13] T with
  | [(1, .c (.int .i64 b)), (5, .c (.ptr 1 0)), (8, .c (.slice 3 0 n cap)), (13, .c (.int .i64 i))] => match H.bl with
    | [.obj (.mem m), .cells t [.int .i64 c1, .int .i64 c2, .int .i64 c3, .int .i64 c4, .int .i64 c5, .int .i64 c6, .int .i64 c7, .ptr 0 0, .int .i64 who], .cells t2 [], .rows t3 1 n2 cap2 [.int .u64 f], bi] =>
      ((t = 27 ∧ t2 = 32 ∧ t3 = 32 ∧ i = 0 ∧ n2 = n ∧ cap2 = cap) ∧ n ≤ 1048576) ∧ (match decide (c4 = 0) with
      | true => False
      | false => K (.exit 4) [(1, .c (.int .i64 b)), (5, .c (.ptr 1 0)), (8, .c (.slice 3 0 n cap))] ⟨[.obj (.mem (dropRun2 ⟨c1, c2, c3, c4, c5, c6, c7⟩ who f (n - 0) 0 m)), lawEnv c1 c2 c3 c4 c5 c6 c7 who, litB, usB n cap f, bi], 0 :: H.wr⟩)
    | _ => False
  | _ => False

theorem lh_pd_ok : BodyOK Tryz.prog (tmpsF Tryz.prog pdF) (.loop (loopF Tryz.prog pdF 2)) lh_pd := by
  refine loopN_ok (evC_ok fnOK mixed (evF_ok fnOK mixed ownK8_ok 10 20) _ (lo := noLo) 10 _ LoOK.no) ?_
  intro T H K h
  unfold lh_pd at h
  split at h
  case h_2 => exact h.elim
  rename_i x0 b n cap i hT
  split at h
  case h_2 => exact h.elim
  rename_i x' m t c1 c2 c3 c4 c5 c6 c7 who t2 t3 n2 cap2 f bi hH
  obtain ⟨⟨⟨rfl, rfl, rfl, rfl, rfl, rfl⟩, hn⟩, h⟩ := h
  split at h
  · exact h.elim
  rename_i hc4
  skip
  generalize hr : dropRun2 ⟨c1, c2, c3, c4, c5, c6, c7⟩ who f (n2 - 0) 0 m = r at h
  refine ⟨[1, 5, 8, 13], [1, 5, 8], fun k T' H' => ∃ (j : Nat) (m' : PMem), k = n2 - j ∧ 0 ≤ j ∧ (j ≤ n2 ∨ j = 0) ∧ T' = pdT b n2 cap2 (j : Int) ∧ H'.bl = [.obj (.mem m'), lawEnv c1 c2 c3 c4 c5 c6 c7 who, litB, usB n2 cap2 f, bi] ∧ (∀ k ∈ H'.wr, k ∈ 0 :: H.wr) ∧
    dropRun2 ⟨c1, c2, c3, c4, c5, c6, c7⟩ who f (n2 - j) j m' = r, ⟨n2 - 0, 0, m, rfl, by omega, by omega, hT, hH, fun k hk => by simp [hk], hr⟩, ?_⟩
  rintro k T' ⟨bl, wr⟩ ⟨j, m', rfl, hj0, hj, rfl, hbl, hwr, hrun⟩
  simp only at hbl hwr
  subst hbl
  rw [pd_ev]
  have hi : IntKind.i64.wrap ((j : Int) + 1) = ((j + 1 : Nat) : Int) := by rw [IntKind.wrap_i64]; omega
  by_cases hlt : j < n2
  · have h1 : decide ((j : Int) < (n2 : Int)) = true := by simp; omega
    have h2 : decide (0 ≤ (j : Int) ∧ (j : Int) < (n2 : Int)) = true := by simp; omega
    obtain ⟨q, hq⟩ : ∃ q, n2 - j = q + 1 := ⟨n2 - (j + 1), by omega⟩
    have hq' : q = n2 - (j + 1) := by omega
    rw [hq, dropRun2_succ] at hrun
    rw [h1, h2, hc4]
    simp only [cond_true, cond_false, Int.toNat_natCast]
    refine ⟨by omega, n2 - (j + 1), by omega, j + 1, _, rfl, by omega, by omega, by rw [hi], rfl, ?_, by rw [← hq']; exact hrun⟩
    intro k hk
    rcases List.mem_cons.1 hk with rfl | hk
    · simp
    · exact hwr k hk
  · have h1 : decide ((j : Int) < (n2 : Int)) = false := by simp; omega
    rw [h1]
    simp only [cond_false]
    have hz : n2 - j = 0 := by omega
    rw [hz, dropRun2_zero] at hrun
    subst hrun
    exact ⟨0 :: H.wr, hwr, h⟩

end Go.Proofs.YtfjnkneoddankaaGreat

/-
  A chunk of which nothing lives is free in the end: the laws' own watch.
-/
set_option linter.unusedVariables false
set_option linter.unusedSimpArgs false
set_option maxRecDepth 100000
set_option linter.unusedSectionVars false
namespace Go.Proofs.YtfjnkneoddankaaGreat
open Go Go.FL Go.Proofs
variable [Go.FL.Fz]

abbrev awC : PCfg := ⟨1, 20, 4, 20, 100, 600, 3⟩
def awB : Nat × (Nat → Int) × PMem := bldRun awC 0 2 false 7 0 (fun _ => 0) (arM 1 20 4 20)
def awD : PMem := dropRun2 awC 0 awB.2.1 6 0 awB.2.2

def awLo : Nat → Option LHd := fun k => match Nat.beq k 6 with
  | true => some lh_ab
  | false => some lh_ad

theorem awLoOK : LoOK Tryz.prog (tmpsF Tryz.prog 10) awLo (loopsF Tryz.prog 10) := by
  have h : loopsF Tryz.prog abF = [loopF Tryz.prog abF 0, loopF Tryz.prog abF 1] := by kernel_rfl
  have h0 : awLo (keyC (loopF Tryz.prog abF 0)) = some lh_ab := by kernel_rfl
  have h1 : awLo (keyC (loopF Tryz.prog abF 1)) = some lh_ad := by kernel_rfl
  show LoOK Tryz.prog (tmpsF Tryz.prog abF) awLo (loopsF Tryz.prog abF)
  rw [h]
  intro c hc hd he
  rcases List.mem_cons.1 hc with rfl | hc
  · rw [h0] at he; cases he; exact lh_ab_ok
  · have hc : c = loopF Tryz.prog abF 1 := by simpa using hc
    subst hc
    rw [h1] at he; cases he; exact lh_ad_ok

theorem awake_ev (K : Bool → Prop) : evL Tryz.prog ownK8 awLo 10 20 10 [] ⟨[], []⟩ (fun v _ => match v with | .c (.bool x) => K x | _ => False) =
    (((27 = 27 ∧ 32 = 32 ∧ (0 : Int) = 0) ∧ Nat.beq awB.1 0 = false) ∧ ∀ cap : Nat,
      ((27 = 27 ∧ 32 = 32 ∧ 32 = 32 ∧ (0 : Int) = 0 ∧ awB.1 = awB.1 ∧ cap = cap) ∧ Nat.ble 6 awB.1 = true ∧ awB.1 ≤ 1048576) ∧
      ((((0 : Int) ≤ 4 ∧ (4 : Int) ≤ 1000) ∧ roundsOk awC 4 comp0 awD = true) ∧ ∀ cap' : Nat, K true)) := by kernel_rfl

theorem aw_holds (K : Bool → Prop) (h : K true) : evL Tryz.prog ownK8 awLo 10 20 10 [] ⟨[], []⟩ (fun v _ => match v with | .c (.bool x) => K x | _ => False) := by
  have a1 : Nat.beq awB.1 0 = false := by kernel_rfl
  have a2 : Nat.ble 6 awB.1 = true := by kernel_rfl
  have a3 : Nat.ble awB.1 1048576 = true := by kernel_rfl
  have a4 : roundsOk awC 4 comp0 awD = true := by kernel_rfl
  exact (awake_ev K).mpr ⟨⟨⟨rfl, rfl, rfl⟩, a1⟩, fun cap => ⟨⟨⟨rfl, rfl, rfl, rfl, rfl, rfl⟩, a2, Nat.le_of_ble_eq_true a3⟩, ⟨⟨by decide, by decide⟩, a4⟩, fun _ => h⟩⟩

def h_awake : Hd := fun args H K => match args with
  | [] => K (.c (.bool true)) H
  | _ => False

theorem h_awake_ok : HOK 10 h_awake := by
  intro args H K h
  unfold h_awake at h
  split at h
  case h_2 => exact h.elim
  refine objs_of (ns := []) (xs := []) rfl (by simp) List.nodup_nil (args₁ := []) (fun s s₁ vs _ h => RelVs.low rfl h) (evL_ok fnOK mixed ownK8_ok awLoOK (aw_holds (fun x => K (.c (.bool x)) H) h)) ?_
  intro v H₁ hk
  split at hk
  · exact ⟨[], [], [], [], _, rfl, trivial, trivial, fun s₁ s' v' _ _ hr => RelV.low rfl hr, hk⟩
  · exact hk.elim

def tabK9 : List (FuncId × Hd) := (10, h_awake) :: tabK8
def ownK9 : FuncId → Option Hd := look tabK9
theorem allK9 : AllOK tabK9 := ⟨h_awake_ok, allK8⟩
theorem ownK9_ok : OwnOK Tryz.prog ownK9 := look_ok allK9

end Go.Proofs.YtfjnkneoddankaaGreat

/-
  A memory is asked how long it is, and what was done last.
-/
set_option linter.unusedVariables false
set_option linter.unusedSimpArgs false
set_option linter.unusedSectionVars false
set_option maxRecDepth 100000
namespace Go.Proofs.YtfjnkneoddankaaGreat
open Go Go.FL Go.Proofs
variable [Go.FL.Fz]

theorem mLen_ev (m : PMem) (K : Int → PMem → Prop) : evF Tryz.prog own0 10 20 12 [.c (.ptr 0 0)] ⟨cat [(true, .mem m)] 0, []⟩ (fun v H => match v with
    | .c (.int .i64 x) => (shMem H 0 fun m' c' => match chkAll [(true, .mem m)] [c'] [] with | true => K x m' | false => False)
    | _ => False) = ((m.n = m.n ∧ m.n = m.n ∧ m.n = m.n ∧ m.n = m.n ∧ m.n = m.n) ∧ K (m.n : Int) m) := by kernel_rfl

def h_mLen : Hd := fun args H K => match args with
  | [.c (.ptr m 0)] => match H.get m with
    | some (.obj (.mem pm)) => K (.c (.int .i64 (pm.n : Int))) (H.put m (.obj (.mem pm)))
    | _ => False
  | _ => False

theorem h_mLen_ok : HOK 12 h_mLen := by
  intro args H K h
  unfold h_mLen at h
  split at h
  · rename_i m
    split at h
    · rename_i pm hm
      have e := (mLen_ev pm (fun x m' => K (.c (.int .i64 x)) (H.put m (.obj (.mem m'))))).mpr ⟨⟨rfl, rfl, rfl, rfl, rfl⟩, h⟩
      refine objs_ok own0_ok (ns := [m]) (xs := [(true, .mem pm)]) rfl (get_one hm) (by simp) ?_ e ?_
      · intro s s₁ vs hh hr
        have e0 := hh 0 m rfl
        simp only [base] at e0
        exact rel_args1 (rel_ptr e0) hr
      · intro v₁ H₁ hk
        split at hk
        · obtain ⟨m', c', hk, hc⟩ := shMem_ok hk
          split at hk
          · rename_i hchk
            exact ⟨[c'], [(true, .mem m')], [], [], _, hchk, ⟨hc, trivial⟩, trivial, fun _ _ _ _ _ h => RelV.low rfl h, hk⟩
          · exact hk.elim
        · exact hk.elim
    · exact h.elim
  · exact h.elim

theorem mLast_ev (m : PMem) (K : Int → Int → Bool → PMem → Prop) : evF Tryz.prog own0 10 20 20 [.c (.ptr 0 0)] ⟨cat [(true, .mem m)] 0, []⟩ (fun v H => match v with
    | .agg [.int .i64 x, .int .i64 y, .bool z] => (shMem H 0 fun m' c' => match chkAll [(true, .mem m)] [c'] [] with | true => K x y z m' | false => False)
    | _ => False) = ((m.n = m.n ∧ m.n = m.n ∧ m.n = m.n ∧ m.n = m.n ∧ m.n = m.n) ∧ K m.la m.lw m.lc m) := by kernel_rfl

def h_mLast : Hd := fun args H K => match args with
  | [.c (.ptr m 0)] => match H.get m with
    | some (.obj (.mem pm)) => K (.agg [cI pm.la, cI pm.lw, .bool pm.lc]) (H.put m (.obj (.mem pm)))
    | _ => False
  | _ => False

theorem h_mLast_ok : HOK 20 h_mLast := by
  intro args H K h
  unfold h_mLast at h
  split at h
  · rename_i m
    split at h
    · rename_i pm hm
      have e := (mLast_ev pm (fun x y z m' => K (.agg [cI x, cI y, .bool z]) (H.put m (.obj (.mem m'))))).mpr ⟨⟨rfl, rfl, rfl, rfl, rfl⟩, h⟩
      refine objs_ok own0_ok (ns := [m]) (xs := [(true, .mem pm)]) rfl (get_one hm) (by simp) ?_ e ?_
      · intro s s₁ vs hh hr
        have e0 := hh 0 m rfl
        simp only [base] at e0
        exact rel_args1 (rel_ptr e0) hr
      · intro v₁ H₁ hk
        split at hk
        · obtain ⟨m', c', hk, hc⟩ := shMem_ok hk
          split at hk
          · rename_i hchk
            exact ⟨[c'], [(true, .mem m')], [], [], _, hchk, ⟨hc, trivial⟩, trivial, fun _ _ _ _ _ h => RelV.low rfl h, hk⟩
          · exact hk.elim
        · exact hk.elim
    · exact h.elim
  · exact h.elim

def tabL : List (FuncId × Hd) := [(12, h_mLen), (20, h_mLast)] ++ tabK9
def ownL : FuncId → Option Hd := look tabL
theorem allL : AllOK tabL := ⟨h_mLen_ok, h_mLast_ok, allK9⟩
theorem ownL_ok : OwnOK Tryz.prog ownL := look_ok allL

end Go.Proofs.YtfjnkneoddankaaGreat

/-
  From a contract to a row: what came in reads as it did.
-/
set_option linter.unusedVariables false
set_option linter.unusedSimpArgs false
set_option linter.unusedSectionVars false
namespace Go.FL
open Go Go.ChangeShapes Go.WideShapes Go.ChangeAt Go.RowKit
variable [Go.FL.Fz]

variable {H : Type} {enc : TypeId × Value → H} {P : Program}

theorem trodAll_below (hl : laidOutB P = true) {W W' : World} (hb : Below W.heap.size W W') : ∀ {ts : List TypeId} {vs : List Value} {ds : List (DataW H)} {ps : List MemPlace},
    (∀ t ∈ ts, P.readableRec t = true ∧ t < P.types.size) → DataW.TrodAll enc P W 0 (fun _ => true) true ts vs ds ps → (∀ x ∈ ps, x.block < W.heap.size) →
    DataW.TrodAll enc P W' 0 (fun b => decide (b < W.heap.size)) true ts vs ds ps
  | [], [], [], ps, _, h, _ => h
  | t :: ts, v :: vs, d :: ds, ps, hr, h, hlt => by
    obtain ⟨p, q, h1, h2, rfl⟩ := h
    obtain ⟨r1, r2⟩ := hr t (by simp)
    exact ⟨p, q, Below.trod hl r1 r2 h1 hb (fun x hx => hlt x (by simp [hx])), trodAll_below hl hb (fun t ht => hr t (by simp [ht])) h2 (fun x hx => hlt x (by simp [hx])), rfl⟩
  | [], _ :: _, _, _, _, h, _ => h.elim
  | [], [], _ :: _, _, _, h, _ => h.elim
  | _ :: _, [], _, _, _, h, _ => h.elim
  | _ :: _, _ :: _, [], _, _, h, _ => h.elim

/-- A law's row: 'true', and what came in reads as it did. -/
theorem law_post (hl : laidOutB P = true) (hbool : P.underlying 4 = some .bool) {f : Func} {s : ChangeSpec} {W W' : World} {args : Array Value} {ds gs : List (DataW H)} {before : List MemPlace}
    (hres : f.resultTypes = #[4]) (hr : ∀ t ∈ f.params.toList, P.readableRec t = true ∧ t < P.types.size) (hv : s.vars = [])
    (hs : s.fn H (ds ++ gs) = { results := [.lit (.bool true)], args := ds }) (hW : DataW.Whole enc P f.params.toList s.vars false W args.toList ds gs before) (hb : Below W.heap.size W W') :
    s.post enc P f false true false false W args (.bool true) W' := by
  have hW0 := hW
  obtain ⟨p, q, hA, hV, hpq, hfz, hnd⟩ := hW
  rw [hv] at hV
  have hgs : gs = [] ∧ q = [] := by
    cases gs with
    | nil => exact ⟨rfl, hV⟩
    | cons g gs => exact hV.elim
  obtain ⟨rfl, rfl⟩ := hgs
  rw [List.append_nil] at hpq
  subst hpq
  refine ⟨ds, [], before, [], before, [], hW0, ?_, ?_, ?_, hb.frame _, fun h => by cases h⟩
  · rw [hs, hres]
    exact trodAll_mk1 (shut_bool hbool true)
  · rw [hs]
    exact trodAll_below hl hb hr hA (fun x hx => hW0.lt x hx)
  · rw [hs, hv]
    rfl

theorem Rel.none (w : World) (hfz : ∀ q o, Fz.F q o → w.heap[q]? = some o) : Rel [] ⟨[], []⟩ w :=
  ⟨rfl, fun n b r f h => by simp at h, by
    intro i j y h1 h2
    obtain ⟨r, f, h, _⟩ := h1
    simp at h, by
    intro n y h
    obtain ⟨r, f, h, _⟩ := h
    simp at h, fun q o hF => ⟨hfz q o hF, fun n h => by
    obtain ⟨r, f, h, _⟩ := h
    simp at h⟩⟩

/-- A law that holds, over a memory of which it asks nothing. -/
theorem law_calls {f : FuncId} {args : List LV} {vs : List Value} {W : World} (h : (∃ fn, P.funcs[f]? = some fn ∧ fn.body.isSome = true) ∧ CSpec P f args ⟨[], []⟩ (fun v _ => match v with
      | .c (.bool true) => True
      | _ => False)) (hr : RelVs [] args vs) (hfz : ∀ q o, Fz.F q o → W.heap[q]? = some o) :
    Calls P f vs.toArray W fun e W' => e = .returned (.bool true) ∧ Below W.heap.size W W' := by
  refine Calls.mono (h.2 [] vs W hr (Rel.none W hfz)) ?_
  intro e W' he
  match e, he with
  | .returned v', ⟨s', v, H', hk, hv, hH, hp⟩ =>
    dsimp only at hk
    split at hk
    · have hv : v' = .bool true := hv
      exact ⟨by rw [hv], hp.os, hp.tape, hp.output, hp.size, fun k hk => hp.frame k hk fun n _ ho => by
        obtain ⟨r, f, h, _⟩ := ho
        simp at h⟩
    · exact hk.elim

end Go.FL

/-
  What laws share: from a walk that ends in 'true' to a row.
-/
set_option linter.unusedVariables false
set_option linter.unusedSimpArgs false
set_option maxRecDepth 100000
set_option linter.unusedSectionVars false
namespace Go.FL
open Go

theorem and_small (x : Int) (n : Nat) (hn : n < 2 ^ 63) : ∃ t : Nat, t ≤ n ∧ IntKind.wrap IntKind.i64 ↑(BitVec.toNat (BitVec.ofInt (IntKind.bits IntKind.i64) x &&& BitVec.ofInt (IntKind.bits IntKind.i64) (n : Int))) = (t : Int) := by
  have h : (BitVec.ofInt (IntKind.bits IntKind.i64) x &&& BitVec.ofInt (IntKind.bits IntKind.i64) (n : Int)).toNat ≤ n := by
    rw [BitVec.toNat_and]
    refine Nat.le_trans Nat.and_le_right ?_
    rw [BitVec.toNat_ofInt]
    have : ((n : Int) % ((2 ^ IntKind.bits IntKind.i64 : Nat) : Int)).toNat = n % 2 ^ IntKind.bits IntKind.i64 := by
      rw [← Int.natCast_emod, Int.toNat_natCast]
    rw [this]
    exact Nat.mod_le _ _
  refine ⟨_, h, ?_⟩
  generalize (BitVec.ofInt (IntKind.bits IntKind.i64) x &&& BitVec.ofInt (IntKind.bits IntKind.i64) (n : Int)).toNat = t at h
  exact IntWalk.i64_in _ (by omega)

end Go.FL

namespace Go.Proofs.YtfjnkneoddankaaGreat
open Go Go.FL Go.Proofs Go.ChangeShapes Go.WideShapes Go.ChangeAt Go.RowKit
def cutA (k a n : Int) : Int := IntKind.wrap .i64 (k + IntKind.wrap .i64 (BitVec.ofInt (IntKind.bits .i64) a &&& BitVec.ofInt (IntKind.bits .i64) n).toNat)

theorem cutA_in (k n : Nat) (hk : k + n < 1000) (x : Int) : ∃ t : Nat, t ≤ n ∧ cutA k x n = ((k + t : Nat) : Int) := by
  obtain ⟨t, h1, h2⟩ := and_small x n (by omega)
  refine ⟨t, h1, ?_⟩
  unfold cutA
  rw [h2, ← Int.natCast_add]
  exact IntWalk.i64_in _ (by omega)

theorem Tryz.own : ownKnob Tryz.prog.godebug = none := by kernel_rfl
theorem Tryz.laidOut : laidOutB Tryz.prog = true := by kernel_rfl

variable [Go.FL.Fz]


theorem evL_use {own : FuncId → Option Hd} (hown : OwnOK Tryz.prog own) {lo : Nat → Option LHd} {fuel d : Nat} {f : FuncId} {args : List LV} {H : LH} {K : LV → LH → Prop} {B : Prop} (hlo : LoOK Tryz.prog (tmpsF Tryz.prog f) lo (loopsF Tryz.prog f))
    (e : evL Tryz.prog own lo fuel d f args H K = B) (hB : B) : (∃ fn, Tryz.prog.funcs[f]? = some fn ∧ fn.body.isSome = true) ∧ CSpec Tryz.prog f args H K := evL_ok fnOK mixed hown hlo (e.mpr hB)

/-- What a law's walk ends in. -/
def isTrue : Bool → Prop
  | true => True
  | false => False

theorem bool_calls {f : FuncId} {args : List LV} {vs : List Value} {W : World} (h : (∃ fn, Tryz.prog.funcs[f]? = some fn ∧ fn.body.isSome = true) ∧ CSpec Tryz.prog f args ⟨[], []⟩ (fun v _ => match v with
      | .c (.bool b) => isTrue b
      | _ => False)) (hr : RelVs [] args vs) (hfz : ∀ q o, Fz.F q o → W.heap[q]? = some o) :
    Calls Tryz.prog f vs.toArray W fun e W' => e = .returned (.bool true) ∧ Below W.heap.size W W' := by
  refine law_calls ⟨h.1, fun s vs w hr hH => Calls.mono (h.2 s vs w hr hH) ?_⟩ hr hfz
  intro e W' he
  match e, he with
  | .returned v', ⟨s', v, H', hk, hv, hH, hp⟩ =>
    refine ⟨s', v, H', ?_, hv, hH, hp⟩
    dsimp only at hk ⊢
    split at hk
    · rename_i b
      cases b with
      | true => trivial
      | false => exact hk.elim
    · exact hk.elim

end Go.Proofs.YtfjnkneoddankaaGreat

/-
  Where no chunk is sparse: the law's walk.
-/
set_option linter.unusedVariables false
set_option linter.unusedSimpArgs false
set_option linter.unusedSectionVars false
set_option maxRecDepth 1000000
namespace Go.FL

/-- So many objects are made, of sizes from that one on. -/
def mkRun (c : PCfg) (who : Int) (f : Nat → Int) : Nat → Nat → PMem → PMem
  | 0, _, m => m
  | k + 1, i, m => mkRun c who f k (i + 1) (makeM c who m (Go.Proofs.YtfjnkneoddankaaGreat.cutA 1 (f i) 15) false).2

theorem mkRun_zero (c : PCfg) (who : Int) (f : Nat → Int) (i : Nat) (m : PMem) : mkRun c who f 0 i m = m := rfl
theorem mkRun_succ (c : PCfg) (who : Int) (f : Nat → Int) (k i : Nat) (m : PMem) : mkRun c who f (k + 1) i m = mkRun c who f k (i + 1) (makeM c who m (Go.Proofs.YtfjnkneoddankaaGreat.cutA 1 (f i) 15) false).2 := rfl

attribute [irreducible] mkRun

end Go.FL

namespace Go.Proofs.YtfjnkneoddankaaGreat
open Go Go.FL Go.Proofs
variable [Go.FL.Fz]

abbrev stF : FuncId := 3
abbrev stEnv (c1 c2 c3 c4 c5 c6 c7 who : Int) : LB := .cells 27 [cI c1, cI c2, cI c3, cI c4, cI c5, cI c6, cI c7, .ptr 0 0, cI who]
abbrev stTA (p : Option Addr) (n cap : Nat) (f : Nat → Int) (b i : Int) : Tm := [(0, .c (.vsl p n cap 1 [.int .i64 f])), (1, .c (cI b)), (5, .c (.ptr 1 0)), (7, .c (cI i))]

theorem stA_ev (p : Option Addr) (n cap : Nat) (f : Nat → Int) (b : Int) (c1 c2 c3 c4 c5 c6 c7 who i : Int) (m : PMem) (wr : List Nat) (k : X → Tm → LH → Prop) :
    evC Tryz.prog (evF Tryz.prog ownL 10 20) (tmpsF Tryz.prog stF) noLo 10 (loopF Tryz.prog stF 0) (stTA p n cap f b i) ⟨[.obj (.mem m), stEnv c1 c2 c3 c4 c5 c6 c7 who], wr⟩ (fun x T H => k x (Tm.norm [0,1,5,7] T) H) =
    (bif decide (i < (n : Int)) then bif decide (i < 25) then bif decide (0 ≤ i ∧ i < (n : Int)) then
      k .normal (stTA p n cap f b (IntKind.wrap .i64 (i + 1))) ⟨[.obj (.mem (makeM ⟨c1, c2, c3, c4, c5, c6, c7⟩ who m (cutA 1 (f i.toNat) 15) false).2), stEnv c1 c2 c3 c4 c5 c6 c7 who], 0 :: wr⟩
      else False
      else k (.exit 0) (stTA p n cap f b i) ⟨[.obj (.mem m), stEnv c1 c2 c3 c4 c5 c6 c7 who], wr⟩
      else k (.exit 0) (stTA p n cap f b i) ⟨[.obj (.mem m), stEnv c1 c2 c3 c4 c5 c6 c7 who], wr⟩) := by kernel_rfl

def lh_sa : LHd := fun T H K => match Tm.norm [0,1,5,7] T with
  | [(0, .c (.vsl p n cap 1 [.int .i64 f])), (1, .c (.int .i64 b)), (5, .c (.ptr 1 0)), (7, .c (.int .i64 i))] => match H.bl with
    | [.obj (.mem m), .cells t [.int .i64 c1, .int .i64 c2, .int .i64 c3, .int .i64 c4, .int .i64 c5, .int .i64 c6, .int .i64 c7, .ptr 0 0, .int .i64 who]] =>
      (t = 27 ∧ i = 0) ∧ K (.exit 0) [(1, .c (cI b)), (5, .c (.ptr 1 0))] ⟨[.obj (.mem (mkRun ⟨c1, c2, c3, c4, c5, c6, c7⟩ who f (min n 25) 0 m)), stEnv c1 c2 c3 c4 c5 c6 c7 who], 0 :: H.wr⟩
    | _ => False
  | _ => False

theorem lh_sa_ok : BodyOK Tryz.prog (tmpsF Tryz.prog stF) (.loop (loopF Tryz.prog stF 0)) lh_sa := by
  refine loopN_ok (evC_ok fnOK mixed (evF_ok fnOK mixed ownL_ok 10 20) _ (lo := noLo) 10 _ LoOK.no) ?_
  intro T H K h
  unfold lh_sa at h
  split at h
  case h_2 => exact h.elim
  rename_i x0 p n cap f b i hT
  split at h
  case h_2 => exact h.elim
  rename_i x' m t c1 c2 c3 c4 c5 c6 c7 who hH
  obtain ⟨⟨rfl, rfl⟩, h⟩ := h
  generalize hr : mkRun ⟨c1, c2, c3, c4, c5, c6, c7⟩ who f (min n 25) 0 m = r at h
  refine ⟨[0,1,5,7], [1,5], fun k T' H' => ∃ (j : Nat) (m' : PMem), k = min n 25 - j ∧ j ≤ min n 25 ∧ T' = stTA p n cap f b (j : Int) ∧ H'.bl = [.obj (.mem m'), stEnv c1 c2 c3 c4 c5 c6 c7 who] ∧ (∀ n ∈ H'.wr, n ∈ 0 :: H.wr) ∧
    mkRun ⟨c1, c2, c3, c4, c5, c6, c7⟩ who f (min n 25 - j) j m' = r, ⟨min n 25, 0, m, rfl, by omega, hT, hH, fun n hn => by simp [hn], hr⟩, ?_⟩
  rintro k T' ⟨bl, wr⟩ ⟨j, m', rfl, hj, rfl, hbl, hwr, hrun⟩
  simp only at hbl hwr
  subst hbl
  rw [stA_ev]
  have out : j = min n 25 → ∃ wr', (∀ k ∈ wr, k ∈ wr') ∧ K (.exit 0) (Tm.norm [1,5] (stTA p n cap f b (j : Int))) ⟨[.obj (.mem m'), stEnv c1 c2 c3 c4 c5 c6 c7 who], wr'⟩ := by
    intro hz
    rw [show min n 25 - j = 0 by omega, mkRun_zero] at hrun
    subst hrun
    exact ⟨0 :: H.wr, hwr, h⟩
  by_cases h1 : j < n
  · by_cases h2 : j < 25
    · have d1 : decide ((j : Int) < (n : Int)) = true := by simp; omega
      have d2 : decide ((j : Int) < 25) = true := by simp; omega
      have d3 : decide (0 ≤ (j : Int) ∧ (j : Int) < (n : Int)) = true := by simp; omega
      rw [d1, d2, d3, Int.toNat_natCast]
      simp only [cond_true]
      obtain ⟨z, hz⟩ : ∃ z, min n 25 - j = z + 1 := ⟨min n 25 - (j + 1), by omega⟩
      rw [hz, mkRun_succ] at hrun
      have hi : IntKind.i64.wrap ((j : Int) + 1) = ((j + 1 : Nat) : Int) := by rw [IntKind.wrap_i64]; omega
      refine ⟨min n 25 - (j + 1), by omega, j + 1, _, rfl, by omega, by rw [hi], rfl, ?_, by rw [show min n 25 - (j + 1) = z by omega]; exact hrun⟩
      intro k hk
      rcases List.mem_cons.1 hk with rfl | hk
      · simp
      · exact hwr k hk
    · have d1 : decide ((j : Int) < (n : Int)) = true := by simp; omega
      have d2 : decide ((j : Int) < 25) = false := by simp; omega
      rw [d1, d2]
      exact out (by omega)
  · have d1 : decide ((j : Int) < (n : Int)) = false := by simp; omega
    rw [d1]
    exact out (by omega)

abbrev stTB (b : Int) (k : Nat) (i : Int) : Tm := [(1, .c (cI b)), (5, .c (.ptr 1 0)), (8, .c (.slice 2 0 k k)), (9, .c (cI i))]
abbrev stW (k : Nat) (g : Nat → Int) : LB := .ints 32 .u64 k g

theorem stB_ev (b : Int) (c1 c2 c3 c4 c5 c6 c7 who i : Int) (m : PMem) (n : Nat) (g : Nat → Int) (wr : List Nat) (k : X → Tm → LH → Prop) :
    evC Tryz.prog (evF Tryz.prog ownL 10 20) (tmpsF Tryz.prog stF) noLo 10 (loopF Tryz.prog stF 1) (stTB b n i) ⟨[.obj (.mem m), stEnv c1 c2 c3 c4 c5 c6 c7 who, stW n g], wr⟩ (fun x T H => k x (Tm.norm [1,5,8,9] T) H) =
    (bif decide (i < (n : Int)) then bif decide (0 ≤ i ∧ i < (n : Int)) then (Int.toNat i < n) ∧
      k .normal (stTB b n (IntKind.wrap .i64 (i + 1))) ⟨[.obj (.mem m), stEnv c1 c2 c3 c4 c5 c6 c7 who, stW n (fun j => bif Nat.beq j (Int.toNat i) then PMem.peek m i else g j)], 2 :: 0 :: wr⟩
      else False
      else k (.exit 2) (stTB b n i) ⟨[.obj (.mem m), stEnv c1 c2 c3 c4 c5 c6 c7 who, stW n g], wr⟩) := by kernel_rfl

def lh_sb : LHd := fun T H K => match Tm.norm [1,5,8,9] T with
  | [(1, .c (.int .i64 b)), (5, .c (.ptr 1 0)), (8, .c (.slice 2 0 k k')), (9, .c (.int .i64 i))] => match H.bl with
    | [.obj (.mem m), .cells t [.int .i64 c1, .int .i64 c2, .int .i64 c3, .int .i64 c4, .int .i64 c5, .int .i64 c6, .int .i64 c7, .ptr 0 0, .int .i64 who], .ints t2 .u64 n g] =>
      (t = 27 ∧ t2 = 32 ∧ i = 0 ∧ k = n ∧ k' = n ∧ n ≤ 1048576) ∧ ∀ g' : Nat → Int, (∀ j, j < n → g' j = m.peek (j : Int)) →
        K (.exit 2) [(1, .c (cI b)), (5, .c (.ptr 1 0)), (8, .c (.slice 2 0 n n))] ⟨[.obj (.mem m), stEnv c1 c2 c3 c4 c5 c6 c7 who, stW n g'], 2 :: 0 :: H.wr⟩
    | _ => False
  | _ => False

theorem lh_sb_ok : BodyOK Tryz.prog (tmpsF Tryz.prog stF) (.loop (loopF Tryz.prog stF 1)) lh_sb := by
  refine loopN_ok (evC_ok fnOK mixed (evF_ok fnOK mixed ownL_ok 10 20) _ (lo := noLo) 10 _ LoOK.no) ?_
  intro T H K h
  unfold lh_sb at h
  split at h
  case h_2 => exact h.elim
  rename_i x0 b k k' i hT
  split at h
  case h_2 => exact h.elim
  rename_i x' m t c1 c2 c3 c4 c5 c6 c7 who t2 n g hH
  obtain ⟨⟨rfl, rfl, rfl, hk1, hk2, hn⟩, h⟩ := h
  subst hk2
  subst hk1
  refine ⟨[1,5,8,9], [1,5,8], fun q T' H' => ∃ (j : Nat) (g' : Nat → Int), q = k - j ∧ j ≤ k ∧ T' = stTB b k (j : Int) ∧ H'.bl = [.obj (.mem m), stEnv c1 c2 c3 c4 c5 c6 c7 who, stW k g'] ∧ (∀ n ∈ H'.wr, n ∈ 2 :: 0 :: H.wr) ∧
    (∀ i, i < j → g' i = m.peek (i : Int)), ⟨k, 0, g, rfl, by omega, hT, hH, fun n hn => by simp [hn], fun i hi => by omega⟩, ?_⟩
  rintro q T' ⟨bl, wr⟩ ⟨j, g', rfl, hj, rfl, hbl, hwr, hg⟩
  simp only at hbl hwr
  subst hbl
  rw [stB_ev]
  by_cases h1 : j < k
  · have d1 : decide ((j : Int) < (k : Int)) = true := by simp; omega
    have d3 : decide (0 ≤ (j : Int) ∧ (j : Int) < (k : Int)) = true := by simp; omega
    rw [d1, d3, Int.toNat_natCast]
    simp only [cond_true]
    have hi : IntKind.i64.wrap ((j : Int) + 1) = ((j + 1 : Nat) : Int) := by rw [IntKind.wrap_i64]; omega
    refine ⟨h1, k - (j + 1), by omega, j + 1, _, rfl, by omega, by rw [hi], rfl, ?_, ?_⟩
    · intro k hk
      rcases List.mem_cons.1 hk with rfl | hk
      · simp
      · rcases List.mem_cons.1 hk with rfl | hk
        · simp
        · exact hwr k hk
    · intro i hi
      show (bif Nat.beq i j then _ else _) = _
      rw [bcond_eq]
      split
      · rename_i hc; rw [hc]
      · exact hg i (by omega)
  · have d1 : decide ((j : Int) < (k : Int)) = false := by simp; omega
    rw [d1]
    have : j = k := by omega
    subst this
    exact ⟨2 :: 0 :: H.wr, hwr, h g' hg⟩

abbrev stTC (k : Nat) (i : Int) : Tm := [(5, .c (.ptr 1 0)), (8, .c (.slice 2 0 k k)), (10, .c (.ptr 3 0)), (11, .c (cI i))]

theorem stC_ev (c1 c2 c3 c4 c5 c6 c7 who i : Int) (m : PMem) (n : Nat) (g : Nat → Int) (x : PComp) (cap : Nat) (wr : List Nat) (k : X → Tm → LH → Prop) :
    evC Tryz.prog (evF Tryz.prog ownL 10 20) (tmpsF Tryz.prog stF) noLo 10 (loopF Tryz.prog stF 2) (stTC n i) ⟨[.obj (.mem m), stEnv c1 c2 c3 c4 c5 c6 c7 who, stW n g, .obj (.comp x cap)], wr⟩ (fun x T H => k x (Tm.norm [5,8,10,11] T) H) =
    (bif decide (i < (n : Int)) then bif decide (0 ≤ i ∧ i < (n : Int)) then (Int.toNat i < n) ∧
      (bif !decide (PMem.peek m i = g (Int.toNat i)) then k .ret (stTC n i) ⟨[.obj (.mem m), stEnv c1 c2 c3 c4 c5 c6 c7 who, stW n g, .obj (.comp x cap)], 0 :: wr⟩
      else k .normal (stTC n (IntKind.wrap .i64 (i + 1))) ⟨[.obj (.mem m), stEnv c1 c2 c3 c4 c5 c6 c7 who, stW n g, .obj (.comp x cap)], 0 :: wr⟩)
      else False
      else k (.exit 4) (stTC n i) ⟨[.obj (.mem m), stEnv c1 c2 c3 c4 c5 c6 c7 who, stW n g, .obj (.comp x cap)], wr⟩) := by kernel_rfl

def lh_sc : LHd := fun T H K => match Tm.norm [5,8,10,11] T with
  | [(5, .c (.ptr 1 0)), (8, .c (.slice 2 0 k k')), (10, .c (.ptr 3 0)), (11, .c (.int .i64 i))] => match H.bl with
    | [.obj (.mem m), .cells t [.int .i64 c1, .int .i64 c2, .int .i64 c3, .int .i64 c4, .int .i64 c5, .int .i64 c6, .int .i64 c7, .ptr 0 0, .int .i64 who], .ints t2 .u64 n g, .obj (.comp x cap)] =>
      ((t = 27 ∧ t2 = 32 ∧ i = 1 ∧ k = n ∧ k' = n ∧ 1 ≤ n ∧ n ≤ 1048576) ∧ ∀ j, 1 ≤ j → j < n → m.peek (j : Int) = g j) ∧
        K (.exit 4) [(10, .c (.ptr 3 0))] ⟨[.obj (.mem m), stEnv c1 c2 c3 c4 c5 c6 c7 who, stW n g, .obj (.comp x cap)], 0 :: H.wr⟩
    | _ => False
  | _ => False

theorem lh_sc_ok : BodyOK Tryz.prog (tmpsF Tryz.prog stF) (.loop (loopF Tryz.prog stF 2)) lh_sc := by
  refine loopN_ok (evC_ok fnOK mixed (evF_ok fnOK mixed ownL_ok 10 20) _ (lo := noLo) 10 _ LoOK.no) ?_
  intro T H K h
  unfold lh_sc at h
  split at h
  case h_2 => exact h.elim
  rename_i x0 k k' i hT
  split at h
  case h_2 => exact h.elim
  rename_i x' m t c1 c2 c3 c4 c5 c6 c7 who t2 n g x cap hH
  obtain ⟨⟨⟨rfl, rfl, rfl, hk1, hk2, hn1, hn⟩, hg⟩, h⟩ := h
  subst hk2
  subst hk1
  refine ⟨[5,8,10,11], [10], fun q T' H' => ∃ j : Nat, q = k - j ∧ 1 ≤ j ∧ j ≤ k ∧ T' = stTC k (j : Int) ∧ H'.bl = [.obj (.mem m), stEnv c1 c2 c3 c4 c5 c6 c7 who, stW k g, .obj (.comp x cap)] ∧ (∀ n ∈ H'.wr, n ∈ 0 :: H.wr),
    ⟨k - 1, 1, rfl, by omega, by omega, hT, hH, fun n hn => by simp [hn]⟩, ?_⟩
  rintro q T' ⟨bl, wr⟩ ⟨j, rfl, hj1, hj, rfl, hbl, hwr⟩
  simp only at hbl hwr
  subst hbl
  rw [stC_ev]
  by_cases h1 : j < k
  · have d1 : decide ((j : Int) < (k : Int)) = true := by simp; omega
    have d3 : decide (0 ≤ (j : Int) ∧ (j : Int) < (k : Int)) = true := by simp; omega
    have d4 : decide (PMem.peek m (j : Int) = g j) = true := by simpa using hg j hj1 h1
    rw [d1, d3, Int.toNat_natCast, d4]
    simp only [cond_true, cond_false, Bool.not_true]
    have hi : IntKind.i64.wrap ((j : Int) + 1) = ((j + 1 : Nat) : Int) := by rw [IntKind.wrap_i64]; omega
    refine ⟨h1, k - (j + 1), by omega, j + 1, rfl, by omega, by omega, by rw [hi], rfl, ?_⟩
    intro k hk
    rcases List.mem_cons.1 hk with rfl | hk
    · simp
    · exact hwr k hk
  · have d1 : decide ((j : Int) < (k : Int)) = false := by simp; omega
    rw [d1]
    exact ⟨0 :: H.wr, hwr, h⟩

def stLo : Nat → Option LHd := fun k => match Nat.beq k 6 with
  | true => some lh_sa
  | false => match Nat.beq k 11 with
    | true => some lh_sb
    | false => some lh_sc

theorem stLoOK : LoOK Tryz.prog (tmpsF Tryz.prog stF) stLo (loopsF Tryz.prog stF) := by
  have h : loopsF Tryz.prog stF = [loopF Tryz.prog stF 0, loopF Tryz.prog stF 1, loopF Tryz.prog stF 2] := by kernel_rfl
  have h0 : stLo (keyC (loopF Tryz.prog stF 0)) = some lh_sa := by kernel_rfl
  have h1 : stLo (keyC (loopF Tryz.prog stF 1)) = some lh_sb := by kernel_rfl
  have h2 : stLo (keyC (loopF Tryz.prog stF 2)) = some lh_sc := by kernel_rfl
  rw [h]
  intro c hc hd he
  rcases List.mem_cons.1 hc with rfl | hc
  · rw [h0] at he; cases he; exact lh_sa_ok
  rcases List.mem_cons.1 hc with rfl | hc
  · rw [h1] at he; cases he; exact lh_sb_ok
  have hc : c = loopF Tryz.prog stF 2 := by simpa using hc
  subst hc
  rw [h2] at he; cases he; exact lh_sc_ok

def stM0 (f : Nat → Int) (n : Nat) : PMem := mkRun ⟨1, 30, 8, 34, 100, 0, 3⟩ 0 f (min n 25) 0 (arM 1 30 8 34)

end Go.Proofs.YtfjnkneoddankaaGreat

/-
  The words of slots, chunks, heads, cells and tops: what is put in comes out.
-/
set_option linter.unusedVariables false
set_option linter.unusedSimpArgs false
set_option maxRecDepth 20000
namespace Go.FL
open Go

theorem wrU_id {n : Int} (h0 : 0 ≤ n) (h1 : n < 18446744073709551616) : wrU n = n := by
  unfold wrU
  simp only [Bool.false_and, Bool.false_eq_true, if_false]
  exact Int.emod_eq_of_lt h0 h1

theorem wrI_id {n : Int} (h0 : 0 ≤ n) (h1 : n < 9223372036854775808) : wrI n = n := by
  unfold wrI
  have h : n % 18446744073709551616 = n := Int.emod_eq_of_lt h0 (by omega)
  simp only [h, Bool.true_and, ge_iff_le, decide_eq_true_eq]
  rw [if_neg (by omega)]

theorem ofInt_nat (n : Nat) (h : n < 18446744073709551616) : (BitVec.ofInt (IntKind.bits .u64) (n : Int)).toNat = n := by
  have hb : IntKind.bits .u64 = 64 := rfl
  rw [hb, BitVec.toNat_ofInt]
  omega

/-- Bits laid beside each other. -/
theorem or_add (a b k : Nat) (ha : a < 2 ^ k) (hb : b % 2 ^ k = 0) (hs : a + b < 18446744073709551616) :
    wrU ↑(BitVec.toNat (BitVec.ofInt (IntKind.bits IntKind.u64) (a : Int) ||| BitVec.ofInt (IntKind.bits IntKind.u64) (b : Int))) = ((a + b : Nat) : Int) := by
  rw [BitVec.toNat_or, ofInt_nat a (by omega), ofInt_nat b (by omega)]
  have h : a ||| b = a + b := by
    obtain ⟨q, rfl⟩ : ∃ q, b = 2 ^ k * q := ⟨b / 2 ^ k, by have := Nat.div_add_mod b (2 ^ k); omega⟩
    rw [Nat.or_comm, ← Nat.two_pow_add_eq_or_of_lt ha, Nat.add_comm]
  rw [h]
  exact wrU_id (by omega) (by omega)

theorem or_addI {a b : Int} (k : Nat) (p : Int) (hp : p = ((2 ^ k : Nat) : Int)) (h0 : 0 ≤ a) (h1 : a < p) (h2 : 0 ≤ b) (h3 : b % p = 0) (hs : a + b < 18446744073709551616) :
    wrU ↑(BitVec.toNat (BitVec.ofInt (IntKind.bits IntKind.u64) a ||| BitVec.ofInt (IntKind.bits IntKind.u64) b)) = a + b := by
  obtain ⟨a, rfl⟩ := Int.eq_ofNat_of_zero_le h0
  obtain ⟨b, rfl⟩ := Int.eq_ofNat_of_zero_le h2
  subst hp
  rw [or_add a b k (by omega) (by omega) (by omega)]
  rfl

/-- The lowest bits. -/
theorem and_mod (a mask p k : Nat) (hp : p = 2 ^ k) (hm : mask + 1 = p) (ha : a < 18446744073709551616) (hk : p ≤ 18446744073709551616) :
    wrU ↑(BitVec.toNat (BitVec.ofInt (IntKind.bits IntKind.u64) (a : Int) &&& BitVec.ofInt (IntKind.bits IntKind.u64) (mask : Int))) = ((a % p : Nat) : Int) := by
  have h1 : 0 < p := by rw [hp]; exact Nat.two_pow_pos k
  have hmask : mask = 2 ^ k - 1 := by omega
  rw [BitVec.toNat_and, ofInt_nat a ha, ofInt_nat mask (by omega), hmask, Nat.and_two_pow_sub_one_eq_mod, ← hp]
  have := Nat.mod_le a p
  exact wrU_id (by omega) (by omega)

theorem fdiv_nat (a b : Nat) : Int.fdiv (a : Int) (b : Int) = ((a / b : Nat) : Int) := by
  rw [Int.fdiv_eq_ediv_of_nonneg _ (by omega)]
  rfl

theorem fitted {a b : Int} (h0 : 0 ≤ a) (h1 : a ≤ b) : (if b < if 0 > a then 0 else a then b else if 0 > a then 0 else a) = a := by
  rw [if_neg (show ¬ (0 > a) by omega), if_neg (by omega)]

theorem putSlot_eq {a b c d : Int} (ha : 0 ≤ a ∧ a ≤ 7) (hb : 0 ≤ b ∧ b ≤ 1048575) (hc : 0 ≤ c ∧ c ≤ 65535) (hd : 0 ≤ d ∧ d ≤ 4194303) :
    putSlot a b c d = a + b * 8 + c * 8388608 + d * 549755813888 := by
  unfold putSlot putSlotK
  rw [fitted ha.1 ha.2, fitted hb.1 hb.2, fitted hc.1 hc.2, fitted hd.1 hd.2]
  rw [wrU_id (n := a) (by omega) (by omega), wrU_id (n := b) (by omega) (by omega), wrU_id (n := c) (by omega) (by omega), wrU_id (n := d) (by omega) (by omega)]
  rw [wrU_id (n := b * 8) (by omega) (by omega), wrU_id (n := c * 8388608) (by omega) (by omega), wrU_id (n := d * 549755813888) (by omega) (by omega)]
  rw [or_addI (a := a) (b := b * 8) 3 8 rfl (by omega) (by omega) (by omega) (by omega) (by omega), or_addI (a := a + b * 8) (b := c * 8388608) 23 8388608 rfl (by omega) (by omega) (by omega) (by omega) (by omega),
    or_addI (a := a + b * 8 + c * 8388608) (b := d * 549755813888) 39 549755813888 rfl (by omega) (by omega) (by omega) (by omega) (by omega)]

theorem and_modI {a : Int} (mask p : Int) (k : Nat) (hp : p = ((2 ^ k : Nat) : Int)) (hm : mask + 1 = p) (h0 : 0 ≤ a) (ha : a < 18446744073709551616) (hk : p ≤ 18446744073709551616) :
    wrU ↑(BitVec.toNat (BitVec.ofInt (IntKind.bits IntKind.u64) a &&& BitVec.ofInt (IntKind.bits IntKind.u64) mask)) = a % p := by
  obtain ⟨a, rfl⟩ := Int.eq_ofNat_of_zero_le h0
  have hpos : 0 < 2 ^ k := Nat.two_pow_pos k
  obtain ⟨mask, rfl⟩ := Int.eq_ofNat_of_zero_le (show 0 ≤ mask by omega)
  subst hp
  rw [and_mod a mask (2 ^ k) k rfl (by omega) (by omega) (by omega)]
  rfl

theorem fdiv_ediv {a : Int} (b : Int) (h : 0 ≤ b) : Int.fdiv a b = a / b := Int.fdiv_eq_ediv_of_nonneg _ h

theorem slotOf_eq {w : Int} (h0 : 0 ≤ w) (hw : w < 18446744073709551616) :
    slotOf w = (w % 8, w / 8 % 1048576, w / 8388608 % 65536, w / 549755813888 % 4194304) := by
  unfold slotOf slotOfK
  rw [fdiv_ediv 8 (by omega), fdiv_ediv 8388608 (by omega), fdiv_ediv 549755813888 (by omega)]
  rw [and_modI 7 8 3 rfl rfl h0 hw (by omega), and_modI 1048575 1048576 20 rfl rfl (by omega) (by omega) (by omega), and_modI 65535 65536 16 rfl rfl (by omega) (by omega) (by omega), and_modI 4194303 4194304 22 rfl rfl (by omega) (by omega) (by omega)]
  rw [wrI_id (n := w % 8) (by omega) (by omega), wrI_id (n := w / 8 % 1048576) (by omega) (by omega), wrI_id (n := w / 8388608 % 65536) (by omega) (by omega), wrI_id (n := w / 549755813888 % 4194304) (by omega) (by omega)]

theorem slotOf_put {a b c d : Int} (ha : 0 ≤ a ∧ a ≤ 7) (hb : 0 ≤ b ∧ b ≤ 1048575) (hc : 0 ≤ c ∧ c ≤ 65535) (hd : 0 ≤ d ∧ d ≤ 4194303) : slotOf (putSlot a b c d) = (a, b, c, d) := by
  rw [putSlot_eq ha hb hc hd, slotOf_eq (by omega) (by omega)]
  simp only [Prod.mk.injEq]
  refine ⟨?_, ?_, ?_, ?_⟩ <;> omega

theorem putChunk_eq {a b c d : Int} (ha : 0 ≤ a ∧ a ≤ 3) (hb : 0 ≤ b ∧ b ≤ 63) (hc : 0 ≤ c ∧ c ≤ 1048575) (hd : 0 ≤ d ∧ d ≤ 68719476735) :
    putChunk a b c d = a + b * 4 + c * 256 + d * 268435456 := by
  unfold putChunk putChunkK
  rw [fitted ha.1 ha.2, fitted hb.1 hb.2, fitted hc.1 hc.2, fitted hd.1 hd.2]
  rw [wrU_id (n := a) (by omega) (by omega), wrU_id (n := b) (by omega) (by omega), wrU_id (n := c) (by omega) (by omega), wrU_id (n := d) (by omega) (by omega)]
  rw [wrU_id (n := b * 4) (by omega) (by omega), wrU_id (n := c * 256) (by omega) (by omega), wrU_id (n := d * 268435456) (by omega) (by omega)]
  rw [or_addI (a := a) (b := b * 4) 2 4 rfl (by omega) (by omega) (by omega) (by omega) (by omega), or_addI (a := a + b * 4) (b := c * 256) 8 256 rfl (by omega) (by omega) (by omega) (by omega) (by omega),
    or_addI (a := a + b * 4 + c * 256) (b := d * 268435456) 28 268435456 rfl (by omega) (by omega) (by omega) (by omega) (by omega)]

theorem chunkOf_eq {w : Int} (h0 : 0 ≤ w) (hw : w < 18446744073709551616) :
    chunkOf w = (w % 4, w / 4 % 64, w / 256 % 1048576, w / 268435456) := by
  unfold chunkOf chunkOfK
  rw [fdiv_ediv 4 (by omega), fdiv_ediv 256 (by omega), fdiv_ediv 268435456 (by omega)]
  rw [and_modI 3 4 2 rfl rfl h0 hw (by omega), and_modI 63 64 6 rfl rfl (by omega) (by omega) (by omega), and_modI 1048575 1048576 20 rfl rfl (by omega) (by omega) (by omega), and_modI 68719476735 68719476736 36 rfl rfl (by omega) (by omega) (by omega)]
  rw [wrI_id (n := w % 4) (by omega) (by omega), wrI_id (n := w / 4 % 64) (by omega) (by omega), wrI_id (n := w / 256 % 1048576) (by omega) (by omega), wrI_id (n := w / 268435456 % 68719476736) (by omega) (by omega)]
  have : w / 268435456 % 68719476736 = w / 268435456 := by omega
  rw [this]

theorem chunkOf_put {a b c d : Int} (ha : 0 ≤ a ∧ a ≤ 3) (hb : 0 ≤ b ∧ b ≤ 63) (hc : 0 ≤ c ∧ c ≤ 1048575) (hd : 0 ≤ d ∧ d ≤ 68719476735) : chunkOf (putChunk a b c d) = (a, b, c, d) := by
  rw [putChunk_eq ha hb hc hd, chunkOf_eq (by omega) (by omega)]
  simp only [Prod.mk.injEq]
  refine ⟨?_, ?_, ?_, ?_⟩ <;> omega

theorem putHead_eq {a b c d : Int} (o : Bool) (ha : 0 ≤ a ∧ a ≤ 3) (hb : 0 ≤ b ∧ b ≤ 65535) (hc : 0 ≤ c ∧ c ≤ 65535) (hd : 0 ≤ d ∧ d ≤ 65535) :
    putHead a b c d o = a + b * 4 + c * 262144 + d * 17179869184 + (if o = true then 1125899906842624 else 0) := by
  unfold putHead putHeadK
  rw [fitted ha.1 ha.2, fitted hb.1 hb.2, fitted hc.1 hc.2, fitted hd.1 hd.2]
  rw [wrU_id (n := a) (by omega) (by omega), wrU_id (n := b) (by omega) (by omega), wrU_id (n := c) (by omega) (by omega), wrU_id (n := d) (by omega) (by omega)]
  rw [wrU_id (n := b * 4) (by omega) (by omega), wrU_id (n := c * 262144) (by omega) (by omega), wrU_id (n := d * 17179869184) (by omega) (by omega)]
  rw [or_addI (a := a) (b := b * 4) 2 4 rfl (by omega) (by omega) (by omega) (by omega) (by omega), or_addI (a := a + b * 4) (b := c * 262144) 18 262144 rfl (by omega) (by omega) (by omega) (by omega) (by omega),
    or_addI (a := a + b * 4 + c * 262144) (b := d * 17179869184) 34 17179869184 rfl (by omega) (by omega) (by omega) (by omega) (by omega)]
  cases o with
  | true =>
    simp only [cond_true, if_true]
    rw [or_addI (a := a + b * 4 + c * 262144 + d * 17179869184) (b := 1125899906842624) 50 1125899906842624 rfl (by omega) (by omega) (by omega) (by omega) (by omega)]
  | false =>
    simp only [cond_false, Bool.false_eq_true, if_false]
    omega

theorem headOf_eq {w : Int} (h0 : 0 ≤ w) (hw : w < 18446744073709551616) :
    headOf w = (w % 4, w / 4 % 65536, w / 262144 % 65536, w / 17179869184 % 65536, decide (w / 1125899906842624 % 2 = 1)) := by
  unfold headOf headOfK
  rw [fdiv_ediv 4 (by omega), fdiv_ediv 262144 (by omega), fdiv_ediv 17179869184 (by omega), fdiv_ediv 1125899906842624 (by omega)]
  rw [and_modI 3 4 2 rfl rfl h0 hw (by omega), and_modI (a := w / 4) 65535 65536 16 rfl rfl (by omega) (by omega) (by omega), and_modI (a := w / 262144) 65535 65536 16 rfl rfl (by omega) (by omega) (by omega), and_modI (a := w / 17179869184) 65535 65536 16 rfl rfl (by omega) (by omega) (by omega),
    and_modI 1 2 1 rfl rfl (by omega) (by omega) (by omega)]
  rw [wrI_id (n := w % 4) (by omega) (by omega), wrI_id (n := w / 4 % 65536) (by omega) (by omega), wrI_id (n := w / 262144 % 65536) (by omega) (by omega), wrI_id (n := w / 17179869184 % 65536) (by omega) (by omega)]

theorem headOf_put {a b c d : Int} (o : Bool) (ha : 0 ≤ a ∧ a ≤ 3) (hb : 0 ≤ b ∧ b ≤ 65535) (hc : 0 ≤ c ∧ c ≤ 65535) (hd : 0 ≤ d ∧ d ≤ 65535) : headOf (putHead a b c d o) = (a, b, c, d, o) := by
  rw [putHead_eq o ha hb hc hd]
  cases o with
  | true =>
    simp only [if_true]
    rw [headOf_eq (by omega) (by omega)]
    simp only [Prod.mk.injEq, decide_eq_true_eq]
    refine ⟨?_, ?_, ?_, ?_, ?_⟩ <;> omega
  | false =>
    simp only [Bool.false_eq_true, if_false]
    rw [headOf_eq (by omega) (by omega)]
    simp only [Prod.mk.injEq, decide_eq_false_iff_not]
    refine ⟨?_, ?_, ?_, ?_, ?_⟩ <;> omega

/-- A cell that is not frozen. -/
theorem putCell_eq {a c : Int} (ha : 0 ≤ a ∧ a ≤ 1099511627775) : putCell a false c = a := by
  unfold putCell putCellK
  simp only [cond_false]
  rw [fitted ha.1 ha.2, wrU_id (by omega) (by omega)]

theorem putCell_frozen {a c : Int} (ha : 0 ≤ a ∧ a ≤ 1099511627775) (hc : 0 ≤ c ∧ c ≤ 4194303) : putCell a true c = a + 9223372036854775808 + c * 1099511627776 := by
  unfold putCell putCellK
  simp only [cond_true]
  rw [fitted ha.1 ha.2, fitted hc.1 hc.2, wrU_id (n := a) (by omega) (by omega), wrU_id (n := c) (by omega) (by omega), wrU_id (n := c * 1099511627776) (by omega) (by omega)]
  have e : wrU ↑(BitVec.toNat (BitVec.ofInt (IntKind.bits IntKind.u64) 9223372036854775808 ||| BitVec.ofInt (IntKind.bits IntKind.u64) (c * 1099511627776))) = c * 1099511627776 + 9223372036854775808 := by
    rw [BitVec.or_comm]
    exact or_addI (a := c * 1099511627776) (b := 9223372036854775808) 63 9223372036854775808 rfl (by omega) (by omega) (by omega) (by omega) (by omega)
  rw [e, or_addI (a := a) (b := c * 1099511627776 + 9223372036854775808) 40 1099511627776 rfl (by omega) (by omega) (by omega) (by omega) (by omega)]
  omega

theorem cellOf_eq {w : Int} (h0 : 0 ≤ w) (hw : w < 18446744073709551616) :
    cellOf w = (w % 1099511627776, decide (w / 9223372036854775808 = 1), if w / 9223372036854775808 = 1 then w / 1099511627776 % 4194304 else 0) := by
  unfold cellOf cellOfK
  rw [fdiv_ediv 9223372036854775808 (by omega), fdiv_ediv 1099511627776 (by omega)]
  rw [and_modI 1099511627775 1099511627776 40 rfl rfl h0 hw (by omega), and_modI 4194303 4194304 22 rfl rfl (by omega) (by omega) (by omega)]
  rw [wrI_id (n := w % 1099511627776) (by omega) (by omega), wrI_id (n := w / 1099511627776 % 4194304) (by omega) (by omega)]
  by_cases h : w / 9223372036854775808 = 1 <;> simp [h]

theorem cellOf_plain {a : Int} (ha : 0 ≤ a ∧ a ≤ 1099511627775) : cellOf a = (a, false, 0) := by
  rw [cellOf_eq (by omega) (by omega)]
  have h : a / 9223372036854775808 = 0 := by omega
  simp only [h, Prod.mk.injEq]
  refine ⟨by omega, by decide, by simp⟩

theorem putTop_eq {a b : Int} (ha : -1 ≤ a ∧ a ≤ 65535) (hb : 0 ≤ b ∧ b ≤ 68719476735) : putTop a b = a + 1 + b * 131072 := by
  unfold putTop putTopK
  rw [if_neg (show ¬ (65535 < a) by omega), wrI_id (n := a + 1) (by omega) (by omega), fitted (a := a + 1) (by omega) (by omega), fitted hb.1 hb.2, wrU_id (n := a + 1) (by omega) (by omega), wrU_id (n := b) (by omega) (by omega), wrU_id (n := b * 131072) (by omega) (by omega)]
  rw [or_addI (a := a + 1) (b := b * 131072) 17 131072 rfl (by omega) (by omega) (by omega) (by omega) (by omega)]

theorem wrI_pred {n : Int} (h0 : 0 ≤ n) (h1 : n < 9223372036854775808) : wrI (n - 1) = n - 1 := by
  unfold wrI
  by_cases h : n = 0
  · subst h; decide
  · have h2 : (n - 1) % 18446744073709551616 = n - 1 := Int.emod_eq_of_lt (by omega) (by omega)
    simp only [h2, Bool.true_and, ge_iff_le, decide_eq_true_eq]
    rw [if_neg (by omega)]

theorem topOf_eq {w : Int} (h0 : 0 ≤ w) (hw : w < 18446744073709551616) : topOf w = (w % 131072 - 1, w / 131072 % 68719476736) := by
  unfold topOf topOfK
  rw [fdiv_ediv 131072 (by omega)]
  rw [and_modI 131071 131072 17 rfl rfl h0 hw (by omega), and_modI 68719476735 68719476736 36 rfl rfl (by omega) (by omega) (by omega)]
  rw [wrI_id (n := w % 131072) (by omega) (by omega), wrI_pred (n := w % 131072) (by omega) (by omega), wrI_id (n := w / 131072 % 68719476736) (by omega) (by omega)]

theorem topOf_put {a b : Int} (ha : -1 ≤ a ∧ a ≤ 65535) (hb : 0 ≤ b ∧ b ≤ 68719476735) : topOf (putTop a b) = (a, b) := by
  rw [putTop_eq ha hb, topOf_eq (by omega) (by omega)]
  simp only [Prod.mk.injEq]
  refine ⟨?_, ?_⟩ <;> omega

theorem putHandle_eq {a b : Int} (ha : 0 ≤ a ∧ a ≤ 65535) (hb : 0 ≤ b ∧ b ≤ 65535) : putHandle a b = a + b * 65536 := by
  unfold putHandle putHandleK
  rw [fitted ha.1 ha.2, fitted hb.1 hb.2, wrU_id (n := a) (by omega) (by omega), wrU_id (n := b) (by omega) (by omega), wrU_id (n := b * 65536) (by omega) (by omega)]
  rw [or_addI (a := a) (b := b * 65536) 16 65536 rfl (by omega) (by omega) (by omega) (by omega) (by omega)]

theorem handle_eq {w : Int} (h0 : 0 ≤ w) (hw : w < 18446744073709551616) :
    handle w = if w / 4294967296 = 0 ∧ w / 65536 ≠ 0 then (w % 65536, w / 65536, true) else (0, 0, false) := by
  unfold handle handleK
  rw [fdiv_ediv 4294967296 (by omega), fdiv_ediv 65536 (by omega)]
  by_cases h1 : w / 4294967296 = 0
  · by_cases h2 : w / 65536 = 0
    · simp [h1, h2]
    · rw [and_modI 65535 65536 16 rfl rfl h0 hw (by omega), wrI_id (n := w % 65536) (by omega) (by omega), wrI_id (n := w / 65536) (by omega) (by omega)]
      simp [h1, h2]
  · simp [h1]

theorem handle_put {a b : Int} (ha : 0 ≤ a ∧ a ≤ 65535) (hb : 1 ≤ b ∧ b ≤ 65535) : handle (putHandle a b) = (a, b, true) := by
  rw [putHandle_eq ha (by omega), handle_eq (by omega) (by omega), if_pos (by omega)]
  simp only [Prod.mk.injEq, and_true]
  refine ⟨?_, ?_⟩ <;> omega

end Go.FL

/-
  Steps of one who is alone: what they come to, so many of them.
-/
set_option linter.unusedVariables false
set_option linter.unusedSimpArgs false
set_option maxRecDepth 20000
namespace Go.FL
open Go

/-! ### The memory's operations where the address is one -/

section
variable {m : PMem} {who a b d : Int}

theorem PMem.touch_w : (m.touch who a).w = m.w := rfl
theorem PMem.touch_n : (m.touch who a).n = m.n := rfl
theorem PMem.touch_steps : (m.touch who a).steps = wrI (m.steps + 1) := rfl
theorem PMem.lay_w : (m.lay who a b).w = upd m.w a.toNat b := rfl
theorem PMem.lay_n : (m.lay who a b).n = m.n := rfl
theorem PMem.lay_steps : (m.lay who a b).steps = wrI (m.steps + 1) := rfl

theorem upd_eq (f : Nat → Int) (i j : Nat) (v : Int) : upd f i v j = if j = i then v else f j := by
  unfold upd
  by_cases h : j = i
  · subst h; rw [Nat.beq_refl, if_pos rfl]; rfl
  · have : Nat.beq j i = false := Bool.eq_false_iff.2 fun hc => h (Nat.eq_of_beq_eq_true hc)
    rw [this, if_neg h]; rfl

theorem upd_same (f : Nat → Int) (i : Nat) (v : Int) : upd f i v i = v := by rw [upd_eq, if_pos rfl]
theorem upd_other (f : Nat → Int) {i j : Nat} (v : Int) (h : j ≠ i) : upd f i v j = f j := by rw [upd_eq, if_neg h]

theorem PMem.eLoad_in (h0 : 0 ≤ a) (h1 : a < m.n) : m.eLoad who a = (m.w a.toNat, m.touch who a) := by
  unfold PMem.eLoad
  rw [if_neg (by omega), if_neg (by omega)]

theorem PMem.eStore_in (h0 : 0 ≤ a) (h1 : a < m.n) : m.eStore who a b = m.lay who a b := by
  unfold PMem.eStore
  rw [if_neg (by omega), if_neg (by omega)]

theorem PMem.eCas_in (h0 : 0 ≤ a) (h1 : a < m.n) (h : m.w a.toNat = b) : m.eCas who a b d = (true, m.lay who a d) := by
  unfold PMem.eCas
  rw [if_neg (by omega), if_neg (by omega), if_pos h]

theorem PMem.eAdd_in (h0 : 0 ≤ a) (h1 : a < m.n) : m.eAdd who a b = m.lay who a (wrU (m.w a.toNat + wrU b)) := by
  unfold PMem.eAdd
  rw [if_neg (by omega), if_neg (by omega)]

theorem PMem.peek_in (h0 : 0 ≤ a) (h1 : a < m.n) : m.peek a = m.w a.toNat := by
  unfold PMem.peek
  rw [if_neg (by omega), if_neg (by omega)]
end

/-! ### So many steps -/

/-- 'step' ends behind so many steps. -/
inductive RunsTo {S : Type} (step : S → PMem → Bool × S × PMem) : S → PMem → Nat → S → PMem → Prop
  | last {s s' : S} {m m' : PMem} (h : step s m = (true, s', m')) : RunsTo step s m 1 s' m'
  | more {s s1 s' : S} {m m1 m' : PMem} {k : Nat} (h : step s m = (false, s1, m1)) (r : RunsTo step s1 m1 k s' m') : RunsTo step s m (k + 1) s' m'

/-- So many steps that do not end it. -/
inductive GoesTo {S : Type} (step : S → PMem → Bool × S × PMem) : S → PMem → Nat → S → PMem → Prop
  | here {s : S} {m : PMem} : GoesTo step s m 0 s m
  | more {s s1 s' : S} {m m1 m' : PMem} {k : Nat} (h : step s m = (false, s1, m1)) (r : GoesTo step s1 m1 k s' m') : GoesTo step s m (k + 1) s' m'

theorem GoesTo.runs {S : Type} {step : S → PMem → Bool × S × PMem} {s s1 s' : S} {m m1 m' : PMem} {k j : Nat} (h : GoesTo step s m k s1 m1) (r : RunsTo step s1 m1 j s' m') : RunsTo step s m (k + j) s' m' := by
  induction h with
  | here => rw [Nat.zero_add]; exact r
  | more h _ ih => rw [Nat.succ_add]; exact .more h (ih r)

theorem GoesTo.trans {S : Type} {step : S → PMem → Bool × S × PMem} {s s1 s' : S} {m m1 m' : PMem} {k j : Nat} (h : GoesTo step s m k s1 m1) (r : GoesTo step s1 m1 j s' m') : GoesTo step s m (k + j) s' m' := by
  induction h with
  | here => rw [Nat.zero_add]; exact r
  | more h _ ih => rw [Nat.succ_add]; exact .more h (ih r)

/-- A run within so many steps. -/
theorem RunsTo.of_run {S : Type} {step : S → PMem → Bool × S × PMem} {run : Nat → S → PMem → S × PMem}
    (hs : ∀ n s m, run (n + 1) s m = match (step s m).1 with
      | true => ((step s m).2.1, (step s m).2.2)
      | false => run n (step s m).2.1 (step s m).2.2) {s s' : S} {m m' : PMem} {k : Nat} (h : RunsTo step s m k s' m') : ∀ n, k ≤ n → run n s m = (s', m') := by
  induction h with
  | last h =>
    intro n hn
    obtain ⟨q, rfl⟩ : ∃ q, n = q + 1 := ⟨n - 1, by omega⟩
    rw [hs, h]
  | more h _ ih =>
    intro n hn
    obtain ⟨q, rfl⟩ : ∃ q, n = q + 1 := ⟨n - 1, by omega⟩
    rw [hs, h]
    exact ih q (by omega)

end Go.FL

/-
  Where things stand, as plain numbers.
-/
set_option linter.unusedVariables false
set_option linter.unusedSimpArgs false
set_option maxRecDepth 20000
namespace Go.FL
open Go

theorem lSlot_eq {c1 c2 c3 c4 c5 c6 c7 a : Int} (h1 : 0 ≤ c1 ∧ c1 ≤ 1000000) (ha : 0 ≤ a ∧ a ≤ 1000000) : lSlot c1 c2 c3 c4 c5 c6 c7 a = 6 + c1 + 2 * a := by
  unfold lSlot lSlotK
  rw [wrI_id (n := 6 + c1) (by omega) (by omega), wrI_id (n := 2 * a) (by omega) (by omega), wrI_id (by omega) (by omega)]

theorem lChunk_eq {c1 c2 c3 c4 c5 c6 c7 a : Int} (h1 : 0 ≤ c1 ∧ c1 ≤ 1000000) (h2 : 0 ≤ c2 ∧ c2 ≤ 1000000) (ha : 0 ≤ a ∧ a ≤ 1000000) : lChunk c1 c2 c3 c4 c5 c6 c7 a = 6 + c1 + 2 * c2 + 3 * a := by
  unfold lChunk lChunkK
  rw [wrI_id (n := 6 + c1) (by omega) (by omega), wrI_id (n := 2 * c2) (by omega) (by omega), wrI_id (n := 6 + c1 + 2 * c2) (by omega) (by omega), wrI_id (n := 3 * a) (by omega) (by omega), wrI_id (by omega) (by omega)]

theorem lBase_eq {c1 c2 c3 c4 c5 c6 c7 a : Int} (h1 : 0 ≤ c1 ∧ c1 ≤ 1000000) (h2 : 0 ≤ c2 ∧ c2 ≤ 1000000) (h3 : 0 ≤ c3 ∧ c3 ≤ 1000000) (ha : 0 ≤ c4 * a ∧ c4 * a ≤ 1000000000000) :
    lBase c1 c2 c3 c4 c5 c6 c7 a = 6 + c1 + 2 * c2 + 3 * c3 + c4 * a := by
  unfold lBase lBaseK
  rw [wrI_id (n := 6 + c1) (by omega) (by omega), wrI_id (n := 2 * c2) (by omega) (by omega), wrI_id (n := 6 + c1 + 2 * c2) (by omega) (by omega), wrI_id (n := 3 * c3) (by omega) (by omega), wrI_id (n := 6 + c1 + 2 * c2 + 3 * c3) (by omega) (by omega),
    wrI_id (n := c4 * a) (by omega) (by omega), wrI_id (by omega) (by omega)]

theorem lOf_eq {c1 c2 c3 c4 c5 c6 c7 a : Int} (h1 : 0 ≤ c1 ∧ c1 ≤ 1000000) (h2 : 0 ≤ c2 ∧ c2 ≤ 1000000) (h3 : 0 ≤ c3 ∧ c3 ≤ 1000000) (h4 : 0 < c4) (hc : c4 * c3 ≤ 1000000000000) (hc0 : 0 ≤ c4 * c3)
    (k off : Int) (hk : a = 6 + c1 + 2 * c2 + 3 * c3 + (c4 * k + off)) (hk0 : 0 ≤ k) (hoff : 0 ≤ off ∧ off < c4) (hlt : c4 * k + off < c4 * c3) (hkm : k ≤ 1000000) : lOf c1 c2 c3 c4 c5 c6 c7 a = k := by
  have hck : 0 ≤ c4 * k := Int.mul_nonneg (by omega) hk0
  unfold lOf lOfK
  rw [Int.mul_zero, wrI_id (n := (0 : Int)) (by omega) (by omega)]
  rw [wrI_id (n := 6 + c1) (by omega) (by omega), wrI_id (n := 2 * c2) (by omega) (by omega), wrI_id (n := 6 + c1 + 2 * c2) (by omega) (by omega), wrI_id (n := 3 * c3) (by omega) (by omega), wrI_id (n := 6 + c1 + 2 * c2 + 3 * c3) (by omega) (by omega),
    wrI_id (n := c4 * c3) (by omega) (by omega), wrI_id (n := 6 + c1 + 2 * c2 + 3 * c3 + c4 * c3) (by omega) (by omega), wrI_id (n := 6 + c1 + 2 * c2 + 3 * c3 + 0) (by omega) (by omega), wrI_id (n := a - (6 + c1 + 2 * c2 + 3 * c3 + 0)) (by omega) (by omega)]
  have e1 : decide (a < 6 + c1 + 2 * c2 + 3 * c3 + 0) = false := by simp; omega
  have e2 : decide (6 + c1 + 2 * c2 + 3 * c3 + c4 * c3 ≤ a) = false := by simp; omega
  have e3 : decide (c4 = 0) = false := by simp; omega
  rw [e1, e2, e3]
  simp only [cond_false]
  have e4 : a - (6 + c1 + 2 * c2 + 3 * c3 + 0) = c4 * k + off := by omega
  rw [e4, Int.tdiv_eq_ediv_of_nonneg (by omega)]
  have e5 : (c4 * k + off) / c4 = k := by
    rw [Int.add_comm, Int.add_mul_ediv_left _ _ (by omega), Int.ediv_eq_zero_of_lt hoff.1 hoff.2, Int.zero_add]
  rw [e5]
  exact wrI_id hk0 (by omega)

theorem lOpen_eq {a : Int} (ha : 0 ≤ a ∧ a ≤ 1000000) : wrI (2 + a) = 2 + a := wrI_id (by omega) (by omega)

/-- The class of a size, and its room. -/
theorem lClass_eq (n : Int) (h : 1 ≤ n ∧ n ≤ 16) : lClass n = if n ≤ 2 then 0 else if n ≤ 4 then 1 else if n ≤ 8 then 2 else 3 := by
  have key : ∀ k : Fin 16, lClass ((k.val : Int) + 1) = if ((k.val : Int) + 1) ≤ 2 then 0 else if ((k.val : Int) + 1) ≤ 4 then 1 else if ((k.val : Int) + 1) ≤ 8 then 2 else 3 := by decide
  have := key ⟨(n - 1).toNat, by omega⟩
  have e : (((n - 1).toNat : Nat) : Int) + 1 = n := by omega
  simp only [e] at this
  exact this

theorem lClass_neg (n : Int) (h : n < 1 ∨ 16 < n) : lClass n = -1 := by
  unfold lClass lClassK
  have w0 : wrI (2 * 2 ^ min (Int.toNat 0) (IntKind.bits IntKind.i64)) = 2 := by decide
  have w1 : wrI (2 * 2 ^ min (Int.toNat (wrI (0 + 1))) (IntKind.bits IntKind.i64)) = 4 := by decide
  have w2 : wrI (2 * 2 ^ min (Int.toNat (wrI (wrI (0 + 1) + 1))) (IntKind.bits IntKind.i64)) = 8 := by decide
  have w3 : wrI (2 * 2 ^ min (Int.toNat (wrI (wrI (wrI (0 + 1) + 1) + 1))) (IntKind.bits IntKind.i64)) = 16 := by decide
  simp only [w0, w1, w2, w3]
  rcases h with h | h
  · have : decide (1 ≤ n) = false := by simp; omega
    simp [this]
  · have h1 : decide (1 ≤ n) = true := by simp; omega
    have h2 : decide (n ≤ 2) = false := by simp; omega
    have h3 : decide (n ≤ 4) = false := by simp; omega
    have h4 : decide (n ≤ 8) = false := by simp; omega
    have h5 : decide (n ≤ 16) = false := by simp; omega
    simp [h1, h2, h3, h4, h5]

theorem lRoom_0 : lRoom 0 = 3 := by decide
theorem lRoom_1 : lRoom 1 = 5 := by decide
theorem lRoom_2 : lRoom 2 = 9 := by decide
theorem lRoom_3 : lRoom 3 = 17 := by decide

end Go.FL

/-
  An object is made alone: step by step.
-/
set_option linter.unusedVariables false
set_option linter.unusedSimpArgs false
set_option maxRecDepth 20000
namespace Go.FL
open Go

section
variable (c : PCfg) (who size : Int) (own ok : Bool) (top next slot at_ gen sa sc : Int) (out : PDone) (p : PPlace) (g : PGive) (tk : PTake) (m : PMem)

theorem al_0 : allocStep c who ⟨size, own, 0, ⟨0, top, next, slot, ok⟩, at_, gen, none, sa, sc, none, out⟩ m =
    (bif decide (lClass size < 0) then (true, ⟨size, own, 0, ⟨0, top, next, slot, ok⟩, at_, gen, none, sa, sc, none, ⟨5, 0, 0, m.steps⟩⟩, m)
    else bif decide ((topOf (m.eLoad who 1).1).1 < 0) then
      bif !ok then (true, ⟨size, own, 1, ⟨1, (m.eLoad who 1).1, next, (topOf (m.eLoad who 1).1).1, ok⟩, 0, gen, none, sa, sc, none, ⟨7, 0, 0, (m.eLoad who 1).2.steps⟩⟩, (m.eLoad who 1).2)
      else (false, ⟨size, own, 1, ⟨1, (m.eLoad who 1).1, next, (topOf (m.eLoad who 1).1).1, ok⟩, (topOf (m.eLoad who 1).1).1, gen, none, sa, sc, none, out⟩, (m.eLoad who 1).2)
    else (false, ⟨size, own, 0, ⟨1, (m.eLoad who 1).1, next, (topOf (m.eLoad who 1).1).1, ok⟩, at_, gen, none, sa, sc, none, out⟩, (m.eLoad who 1).2)) := by kernel_rfl

theorem al_1 : allocStep c who ⟨size, own, 0, ⟨1, top, next, slot, false⟩, at_, gen, none, sa, sc, none, out⟩ m =
    (bif decide (lClass size < 0) then (true, ⟨size, own, 0, ⟨1, top, next, slot, false⟩, at_, gen, none, sa, sc, none, ⟨5, 0, 0, m.steps⟩⟩, m)
    else (false, ⟨size, own, 0, ⟨2, top, (topOf (m.eLoad who (wrI (lSlot c.threads c.slots c.chunks c.words c.gens c.sparse c.tries slot + 1))).1).1, slot, false⟩, at_, gen, none, sa, sc, none, out⟩,
      (m.eLoad who (wrI (lSlot c.threads c.slots c.chunks c.words c.gens c.sparse c.tries slot + 1))).2)) := by kernel_rfl

theorem al_2 : allocStep c who ⟨size, own, 0, ⟨2, top, next, slot, ok⟩, at_, gen, none, sa, sc, none, out⟩ m =
    (bif decide (lClass size < 0) then (true, ⟨size, own, 0, ⟨2, top, next, slot, ok⟩, at_, gen, none, sa, sc, none, ⟨5, 0, 0, m.steps⟩⟩, m)
    else bif (m.eCas who 1 top (putTop next (wrI ((topOf top).2 + 1)))).1 then
      bif !(m.eCas who 1 top (putTop next (wrI ((topOf top).2 + 1)))).1 then
        (true, ⟨size, own, 1, ⟨0, top, next, slot, (m.eCas who 1 top (putTop next (wrI ((topOf top).2 + 1)))).1⟩, 0, gen, none, sa, sc, none, ⟨7, 0, 0, (m.eCas who 1 top (putTop next (wrI ((topOf top).2 + 1)))).2.steps⟩⟩, (m.eCas who 1 top (putTop next (wrI ((topOf top).2 + 1)))).2)
      else (false, ⟨size, own, 1, ⟨0, top, next, slot, (m.eCas who 1 top (putTop next (wrI ((topOf top).2 + 1)))).1⟩, slot, gen, none, sa, sc, none, out⟩, (m.eCas who 1 top (putTop next (wrI ((topOf top).2 + 1)))).2)
    else (false, ⟨size, own, 0, ⟨0, top, next, slot, (m.eCas who 1 top (putTop next (wrI ((topOf top).2 + 1)))).1⟩, at_, gen, none, sa, sc, none, out⟩, (m.eCas who 1 top (putTop next (wrI ((topOf top).2 + 1)))).2)) := by kernel_rfl

theorem al_see : allocStep c who ⟨size, own, 1, tk, at_, gen, none, sa, sc, none, out⟩ m =
    (false, ⟨size, own, 2, tk, at_, (slotOf (m.eLoad who (lSlot c.threads c.slots c.chunks c.words c.gens c.sparse c.tries at_)).1).2.2.1, some ⟨lClass size, 0, 0, 0, 0, 0, 0, false⟩, sa, sc, none, out⟩,
      (m.eLoad who (lSlot c.threads c.slots c.chunks c.words c.gens c.sparse c.tries at_)).2) := by kernel_rfl

theorem al_place : allocStep c who ⟨size, own, 2, tk, at_, gen, some p, sa, sc, none, out⟩ m =
    (bif (placeStep c who p m).1 then bif !(placeStep c who p m).2.1.ok then
        (false, ⟨size, own, 7, tk, at_, gen, some (placeStep c who p m).2.1, (bif (placeStep c who p m).2.1.ok then (placeStep c who p m).2.1.sa else 0), (bif (placeStep c who p m).2.1.ok then (placeStep c who p m).2.1.sc else 0), some ⟨0, at_, 0⟩, ⟨6, 0, 0, (placeStep c who p m).2.2.steps⟩⟩, (placeStep c who p m).2.2)
      else (false, ⟨size, own, 3, tk, at_, gen, some (placeStep c who p m).2.1, (bif (placeStep c who p m).2.1.ok then (placeStep c who p m).2.1.sa else 0), (bif (placeStep c who p m).2.1.ok then (placeStep c who p m).2.1.sc else 0), none, out⟩, (placeStep c who p m).2.2)
    else (false, ⟨size, own, 2, tk, at_, gen, some (placeStep c who p m).2.1, sa, sc, none, out⟩, (placeStep c who p m).2.2)) := by kernel_rfl

theorem al_count : allocStep c who ⟨size, own, 3, tk, at_, gen, some p, sa, sc, none, out⟩ m =
    (false, ⟨size, own, 4, tk, at_, gen, some p, sa, sc, none, out⟩, m.eAdd who (wrI (lChunk c.threads c.slots c.chunks c.words c.gens c.sparse c.tries sc + 1)) (lRoom (lClass size))) := by kernel_rfl

theorem al_head : allocStep c who ⟨size, own, 4, tk, at_, gen, some p, sa, sc, none, out⟩ m =
    (false, ⟨size, own, 5, tk, at_, gen, some p, sa, sc, none, out⟩, m.eStore who sa (putHead 1 size at_ gen own)) := by kernel_rfl

theorem al_show : allocStep c who ⟨size, own, 5, tk, at_, gen, some p, sa, sc, none, out⟩ m =
    (false, ⟨size, own, 6, tk, at_, gen, some p, sa, sc, none, ⟨0, putHandle at_ gen, 0, (m.eStore who (lSlot c.threads c.slots c.chunks c.words c.gens c.sparse c.tries at_) (putSlot 1 sa gen 0)).steps⟩⟩,
      m.eStore who (lSlot c.threads c.slots c.chunks c.words c.gens c.sparse c.tries at_) (putSlot 1 sa gen 0)) := by kernel_rfl

theorem al_ready : allocStep c who ⟨size, own, 6, tk, at_, gen, some p, sa, sc, none, out⟩ m =
    (true, ⟨size, own, 6, tk, at_, gen, some p, sa, sc, none, out⟩, m.eStore who sa (putHead 2 size at_ gen own)) := by kernel_rfl

end
end Go.FL

/-
  Words of a chunk are got alone: step by step.
-/
set_option linter.unusedVariables false
set_option linter.unusedSimpArgs false
set_option maxRecDepth 20000
namespace Go.FL
open Go

section
variable (c : PCfg) (who cls opn at_ w sa sc : Int) (ok : Bool) (m : PMem)

abbrev chA (c : PCfg) (k : Int) : Int := lChunk c.threads c.slots c.chunks c.words c.gens c.sparse c.tries k

theorem pl_look : placeStep c who ⟨cls, 0, opn, at_, w, sa, sc, ok⟩ m =
    (bif decide (wrI (wrI (m.eLoad who (wrI (2 + cls))).1 - 1) < 0) then (false, ⟨cls, 3, (m.eLoad who (wrI (2 + cls))).1, 0, w, sa, sc, ok⟩, (m.eLoad who (wrI (2 + cls))).2)
    else (false, ⟨cls, 1, (m.eLoad who (wrI (2 + cls))).1, wrI (wrI (m.eLoad who (wrI (2 + cls))).1 - 1), w, sa, sc, ok⟩, (m.eLoad who (wrI (2 + cls))).2)) := by kernel_rfl

theorem pl_see : placeStep c who ⟨cls, 1, opn, at_, w, sa, sc, ok⟩ m =
    (bif !decide ((chunkOf (m.eLoad who (chA c at_)).1).1 = 1) then (false, ⟨cls, 3, opn, 0, (m.eLoad who (chA c at_)).1, sa, sc, ok⟩, (m.eLoad who (chA c at_)).2)
    else bif !decide ((chunkOf (m.eLoad who (chA c at_)).1).2.1 = cls) then (false, ⟨cls, 3, opn, 0, (m.eLoad who (chA c at_)).1, sa, sc, ok⟩, (m.eLoad who (chA c at_)).2)
    else bif decide (c.words < wrI ((chunkOf (m.eLoad who (chA c at_)).1).2.2.1 + lRoom cls)) then (false, ⟨cls, 3, opn, 0, (m.eLoad who (chA c at_)).1, sa, sc, ok⟩, (m.eLoad who (chA c at_)).2)
    else (false, ⟨cls, 2, opn, at_, (m.eLoad who (chA c at_)).1, sa, sc, ok⟩, (m.eLoad who (chA c at_)).2)) := by kernel_rfl

abbrev plUsed (cls w : Int) : Int := putChunk (chunkOf w).1 (chunkOf w).2.1 (wrI ((chunkOf w).2.2.1 + lRoom cls)) (chunkOf w).2.2.2

theorem pl_get : placeStep c who ⟨cls, 2, opn, at_, w, sa, sc, ok⟩ m =
    (bif !(m.eCas who (chA c at_) w (plUsed cls w)).1 then (false, ⟨cls, 0, opn, at_, w, sa, sc, ok⟩, (m.eCas who (chA c at_) w (plUsed cls w)).2)
    else (true, ⟨cls, 0, opn, at_, w, wrI (lBase c.threads c.slots c.chunks c.words c.gens c.sparse c.tries at_ + (chunkOf w).2.2.1), at_, true⟩, (m.eCas who (chA c at_) w (plUsed cls w)).2)) := by kernel_rfl

theorem pl_scan : placeStep c who ⟨cls, 3, opn, at_, w, sa, sc, ok⟩ m =
    (bif !decide ((chunkOf (m.eLoad who (chA c at_)).1).1 = 0) then (decide (c.chunks ≤ wrI (at_ + 1)), ⟨cls, 3, opn, wrI (at_ + 1), (m.eLoad who (chA c at_)).1, sa, sc, ok⟩, (m.eLoad who (chA c at_)).2)
    else (false, ⟨cls, 4, opn, at_, (m.eLoad who (chA c at_)).1, sa, sc, ok⟩, (m.eLoad who (chA c at_)).2)) := by kernel_rfl

abbrev plFresh (cls w : Int) : Int := putChunk 1 cls 0 (wrI ((chunkOf w).2.2.2 + 1))

theorem pl_take : placeStep c who ⟨cls, 4, opn, at_, w, sa, sc, ok⟩ m =
    (bif !(m.eCas who (chA c at_) w (plFresh cls w)).1 then (decide (c.chunks ≤ wrI (at_ + 1)), ⟨cls, 3, opn, wrI (at_ + 1), w, sa, sc, ok⟩, (m.eCas who (chA c at_) w (plFresh cls w)).2)
    else (false, ⟨cls, 5, opn, at_, w, sa, sc, ok⟩, (m.eCas who (chA c at_) w (plFresh cls w)).2)) := by kernel_rfl

theorem pl_open : placeStep c who ⟨cls, 5, opn, at_, w, sa, sc, ok⟩ m =
    (bif (m.eCas who (wrI (2 + cls)) opn (wrU (wrI (at_ + 1)))).1 then (false, ⟨cls, 0, opn, at_, w, sa, sc, ok⟩, (m.eCas who (wrI (2 + cls)) opn (wrU (wrI (at_ + 1)))).2)
    else (false, ⟨cls, 6, opn, at_, w, sa, sc, ok⟩, (m.eCas who (wrI (2 + cls)) opn (wrU (wrI (at_ + 1)))).2)) := by kernel_rfl

end
end Go.FL

/-
  Objects are made alone, in an arena of 30 slots and 8 chunks of 34 words: each chunk counts as many words as it gave out.
-/
set_option linter.unusedVariables false
set_option linter.unusedSimpArgs false
set_option maxRecDepth 20000
namespace Go.FL
open Go

/-! ### So many steps at most, and then that. -/

def Wq {S : Type} (step : S → PMem → Bool × S × PMem) : Nat → S → PMem → (S → PMem → Prop) → Prop
  | 0, _, _, _ => False
  | n + 1, s, m, Q => match step s m with
    | (true, s', m') => Q s' m'
    | (false, s', m') => Wq step n s' m' Q

section
variable {S : Type} {step : S → PMem → Bool × S × PMem} {s s' : S} {m m' : PMem} {Q Q' : S → PMem → Prop}

theorem Wq.f {n : Nat} (e : step s m = (false, s', m')) (h : Wq step n s' m' Q) : Wq step (n + 1) s m Q := by
  show (match step s m with | (true, s', m') => Q s' m' | (false, s', m') => Wq step n s' m' Q)
  rw [e]; exact h

theorem Wq.t {n : Nat} (e : step s m = (true, s', m')) (h : Q s' m') : Wq step (n + 1) s m Q := by
  show (match step s m with | (true, s', m') => Q s' m' | (false, s', m') => Wq step n s' m' Q)
  rw [e]; exact h

theorem Wq.up {n k : Nat} (h : Wq step n s m Q) (hq : ∀ s' m', Q s' m' → Q' s' m') (hk : n ≤ k) : Wq step k s m Q' := by
  induction n generalizing k s m with
  | zero => exact h.elim
  | succ n ih =>
    obtain ⟨q, rfl⟩ : ∃ q, k = q + 1 := ⟨k - 1, by omega⟩
    match e : step s m with
    | (true, s1, m1) =>
      have h : (match step s m with | (true, s', m') => Q s' m' | (false, s', m') => Wq step n s' m' Q) := h
      rw [e] at h
      exact Wq.t e (hq _ _ h)
    | (false, s1, m1) =>
      have h : (match step s m with | (true, s', m') => Q s' m' | (false, s', m') => Wq step n s' m' Q) := h
      rw [e] at h
      exact Wq.f e (ih h (by omega))

theorem Wq.inv {n : Nat} (h : Wq step (n + 1) s m Q) : (∃ s' m', step s m = (true, s', m') ∧ Q s' m') ∨ (∃ s' m', step s m = (false, s', m') ∧ Wq step n s' m' Q) := by
  have h : (match step s m with | (true, s', m') => Q s' m' | (false, s', m') => Wq step n s' m' Q) := h
  match e : step s m with
  | (true, s1, m1) => rw [e] at h; exact .inl ⟨s1, m1, rfl, h⟩
  | (false, s1, m1) => rw [e] at h; exact .inr ⟨s1, m1, rfl, h⟩

theorem Wq.run {run : Nat → S → PMem → S × PMem}
    (hs : ∀ n s m, run (n + 1) s m = match (step s m).1 with
      | true => ((step s m).2.1, (step s m).2.2)
      | false => run n (step s m).2.1 (step s m).2.2) {n k : Nat} (h : Wq step n s m Q) (hk : n ≤ k) : Q (run k s m).1 (run k s m).2 := by
  induction n generalizing k s m with
  | zero => exact h.elim
  | succ n ih =>
    obtain ⟨q, rfl⟩ : ∃ q, k = q + 1 := ⟨k - 1, by omega⟩
    have h : (match step s m with | (true, s', m') => Q s' m' | (false, s', m') => Wq step n s' m' Q) := h
    match e : step s m with
    | (true, s1, m1) =>
      rw [e] at h
      rw [hs, e]
      exact h
    | (false, s1, m1) =>
      rw [e] at h
      rw [hs, e]
      exact ih h (by omega)

end

abbrev cfB (sp : Int) : PCfg := ⟨1, 30, 8, 34, 100, sp, 3⟩

theorem chB_eq (sp : Int) (k : Nat) (hk : k < 8) : chA (cfB sp) (k : Int) = ((67 + 3 * k : Nat) : Int) := by
  show lChunk 1 30 8 34 100 sp 3 (k : Int) = _
  rw [lChunk_eq (by omega) (by omega) (by omega)]; omega

theorem slB_eq (sp : Int) (i : Nat) (hi : i < 30) : lSlot 1 30 8 34 100 sp 3 (i : Int) = ((7 + 2 * i : Nat) : Int) := by
  rw [lSlot_eq (by omega) (by omega)]; omega

theorem bsB_eq (sp : Int) (k : Nat) (hk : k < 8) : lBase 1 30 8 34 100 sp 3 (k : Int) = ((91 + 34 * k : Nat) : Int) := by
  rw [lBase_eq (by omega) (by omega) (by omega) (by omega)]; omega

theorem room_bd {cls : Int} (hc : 0 ≤ cls ∧ cls ≤ 3) : 3 ≤ lRoom cls ∧ lRoom cls ≤ 17 := by
  have : cls = 0 ∨ cls = 1 ∨ cls = 2 ∨ cls = 3 := by omega
  rcases this with rfl | rfl | rfl | rfl
  · rw [lRoom_0]; omega
  · rw [lRoom_1]; omega
  · rw [lRoom_2]; omega
  · rw [lRoom_3]; omega

/-- A chunk's state, and how many of its words are given out. -/
def qS (w : Nat → Int) (k : Nat) : Int := w (67 + 3 * k) % 4
def qU (w : Nat → Int) (k : Nat) : Int := w (67 + 3 * k) / 256 % 1048576

/-- Chunk 'K' gave out 'r' words that are not yet counted. -/
structure MI (K : Nat) (r : Int) (w : Nat → Int) : Prop where
  wd : ∀ a, a < 363 → 0 ≤ w a ∧ w a < 18446744073709551616
  ep : w 0 = 0
  pin : w 6 = 0
  top : w 1 % 131072 ≤ 30
  link : ∀ i, i < 30 → w (8 + 2 * i) % 131072 ≤ 30
  opn : ∀ k, k < 4 → w (2 + k) ≤ 8
  chs : ∀ k, k < 8 → qS w k ≤ 1 ∧ qU w k ≤ 34 ∧ (qS w k = 0 → qU w k = 0)
  cnt : ∀ k, k < 8 → w (68 + 3 * k) + (if k = K then r else 0) = qU w k

theorem qS_upd (w : Nat → Int) (a i : Nat) (v : Int) : qS (upd w a v) i = if 67 + 3 * i = a then v % 4 else qS w i := by
  unfold qS; rw [upd_eq]; split <;> rfl
theorem qU_upd (w : Nat → Int) (a i : Nat) (v : Int) : qU (upd w a v) i = if 67 + 3 * i = a then v / 256 % 1048576 else qU w i := by
  unfold qU; rw [upd_eq]; split <;> rfl

section
variable {K : Nat} {r : Int} {w : Nat → Int} {a : Nat} {v : Int}

/-- A word that is no chunk's. -/
theorem MI.ctl (h : MI K r w) (h0 : a ≠ 0 ∧ a ≠ 6) (hv : 0 ≤ v ∧ v < 18446744073709551616) (hc : ∀ k, k < 8 → a ≠ 67 + 3 * k ∧ a ≠ 68 + 3 * k)
    (ht : a ≠ 1 ∧ (∀ i, i < 30 → a ≠ 8 + 2 * i) ∨ v % 131072 ≤ 30) (ho : (a < 2 ∨ 5 < a) ∨ v ≤ 8) : MI K r (upd w a v) := by
  have eU : ∀ k, k < 8 → qU (upd w a v) k = qU w k := fun k hk => by rw [qU_upd, if_neg fun h => (hc k hk).1 h.symm]
  have eC : ∀ k, k < 8 → qS (upd w a v) k = qS w k := fun k hk => by rw [qS_upd, if_neg fun h => (hc k hk).1 h.symm]
  constructor
  · intro b hb; rw [upd_eq]; split
    · exact hv
    · exact h.wd b hb
  · rw [upd_other _ _ (Ne.symm h0.1)]; exact h.ep
  · rw [upd_other _ _ (Ne.symm h0.2)]; exact h.pin
  · rw [upd_eq]; split
    · rcases ht with ht | ht
      · omega
      · exact ht
    · exact h.top
  · intro i hi; rw [upd_eq]; split
    · rename_i hc; rcases ht with ht | ht
      · exact absurd hc.symm (ht.2 i hi)
      · exact ht
    · exact h.link i hi
  · intro k hk; rw [upd_eq]; split
    · rcases ho with ho | ho
      · omega
      · exact ho
    · exact h.opn k hk
  · intro k hk; rw [eU k hk, eC k hk]; exact h.chs k hk
  · intro k hk; rw [eU k hk, upd_other _ _ (fun h => (hc k hk).2 h.symm)]; exact h.cnt k hk

/-- A chunk's word: open, and more of its words given out. -/
theorem MI.chk (h : MI K r w) (hr : r = 0) {k : Nat} (hk : k < 8) (hv : 0 ≤ v ∧ v < 18446744073709551616) (h1 : v % 4 = 1) (hu2 : v / 256 % 1048576 ≤ 34) : MI k (v / 256 % 1048576 - qU w k) (upd w (67 + 3 * k) v) := by
  subst hr
  constructor
  · intro b hb; rw [upd_eq]; split
    · exact hv
    · exact h.wd b hb
  · rw [upd_other _ _ (by omega)]; exact h.ep
  · rw [upd_other _ _ (by omega)]; exact h.pin
  · rw [upd_other _ _ (by omega)]; exact h.top
  · intro i hi; rw [upd_other _ _ (by omega)]; exact h.link i hi
  · intro q hq; rw [upd_other _ _ (by omega)]; exact h.opn q hq
  · intro q hq; rw [qU_upd, qS_upd]; split
    · exact ⟨by omega, hu2, by omega⟩
    · exact h.chs q hq
  · intro q hq
    have := h.cnt q hq
    rw [qU_upd, upd_other _ _ (by omega)]
    by_cases hqk : q = k
    · subst hqk
      rw [if_pos rfl, if_pos rfl]
      split at this <;> omega
    · rw [if_neg hqk, if_neg (by omega)]
      split at this <;> omega

/-- What was given out is counted. -/
theorem MI.count (h : MI K r w) (hK : K < 8) (hv : v = w (68 + 3 * K) + r) (hv0 : 0 ≤ r) : MI K 0 (upd w (68 + 3 * K) v) := by
  have hc := h.cnt K hK
  rw [if_pos rfl] at hc
  have hu := (h.chs K hK).2.1
  have h0 := (h.wd (68 + 3 * K) (by omega)).1
  have eU : ∀ k, k < 8 → qU (upd w (68 + 3 * K) v) k = qU w k := fun k hk => by rw [qU_upd, if_neg (by omega)]
  have eC : ∀ k, k < 8 → qS (upd w (68 + 3 * K) v) k = qS w k := fun k hk => by rw [qS_upd, if_neg (by omega)]
  constructor
  · intro b hb; rw [upd_eq]; split
    · omega
    · exact h.wd b hb
  · rw [upd_other _ _ (by omega)]; exact h.ep
  · rw [upd_other _ _ (by omega)]; exact h.pin
  · rw [upd_other _ _ (by omega)]; exact h.top
  · intro i hi; rw [upd_other _ _ (by omega)]; exact h.link i hi
  · intro q hq; rw [upd_other _ _ (by omega)]; exact h.opn q hq
  · intro q hq; rw [eU q hq, eC q hq]; exact h.chs q hq
  · intro q hq
    rw [eU q hq, upd_eq]
    have := h.cnt q hq
    by_cases hqk : q = K
    · subst hqk; rw [if_pos rfl, if_pos rfl]; omega
    · rw [if_neg (by omega), if_neg hqk]; rw [if_neg hqk] at this; exact this

/-- A memory of an arena. -/
structure MM (K : Nat) (r : Int) (m : PMem) : Prop where
  n : m.n = 363
  mi : MI K r m.w

variable {m : PMem} {who d : Int}

theorem MM.ld (h : MM K r m) {a : Nat} (ha : a < 363) : m.eLoad who (a : Int) = (m.w a, m.touch who (a : Int)) := by
  have := h.n
  rw [PMem.eLoad_in (by omega) (by omega), Int.toNat_natCast]

theorem MM.stq (h : MM K r m) {a : Nat} (ha : a < 363) : m.eStore who (a : Int) v = m.lay who (a : Int) v := by
  have := h.n
  rw [PMem.eStore_in (by omega) (by omega)]

theorem MM.cas (h : MM K r m) {a : Nat} (ha : a < 363) (hw : m.w a = v) : m.eCas who (a : Int) v d = (true, m.lay who (a : Int) d) := by
  have := h.n
  rw [PMem.eCas_in (by omega) (by omega) (by rw [Int.toNat_natCast]; exact hw)]

theorem layw {a : Nat} : (m.lay who (a : Int) v).w = upd m.w a v := by rw [PMem.lay_w, Int.toNat_natCast]

theorem MM.touch {K' : Nat} {r' : Int} (h : MM K' r' m) {b : Int} : MM K' r' (m.touch who b) := ⟨h.n, h.mi⟩

theorem MM.lay {K' : Nat} {r' : Int} (h : MM K r m) {a : Nat} (hs : MI K' r' (upd m.w a v)) : MM K' r' (m.lay who (a : Int) v) := ⟨h.n, by rw [layw]; exact hs⟩

end

theorem putChunk_hi (a b c : Int) : putChunk a b c 68719476736 = putChunk a b c 68719476735 := by
  unfold putChunk putChunkK
  rfl

theorem stampUp {a b c d : Int} (hd : 0 ≤ d ∧ d ≤ 68719476735) : ∃ e : Int, (0 ≤ e ∧ e ≤ 68719476735) ∧ putChunk a b c (wrI (d + 1)) = putChunk a b c e := by
  rw [wrI_id (by omega) (by omega)]
  by_cases h : d = 68719476735
  · subst h; exact ⟨68719476735, ⟨by omega, by omega⟩, putChunk_hi a b c⟩
  · exact ⟨d + 1, ⟨by omega, by omega⟩, rfl⟩

/-- What getting words comes to. -/
def PlM (cls : Int) (p : PPlace) (m : PMem) : Prop := (p.ok = false ∧ MM 0 0 m) ∨ (p.ok = true ∧ ∃ A k : Nat, p.sa = (A : Int) ∧ p.sc = (k : Int) ∧ k < 8 ∧ 91 ≤ A ∧ A < 363 ∧ MM k (lRoom cls) m)

section
variable {m : PMem} {who sp cls opn w sa sc : Int} {ok : Bool}

theorem MM.K0 {K : Nat} (h : MM K 0 m) (K' : Nat) : MM K' 0 m := by
  obtain ⟨hn, h1, h2, h2', h3, h4, h5, h6, h7⟩ := h
  exact ⟨hn, h1, h2, h2', h3, h4, h5, h6, fun k hk => by have := h7 k hk; simp only [ite_self] at this ⊢; exact this⟩

theorem mget (h : MM 0 0 m) {k : Nat} (hk : k < 8) (hw : w = m.w (67 + 3 * k)) (hs : qS m.w k = 1) (hc : 0 ≤ cls ∧ cls ≤ 3) (hu : qU m.w k + lRoom cls ≤ 34) :
    Wq (placeStep (cfB sp) who) 1 ⟨cls, 2, opn, k, w, sa, sc, ok⟩ m (PlM cls) := by
  obtain ⟨r1, r2⟩ := room_bd hc
  have hw0 : 0 ≤ m.w (67 + 3 * k) ∧ m.w (67 + 3 * k) < 18446744073709551616 := h.mi.wd _ (by omega)
  have hU : qU m.w k = w / 256 % 1048576 := by unfold qU; rw [← hw]
  have hS : w % 4 = 1 := by unfold qS at hs; rw [← hw] at hs; exact hs
  rw [← hw] at hw0
  have ev : plUsed cls w = w % 4 + w / 4 % 64 * 4 + (w / 256 % 1048576 + lRoom cls) * 256 + w / 268435456 * 268435456 := by
    unfold plUsed
    rw [chunkOf_eq hw0.1 hw0.2]
    simp only
    rw [wrI_id (by omega) (by omega), putChunk_eq (by omega) (by omega) (by omega) (by omega)]
  generalize hv : plUsed cls w = v at ev
  have hu1 : v / 256 % 1048576 = qU m.w k + lRoom cls := by omega
  have hsh := h.mi.chk rfl hk (v := v) (by omega) (by omega) (by omega)
  have e := pl_get (cfB sp) who cls opn k w sa sc ok m
  rw [chB_eq sp k hk, hv, h.cas (by omega) hw.symm] at e
  simp only [Bool.not_true, cond_false] at e
  refine Wq.t e (.inr ⟨rfl, 91 + 34 * k + (qU m.w k).toNat, k, ?_, rfl, hk, by omega, by omega, ?_⟩)
  · show wrI (lBase 1 30 8 34 100 sp 3 (k : Int) + (chunkOf w).2.2.1) = _
    rw [bsB_eq sp k hk, chunkOf_eq hw0.1 hw0.2]
    simp only
    rw [← hU, wrI_id (by omega) (by omega)]
    omega
  · have : v / 256 % 1048576 - qU m.w k = lRoom cls := by omega
    rw [this] at hsh
    exact h.lay hsh

theorem msee (h : MM 0 0 m) {k : Nat} (hk : k < 8) (hs : qS m.w k = 1) (hc : 0 ≤ cls ∧ cls ≤ 3) (hcl : m.w (67 + 3 * k) / 4 % 64 = cls) (hu : qU m.w k + lRoom cls ≤ 34) :
    Wq (placeStep (cfB sp) who) 2 ⟨cls, 1, opn, k, w, sa, sc, ok⟩ m (PlM cls) := by
  obtain ⟨r1, r2⟩ := room_bd hc
  have hw0 : 0 ≤ m.w (67 + 3 * k) ∧ m.w (67 + 3 * k) < 18446744073709551616 := h.mi.wd _ (by omega)
  have hU : qU m.w k = m.w (67 + 3 * k) / 256 % 1048576 := rfl
  have hS : m.w (67 + 3 * k) % 4 = 1 := hs
  have e := pl_see (cfB sp) who cls opn k w sa sc ok m
  rw [chB_eq sp k hk, h.ld (by omega)] at e
  simp only [chunkOf_eq hw0.1 hw0.2] at e
  rw [hS, hcl, ← hU, wrI_id (by omega) (by omega)] at e
  have d3 : decide ((cfB sp).words < qU m.w k + lRoom cls) = false := by
    show decide ((34 : Int) < qU m.w k + lRoom cls) = false
    simp; omega
  rw [d3] at e
  simp only [decide_true, Bool.not_true, cond_false] at e
  exact Wq.f e (mget (sp := sp) (who := who) (opn := opn) (sa := sa) (sc := sc) (ok := ok) (h.touch (who := who) (b := ((67 + 3 * k : Nat) : Int))) hk rfl hs hc hu)

theorem mlook1 (h : MM 0 0 m) {k : Nat} (hk : k < 8) (hs : qS m.w k = 1) (hc : 0 ≤ cls ∧ cls ≤ 3) (ho : m.w (2 + cls.toNat) = (k : Int) + 1) (hcl : m.w (67 + 3 * k) / 4 % 64 = cls) (hu : qU m.w k + lRoom cls ≤ 34)
    {at_ : Int} : Wq (placeStep (cfB sp) who) 3 ⟨cls, 0, opn, at_, w, sa, sc, ok⟩ m (PlM cls) := by
  have e := pl_look (cfB sp) who cls opn at_ w sa sc ok m
  have ea : wrI (2 + cls) = ((2 + cls.toNat : Nat) : Int) := by rw [wrI_id (by omega) (by omega)]; omega
  rw [ea, h.ld (by omega)] at e
  simp only [ho] at e
  rw [wrI_id (n := (k : Int) + 1) (by omega) (by omega), wrI_id (n := (k : Int) + 1 - 1) (by omega) (by omega)] at e
  have d : decide ((k : Int) + 1 - 1 < 0) = false := by simp
  rw [d] at e
  simp only [cond_false] at e
  rw [show (k : Int) + 1 - 1 = (k : Int) by omega] at e
  exact Wq.f e (msee (sp := sp) (who := who) (opn := (k : Int) + 1) (w := w) (sa := sa) (sc := sc) (ok := ok) (h.touch (who := who) (b := ((2 + cls.toNat : Nat) : Int))) hk hs hc hcl hu)

theorem mopen (h : MM 0 0 m) {k : Nat} (hk : k < 8) (hs : qS m.w k = 1) (hc : 0 ≤ cls ∧ cls ≤ 3) (ho : m.w (2 + cls.toNat) = opn) (hcl : m.w (67 + 3 * k) / 4 % 64 = cls) (hu : qU m.w k + lRoom cls ≤ 34) :
    Wq (placeStep (cfB sp) who) 4 ⟨cls, 5, opn, k, w, sa, sc, ok⟩ m (PlM cls) := by
  have e := pl_open (cfB sp) who cls opn k w sa sc ok m
  have ea : wrI (2 + cls) = ((2 + cls.toNat : Nat) : Int) := by rw [wrI_id (by omega) (by omega)]; omega
  rw [ea, h.cas (by omega) ho, wrI_id (n := (k : Int) + 1) (by omega) (by omega), wrU_id (n := (k : Int) + 1) (by omega) (by omega)] at e
  simp only [cond_true] at e
  have hsh := h.mi.ctl (a := 2 + cls.toNat) (v := (k : Int) + 1) (by omega) (by omega) (fun i hi => by omega) (.inl ⟨by omega, fun i hi => by omega⟩) (.inr (by omega))
  exact Wq.f e (mlook1 (sp := sp) (who := who) (cls := cls) (opn := opn) (w := w) (sa := sa) (sc := sc) (ok := ok) (at_ := (k : Int)) (h.lay (who := who) hsh) hk (by rw [layw, qS_upd, if_neg (by omega)]; exact hs) hc (by rw [layw, upd_same]) (by rw [layw, upd_other _ _ (by omega)]; exact hcl)
    (by rw [layw, qU_upd, if_neg (by omega)]; exact hu))

theorem mtake (h : MM 0 0 m) {k : Nat} (hk : k < 8) (hw : w = m.w (67 + 3 * k)) (hs : qS m.w k = 0) (hc : 0 ≤ cls ∧ cls ≤ 3) (ho : m.w (2 + cls.toNat) = opn) :
    Wq (placeStep (cfB sp) who) 5 ⟨cls, 4, opn, k, w, sa, sc, ok⟩ m (PlM cls) := by
  obtain ⟨r1, r2⟩ := room_bd hc
  have hw0 : 0 ≤ m.w (67 + 3 * k) ∧ m.w (67 + 3 * k) < 18446744073709551616 := h.mi.wd _ (by omega)
  rw [← hw] at hw0
  obtain ⟨st, hst, hst2⟩ := stampUp (a := 1) (b := cls) (c := 0) (d := w / 268435456) (by omega)
  have ev : plFresh cls w = 1 + cls * 4 + 0 * 256 + st * 268435456 := by
    unfold plFresh
    rw [chunkOf_eq hw0.1 hw0.2]
    simp only
    rw [hst2, putChunk_eq (by omega) (by omega) (by omega) (by omega)]
  generalize hv : plFresh cls w = v at ev
  have hz := (h.mi.chs k hk).2.2 hs
  have hsh := h.mi.chk rfl hk (v := v) (by omega) (by omega) (by omega)
  rw [show v / 256 % 1048576 - qU m.w k = 0 by omega] at hsh
  have e := pl_take (cfB sp) who cls opn k w sa sc ok m
  rw [chB_eq sp k hk, hv, h.cas (by omega) hw.symm] at e
  simp only [Bool.not_true, cond_false] at e
  exact Wq.f e (mopen (sp := sp) (who := who) (cls := cls) (opn := opn) (w := w) (sa := sa) (sc := sc) (ok := ok) ((h.lay (who := who) hsh).K0 0) hk (by rw [layw, qS_upd, if_pos rfl]; omega) hc (by rw [layw, upd_other _ _ (by omega)]; exact ho)
    (by rw [layw, upd_same]; omega) (by rw [layw, qU_upd, if_pos rfl]; omega))

theorem mscan (h : MM 0 0 m) (hok : ok = false) (hc : 0 ≤ cls ∧ cls ≤ 3) (ho : m.w (2 + cls.toNat) = opn) : ∀ (d k : Nat) (m' : PMem), k + d = 8 → MM 0 0 m' → m'.w = m.w → k < 8 → ∀ w,
    Wq (placeStep (cfB sp) who) (d + 6) ⟨cls, 3, opn, k, w, sa, sc, ok⟩ m' (PlM cls) := by
  intro d
  induction d with
  | zero => intro k m' hk _ _ h8; omega
  | succ d ih =>
    intro k m' hkd h' hw hk w
    have hw0 : 0 ≤ m'.w (67 + 3 * k) ∧ m'.w (67 + 3 * k) < 18446744073709551616 := h'.mi.wd _ (by omega)
    have e := pl_scan (cfB sp) who cls opn k w sa sc ok m'
    rw [chB_eq sp k hk, h'.ld (by omega)] at e
    simp only [chunkOf_eq hw0.1 hw0.2] at e
    have ht := h'.touch (who := who) (b := ((67 + 3 * k : Nat) : Int))
    by_cases hz : m'.w (67 + 3 * k) % 4 = 0
    · rw [hz] at e
      simp only [decide_true, Bool.not_true, cond_false] at e
      have := mtake (sp := sp) (who := who) (cls := cls) (opn := opn) (sa := sa) (sc := sc) (ok := ok) ht hk rfl hz hc (by rw [PMem.touch_w, hw]; exact ho)
      exact Wq.f e (Wq.up this (fun _ _ hq => hq) (by omega))
    · have d1 : decide (m'.w (67 + 3 * k) % 4 = 0) = false := by simp; exact hz
      rw [d1] at e
      simp only [Bool.not_false, cond_true] at e
      rw [show wrI ((k : Int) + 1) = ((k + 1 : Nat) : Int) by rw [wrI_id (by omega) (by omega)]; omega] at e
      by_cases hl : k + 1 < 8
      · have d2 : decide ((cfB sp).chunks ≤ ((k + 1 : Nat) : Int)) = false := by
          show decide ((8 : Int) ≤ ((k + 1 : Nat) : Int)) = false
          simp; omega
        rw [d2] at e
        exact Wq.f e (ih (k + 1) _ (by omega) ht hw hl (m'.w (67 + 3 * k)))
      · have d2 : decide ((cfB sp).chunks ≤ ((k + 1 : Nat) : Int)) = true := by
          show decide ((8 : Int) ≤ ((k + 1 : Nat) : Int)) = true
          simp; omega
        rw [d2] at e
        exact Wq.t e (.inl ⟨hok, ht⟩)

theorem mlook (h : MM 0 0 m) (hok : ok = false) (hc : 0 ≤ cls ∧ cls ≤ 3) {at_ : Int} : Wq (placeStep (cfB sp) who) 16 ⟨cls, 0, opn, at_, w, sa, sc, ok⟩ m (PlM cls) := by
  obtain ⟨r1, r2⟩ := room_bd hc
  have e := pl_look (cfB sp) who cls opn at_ w sa sc ok m
  have ea : wrI (2 + cls) = ((2 + cls.toNat : Nat) : Int) := by rw [wrI_id (by omega) (by omega)]; omega
  have hop := h.mi.opn cls.toNat (by omega)
  have hop0 := (h.mi.wd (2 + cls.toNat) (by omega)).1
  rw [ea, h.ld (by omega)] at e
  simp only at e
  have ht := h.touch (who := who) (b := ((2 + cls.toNat : Nat) : Int))
  rw [wrI_id (n := m.w (2 + cls.toNat)) (by omega) (by omega)] at e
  by_cases hz : m.w (2 + cls.toNat) = 0
  · have d : decide (wrI (m.w (2 + cls.toNat) - 1) < 0) = true := by rw [hz]; decide
    rw [d] at e
    simp only [cond_true] at e
    have := mscan (sp := sp) (who := who) (cls := cls) (opn := m.w (2 + cls.toNat)) (sa := sa) (sc := sc) (ok := ok) h hok hc rfl 8 0 _ rfl ht rfl (by omega) w
    exact Wq.f e (Wq.up this (fun _ _ hq => hq) (by omega))
  · rw [wrI_id (n := m.w (2 + cls.toNat) - 1) (by omega) (by omega)] at e
    have d : decide (m.w (2 + cls.toNat) - 1 < 0) = false := by simp; omega
    rw [d] at e
    simp only [cond_false] at e
    obtain ⟨k, hk⟩ : ∃ k : Nat, m.w (2 + cls.toNat) - 1 = (k : Int) := ⟨(m.w (2 + cls.toNat) - 1).toNat, by omega⟩
    have hk8 : k < 8 := by omega
    rw [hk] at e
    have hw0 : 0 ≤ m.w (67 + 3 * k) ∧ m.w (67 + 3 * k) < 18446744073709551616 := h.mi.wd _ (by omega)
    have hch := h.mi.chs k hk8
    have hU : qU m.w k = m.w (67 + 3 * k) / 256 % 1048576 := rfl
    by_cases hg : qS m.w k = 1 ∧ m.w (67 + 3 * k) / 4 % 64 = cls ∧ qU m.w k + lRoom cls ≤ 34
    · have := msee (sp := sp) (who := who) (opn := m.w (2 + cls.toNat)) (w := w) (sa := sa) (sc := sc) (ok := ok) ht hk8 hg.1 hc hg.2.1 hg.2.2
      exact Wq.f e (Wq.up this (fun _ _ hq => hq) (by omega))
    · have e2 := pl_see (cfB sp) who cls (m.w (2 + cls.toNat)) k w sa sc ok (m.touch who ((2 + cls.toNat : Nat) : Int))
      rw [chB_eq sp k hk8, ht.ld (by omega)] at e2
      simp only [PMem.touch_w, chunkOf_eq hw0.1 hw0.2] at e2
      rw [← hU, wrI_id (n := qU m.w k + lRoom cls) (by omega) (by omega)] at e2
      have e3 : placeStep (cfB sp) who ⟨cls, 1, m.w (2 + cls.toNat), k, w, sa, sc, ok⟩ (m.touch who ((2 + cls.toNat : Nat) : Int)) =
          (false, ⟨cls, 3, m.w (2 + cls.toNat), 0, m.w (67 + 3 * k), sa, sc, ok⟩, (m.touch who ((2 + cls.toNat : Nat) : Int)).touch who ((67 + 3 * k : Nat) : Int)) := by
        rw [e2]
        by_cases g1 : m.w (67 + 3 * k) % 4 = 1
        · by_cases g2 : m.w (67 + 3 * k) / 4 % 64 = cls
          · have g3 : decide ((cfB sp).words < qU m.w k + lRoom cls) = true := by
              show decide ((34 : Int) < qU m.w k + lRoom cls) = true
              simp
              have : ¬ (qU m.w k + lRoom cls ≤ 34) := fun hc3 => hg ⟨g1, g2, hc3⟩
              omega
            rw [g3, g1, g2]
            simp only [decide_true, Bool.not_true, cond_false, cond_true]
          · have g2 : decide (m.w (67 + 3 * k) / 4 % 64 = cls) = false := by simp; exact g2
            rw [g2, g1]
            simp only [decide_true, Bool.not_true, Bool.not_false, cond_false, cond_true]
        · have g1 : decide (m.w (67 + 3 * k) % 4 = 1) = false := by simp; exact g1
          rw [g1]
          simp only [Bool.not_false, cond_true]
      have ht2 := ht.touch (who := who) (b := ((67 + 3 * k : Nat) : Int))
      have := mscan (sp := sp) (who := who) (cls := cls) (opn := m.w (2 + cls.toNat)) (sa := sa) (sc := sc) (ok := ok) h hok hc rfl 8 0 _ rfl ht2 rfl (by omega) (m.w (67 + 3 * k))
      exact Wq.f e (Wq.f e3 (Wq.up this (fun _ _ hq => hq) (by omega)))

end
end Go.FL

/-
  Objects are made alone: what is kept.
-/
set_option linter.unusedVariables false
set_option linter.unusedSimpArgs false
set_option maxRecDepth 20000
namespace Go.FL
open Go

section
variable (c : PCfg) (who size : Int) (own ok : Bool) (top next slot at_ gen sa sc : Int) (out : PDone) (p : PPlace) (g : PGive) (tk : PTake) (m : PMem)

theorem al_give : allocStep c who ⟨size, own, 7, tk, at_, gen, some p, sa, sc, some g, out⟩ m =
    ((giveStep c who g m).1, ⟨size, own, 7, tk, at_, gen, some p, sa, sc, some (giveStep c who g m).2.1, out⟩, (giveStep c who g m).2.2) := by kernel_rfl

theorem gv_0 : giveStep c who ⟨0, slot, top⟩ m = (false, ⟨1, slot, (m.eLoad who 1).1⟩, (m.eLoad who 1).2) := by kernel_rfl
theorem gv_1 : giveStep c who ⟨1, slot, top⟩ m = (false, ⟨2, slot, top⟩, m.eStore who (wrI (lSlot c.threads c.slots c.chunks c.words c.gens c.sparse c.tries slot + 1)) (putTop (topOf top).1 0)) := by kernel_rfl
theorem gv_2 : giveStep c who ⟨2, slot, top⟩ m = ((m.eCas who 1 top (putTop slot (wrI ((topOf top).2 + 1)))).1, ⟨0, slot, top⟩, (m.eCas who 1 top (putTop slot (wrI ((topOf top).2 + 1)))).2) := by kernel_rfl
end

theorem putTop_hi (a : Int) : putTop a 68719476736 = putTop a 68719476735 := by
  unfold putTop putTopK
  rfl

theorem topUp {a d : Int} (hd : 0 ≤ d ∧ d ≤ 68719476735) : ∃ e : Int, (0 ≤ e ∧ e ≤ 68719476735) ∧ putTop a (wrI (d + 1)) = putTop a e := by
  rw [wrI_id (by omega) (by omega)]
  by_cases h : d = 68719476735
  · subst h; exact ⟨68719476735, ⟨by omega, by omega⟩, putTop_hi a⟩
  · exact ⟨d + 1, ⟨by omega, by omega⟩, rfl⟩

theorem head_bd {k z s g : Int} (o : Bool) (hk : 0 ≤ k ∧ k ≤ 3) (hz : 0 ≤ z ∧ z ≤ 65535) (hs : 0 ≤ s ∧ s ≤ 65535) (hg : 0 ≤ g ∧ g ≤ 65535) : 0 ≤ putHead k z s g o ∧ putHead k z s g o < 18446744073709551616 := by
  rw [putHead_eq o hk hz hs hg]
  cases o <;> simp <;> omega

section
variable {m : PMem} {who sp size gen sa sc : Int} {own : Bool} {tk : PTake} {out : PDone}

theorem giveBack (h : MM 0 0 m) {i : Nat} (hi : i < 30) {top : Int} : ∀ {R : PGive → PMem → Prop}, (∀ g m', MM 0 0 m' → R g m') → Wq (giveStep (cfB sp) who) 3 ⟨0, (i : Int), top⟩ m R := by
  intro R hR
  have hw1 := h.mi.wd 1 (by omega)
  have ht1 := h.mi.top
  have e := gv_0 (cfB sp) who top i m
  have l1 := h.ld (who := who) (a := 1) (by omega)
  rw [show ((1 : Nat) : Int) = 1 from rfl] at l1
  rw [l1] at e
  refine Wq.f e ?_
  have ht := h.touch (who := who) (b := (1 : Int))
  have e := gv_1 (cfB sp) who (m.w 1) i (m.touch who 1)
  have ea : wrI (lSlot 1 30 8 34 100 sp 3 (i : Int) + 1) = ((8 + 2 * i : Nat) : Int) := by
    rw [slB_eq sp i hi, wrI_id (by omega) (by omega)]; omega
  rw [show (cfB sp).threads = 1 from rfl, show (cfB sp).slots = 30 from rfl, show (cfB sp).chunks = 8 from rfl, show (cfB sp).words = 34 from rfl, show (cfB sp).gens = 100 from rfl, show (cfB sp).sparse = sp from rfl, show (cfB sp).tries = 3 from rfl, ea, ht.stq (by omega)] at e
  refine Wq.f e ?_
  have t1 : topOf (m.w 1) = (m.w 1 % 131072 - 1, m.w 1 / 131072 % 68719476736) := topOf_eq hw1.1 hw1.2
  have v1 : putTop (topOf (m.w 1)).1 0 = m.w 1 % 131072 := by
    rw [t1, putTop_eq (by omega) (by omega)]; omega
  rw [v1]
  have hs1 := ht.mi.ctl (a := 8 + 2 * i) (v := m.w 1 % 131072) (by omega) (by omega) (fun k hk => by omega) (.inr (by omega)) (.inl (by omega))
  have h2 := ht.lay (who := who) hs1
  have e := gv_2 (cfB sp) who (m.w 1) i ((m.touch who 1).lay who ((8 + 2 * i : Nat) : Int) (m.w 1 % 131072))
  have hwe : ((m.touch who 1).lay who ((8 + 2 * i : Nat) : Int) (m.w 1 % 131072)).w 1 = m.w 1 := by
    rw [layw, upd_other _ _ (by omega)]; rfl
  have c1 := h2.cas (who := who) (d := putTop (i : Int) (wrI ((topOf (m.w 1)).2 + 1))) (a := 1) (by omega) hwe
  rw [show ((1 : Nat) : Int) = 1 from rfl] at c1
  rw [c1] at e
  refine Wq.t e (hR _ _ ?_)
  obtain ⟨st, hst, hst2⟩ := topUp (a := (i : Int)) (d := (topOf (m.w 1)).2) (by rw [t1]; simp only; omega)
  rw [hst2]
  have ev : putTop (i : Int) st = i + 1 + st * 131072 := putTop_eq (by omega) hst
  have hs3 := h2.mi.ctl (a := 1) (v := putTop (i : Int) st) (by omega) (by omega) (fun k hk => by omega) (.inr (by omega)) (.inl (by omega))
  exact h2.lay (who := who) (a := 1) hs3

theorem place_in {n j : Nat} {i : Int} {p : PPlace} {Q : PPlace → PMem → Prop} {R : PAlloc → PMem → Prop} (h : Wq (placeStep (cfB sp) who) n p m Q)
    (hy : ∀ p' m', Q p' m' → p'.ok = true → Wq (allocStep (cfB sp) who) j ⟨size, own, 3, tk, i, gen, some p', p'.sa, p'.sc, none, out⟩ m' R)
    (hn : ∀ p' m', Q p' m' → p'.ok = false → Wq (allocStep (cfB sp) who) j ⟨size, own, 7, tk, i, gen, some p', 0, 0, some ⟨0, i, 0⟩, ⟨6, 0, 0, m'.steps⟩⟩ m' R) :
    Wq (allocStep (cfB sp) who) (n + j) ⟨size, own, 2, tk, i, gen, some p, sa, sc, none, out⟩ m R := by
  induction n generalizing p m with
  | zero => exact h.elim
  | succ n ih =>
    have e := al_place (cfB sp) who size own i gen sa sc out p tk m
    rw [show n + 1 + j = (n + j) + 1 by omega]
    rcases h.inv with ⟨p1, m1, ep, h⟩ | ⟨p1, m1, ep, h⟩
    · rw [ep] at e
      simp only [cond_true] at e
      cases ho : p1.ok with
      | true =>
        rw [ho] at e
        simp only [Bool.not_true, cond_true, cond_false] at e
        exact Wq.f e (Wq.up (hy p1 m1 h ho) (fun _ _ hq => hq) (by omega))
      | false =>
        rw [ho] at e
        simp only [Bool.not_false, cond_true, cond_false] at e
        exact Wq.f e (Wq.up (hn p1 m1 h ho) (fun _ _ hq => hq) (by omega))
    · rw [ep] at e
      simp only [cond_false] at e
      exact Wq.f e (ih h)

theorem give_in {n : Nat} {i : Int} {p : PPlace} {g : PGive} {R : PAlloc → PMem → Prop} (hR : ∀ a m', MM 0 0 m' → R a m') (h : Wq (giveStep (cfB sp) who) n g m fun _ m' => MM 0 0 m') :
    Wq (allocStep (cfB sp) who) n ⟨size, own, 7, tk, i, gen, some p, sa, sc, some g, out⟩ m R := by
  induction n generalizing g m with
  | zero => exact h.elim
  | succ n ih =>
    have e := al_give (cfB sp) who size own i gen sa sc out p g tk m
    rcases h.inv with ⟨p1, m1, ep, h⟩ | ⟨p1, m1, ep, h⟩
    · rw [ep] at e
      exact Wq.t e (hR _ _ h)
    · rw [ep] at e
      exact Wq.f e (ih h)

/-- An object is made, or not: all is as it must be. -/
theorem make_ok (h : MM 0 0 m) (hz : 1 ≤ size ∧ size ≤ 16) {out : PDone} {R : PAlloc → PMem → Prop} (hR : ∀ a m', MM 0 0 m' → R a m') :
    Wq (allocStep (cfB sp) who) 60 ⟨size, own, 0, ⟨0, 0, 0, 0, false⟩, 0, 0, none, 0, 0, none, out⟩ m R := by
  have hcl : 0 ≤ lClass size ∧ lClass size ≤ 3 := by
    rw [lClass_eq size hz]
    split
    · omega
    · split
      · omega
      · split <;> omega
  have dcl : decide (lClass size < 0) = false := by simp; omega
  have hw1 := h.mi.wd 1 (by omega)
  have ht1 := h.mi.top
  have l1 := h.ld (who := who) (a := 1) (by omega)
  rw [show ((1 : Nat) : Int) = 1 from rfl] at l1
  have t1 : topOf (m.w 1) = (m.w 1 % 131072 - 1, m.w 1 / 131072 % 68719476736) := topOf_eq hw1.1 hw1.2
  have e := al_0 (cfB sp) who size own false 0 0 0 0 0 0 0 out m
  rw [dcl, l1] at e
  simp only [cond_false, t1] at e
  by_cases hz0 : m.w 1 % 131072 = 0
  · have d : decide (m.w 1 % 131072 - 1 < 0) = true := by simp; omega
    rw [d] at e
    simp only [cond_true, Bool.not_false] at e
    exact Wq.t e (hR _ _ h.touch)
  have d : decide (m.w 1 % 131072 - 1 < 0) = false := by simp; omega
  rw [d] at e
  simp only [cond_false] at e
  refine Wq.f e ?_
  obtain ⟨i, hi⟩ : ∃ i : Nat, m.w 1 % 131072 - 1 = (i : Int) := ⟨(m.w 1 % 131072 - 1).toNat, by omega⟩
  have hi30 : i < 30 := by omega
  rw [hi]
  have ht := h.touch (who := who) (b := (1 : Int))
  have e := al_1 (cfB sp) who size own (m.w 1) 0 i 0 0 0 0 out (m.touch who 1)
  have ea : wrI (lSlot 1 30 8 34 100 sp 3 (i : Int) + 1) = ((8 + 2 * i : Nat) : Int) := by
    rw [slB_eq sp i hi30, wrI_id (by omega) (by omega)]; omega
  rw [dcl, show (cfB sp).threads = 1 from rfl, show (cfB sp).slots = 30 from rfl, show (cfB sp).chunks = 8 from rfl, show (cfB sp).words = 34 from rfl, show (cfB sp).gens = 100 from rfl, show (cfB sp).sparse = sp from rfl, show (cfB sp).tries = 3 from rfl, ea, ht.ld (by omega)] at e
  simp only [cond_false] at e
  refine Wq.f e ?_
  have hl := h.mi.wd (8 + 2 * i) (by omega)
  have hl2 := h.mi.link i hi30
  have t2 : topOf (m.w (8 + 2 * i)) = (m.w (8 + 2 * i) % 131072 - 1, m.w (8 + 2 * i) / 131072 % 68719476736) := topOf_eq hl.1 hl.2
  rw [PMem.touch_w, t2]
  simp only
  have ht2 := ht.touch (who := who) (b := ((8 + 2 * i : Nat) : Int))
  have e := al_2 (cfB sp) who size own false (m.w 1) (m.w (8 + 2 * i) % 131072 - 1) i 0 0 0 0 out ((m.touch who 1).touch who ((8 + 2 * i : Nat) : Int))
  obtain ⟨st, hst, hst2⟩ := topUp (a := m.w (8 + 2 * i) % 131072 - 1) (d := (topOf (m.w 1)).2) (by rw [t1]; simp only; omega)
  rw [hst2] at e
  have ev : putTop (m.w (8 + 2 * i) % 131072 - 1) st = m.w (8 + 2 * i) % 131072 - 1 + 1 + st * 131072 := putTop_eq (by omega) hst
  generalize hv : putTop (m.w (8 + 2 * i) % 131072 - 1) st = v at e ev
  have c1 := ht2.cas (who := who) (d := v) (a := 1) (v := m.w 1) (by omega) rfl
  rw [show ((1 : Nat) : Int) = 1 from rfl] at c1
  rw [dcl, c1] at e
  simp only [cond_false, cond_true, Bool.not_true] at e
  refine Wq.f e ?_
  have h3 : MM 0 0 (((m.touch who 1).touch who ((8 + 2 * i : Nat) : Int)).lay who 1 v) :=
    ht2.lay (who := who) (a := 1) (ht2.mi.ctl (a := 1) (v := v) (by omega) (by omega) (fun k hk => by omega) (.inr (by omega)) (.inl (by omega)))
  generalize ((m.touch who 1).touch who ((8 + 2 * i : Nat) : Int)).lay who 1 v = m3 at h3
  generalize (⟨0, m.w 1, m.w (8 + 2 * i) % 131072 - 1, (i : Int), true⟩ : PTake) = tk
  have e := al_see (cfB sp) who size own i 0 0 0 out tk m3
  rw [show (cfB sp).threads = 1 from rfl, show (cfB sp).slots = 30 from rfl, show (cfB sp).chunks = 8 from rfl, show (cfB sp).words = 34 from rfl, show (cfB sp).gens = 100 from rfl, show (cfB sp).sparse = sp from rfl, show (cfB sp).tries = 3 from rfl, slB_eq sp i hi30, h3.ld (by omega)] at e
  refine Wq.f e ?_
  have hs := h3.mi.wd (7 + 2 * i) (by omega)
  have hgen : 0 ≤ (slotOf (m3.w (7 + 2 * i))).2.2.1 ∧ (slotOf (m3.w (7 + 2 * i))).2.2.1 ≤ 65535 := by
    rw [slotOf_eq hs.1 hs.2]; simp only; omega
  simp only
  generalize (slotOf (m3.w (7 + 2 * i))).2.2.1 = gen at hgen
  have h4 := h3.touch (who := who) (b := ((7 + 2 * i : Nat) : Int))
  generalize m3.touch who ((7 + 2 * i : Nat) : Int) = m4 at h4
  refine Wq.up (place_in (n := 16) (j := 8) (mlook h4 rfl hcl) ?_ ?_) (fun _ _ hq => hq) (by omega)
  · intro p' m' hq ho
    rcases hq with ⟨hf, _⟩ | ⟨_, A, k, hA, hk, hk8, hA1, hA2, h5⟩
    · rw [ho] at hf; cases hf
    rw [hA, hk]
    obtain ⟨r1, r2⟩ := room_bd hcl
    have e := al_count (cfB sp) who size own i gen A k out p' tk m'
    have ea : wrI (lChunk 1 30 8 34 100 sp 3 (k : Int) + 1) = ((68 + 3 * k : Nat) : Int) := by
      have := chB_eq sp k hk8
      unfold chA at this
      rw [show lChunk 1 30 8 34 100 sp 3 (k : Int) = _ from this, wrI_id (by omega) (by omega)]; omega
    rw [show (cfB sp).threads = 1 from rfl, show (cfB sp).slots = 30 from rfl, show (cfB sp).chunks = 8 from rfl, show (cfB sp).words = 34 from rfl, show (cfB sp).gens = 100 from rfl, show (cfB sp).sparse = sp from rfl, show (cfB sp).tries = 3 from rfl, ea] at e
    have hcn := h5.mi.cnt k hk8
    have hch := h5.mi.chs k hk8
    have hc0 := h5.mi.wd (68 + 3 * k) (by omega)
    rw [if_pos rfl] at hcn
    have hn := h5.n
    rw [PMem.eAdd_in (by omega) (by omega), Int.toNat_natCast, wrU_id (n := lRoom (lClass size)) (by omega) (by omega), wrU_id (by omega) (by omega)] at e
    refine Wq.f e ?_
    have h6 := h5.lay (who := who) (h5.mi.count hk8 rfl (by omega))
    generalize m'.lay who ((68 + 3 * k : Nat) : Int) (m'.w (68 + 3 * k) + lRoom (lClass size)) = m6 at h6
    have h6 := h6.K0 0
    have hd1 := head_bd own (k := 1) (z := size) (s := i) (g := gen) (by omega) (by omega) (by omega) hgen
    have hd2 := head_bd own (k := 2) (z := size) (s := i) (g := gen) (by omega) (by omega) (by omega) hgen
    have e := al_head (cfB sp) who size own i gen A k out p' tk m6
    rw [h6.stq (by omega)] at e
    refine Wq.f e ?_
    have h7 := h6.lay (who := who) (h6.mi.ctl (a := A) (v := putHead 1 size i gen own) (by omega) hd1 (fun q hq => by omega) (.inl ⟨by omega, fun q hq => by omega⟩) (.inl (by omega)))
    generalize m6.lay who (A : Int) (putHead 1 size i gen own) = m7 at h7
    have e := al_show (cfB sp) who size own i gen A k out p' tk m7
    rw [show (cfB sp).threads = 1 from rfl, show (cfB sp).slots = 30 from rfl, show (cfB sp).chunks = 8 from rfl, show (cfB sp).words = 34 from rfl, show (cfB sp).gens = 100 from rfl, show (cfB sp).sparse = sp from rfl, show (cfB sp).tries = 3 from rfl, slB_eq sp i hi30, h7.stq (by omega)] at e
    refine Wq.f e ?_
    have es : putSlot 1 A gen 0 = 1 + A * 8 + gen * 8388608 := by rw [putSlot_eq (by omega) (by omega) hgen (by omega)]; omega
    have h8 := h7.lay (who := who) (h7.mi.ctl (a := 7 + 2 * i) (v := putSlot 1 A gen 0) (by omega) (by omega) (fun q hq => by omega) (.inl ⟨by omega, fun q hq => by omega⟩) (.inl (by omega)))
    generalize m7.lay who ((7 + 2 * i : Nat) : Int) (putSlot 1 A gen 0) = m8 at h8
    have e := al_ready (cfB sp) who size own i gen A k ⟨0, putHandle i gen, 0, m8.steps⟩ p' tk m8
    rw [h8.stq (by omega)] at e
    have h9 := h8.lay (who := who) (h8.mi.ctl (a := A) (v := putHead 2 size i gen own) (by omega) hd2 (fun q hq => by omega) (.inl ⟨by omega, fun q hq => by omega⟩) (.inl (by omega)))
    exact Wq.up (Wq.t (n := 0) e (hR _ _ h9)) (fun _ _ hq => hq) (by omega)
  · intro p' m' hq ho
    rcases hq with ⟨_, h5⟩ | ⟨hf, _⟩
    · exact Wq.up (give_in hR (giveBack h5 hi30 (fun _ _ h => h))) (fun _ _ hq => hq) (by omega)
    · rw [ho] at hf; cases hf

end
end Go.FL

/-
  The compactor's steps, one place in its program after the other.
-/
set_option linter.unusedVariables false
set_option linter.unusedSimpArgs false
set_option maxRecDepth 20000
namespace Go.FL
open Go

section
variable (c : PCfg) (who at_ pos w now : Int) (sn : PSeenL) (mv : Option PMove) (av : PAdv) (sv : PSettle) (wk ws : PWk) (idle : Int) (m : PMem)

/-- What is seen of a chunk is listed. -/
def PSeenL.add (sn : PSeenL) (v : Int) : PSeenL :=
  ⟨sn.len + 1, fun j => bif Nat.beq j sn.len then (chunkOf v).1 else sn.st j, fun j => bif Nat.beq j sn.len then (chunkOf v).2.1 else sn.cl j, fun j => bif Nat.beq j sn.len then (chunkOf v).2.2.1 else sn.us j,
    fun j => bif Nat.beq j sn.len then (chunkOf v).2.2.2 else sn.sp j, fun j => bif Nat.beq j sn.len then 0 else sn.lv j, fun j => bif Nat.beq j sn.len then false else sn.op j⟩

def seen1 (v : Int) : PSeenL := ⟨1, fun _ => (chunkOf v).1, fun _ => (chunkOf v).2.1, fun _ => (chunkOf v).2.2.1, fun _ => (chunkOf v).2.2.2, fun _ => 0, fun _ => false⟩

def PSeenL.live (sn : PSeenL) (i : Nat) (v : Int) : PSeenL := ⟨sn.len, sn.st, sn.cl, sn.us, sn.sp, fun j => bif Nat.beq j i then v else sn.lv j, sn.op⟩
def PSeenL.opens (sn : PSeenL) (i : Nat) : PSeenL := ⟨sn.len, sn.st, sn.cl, sn.us, sn.sp, sn.lv, fun j => bif Nat.beq j i then true else sn.op j⟩
def PSeenL.choice (sn : PSeenL) (sp : Int) : Int := chooseM sp sn.len sn.st sn.us sn.lv sn.op

theorem cp_0n : compStep c who ⟨0, none, 0, pos, w, now, none, none, none, wk, ws, idle⟩ m =
    some (⟨1, some (seen1 (m.eLoad who (chA c 0)).1), 0, pos, w, now, none, none, none, wk, ws, idle⟩, (m.eLoad who (chA c 0)).2) := by kernel_rfl

theorem cp_0z : compStep c who ⟨0, some sn, 0, pos, w, now, mv, none, none, wk, ws, idle⟩ m = bif decide (sn.len ≤ 1048576) then
    some (⟨1, some (seen1 (m.eLoad who (chA c 0)).1), 0, pos, w, now, mv, none, none, wk, ws, idle⟩, (m.eLoad who (chA c 0)).2) else none := by cases mv <;> kernel_rfl

theorem cp_0s : compStep c who ⟨0, some sn, at_, pos, w, now, mv, none, none, wk, ws, idle⟩ m = bif decide (sn.len ≤ 1048576) then bif decide (at_ = 0) then
    some (⟨1, some (seen1 (m.eLoad who (chA c at_)).1), at_, pos, w, now, mv, none, none, wk, ws, idle⟩, (m.eLoad who (chA c at_)).2)
    else some (⟨1, some (sn.add (m.eLoad who (chA c at_)).1), at_, pos, w, now, mv, none, none, wk, ws, idle⟩, (m.eLoad who (chA c at_)).2) else none := by cases mv <;> kernel_rfl

theorem cp_1 : compStep c who ⟨1, some sn, at_, pos, w, now, mv, none, none, wk, ws, idle⟩ m = bif decide (sn.len ≤ 1048576) then bif decide (0 ≤ at_ ∧ at_ < (sn.len : Int)) then
    (bif decide (c.chunks ≤ wrI (at_ + 1)) then some (⟨2, some (sn.live at_.toNat (wrI (m.eLoad who (wrI (chA c at_ + 1))).1)), 0, pos, w, now, mv, none, none, wk, ws, idle⟩, (m.eLoad who (wrI (chA c at_ + 1))).2)
    else some (⟨0, some (sn.live at_.toNat (wrI (m.eLoad who (wrI (chA c at_ + 1))).1)), wrI (at_ + 1), pos, w, now, mv, none, none, wk, ws, idle⟩, (m.eLoad who (wrI (chA c at_ + 1))).2))
    else none else none := by cases mv <;> kernel_rfl

abbrev cpPick (c : PCfg) (sn : PSeenL) (at_ pos w now : Int) (mv : Option PMove) (wk ws : PWk) (idle : Int) (m : PMem) : Option (PComp × PMem) :=
  bif decide (wrI (at_ + 1) < 4) then some (⟨2, some sn, wrI (at_ + 1), pos, w, now, mv, none, none, wk, ws, idle⟩, m)
  else bif decide (sn.choice c.sparse < 0) then some (⟨10, some sn, sn.choice c.sparse, pos, w, now, mv, none, none, wk, ws, idle⟩, m)
  else bif decide (0 ≤ sn.choice c.sparse ∧ sn.choice c.sparse < (sn.len : Int)) then
    some (⟨3, some sn, sn.choice c.sparse, pos, putChunk (sn.st (sn.choice c.sparse).toNat) (sn.cl (sn.choice c.sparse).toNat) (sn.us (sn.choice c.sparse).toNat) (sn.sp (sn.choice c.sparse).toNat), now, mv, none, none, wk, ws, idle⟩, m)
  else none

theorem cp_2 : compStep c who ⟨2, some sn, at_, pos, w, now, mv, none, none, wk, ws, idle⟩ m = bif decide (sn.len ≤ 1048576) then
    bif decide (0 < wrI (m.eLoad who (wrI (2 + at_))).1) then
      bif decide (0 ≤ wrI (wrI (m.eLoad who (wrI (2 + at_))).1 - 1) ∧ wrI (wrI (m.eLoad who (wrI (2 + at_))).1 - 1) < (sn.len : Int)) then
        cpPick c (sn.opens (wrI (wrI (m.eLoad who (wrI (2 + at_))).1 - 1)).toNat) at_ pos w now mv wk ws idle (m.eLoad who (wrI (2 + at_))).2
      else none
    else cpPick c sn at_ pos w now mv wk ws idle (m.eLoad who (wrI (2 + at_))).2 else none := by cases mv <;> kernel_rfl

theorem cp_10 : compStep c who ⟨10, some sn, at_, pos, w, now, mv, none, none, wk, ws, idle⟩ m = bif decide (sn.len ≤ 1048576) then
    some (⟨10, some sn, at_, pos, w, now, mv, some ⟨1, (m.eLoad who 0).1, 0, false⟩, none, wk, ws, idle⟩, (m.eLoad who 0).2) else none := by cases mv <;> kernel_rfl

theorem cp_A1 (ep : Int) (pa : Int) : compStep c who ⟨10, some sn, at_, pos, w, now, mv, some ⟨1, ep, pa, false⟩, none, wk, ws, idle⟩ m = bif decide (sn.len ≤ 1048576) then
    bif (advStep c who ⟨1, ep, pa, false⟩ m).1 then some (⟨11, some sn, 0, pos, w, now, mv, none, none, wk, ws, idle⟩, (advStep c who ⟨1, ep, pa, false⟩ m).2.2)
    else some (⟨10, some sn, at_, pos, w, now, mv, some (advStep c who ⟨1, ep, pa, false⟩ m).2.1, none, wk, ws, idle⟩, (advStep c who ⟨1, ep, pa, false⟩ m).2.2) else none := by cases mv <;> kernel_rfl

theorem cp_A2 (ep : Int) (pa : Int) : compStep c who ⟨10, some sn, at_, pos, w, now, mv, some ⟨2, ep, pa, false⟩, none, wk, ws, idle⟩ m = bif decide (sn.len ≤ 1048576) then
    some (⟨11, some sn, 0, pos, w, now, mv, none, none, wk, ws, idle⟩, (m.eCas who 0 ep (wrU (ep + 1))).2) else none := by cases mv <;> kernel_rfl

abbrev cpNext (c : PCfg) (sn : PSeenL) (at_ pos w now : Int) (mv : Option PMove) (wk ws : PWk) (idle : Int) (m : PMem) : Option (PComp × PMem) :=
  bif decide (c.chunks ≤ wrI (at_ + 1)) then
    bif !decide (wk.ev = ws.ev) then some (⟨0, some sn, 0, pos, w, now, mv, none, none, ⟨wk.ev, wk.lf, wk.fr, wk.mv, wrI (wk.rd + 1)⟩, ⟨wk.ev, wk.lf, wk.fr, wk.mv, wrI (wk.rd + 1)⟩, 0⟩, m)
    else bif !decide (wk.mv = ws.mv) then some (⟨0, some sn, 0, pos, w, now, mv, none, none, ⟨wk.ev, wk.lf, wk.fr, wk.mv, wrI (wk.rd + 1)⟩, ⟨wk.ev, wk.lf, wk.fr, wk.mv, wrI (wk.rd + 1)⟩, 0⟩, m)
    else bif !decide (wk.fr = ws.fr) then some (⟨0, some sn, 0, pos, w, now, mv, none, none, ⟨wk.ev, wk.lf, wk.fr, wk.mv, wrI (wk.rd + 1)⟩, ⟨wk.ev, wk.lf, wk.fr, wk.mv, wrI (wk.rd + 1)⟩, 0⟩, m)
    else some (⟨0, some sn, 0, pos, w, now, mv, none, none, ⟨wk.ev, wk.lf, wk.fr, wk.mv, wrI (wk.rd + 1)⟩, ⟨wk.ev, wk.lf, wk.fr, wk.mv, wrI (wk.rd + 1)⟩, wrI (idle + 1)⟩, m)
  else some (⟨11, some sn, wrI (at_ + 1), pos, w, now, mv, none, none, wk, ws, idle⟩, m)

theorem cp_11 : compStep c who ⟨11, some sn, at_, pos, w, now, mv, none, none, wk, ws, idle⟩ m = bif decide (sn.len ≤ 1048576) then
    bif !!decide ((chunkOf (m.eLoad who (chA c at_)).1).1 = 3) then some (⟨11, some sn, at_, pos, w, now, mv, none, some ⟨at_, 1, (m.eLoad who (chA c at_)).1, 0, 0, false⟩, wk, ws, idle⟩, (m.eLoad who (chA c at_)).2)
    else cpNext c sn at_ pos w now mv wk ws idle (m.eLoad who (chA c at_)).2 else none := by cases mv <;> kernel_rfl

theorem ad_1 (ep pa : Int) : advStep c who ⟨1, ep, pa, false⟩ m = (bif !decide ((m.eLoad who (wrI (6 + pa))).1 = 0) then bif !decide ((m.eLoad who (wrI (6 + pa))).1 = wrU (ep + 1)) then (true, ⟨1, ep, pa, false⟩, (m.eLoad who (wrI (6 + pa))).2)
    else bif decide (c.threads ≤ wrI (pa + 1)) then (false, ⟨2, ep, wrI (pa + 1), false⟩, (m.eLoad who (wrI (6 + pa))).2) else (false, ⟨1, ep, wrI (pa + 1), false⟩, (m.eLoad who (wrI (6 + pa))).2)
    else bif decide (c.threads ≤ wrI (pa + 1)) then (false, ⟨2, ep, wrI (pa + 1), false⟩, (m.eLoad who (wrI (6 + pa))).2) else (false, ⟨1, ep, wrI (pa + 1), false⟩, (m.eLoad who (wrI (6 + pa))).2)) := by kernel_rfl

end
end Go.FL
