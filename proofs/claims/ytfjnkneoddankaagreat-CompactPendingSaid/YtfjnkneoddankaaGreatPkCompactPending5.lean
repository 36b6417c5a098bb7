/-
  Objects made, let go, read and laid alone.
-/
import Derived.Test.YtfjnkneoddankaaGreatPkCompactPending4
import Derived.Test.YtfjnkneoddankaaGreatPkCompactPending2
import Derived.Test.YtfjnkneoddankaaGreatPkCompactPending3
import Derived.Test.YtfjnkneoddankaaGreatRows
import Derived.Test.YtfjnkneoddankaaGreatPkCompactPending1
import Derived.ProofKit
import Derived.Lib.SmallJoins
import Derived.IntWalk
import Derived.KernelRfl
set_option linter.unusedVariables false
set_option linter.unusedSimpArgs false
set_option maxRecDepth 100000

namespace Go.FL

/-- So many steps at most. -/
def makeRun (c : PCfg) (who : Int) : Nat → PAlloc → PMem → PAlloc × PMem
  | 0, a, m => (a, m)
  | n + 1, a, m => match (allocStep c who a m).1 with
    | true => ((allocStep c who a m).2.1, (allocStep c who a m).2.2)
    | false => makeRun c who n (allocStep c who a m).2.1 (allocStep c who a m).2.2

theorem makeRun_zero (c : PCfg) (who : Int) (a : PAlloc) (m : PMem) : makeRun c who 0 a m = (a, m) := rfl

theorem makeRun_succ (c : PCfg) (who : Int) (n : Nat) (a : PAlloc) (m : PMem) : makeRun c who (n + 1) a m = (match (allocStep c who a m).1 with
    | true => ((allocStep c who a m).2.1, (allocStep c who a m).2.2)
    | false => makeRun c who n (allocStep c who a m).2.1 (allocStep c who a m).2.2) := rfl

attribute [irreducible] makeRun

def makeM (c : PCfg) (who : Int) (pm : PMem) (a : Int) (b : Bool) : PDone × PMem := ((makeRun c who 400 ⟨a, b, 0, ⟨0, 0, 0, 0, false⟩, 0, 0, none, 0, 0, none, ⟨0, 0, 0, 0⟩⟩ pm).1.out, (makeRun c who 400 ⟨a, b, 0, ⟨0, 0, 0, 0, false⟩, 0, 0, none, 0, 0, none, ⟨0, 0, 0, 0⟩⟩ pm).2)

end Go.FL

namespace Go.Proofs.YtfjnkneoddankaaGreat
open Go Go.FL Go.Proofs

abbrev makeF : FuncId := 11

abbrev makeT (i : Int) : Tm := [(3, .c (.ptr 1 0)), (6, .c (.ptr 2 0)), (7, .c (.ptr 3 0)), (8, .c (cI i))]

abbrev makeH (c : PCfg) (who : Int) (bx : LB) (a : PAlloc) (m : PMem) : List LB := [.obj (.mem m), .cells 27 [cI c.threads, cI c.slots, cI c.chunks, cI c.words, cI c.gens, cI c.sparse, cI c.tries, .ptr 0 0, cI who], bx, .obj (.alloc a)]

theorem makeBody_ev (c : PCfg) (who : Int) (bx : LB) (a : PAlloc) (m : PMem) (wr : List Nat) (i : Int) (k : X → Tm → LH → Prop) :
    evC Tryz.prog (evF Tryz.prog ownK6 10 20) (tmpsF Tryz.prog makeF) noLo 10 (loopF Tryz.prog makeF 0) (makeT i) ⟨makeH c who bx a m, wr⟩ (fun x T H => k x (Tm.norm [3, 6, 7, 8] T) H) =
    (bif decide (i < 400) then 
      bif (allocStep c who a m).1 then k (.exit 0) (makeT i) ⟨makeH c who bx (allocStep c who a m).2.1 (allocStep c who a m).2.2, 0 :: 3 :: wr⟩
      else k .normal (makeT (IntKind.wrap .i64 (i + 1))) ⟨makeH c who bx (allocStep c who a m).2.1 (allocStep c who a m).2.2, 0 :: 3 :: wr⟩
    else k (.exit 0) (makeT i) ⟨makeH c who bx a m, wr⟩) := by kernel_rfl

def lh_make : LHd := fun T H K => match Tm.norm [3, 6, 7, 8] T with
  | [(3, .c (.ptr 1 0)), (6, .c (.ptr 2 0)), (7, .c (.ptr 3 0)), (8, .c (.int .i64 i))] => match H.bl with
    | [.obj (.mem m), .cells t [.int .i64 c1, .int .i64 c2, .int .i64 c3, .int .i64 c4, .int .i64 c5, .int .i64 c6, .int .i64 c7, .ptr 0 0, .int .i64 who], bx, .obj (.alloc a)] =>
      match Nat.beq t 27 && decide (i = 0) with
      | false => False
      | true => ( K (.exit 0) [(3, .c (.ptr 1 0)), (6, .c (.ptr 2 0)), (7, .c (.ptr 3 0))] ⟨makeH ⟨c1, c2, c3, c4, c5, c6, c7⟩ who bx (makeRun ⟨c1, c2, c3, c4, c5, c6, c7⟩ who 400 a m).1 (makeRun ⟨c1, c2, c3, c4, c5, c6, c7⟩ who 400 a m).2, 0 :: 3 :: H.wr⟩)
    | _ => False
  | _ => False

theorem lh_make_ok : BodyOK Tryz.prog (tmpsF Tryz.prog makeF) (.loop (loopF Tryz.prog makeF 0)) lh_make := by
  refine loopN_ok (evC_ok fnOK mixed (evF_ok fnOK mixed ownK6_ok 10 20) _ (lo := noLo) 10 _ LoOK.no) ?_
  intro T H K h
  unfold lh_make at h
  split at h
  case h_2 => exact h.elim
  rename_i x i hT
  split at h
  case h_2 => exact h.elim
  rename_i x' m t c1 c2 c3 c4 c5 c6 c7 who bx a hH
  split at h
  · exact h.elim
  rename_i hti
  simp only [Bool.and_eq_true] at hti
  have ht := Nat.eq_of_beq_eq_true hti.1
  have hi : i = 0 := of_decide_eq_true hti.2
  subst ht
  subst hi
  generalize hr : makeRun ⟨c1, c2, c3, c4, c5, c6, c7⟩ who 400 a m = r at h
  refine ⟨[3, 6, 7, 8], [3, 6, 7], fun n T' H' => ∃ (j : Nat) (a' : PAlloc) (m' : PMem), j ≤ 400 ∧ n = 400 - j ∧ T' = makeT (j : Int) ∧ H'.bl = makeH ⟨c1, c2, c3, c4, c5, c6, c7⟩ who bx a' m' ∧ (∀ n ∈ H'.wr, n ∈ 0 :: 3 :: H.wr) ∧
    makeRun ⟨c1, c2, c3, c4, c5, c6, c7⟩ who (400 - j) a' m' = r, ⟨400, 0, a, m, by omega, rfl, hT, hH, fun n hn => by simp [hn], hr⟩, ?_⟩
  rintro n T' ⟨bl, wr⟩ ⟨j, a', m', hj, rfl, rfl, hbl, hwr, hrun⟩
  simp only at hbl hwr
  subst hbl
  rw [makeBody_ev]
  by_cases hlt : j < 400
  · have h1 : decide ((j : Int) < 400) = true := by simp; omega
    obtain ⟨q, hq⟩ : ∃ q, 400 - j = q + 1 := ⟨400 - (j + 1), by omega⟩
    have hq' : q = 400 - (j + 1) := by omega
    rw [hq, makeRun_succ] at hrun
    rw [h1]
    simp only [cond_true]
    have hw2 : ∀ n ∈ 0 :: 3 :: wr, n ∈ 0 :: 3 :: H.wr := by
      intro n hn
      simp only [List.mem_cons] at hn ⊢
      rcases hn with h | h | h
      · exact .inl h
      · exact .inr (.inl h)
      · simpa using hwr n h
    cases hst : (allocStep ⟨c1, c2, c3, c4, c5, c6, c7⟩ who a' m').1 with
    | true =>
      rw [hst] at hrun
      simp only [cond_true] at hrun ⊢
      subst hrun
      exact ⟨0 :: 3 :: H.wr, hw2, h⟩
    | false =>
      rw [hst] at hrun
      simp only [cond_false] at hrun ⊢
      refine ⟨400 - (j + 1), by omega, j + 1, _, _, hlt, rfl, ?_, rfl, hw2, by rw [← hq']; exact hrun⟩
      have hi : IntKind.i64.wrap ((j : Int) + 1) = ((j + 1 : Nat) : Int) := by rw [IntKind.wrap_i64]; omega
      rw [hi]
  · have h1 : decide ((j : Int) < 400) = false := by simp; omega
    rw [h1]
    simp only [cond_false]
    have hz : 400 - j = 0 := by omega
    rw [hz, makeRun_zero] at hrun
    subst hrun
    exact ⟨0 :: 3 :: H.wr, hwr, h⟩

theorem makeLo : LoOK Tryz.prog (tmpsF Tryz.prog makeF) (fun _ => some lh_make) (loopsF Tryz.prog makeF) := by
  have h : loopsF Tryz.prog makeF = [loopF Tryz.prog makeF 0] := by kernel_rfl
  rw [h]
  intro c hc hd he
  have hc : c = loopF Tryz.prog makeF 0 := by simpa using hc
  subst hc
  cases he
  exact lh_make_ok

theorem make_ev (c : PCfg) (who : Int) (m : PMem) (a : Int) (b : Bool) (K : PDone → PMem → Prop) :
    evL Tryz.prog ownK6 (fun _ => some lh_make) 10 20 makeF [envV c 0 who, .c (.int .i64 a), .c (.bool b)] ⟨cat [(false, .mem m)] 0, []⟩ (fun v H₁ => match v with
      | .agg [.int .i64 e, .int .u64 h, .int .i64 v, .int .i64 st] => shF H₁ 0 fun o c2 => match o with
        | .mem m' => match chkAll [(false, .mem m)] [c2] [] with
          | true => K ⟨e, h, v, st⟩ m'
          | false => False
        | _ => False
      | _ => False) =
    ( K ⟨(makeRun c who 400 ⟨a, b, 0, ⟨0, 0, 0, 0, false⟩, 0, 0, none, 0, 0, none, ⟨0, 0, 0, 0⟩⟩ m).1.out.e, (makeRun c who 400 ⟨a, b, 0, ⟨0, 0, 0, 0, false⟩, 0, 0, none, 0, 0, none, ⟨0, 0, 0, 0⟩⟩ m).1.out.h, (makeRun c who 400 ⟨a, b, 0, ⟨0, 0, 0, 0, false⟩, 0, 0, none, 0, 0, none, ⟨0, 0, 0, 0⟩⟩ m).1.out.v, (makeRun c who 400 ⟨a, b, 0, ⟨0, 0, 0, 0, false⟩, 0, 0, none, 0, 0, none, ⟨0, 0, 0, 0⟩⟩ m).1.out.st⟩ (makeRun c who 400 ⟨a, b, 0, ⟨0, 0, 0, 0, false⟩, 0, 0, none, 0, 0, none, ⟨0, 0, 0, 0⟩⟩ m).2) := by kernel_rfl

def h_make : Hd := fun args H K => match args with
  | [.agg [.int .i64 c1, .int .i64 c2, .int .i64 c3, .int .i64 c4, .int .i64 c5, .int .i64 c6, .int .i64 c7, .ptr m 0, .int .i64 who], .c (.int .i64 a), .c (.bool b)] =>
    match H.get m with
    | some (.obj (.mem pm)) => ( K (.agg [cI (makeM ⟨c1, c2, c3, c4, c5, c6, c7⟩ who pm a b).1.e, cU (makeM ⟨c1, c2, c3, c4, c5, c6, c7⟩ who pm a b).1.h, cI (makeM ⟨c1, c2, c3, c4, c5, c6, c7⟩ who pm a b).1.v, cI (makeM ⟨c1, c2, c3, c4, c5, c6, c7⟩ who pm a b).1.st]) (H.put m (.obj (.mem (makeM ⟨c1, c2, c3, c4, c5, c6, c7⟩ who pm a b).2))))
    | _ => False
  | _ => False

theorem h_make_ok : HOK makeF h_make := by
  intro args H K h
  unfold h_make at h
  split at h
  case h_2 => exact h.elim
  rename_i c1 c2 c3 c4 c5 c6 c7 m who a b
  split at h
  case h_2 => exact h.elim
  rename_i pm hm
  have e := (make_ev ⟨c1, c2, c3, c4, c5, c6, c7⟩ who pm a b (fun d m' => K (.agg [cI d.e, cU d.h, cI d.v, cI d.st]) (H.put m (.obj (.mem m'))))).mpr (by
    unfold makeM at h
    skip
    exact h)
  refine objs_of (ns := [m]) (xs := [(false, .mem pm)]) rfl ?_ (by simp) ?_ (evL_ok fnOK mixed ownK6_ok makeLo e) ?_
  · intro i n x' hi hx
    match i, hi, hx with
    | 0, hi, hx => simp at hi hx; subst hi; subst hx; exact get_obj hm
    | i + 1, hi, hx => simp at hi
  · intro s s₁ vs hh hr
    match vs, hr with
    | u :: vs, ⟨h1, h2⟩ =>
      have e0 := hh 0 m rfl
      simp only [base, Nat.zero_add] at e0
      exact ⟨rel_env (c := ⟨c1, c2, c3, c4, c5, c6, c7⟩) e0 h1, RelVs.low rfl h2⟩
  · intro v₁ H₁ hk
    split at hk
    · rename_i e1 h1 v1 st1
      obtain ⟨o, c2, hk, hc2⟩ := shF_ok hk
      split at hk
      · rename_i pm'
        split at hk
        · rename_i hchk
          exact ⟨[c2], [(false, .mem pm')], [], [], .agg [.int .i64 e1, .int .u64 h1, .int .i64 v1, .int .i64 st1], hchk, ⟨hc2, trivial⟩, trivial, fun _ _ _ _ _ h => RelV.low rfl h, hk⟩
        · exact hk.elim
      · exact hk.elim
    · exact hk.elim

end Go.Proofs.YtfjnkneoddankaaGreat

namespace Go.FL

/-- So many steps at most. -/
def dropdRun (c : PCfg) (who : Int) : Nat → PDrop → PMem → PDrop × PMem
  | 0, a, m => (a, m)
  | n + 1, a, m => match (dropStep c who a m).1 with
    | true => ((dropStep c who a m).2.1, (dropStep c who a m).2.2)
    | false => dropdRun c who n (dropStep c who a m).2.1 (dropStep c who a m).2.2

theorem dropdRun_zero (c : PCfg) (who : Int) (a : PDrop) (m : PMem) : dropdRun c who 0 a m = (a, m) := rfl

theorem dropdRun_succ (c : PCfg) (who : Int) (n : Nat) (a : PDrop) (m : PMem) : dropdRun c who (n + 1) a m = (match (dropStep c who a m).1 with
    | true => ((dropStep c who a m).2.1, (dropStep c who a m).2.2)
    | false => dropdRun c who n (dropStep c who a m).2.1 (dropStep c who a m).2.2) := rfl

attribute [irreducible] dropdRun

def dropdM (c : PCfg) (who : Int) (pm : PMem) (a : Int) (b : Bool) : PDone × PMem := ((dropdRun c who 200 ⟨a, b, 0, 0, 0, 0, 0, none, none, ⟨0, 0, 0, 0⟩⟩ pm).1.out, (dropdRun c who 200 ⟨a, b, 0, 0, 0, 0, 0, none, none, ⟨0, 0, 0, 0⟩⟩ pm).2)

end Go.FL

namespace Go.Proofs.YtfjnkneoddankaaGreat
open Go Go.FL Go.Proofs

abbrev dropdF : FuncId := 17

abbrev dropdT (i : Int) : Tm := [(3, .c (.ptr 1 0)), (6, .c (.ptr 2 0)), (7, .c (.ptr 3 0)), (8, .c (cI i))]

abbrev dropdH (c : PCfg) (who : Int) (bx : LB) (a : PDrop) (m : PMem) : List LB := [.obj (.mem m), .cells 27 [cI c.threads, cI c.slots, cI c.chunks, cI c.words, cI c.gens, cI c.sparse, cI c.tries, .ptr 0 0, cI who], bx, .obj (.drop a)]

theorem dropdBody_ev (c : PCfg) (who : Int) (bx : LB) (a : PDrop) (m : PMem) (wr : List Nat) (i : Int) (k : X → Tm → LH → Prop) :
    evC Tryz.prog (evF Tryz.prog ownK6 10 20) (tmpsF Tryz.prog dropdF) noLo 10 (loopF Tryz.prog dropdF 0) (dropdT i) ⟨dropdH c who bx a m, wr⟩ (fun x T H => k x (Tm.norm [3, 6, 7, 8] T) H) =
    (bif decide (i < 200) then bif decide (c.words = 0) then False else
      bif (dropStep c who a m).1 then k (.exit 0) (dropdT i) ⟨dropdH c who bx (dropStep c who a m).2.1 (dropStep c who a m).2.2, 0 :: 3 :: wr⟩
      else k .normal (dropdT (IntKind.wrap .i64 (i + 1))) ⟨dropdH c who bx (dropStep c who a m).2.1 (dropStep c who a m).2.2, 0 :: 3 :: wr⟩
    else k (.exit 0) (dropdT i) ⟨dropdH c who bx a m, wr⟩) := by kernel_rfl

def lh_dropd : LHd := fun T H K => match Tm.norm [3, 6, 7, 8] T with
  | [(3, .c (.ptr 1 0)), (6, .c (.ptr 2 0)), (7, .c (.ptr 3 0)), (8, .c (.int .i64 i))] => match H.bl with
    | [.obj (.mem m), .cells t [.int .i64 c1, .int .i64 c2, .int .i64 c3, .int .i64 c4, .int .i64 c5, .int .i64 c6, .int .i64 c7, .ptr 0 0, .int .i64 who], bx, .obj (.drop a)] =>
      match Nat.beq t 27 && decide (i = 0) with
      | false => False
      | true => (match decide (c4 = 0) with | true => False | false => K (.exit 0) [(3, .c (.ptr 1 0)), (6, .c (.ptr 2 0)), (7, .c (.ptr 3 0))] ⟨dropdH ⟨c1, c2, c3, c4, c5, c6, c7⟩ who bx (dropdRun ⟨c1, c2, c3, c4, c5, c6, c7⟩ who 200 a m).1 (dropdRun ⟨c1, c2, c3, c4, c5, c6, c7⟩ who 200 a m).2, 0 :: 3 :: H.wr⟩)
    | _ => False
  | _ => False

theorem lh_dropd_ok : BodyOK Tryz.prog (tmpsF Tryz.prog dropdF) (.loop (loopF Tryz.prog dropdF 0)) lh_dropd := by
  refine loopN_ok (evC_ok fnOK mixed (evF_ok fnOK mixed ownK6_ok 10 20) _ (lo := noLo) 10 _ LoOK.no) ?_
  intro T H K h
  unfold lh_dropd at h
  split at h
  case h_2 => exact h.elim
  rename_i x i hT
  split at h
  case h_2 => exact h.elim
  rename_i x' m t c1 c2 c3 c4 c5 c6 c7 who bx a hH
  split at h
  · exact h.elim
  rename_i hti
  split at h
  · exact h.elim
  rename_i hc
  have hcd : decide (c4 = 0) = false := hc
  simp only [Bool.and_eq_true] at hti
  have ht := Nat.eq_of_beq_eq_true hti.1
  have hi : i = 0 := of_decide_eq_true hti.2
  subst ht
  subst hi
  generalize hr : dropdRun ⟨c1, c2, c3, c4, c5, c6, c7⟩ who 200 a m = r at h
  refine ⟨[3, 6, 7, 8], [3, 6, 7], fun n T' H' => ∃ (j : Nat) (a' : PDrop) (m' : PMem), j ≤ 200 ∧ n = 200 - j ∧ T' = dropdT (j : Int) ∧ H'.bl = dropdH ⟨c1, c2, c3, c4, c5, c6, c7⟩ who bx a' m' ∧ (∀ n ∈ H'.wr, n ∈ 0 :: 3 :: H.wr) ∧
    dropdRun ⟨c1, c2, c3, c4, c5, c6, c7⟩ who (200 - j) a' m' = r, ⟨200, 0, a, m, by omega, rfl, hT, hH, fun n hn => by simp [hn], hr⟩, ?_⟩
  rintro n T' ⟨bl, wr⟩ ⟨j, a', m', hj, rfl, rfl, hbl, hwr, hrun⟩
  simp only at hbl hwr
  subst hbl
  rw [dropdBody_ev]
  by_cases hlt : j < 200
  · have h1 : decide ((j : Int) < 200) = true := by simp; omega
    obtain ⟨q, hq⟩ : ∃ q, 200 - j = q + 1 := ⟨200 - (j + 1), by omega⟩
    have hq' : q = 200 - (j + 1) := by omega
    rw [hq, dropdRun_succ] at hrun
    rw [h1]
    simp only [cond_true, hcd, cond_false]
    have hw2 : ∀ n ∈ 0 :: 3 :: wr, n ∈ 0 :: 3 :: H.wr := by
      intro n hn
      simp only [List.mem_cons] at hn ⊢
      rcases hn with h | h | h
      · exact .inl h
      · exact .inr (.inl h)
      · simpa using hwr n h
    cases hst : (dropStep ⟨c1, c2, c3, c4, c5, c6, c7⟩ who a' m').1 with
    | true =>
      rw [hst] at hrun
      simp only [cond_true] at hrun ⊢
      subst hrun
      exact ⟨0 :: 3 :: H.wr, hw2, h⟩
    | false =>
      rw [hst] at hrun
      simp only [cond_false] at hrun ⊢
      refine ⟨200 - (j + 1), by omega, j + 1, _, _, hlt, rfl, ?_, rfl, hw2, by rw [← hq']; exact hrun⟩
      have hi : IntKind.i64.wrap ((j : Int) + 1) = ((j + 1 : Nat) : Int) := by rw [IntKind.wrap_i64]; omega
      rw [hi]
  · have h1 : decide ((j : Int) < 200) = false := by simp; omega
    rw [h1]
    simp only [cond_false]
    have hz : 200 - j = 0 := by omega
    rw [hz, dropdRun_zero] at hrun
    subst hrun
    exact ⟨0 :: 3 :: H.wr, hwr, h⟩

theorem dropdLo : LoOK Tryz.prog (tmpsF Tryz.prog dropdF) (fun _ => some lh_dropd) (loopsF Tryz.prog dropdF) := by
  have h : loopsF Tryz.prog dropdF = [loopF Tryz.prog dropdF 0] := by kernel_rfl
  rw [h]
  intro c hc hd he
  have hc : c = loopF Tryz.prog dropdF 0 := by simpa using hc
  subst hc
  cases he
  exact lh_dropd_ok

theorem dropd_ev (c : PCfg) (who : Int) (m : PMem) (a : Int) (b : Bool) (K : PDone → PMem → Prop) :
    evL Tryz.prog ownK6 (fun _ => some lh_dropd) 10 20 dropdF [envV c 0 who, .c (.int .u64 a), .c (.bool b)] ⟨cat [(false, .mem m)] 0, []⟩ (fun v H₁ => match v with
      | .agg [.int .i64 e, .int .u64 h, .int .i64 v, .int .i64 st] => shF H₁ 0 fun o c2 => match o with
        | .mem m' => match chkAll [(false, .mem m)] [c2] [] with
          | true => K ⟨e, h, v, st⟩ m'
          | false => False
        | _ => False
      | _ => False) =
    (bif decide (c.words = 0) then False else K ⟨(dropdRun c who 200 ⟨a, b, 0, 0, 0, 0, 0, none, none, ⟨0, 0, 0, 0⟩⟩ m).1.out.e, (dropdRun c who 200 ⟨a, b, 0, 0, 0, 0, 0, none, none, ⟨0, 0, 0, 0⟩⟩ m).1.out.h, (dropdRun c who 200 ⟨a, b, 0, 0, 0, 0, 0, none, none, ⟨0, 0, 0, 0⟩⟩ m).1.out.v, (dropdRun c who 200 ⟨a, b, 0, 0, 0, 0, 0, none, none, ⟨0, 0, 0, 0⟩⟩ m).1.out.st⟩ (dropdRun c who 200 ⟨a, b, 0, 0, 0, 0, 0, none, none, ⟨0, 0, 0, 0⟩⟩ m).2) := by kernel_rfl

def h_dropd : Hd := fun args H K => match args with
  | [.agg [.int .i64 c1, .int .i64 c2, .int .i64 c3, .int .i64 c4, .int .i64 c5, .int .i64 c6, .int .i64 c7, .ptr m 0, .int .i64 who], .c (.int .u64 a), .c (.bool b)] =>
    match H.get m with
    | some (.obj (.mem pm)) => (match decide (c4 = 0) with | true => False | false => K (.agg [cI (dropdM ⟨c1, c2, c3, c4, c5, c6, c7⟩ who pm a b).1.e, cU (dropdM ⟨c1, c2, c3, c4, c5, c6, c7⟩ who pm a b).1.h, cI (dropdM ⟨c1, c2, c3, c4, c5, c6, c7⟩ who pm a b).1.v, cI (dropdM ⟨c1, c2, c3, c4, c5, c6, c7⟩ who pm a b).1.st]) (H.put m (.obj (.mem (dropdM ⟨c1, c2, c3, c4, c5, c6, c7⟩ who pm a b).2))))
    | _ => False
  | _ => False

theorem h_dropd_ok : HOK dropdF h_dropd := by
  intro args H K h
  unfold h_dropd at h
  split at h
  case h_2 => exact h.elim
  rename_i c1 c2 c3 c4 c5 c6 c7 m who a b
  split at h
  case h_2 => exact h.elim
  rename_i pm hm
  split at h
  · exact h.elim
  rename_i hc
  have e := (dropd_ev ⟨c1, c2, c3, c4, c5, c6, c7⟩ who pm a b (fun d m' => K (.agg [cI d.e, cU d.h, cI d.v, cI d.st]) (H.put m (.obj (.mem m'))))).mpr (by
    unfold dropdM at h
    simp only [hc, cond_false]
    exact h)
  refine objs_of (ns := [m]) (xs := [(false, .mem pm)]) rfl ?_ (by simp) ?_ (evL_ok fnOK mixed ownK6_ok dropdLo e) ?_
  · intro i n x' hi hx
    match i, hi, hx with
    | 0, hi, hx => simp at hi hx; subst hi; subst hx; exact get_obj hm
    | i + 1, hi, hx => simp at hi
  · intro s s₁ vs hh hr
    match vs, hr with
    | u :: vs, ⟨h1, h2⟩ =>
      have e0 := hh 0 m rfl
      simp only [base, Nat.zero_add] at e0
      exact ⟨rel_env (c := ⟨c1, c2, c3, c4, c5, c6, c7⟩) e0 h1, RelVs.low rfl h2⟩
  · intro v₁ H₁ hk
    split at hk
    · rename_i e1 h1 v1 st1
      obtain ⟨o, c2, hk, hc2⟩ := shF_ok hk
      split at hk
      · rename_i pm'
        split at hk
        · rename_i hchk
          exact ⟨[c2], [(false, .mem pm')], [], [], .agg [.int .i64 e1, .int .u64 h1, .int .i64 v1, .int .i64 st1], hchk, ⟨hc2, trivial⟩, trivial, fun _ _ _ _ _ h => RelV.low rfl h, hk⟩
        · exact hk.elim
      · exact hk.elim
    · exact hk.elim

end Go.Proofs.YtfjnkneoddankaaGreat

namespace Go.FL

/-- So many steps at most. -/
def accdRun (c : PCfg) (who : Int) : Nat → PAccess → PMem → PAccess × PMem
  | 0, a, m => (a, m)
  | n + 1, a, m => match (accessStep c who a m).1 with
    | true => ((accessStep c who a m).2.1, (accessStep c who a m).2.2)
    | false => accdRun c who n (accessStep c who a m).2.1 (accessStep c who a m).2.2

theorem accdRun_zero (c : PCfg) (who : Int) (a : PAccess) (m : PMem) : accdRun c who 0 a m = (a, m) := rfl

theorem accdRun_succ (c : PCfg) (who : Int) (n : Nat) (a : PAccess) (m : PMem) : accdRun c who (n + 1) a m = (match (accessStep c who a m).1 with
    | true => ((accessStep c who a m).2.1, (accessStep c who a m).2.2)
    | false => accdRun c who n (accessStep c who a m).2.1 (accessStep c who a m).2.2) := rfl

attribute [irreducible] accdRun

def accdM (c : PCfg) (who : Int) (pm : PMem) (x1 x2 x3 x4 x5 : Int) (b : Bool) : PDone × PMem := ((accdRun c who 200 ⟨⟨x1, x2, x3, x4, x5⟩, b, 0, 0, 0, 0, 0, 0, 0, 0, none, ⟨0, 0, 0, 0⟩⟩ pm).1.out, (accdRun c who 200 ⟨⟨x1, x2, x3, x4, x5⟩, b, 0, 0, 0, 0, 0, 0, 0, 0, none, ⟨0, 0, 0, 0⟩⟩ pm).2)

end Go.FL

namespace Go.Proofs.YtfjnkneoddankaaGreat
open Go Go.FL Go.Proofs

abbrev accdF : FuncId := 30

abbrev accdT (i : Int) : Tm := [(3, .c (.ptr 1 0)), (6, .c (.ptr 3 0)), (7, .c (.ptr 4 0)), (8, .c (cI i))]

abbrev accdH (c : PCfg) (who : Int) (bw bx : LB) (a : PAccess) (m : PMem) : List LB := [.obj (.mem m), .cells 27 [cI c.threads, cI c.slots, cI c.chunks, cI c.words, cI c.gens, cI c.sparse, cI c.tries, .ptr 0 0, cI who], bw, bx, .obj (.access a)]

theorem accdBody_ev (c : PCfg) (who : Int) (bw bx : LB) (a : PAccess) (m : PMem) (wr : List Nat) (i : Int) (k : X → Tm → LH → Prop) :
    evC Tryz.prog (evF Tryz.prog ownK6 10 20) (tmpsF Tryz.prog accdF) noLo 10 (loopF Tryz.prog accdF 0) (accdT i) ⟨accdH c who bw bx a m, wr⟩ (fun x T H => k x (Tm.norm [3, 6, 7, 8] T) H) =
    (bif decide (i < 200) then 
      bif (accessStep c who a m).1 then k (.exit 0) (accdT i) ⟨accdH c who bw bx (accessStep c who a m).2.1 (accessStep c who a m).2.2, 0 :: 4 :: wr⟩
      else k .normal (accdT (IntKind.wrap .i64 (i + 1))) ⟨accdH c who bw bx (accessStep c who a m).2.1 (accessStep c who a m).2.2, 0 :: 4 :: wr⟩
    else k (.exit 0) (accdT i) ⟨accdH c who bw bx a m, wr⟩) := by kernel_rfl

def lh_accd : LHd := fun T H K => match Tm.norm [3, 6, 7, 8] T with
  | [(3, .c (.ptr 1 0)), (6, .c (.ptr 3 0)), (7, .c (.ptr 4 0)), (8, .c (.int .i64 i))] => match H.bl with
    | [.obj (.mem m), .cells t [.int .i64 c1, .int .i64 c2, .int .i64 c3, .int .i64 c4, .int .i64 c5, .int .i64 c6, .int .i64 c7, .ptr 0 0, .int .i64 who], bw, bx, .obj (.access a)] =>
      match Nat.beq t 27 && decide (i = 0) with
      | false => False
      | true => ( K (.exit 0) [(3, .c (.ptr 1 0)), (6, .c (.ptr 3 0)), (7, .c (.ptr 4 0))] ⟨accdH ⟨c1, c2, c3, c4, c5, c6, c7⟩ who bw bx (accdRun ⟨c1, c2, c3, c4, c5, c6, c7⟩ who 200 a m).1 (accdRun ⟨c1, c2, c3, c4, c5, c6, c7⟩ who 200 a m).2, 0 :: 4 :: H.wr⟩)
    | _ => False
  | _ => False

theorem lh_accd_ok : BodyOK Tryz.prog (tmpsF Tryz.prog accdF) (.loop (loopF Tryz.prog accdF 0)) lh_accd := by
  refine loopN_ok (evC_ok fnOK mixed (evF_ok fnOK mixed ownK6_ok 10 20) _ (lo := noLo) 10 _ LoOK.no) ?_
  intro T H K h
  unfold lh_accd at h
  split at h
  case h_2 => exact h.elim
  rename_i x i hT
  split at h
  case h_2 => exact h.elim
  rename_i x' m t c1 c2 c3 c4 c5 c6 c7 who bw bx a hH
  split at h
  · exact h.elim
  rename_i hti
  simp only [Bool.and_eq_true] at hti
  have ht := Nat.eq_of_beq_eq_true hti.1
  have hi : i = 0 := of_decide_eq_true hti.2
  subst ht
  subst hi
  generalize hr : accdRun ⟨c1, c2, c3, c4, c5, c6, c7⟩ who 200 a m = r at h
  refine ⟨[3, 6, 7, 8], [3, 6, 7], fun n T' H' => ∃ (j : Nat) (a' : PAccess) (m' : PMem), j ≤ 200 ∧ n = 200 - j ∧ T' = accdT (j : Int) ∧ H'.bl = accdH ⟨c1, c2, c3, c4, c5, c6, c7⟩ who bw bx a' m' ∧ (∀ n ∈ H'.wr, n ∈ 0 :: 4 :: H.wr) ∧
    accdRun ⟨c1, c2, c3, c4, c5, c6, c7⟩ who (200 - j) a' m' = r, ⟨200, 0, a, m, by omega, rfl, hT, hH, fun n hn => by simp [hn], hr⟩, ?_⟩
  rintro n T' ⟨bl, wr⟩ ⟨j, a', m', hj, rfl, rfl, hbl, hwr, hrun⟩
  simp only at hbl hwr
  subst hbl
  rw [accdBody_ev]
  by_cases hlt : j < 200
  · have h1 : decide ((j : Int) < 200) = true := by simp; omega
    obtain ⟨q, hq⟩ : ∃ q, 200 - j = q + 1 := ⟨200 - (j + 1), by omega⟩
    have hq' : q = 200 - (j + 1) := by omega
    rw [hq, accdRun_succ] at hrun
    rw [h1]
    simp only [cond_true]
    have hw2 : ∀ n ∈ 0 :: 4 :: wr, n ∈ 0 :: 4 :: H.wr := by
      intro n hn
      simp only [List.mem_cons] at hn ⊢
      rcases hn with h | h | h
      · exact .inl h
      · exact .inr (.inl h)
      · simpa using hwr n h
    cases hst : (accessStep ⟨c1, c2, c3, c4, c5, c6, c7⟩ who a' m').1 with
    | true =>
      rw [hst] at hrun
      simp only [cond_true] at hrun ⊢
      subst hrun
      exact ⟨0 :: 4 :: H.wr, hw2, h⟩
    | false =>
      rw [hst] at hrun
      simp only [cond_false] at hrun ⊢
      refine ⟨200 - (j + 1), by omega, j + 1, _, _, hlt, rfl, ?_, rfl, hw2, by rw [← hq']; exact hrun⟩
      have hi : IntKind.i64.wrap ((j : Int) + 1) = ((j + 1 : Nat) : Int) := by rw [IntKind.wrap_i64]; omega
      rw [hi]
  · have h1 : decide ((j : Int) < 200) = false := by simp; omega
    rw [h1]
    simp only [cond_false]
    have hz : 200 - j = 0 := by omega
    rw [hz, accdRun_zero] at hrun
    subst hrun
    exact ⟨0 :: 4 :: H.wr, hwr, h⟩

theorem accdLo : LoOK Tryz.prog (tmpsF Tryz.prog accdF) (fun _ => some lh_accd) (loopsF Tryz.prog accdF) := by
  have h : loopsF Tryz.prog accdF = [loopF Tryz.prog accdF 0] := by kernel_rfl
  rw [h]
  intro c hc hd he
  have hc : c = loopF Tryz.prog accdF 0 := by simpa using hc
  subst hc
  cases he
  exact lh_accd_ok

theorem accd_ev (c : PCfg) (who : Int) (m : PMem) (x1 x2 x3 x4 x5 : Int) (b : Bool) (K : PDone → PMem → Prop) :
    evL Tryz.prog ownK6 (fun _ => some lh_accd) 10 20 accdF [envV c 0 who, .agg [.int .i64 x1, .int .u64 x2, .int .i64 x3, .int .i64 x4, .int .i64 x5], .c (.bool b)] ⟨cat [(false, .mem m)] 0, []⟩ (fun v H₁ => match v with
      | .agg [.int .i64 e, .int .u64 h, .int .i64 v, .int .i64 st] => shF H₁ 0 fun o c2 => match o with
        | .mem m' => match chkAll [(false, .mem m)] [c2] [] with
          | true => K ⟨e, h, v, st⟩ m'
          | false => False
        | _ => False
      | _ => False) =
    ( K ⟨(accdRun c who 200 ⟨⟨x1, x2, x3, x4, x5⟩, b, 0, 0, 0, 0, 0, 0, 0, 0, none, ⟨0, 0, 0, 0⟩⟩ m).1.out.e, (accdRun c who 200 ⟨⟨x1, x2, x3, x4, x5⟩, b, 0, 0, 0, 0, 0, 0, 0, 0, none, ⟨0, 0, 0, 0⟩⟩ m).1.out.h, (accdRun c who 200 ⟨⟨x1, x2, x3, x4, x5⟩, b, 0, 0, 0, 0, 0, 0, 0, 0, none, ⟨0, 0, 0, 0⟩⟩ m).1.out.v, (accdRun c who 200 ⟨⟨x1, x2, x3, x4, x5⟩, b, 0, 0, 0, 0, 0, 0, 0, 0, none, ⟨0, 0, 0, 0⟩⟩ m).1.out.st⟩ (accdRun c who 200 ⟨⟨x1, x2, x3, x4, x5⟩, b, 0, 0, 0, 0, 0, 0, 0, 0, none, ⟨0, 0, 0, 0⟩⟩ m).2) := by kernel_rfl

def h_accd : Hd := fun args H K => match args with
  | [.agg [.int .i64 c1, .int .i64 c2, .int .i64 c3, .int .i64 c4, .int .i64 c5, .int .i64 c6, .int .i64 c7, .ptr m 0, .int .i64 who], .agg [.int .i64 x1, .int .u64 x2, .int .i64 x3, .int .i64 x4, .int .i64 x5], .c (.bool b)] =>
    match H.get m with
    | some (.obj (.mem pm)) => ( K (.agg [cI (accdM ⟨c1, c2, c3, c4, c5, c6, c7⟩ who pm x1 x2 x3 x4 x5 b).1.e, cU (accdM ⟨c1, c2, c3, c4, c5, c6, c7⟩ who pm x1 x2 x3 x4 x5 b).1.h, cI (accdM ⟨c1, c2, c3, c4, c5, c6, c7⟩ who pm x1 x2 x3 x4 x5 b).1.v, cI (accdM ⟨c1, c2, c3, c4, c5, c6, c7⟩ who pm x1 x2 x3 x4 x5 b).1.st]) (H.put m (.obj (.mem (accdM ⟨c1, c2, c3, c4, c5, c6, c7⟩ who pm x1 x2 x3 x4 x5 b).2))))
    | _ => False
  | _ => False

theorem h_accd_ok : HOK accdF h_accd := by
  intro args H K h
  unfold h_accd at h
  split at h
  case h_2 => exact h.elim
  rename_i c1 c2 c3 c4 c5 c6 c7 m who x1 x2 x3 x4 x5 b
  split at h
  case h_2 => exact h.elim
  rename_i pm hm
  have e := (accd_ev ⟨c1, c2, c3, c4, c5, c6, c7⟩ who pm x1 x2 x3 x4 x5 b (fun d m' => K (.agg [cI d.e, cU d.h, cI d.v, cI d.st]) (H.put m (.obj (.mem m'))))).mpr (by
    unfold accdM at h
    skip
    exact h)
  refine objs_of (ns := [m]) (xs := [(false, .mem pm)]) rfl ?_ (by simp) ?_ (evL_ok fnOK mixed ownK6_ok accdLo e) ?_
  · intro i n x' hi hx
    match i, hi, hx with
    | 0, hi, hx => simp at hi hx; subst hi; subst hx; exact get_obj hm
    | i + 1, hi, hx => simp at hi
  · intro s s₁ vs hh hr
    match vs, hr with
    | u :: vs, ⟨h1, h2⟩ =>
      have e0 := hh 0 m rfl
      simp only [base, Nat.zero_add] at e0
      exact ⟨rel_env (c := ⟨c1, c2, c3, c4, c5, c6, c7⟩) e0 h1, RelVs.low rfl h2⟩
  · intro v₁ H₁ hk
    split at hk
    · rename_i e1 h1 v1 st1
      obtain ⟨o, c2, hk, hc2⟩ := shF_ok hk
      split at hk
      · rename_i pm'
        split at hk
        · rename_i hchk
          exact ⟨[c2], [(false, .mem pm')], [], [], .agg [.int .i64 e1, .int .u64 h1, .int .i64 v1, .int .i64 st1], hchk, ⟨hc2, trivial⟩, trivial, fun _ _ _ _ _ h => RelV.low rfl h, hk⟩
        · exact hk.elim
      · exact hk.elim
    · exact hk.elim

end Go.Proofs.YtfjnkneoddankaaGreat

namespace Go.Proofs.YtfjnkneoddankaaGreat
open Go Go.FL Go.Proofs

def tabK7 : List (FuncId × Hd) := [(makeF, h_make), (dropdF, h_dropd), (accdF, h_accd)] ++ tabK6
def ownK7 : FuncId → Option Hd := look tabK7
theorem allK7 : AllOK tabK7 := ⟨h_make_ok, h_dropd_ok, h_accd_ok, allK6⟩
theorem ownK7_ok : OwnOK Tryz.prog ownK7 := look_ok allK7

end Go.Proofs.YtfjnkneoddankaaGreat

/-
  Memory is made.
-/
set_option linter.unusedVariables false
set_option linter.unusedSimpArgs false
set_option maxRecDepth 100000
namespace Go.FL

def PMem.store (m : PMem) (a b : Int) : Int × PMem :=
  if a < 0 then (2, m) else if (m.n : Int) ≤ a then (2, m) else (0, m.lay m.who a b)

def mStoreT (m : PMem) (a b : Int) (bot : Prop) (K : Int → PMem → Prop) : Prop :=
  bif decide (a < 0) then
   (m.n = m.n ∧ m.n = m.n ∧ m.n = m.n ∧ m.n = m.n ∧ m.n = m.n) ∧
   K 2 ⟨(m.n), (m.w), (m.t), (m.steps), (m.who), (m.la), (m.lw), (m.lc)⟩
  else
   bif decide (↑m.n ≤ a) then
    (m.n = m.n ∧ m.n = m.n ∧ m.n = m.n ∧ m.n = m.n ∧ m.n = m.n) ∧
    K 2 ⟨(m.n), (m.w), (m.t), (m.steps), (m.who), (m.la), (m.lw), (m.lc)⟩
   else
    bif decide (0 ≤ a ∧ a < ↑m.n) then
     (Int.toNat a < m.n) ∧
     bif !decide (m.w (Int.toNat a) = b) then
      bif decide (0 ≤ a ∧ a < ↑m.n) then
       (Int.toNat a < m.n) ∧
       bif decide (0 ≤ a ∧ a < ↑m.n) then
        (Int.toNat a < m.n) ∧
        (m.n = m.n ∧ m.n = m.n ∧ m.n = m.n ∧ m.n = m.n ∧ m.n = m.n) ∧
        K 0 ⟨(m.n), (fun j => bif Nat.beq j (Int.toNat a) then b else m.w j), (fun j => bif Nat.beq j (Int.toNat a) then IntKind.wrap IntKind.i64 (m.steps + 1) else m.t j), (IntKind.wrap IntKind.i64 (m.steps + 1)), (m.who), (a), (m.who), (!decide (m.w (Int.toNat a) = b))⟩
       else
        bot
      else
       bot
     else
      bif decide (0 ≤ a ∧ a < ↑m.n) then
       (Int.toNat a < m.n) ∧
       (m.n = m.n ∧ m.n = m.n ∧ m.n = m.n ∧ m.n = m.n ∧ m.n = m.n) ∧
       K 0 ⟨(m.n), (fun j => bif Nat.beq j (Int.toNat a) then b else m.w j), (m.t), (IntKind.wrap IntKind.i64 (m.steps + 1)), (m.who), (a), (m.who), (!decide (m.w (Int.toNat a) = b))⟩
      else
       bot
    else
     bot

theorem mStoreT_of (m : PMem) (a b : Int) {K : Int → PMem → Prop} (h : K (m.store a b).1 (m.store a b).2) : mStoreT m a b False K := by
  unfold mStoreT
  by_cases h1 : a < 0
  · simp [PMem.store, h1] at h ⊢
    exact h
  · by_cases h2 : (m.n : Int) ≤ a
    · simp [PMem.store, h1, h2] at h ⊢
      exact h
    · have h3 : 0 ≤ a ∧ a < (m.n : Int) := by omega
      have h4 : a.toNat < m.n := by omega
      by_cases h5 : m.w a.toNat = b
      · simp [PMem.store, PMem.lay, upd, h1, h2, h3, h4, h5] at h ⊢
        exact h
      · simp [PMem.store, PMem.lay, upd, h1, h2, h3, h4, h5] at h ⊢
        exact h

def lCheckK (c1 c2 c3 c4 c5 c6 c7 : Int) (K : Bool → Prop) : Prop :=
  bif decide (1 ≤ c1) then
   bif decide (c1 ≤ 8) then
    bif decide (1 ≤ c2) then
     bif decide (1 ≤ c3) then
      bif decide (c3 ≤ 64) then
       bif decide (17 ≤ c4) then
        bif decide (1 ≤ c5) then
         bif decide (c5 ≤ 65535) then
          bif decide (0 ≤ c6) then
           bif decide (c6 ≤ 1000) then
            bif decide (1 ≤ c7) then
             bif decide (c2 ≤ 65536) then
              bif decide (c4 ≤ 256) then
               K (decide (c7 ≤ 16))
              else
               K false
             else
              K false
            else
             bif decide (c2 ≤ 65536) then
              bif decide (c4 ≤ 256) then
               K false
              else
               K false
             else
              K false
           else
            bif decide (c2 ≤ 65536) then
             bif decide (c4 ≤ 256) then
              K false
             else
              K false
            else
             K false
          else
           bif decide (c2 ≤ 65536) then
            bif decide (c4 ≤ 256) then
             K false
            else
             K false
           else
            K false
         else
          bif decide (c2 ≤ 65536) then
           bif decide (c4 ≤ 256) then
            K false
           else
            K false
          else
           K false
        else
         bif decide (c2 ≤ 65536) then
          bif decide (c4 ≤ 256) then
           K false
          else
           K false
         else
          K false
       else
        bif decide (1 ≤ c5) then
         bif decide (c5 ≤ 65535) then
          bif decide (0 ≤ c6) then
           bif decide (c6 ≤ 1000) then
            bif decide (1 ≤ c7) then
             bif decide (c2 ≤ 65536) then
              K false
             else
              K false
            else
             bif decide (c2 ≤ 65536) then
              K false
             else
              K false
           else
            bif decide (c2 ≤ 65536) then
             K false
            else
             K false
          else
           bif decide (c2 ≤ 65536) then
            K false
           else
            K false
         else
          bif decide (c2 ≤ 65536) then
           K false
          else
           K false
        else
         bif decide (c2 ≤ 65536) then
          K false
         else
          K false
      else
       bif decide (1 ≤ c5) then
        bif decide (c5 ≤ 65535) then
         bif decide (0 ≤ c6) then
          bif decide (c6 ≤ 1000) then
           bif decide (1 ≤ c7) then
            bif decide (c2 ≤ 65536) then
             K false
            else
             K false
           else
            bif decide (c2 ≤ 65536) then
             K false
            else
             K false
          else
           bif decide (c2 ≤ 65536) then
            K false
           else
            K false
         else
          bif decide (c2 ≤ 65536) then
           K false
          else
           K false
        else
         bif decide (c2 ≤ 65536) then
          K false
         else
          K false
       else
        bif decide (c2 ≤ 65536) then
         K false
        else
         K false
     else
      bif decide (1 ≤ c5) then
       bif decide (c5 ≤ 65535) then
        bif decide (0 ≤ c6) then
         bif decide (c6 ≤ 1000) then
          bif decide (1 ≤ c7) then
           bif decide (c2 ≤ 65536) then
            K false
           else
            K false
          else
           bif decide (c2 ≤ 65536) then
            K false
           else
            K false
         else
          bif decide (c2 ≤ 65536) then
           K false
          else
           K false
        else
         bif decide (c2 ≤ 65536) then
          K false
         else
          K false
       else
        bif decide (c2 ≤ 65536) then
         K false
        else
         K false
      else
       bif decide (c2 ≤ 65536) then
        K false
       else
        K false
    else
     bif decide (1 ≤ c3) then
      bif decide (c3 ≤ 64) then
       bif decide (17 ≤ c4) then
        bif decide (1 ≤ c5) then
         bif decide (c5 ≤ 65535) then
          bif decide (0 ≤ c6) then
           bif decide (c6 ≤ 1000) then
            bif decide (1 ≤ c7) then
             K false
            else
             K false
           else
            K false
          else
           K false
         else
          K false
        else
         K false
       else
        bif decide (1 ≤ c5) then
         bif decide (c5 ≤ 65535) then
          bif decide (0 ≤ c6) then
           bif decide (c6 ≤ 1000) then
            bif decide (1 ≤ c7) then
             K false
            else
             K false
           else
            K false
          else
           K false
         else
          K false
        else
         K false
      else
       bif decide (1 ≤ c5) then
        bif decide (c5 ≤ 65535) then
         bif decide (0 ≤ c6) then
          bif decide (c6 ≤ 1000) then
           bif decide (1 ≤ c7) then
            K false
           else
            K false
          else
           K false
         else
          K false
        else
         K false
       else
        K false
     else
      bif decide (1 ≤ c5) then
       bif decide (c5 ≤ 65535) then
        bif decide (0 ≤ c6) then
         bif decide (c6 ≤ 1000) then
          bif decide (1 ≤ c7) then
           K false
          else
           K false
         else
          K false
        else
         K false
       else
        K false
      else
       K false
   else
    bif decide (1 ≤ c3) then
     bif decide (c3 ≤ 64) then
      bif decide (17 ≤ c4) then
       bif decide (1 ≤ c5) then
        bif decide (c5 ≤ 65535) then
         bif decide (0 ≤ c6) then
          bif decide (c6 ≤ 1000) then
           bif decide (1 ≤ c7) then
            K false
           else
            K false
          else
           K false
         else
          K false
        else
         K false
       else
        K false
      else
       bif decide (1 ≤ c5) then
        bif decide (c5 ≤ 65535) then
         bif decide (0 ≤ c6) then
          bif decide (c6 ≤ 1000) then
           bif decide (1 ≤ c7) then
            K false
           else
            K false
          else
           K false
         else
          K false
        else
         K false
       else
        K false
     else
      bif decide (1 ≤ c5) then
       bif decide (c5 ≤ 65535) then
        bif decide (0 ≤ c6) then
         bif decide (c6 ≤ 1000) then
          bif decide (1 ≤ c7) then
           K false
          else
           K false
         else
          K false
        else
         K false
       else
        K false
      else
       K false
    else
     bif decide (1 ≤ c5) then
      bif decide (c5 ≤ 65535) then
       bif decide (0 ≤ c6) then
        bif decide (c6 ≤ 1000) then
         bif decide (1 ≤ c7) then
          K false
         else
          K false
        else
         K false
       else
        K false
      else
       K false
     else
      K false
  else
   bif decide (1 ≤ c3) then
    bif decide (c3 ≤ 64) then
     bif decide (17 ≤ c4) then
      bif decide (1 ≤ c5) then
       bif decide (c5 ≤ 65535) then
        bif decide (0 ≤ c6) then
         bif decide (c6 ≤ 1000) then
          bif decide (1 ≤ c7) then
           K false
          else
           K false
         else
          K false
        else
         K false
       else
        K false
      else
       K false
     else
      bif decide (1 ≤ c5) then
       bif decide (c5 ≤ 65535) then
        bif decide (0 ≤ c6) then
         bif decide (c6 ≤ 1000) then
          bif decide (1 ≤ c7) then
           K false
          else
           K false
         else
          K false
        else
         K false
       else
        K false
      else
       K false
    else
     bif decide (1 ≤ c5) then
      bif decide (c5 ≤ 65535) then
       bif decide (0 ≤ c6) then
        bif decide (c6 ≤ 1000) then
         bif decide (1 ≤ c7) then
          K false
         else
          K false
        else
         K false
       else
        K false
      else
       K false
     else
      K false
   else
    bif decide (1 ≤ c5) then
     bif decide (c5 ≤ 65535) then
      bif decide (0 ≤ c6) then
       bif decide (c6 ≤ 1000) then
        bif decide (1 ≤ c7) then
         K false
        else
         K false
       else
        K false
      else
       K false
     else
      K false
    else
     K false

/-- Which arenas may be. -/
def lCheck (c1 c2 c3 c4 c5 c6 c7 : Int) : Bool := decide (1 ≤ c1) && (decide (c1 ≤ 8) && (decide (1 ≤ c2) && (decide (1 ≤ c3) && (decide (c3 ≤ 64) && (decide (17 ≤ c4) && (decide (1 ≤ c5) && (decide (c5 ≤ 65535) && (decide (0 ≤ c6) && (decide (c6 ≤ 1000) &&
  (decide (1 ≤ c7) && (decide (c2 ≤ 65536) && (decide (c4 ≤ 256) && decide (c7 ≤ 16)))))))))))))

theorem cond_and {K : Bool → Prop} {b x : Bool} : (bif b then K x else K false) = K (b && x) := by cases b <;> rfl

theorem cond_same {p : Prop} {b : Bool} : (bif b then p else p) = p := by cases b <;> rfl

theorem lCheckK_eq (c1 c2 c3 c4 c5 c6 c7 : Int) (K : Bool → Prop) : lCheckK c1 c2 c3 c4 c5 c6 c7 K = K (lCheck c1 c2 c3 c4 c5 c6 c7) := by
  unfold lCheckK lCheck
  simp only [cond_same, cond_and]

def newMem (n : Int) : PMem := ⟨n.toNat, fun _ => 0, fun _ => 0, 0, 0, 0, 0, false⟩

end Go.FL

namespace Go.Proofs.YtfjnkneoddankaaGreat
open Go Go.FL Go.Proofs

theorem lCheck_ev (c1 c2 c3 c4 c5 c6 c7 : Int) (K : Bool → Prop) : evF Tryz.prog ownK7 10 20 67 [.agg [.int .i64 c1, .int .i64 c2, .int .i64 c3, .int .i64 c4, .int .i64 c5, .int .i64 c6, .int .i64 c7]] ⟨[], []⟩ (fun v _ => match v with
    | .c (.bool x) => K x
    | _ => False) = lCheckK c1 c2 c3 c4 c5 c6 c7 K := by kernel_rfl

def h_lCheck : Hd := fun args H K => match args with
  | [.agg [.int .i64 c1, .int .i64 c2, .int .i64 c3, .int .i64 c4, .int .i64 c5, .int .i64 c6, .int .i64 c7]] => K (.c (.bool (lCheck c1 c2 c3 c4 c5 c6 c7))) H
  | _ => False

theorem h_lCheck_ok : HOK 67 h_lCheck := by
  intro args H K h
  unfold h_lCheck at h
  split at h
  · rename_i c1 c2 c3 c4 c5 c6 c7
    have e := lCheck_ev c1 c2 c3 c4 c5 c6 c7 (fun x => K (.c (.bool x)) H)
    rw [lCheckK_eq] at e
    have e := e.mpr h
    refine pure_ok (fuel := 10) (d := 20) ownK7_ok rfl e ?_
    intro v H₁ hv
    split at hv
    · exact ⟨rfl, hv⟩
    · exact hv.elim
  · exact h.elim

theorem mStore_ev (m : PMem) (a b : Int) (K : Int → PMem → Prop) : evF Tryz.prog ownK7 10 20 33 [.c (.ptr 0 0), .c (.int .i64 a), .c (.int .u64 b)] ⟨cat [(true, .mem m)] 0, []⟩ (fun v H => match v with
    | .c (.int .i64 e) => (shMem H 0 fun m' c' => match chkAll [(true, .mem m)] [c'] [] with | true => K e m' | false => False)
    | _ => False) = mStoreT m a b False K := by kernel_rfl

def h_mStore : Hd := fun args H K => match args with
  | [.c (.ptr m 0), .c (.int .i64 a), .c (.int .u64 b)] => match H.get m with
    | some (.obj (.mem pm)) => K (.c (.int .i64 (pm.store a b).1)) (H.put m (.obj (.mem (pm.store a b).2)))
    | _ => False
  | _ => False

theorem h_mStore_ok : HOK 33 h_mStore := by
  intro args H K h
  unfold h_mStore at h
  split at h
  · rename_i m a b
    split at h
    · rename_i pm hm
      have e := (mStore_ev pm a b (fun e m' => K (.c (.int .i64 e)) (H.put m (.obj (.mem m'))))).mpr (mStoreT_of pm a b h)
      refine objs_ok ownK7_ok (ns := [m]) (xs := [(true, .mem pm)]) rfl (get_one hm) (by simp) ?_ e ?_
      · intro s s₁ vs hh hr
        have e0 := hh 0 m rfl
        simp only [base] at e0
        exact rel_args1 (rel_ptr e0) hr
      · intro v₁ H₁ hk
        split at hk
        · obtain ⟨m', c', hk, hc⟩ := shMem_ok hk
          split at hk
          · rename_i hchk
            exact ⟨[c'], [(true, .mem m')], [], [], _, hchk, ⟨hc, trivial⟩, trivial, fun _ _ _ _ _ h => RelV.low rfl h, hk⟩
          · exact hk.elim
        · exact hk.elim
    · exact h.elim
  · exact h.elim

theorem memNew_ev (n : Int) (K : Option PMem → Int → Prop) : evF Tryz.prog ownK7 10 20 68 [.c (.int .i64 n)] ⟨[], []⟩ (fun v H₁ => match v with
    | .tup [.c .nilp, .c (.int .i64 e)] => K none e
    | .tup [.c (.ptr i 0), .c (.int .i64 e)] => (shMem H₁ i fun x c => match chkAll [] [] [c] && headOK i c with
      | true => K (some x) e
      | false => False)
    | _ => False) = (bif decide (n < 1) then K none 1 else bif decide (1048576 < n) then K none 1 else
      (((IntKind.u64 = IntKind.u64 ∧ 1 = 1 ∧ 8 ≤ 8) ∧ n = n ∧ 0 ≤ n ∧ n ≤ 1048576) ∧ ((IntKind.i64 = IntKind.i64 ∧ 1 = 1 ∧ 8 ≤ 8) ∧ n = n ∧ 0 ≤ n ∧ n ≤ 1048576) ∧
        (n.toNat = n.toNat ∧ n.toNat = n.toNat ∧ n.toNat = n.toNat ∧ n.toNat = n.toNat ∧ n.toNat = n.toNat) ∧ K (some (newMem n)) 0) ∧
      (((IntKind.i64 = IntKind.i64 ∧ 1 = 1 ∧ 8 ≤ 8) ∧ n = n ∧ 0 ≤ n ∧ n ≤ 1048576) ∧ ((IntKind.u64 = IntKind.u64 ∧ 1 = 1 ∧ 8 ≤ 8) ∧ n = n ∧ 0 ≤ n ∧ n ≤ 1048576) ∧
        (n.toNat = n.toNat ∧ n.toNat = n.toNat ∧ n.toNat = n.toNat ∧ n.toNat = n.toNat ∧ n.toNat = n.toNat) ∧ K (some (newMem n)) 0)) := by kernel_rfl

def h_memNew : Hd := fun args H K => match args with
  | [.c (.int .i64 n)] => match decide (n < 1) || decide (1048576 < n) with
    | true => K (.tup [.c .nilp, .c (cI 1)]) H
    | false => K (.tup [.c (.ptr H.len 0), .c (cI 0)]) (H.new (.obj (.mem (newMem n))))
  | _ => False

/-- Something that makes an object, or says why not. -/
theorem new2_ok {own : FuncId → Option Hd} {b : Bool} {f : FuncId} {R : Type} {mk : R → Ob} {sh : LH → Nat → (R → List Nat → Prop) → Prop}
    (hsh : ∀ H n k, sh H n k → ∃ x c, k x c ∧ Clus H c (b, mk x)) {args : List LV} {H : LH} {K : LV → LH → Prop} (hlow : lowVs args = true)
    (hev : (∃ fn, Tryz.prog.funcs[f]? = some fn ∧ fn.body.isSome = true) ∧ CSpec Tryz.prog f args ⟨[], []⟩ (fun v H₁ => match v with
      | .tup [.c .nilp, .c (.int .i64 e)] => K (.tup [.c .nilp, .c (cI e)]) H
      | .tup [.c (.ptr i 0), .c (.int .i64 e)] => (sh H₁ i fun x c => match chkAll [] [] [c] && headOK i c with
        | true => K (.tup [.c (.ptr H.len 0), .c (cI e)]) (H.new (.obj (mk x)))
        | false => False)
      | _ => False)) :
    (∃ fn, Tryz.prog.funcs[f]? = some fn ∧ fn.body.isSome = true) ∧ CSpec Tryz.prog f args H K := by
  refine objs_of (ns := []) (xs := []) rfl (by simp) List.nodup_nil (fun s s₁ vs _ h => RelVs.low hlow h) hev ?_
  intro v₁ H₁ hk
  split at hk
  · rename_i e'
    exact ⟨[], [], [], [], .tup [.c .nilp, .c (cI e')], rfl, trivial, trivial, fun s₁ s' v' _ _ hr => RelV.low rfl hr, hk⟩
  · rename_i i e'
    obtain ⟨x, c, hk, hc⟩ := hsh _ _ _ hk
    split at hk
    · rename_i hchk
      simp only [Bool.and_eq_true] at hchk
      obtain ⟨h1, h2⟩ := hchk
      refine ⟨[], [], [c], [(b, mk x)], .tup [.c (.ptr H.len 0), .c (cI e')], h1, trivial, ⟨hc, trivial⟩, ?_, hk⟩
      intro s₁ s' v' _ hd' hr
      have h0 : c[0]? = some i := by
        unfold headOK at h2
        split at h2
        · have := Nat.eq_of_beq_eq_true h2; simp [this]
        · cases h2
      have := hd' 0 c i rfl h0
      simp only [Nat.add_zero] at this
      obtain ⟨vs, rfl, hr⟩ := hr
      refine ⟨vs, rfl, ?_⟩
      generalize vs.toList = us at hr ⊢
      match us, hr with
      | [u, v], ⟨h3, h4, _⟩ =>
        refine ⟨?_, h4, trivial⟩
        obtain ⟨r, h5, h6⟩ := h3
        exact ⟨r, by rw [this]; exact h5, h6⟩
    · exact hk.elim
  · exact hk.elim

theorem h_memNew_ok : HOK 68 h_memNew := by
  intro args H K h
  unfold h_memNew at h
  split at h
  · rename_i n
    refine new2_ok (own := ownK7) (mk := .mem) (fun _ _ _ => shMem_ok) rfl (evF_ok fnOK mixed ownK7_ok 10 20 _ _ _ _ ((memNew_ev n (fun o e => match o with
      | some x => K (.tup [.c (.ptr H.len 0), .c (cI e)]) (H.new (.obj (.mem x)))
      | none => K (.tup [.c .nilp, .c (cI e)]) H)).mpr ?_))
    by_cases h1 : n < 1
    · simp only [h1, decide_true, Bool.true_or, cond_true] at h ⊢
      exact h
    · by_cases h2 : 1048576 < n
      · simp only [h1, h2, decide_true, decide_false, Bool.or_true, cond_true, cond_false] at h ⊢
        exact h
      · simp only [h1, h2, decide_false, Bool.or_false, cond_false, true_and, and_self, Nat.le_refl] at h ⊢
        have h3 : 0 ≤ n := by omega
        have h4 : n ≤ 1048576 := by omega
        exact ⟨⟨h3, h4⟩, ⟨h3, h4⟩, h⟩
  · exact h.elim

def tab7 : List (FuncId × Hd) := (67, h_lCheck) :: (33, h_mStore) :: (68, h_memNew) :: tabK7

def own7 : FuncId → Option Hd := look tab7

theorem all7 : AllOK tab7 := ⟨h_lCheck_ok, h_mStore_ok, h_memNew_ok, allK7⟩

theorem own7_ok : OwnOK Tryz.prog own7 := look_ok all7

end Go.Proofs.YtfjnkneoddankaaGreat

/-
  An arena's memory at the beginning.
-/
set_option linter.unusedVariables false
set_option linter.unusedSimpArgs false
set_option maxRecDepth 100000
namespace Go.FL

def slotInit (c1 c2 c3 c4 c5 c6 c7 i : Int) (m : PMem) : PMem :=
  (PMem.store (PMem.store m (lSlot c1 c2 c3 c4 c5 c6 c7 i) (putSlot 0 0 1 0)).2 (IntKind.wrap IntKind.i64 (lSlot c1 c2 c3 c4 c5 c6 c7 i + 1)) (putTop (IntKind.wrap IntKind.i64 (i + 1)) 0)).2

/-- So many slots from that one on. -/
def freshRun (c1 c2 c3 c4 c5 c6 c7 : Int) : Nat → Int → PMem → PMem
  | 0, _, m => m
  | k + 1, i, m => freshRun c1 c2 c3 c4 c5 c6 c7 k (i + 1) (slotInit c1 c2 c3 c4 c5 c6 c7 i m)

theorem freshRun_zero (c1 c2 c3 c4 c5 c6 c7 i : Int) (m : PMem) : freshRun c1 c2 c3 c4 c5 c6 c7 0 i m = m := rfl

theorem freshRun_succ (c1 c2 c3 c4 c5 c6 c7 i : Int) (k : Nat) (m : PMem) : freshRun c1 c2 c3 c4 c5 c6 c7 (k + 1) i m = freshRun c1 c2 c3 c4 c5 c6 c7 k (i + 1) (slotInit c1 c2 c3 c4 c5 c6 c7 i m) := rfl

def freshEnd (c1 c2 c3 c4 c5 c6 c7 : Int) (m : PMem) : PMem :=
  (PMem.store (PMem.store m (IntKind.wrap IntKind.i64 (lSlot c1 c2 c3 c4 c5 c6 c7 (IntKind.wrap IntKind.i64 (c2 - 1)) + 1)) (putTop (-1) 0)).2 1 (putTop 0 0)).2

/-- An arena's memory at the beginning. -/
def freshM (c1 c2 c3 c4 c5 c6 c7 : Int) : PMem := freshEnd c1 c2 c3 c4 c5 c6 c7 (freshRun c1 c2 c3 c4 c5 c6 c7 c2.toNat 0 (newMem (lLen c1 c2 c3 c4 c5 c6 c7)))

attribute [irreducible] freshRun

def shMemF (H : LH) (n : Nat) (k : PMem → List Nat → Prop) : Prop := shF H n fun o c => match o with
  | .mem x => k x c
  | _ => False

theorem shMemF_ok {H : LH} {n : Nat} {k : PMem → List Nat → Prop} (h : shMemF H n k) : ∃ x c, k x c ∧ Clus H c (false, .mem x) := by
  obtain ⟨o, c, hk, hc⟩ := shF_ok h
  split at hk
  · exact ⟨_, c, hk, hc⟩
  · exact hk.elim

end Go.FL

namespace Go.Proofs.YtfjnkneoddankaaGreat
open Go Go.FL Go.Proofs

abbrev frF : FuncId := 40

abbrev frT (c2 i : Int) : Tm := [(1, .c (.ptr 0 0)), (4, .c (.ptr 1 0)), (20, .c (cI c2)), (21, .c (cI i))]

abbrev frH (c1 c2 c3 c4 c5 c6 c7 : Int) (m : PMem) : List LB := [.cells 24 [.int .i64 c1, .int .i64 c2, .int .i64 c3, .int .i64 c4, .int .i64 c5, .int .i64 c6, .int .i64 c7], .obj (.mem m)]

theorem frBody_ev (c1 c2 c3 c4 c5 c6 c7 i : Int) (m : PMem) (wr : List Nat) (k : X → Tm → LH → Prop) :
    evC Tryz.prog (evF Tryz.prog own7 10 20) (tmpsF Tryz.prog frF) noLo 10 (loopF Tryz.prog frF 0) (frT c2 i) ⟨frH c1 c2 c3 c4 c5 c6 c7 m, wr⟩ (fun x T H => k x (Tm.norm [1, 4, 20, 21] T) H) =
    (bif decide (i < c2) then k .normal (frT c2 (IntKind.wrap .i64 (i + 1))) ⟨frH c1 c2 c3 c4 c5 c6 c7 (slotInit c1 c2 c3 c4 c5 c6 c7 i m), 1 :: 1 :: wr⟩
    else k (.exit 0) (frT c2 i) ⟨frH c1 c2 c3 c4 c5 c6 c7 m, wr⟩) := by kernel_rfl

def lhFr : LHd := fun T H K => match Tm.norm [1, 4, 20, 21] T with
  | [(1, .c (.ptr 0 0)), (4, .c (.ptr 1 0)), (20, .c (.int .i64 n)), (21, .c (.int .i64 i))] => match H.bl with
    | [.cells t [.int .i64 c1, .int .i64 c2, .int .i64 c3, .int .i64 c4, .int .i64 c5, .int .i64 c6, .int .i64 c7], .obj (.mem m)] =>
      match Nat.beq t 24 && decide (i = 0) with
      | false => False
      | true => match decide (n ≤ 65536) with
      | false => False
      | true => n = c2 ∧ K (.exit 0) [(1, .c (.ptr 0 0)), (4, .c (.ptr 1 0))] ⟨frH c1 c2 c3 c4 c5 c6 c7 (freshRun c1 c2 c3 c4 c5 c6 c7 c2.toNat 0 m), 1 :: H.wr⟩
    | _ => False
  | _ => False

theorem lhFr_ok : BodyOK Tryz.prog (tmpsF Tryz.prog frF) (.loop (loopF Tryz.prog frF 0)) lhFr := by
  refine loopN_ok (evC_ok fnOK mixed (evF_ok fnOK mixed own7_ok 10 20) _ (lo := noLo) 10 _ LoOK.no) ?_
  intro T H K h
  unfold lhFr at h
  split at h
  case h_2 => exact h.elim
  rename_i x n i hT
  split at h
  case h_2 => exact h.elim
  rename_i x' t c1 c2 c3 c4 c5 c6 c7 m hH
  split at h
  · exact h.elim
  rename_i hti
  split at h
  · exact h.elim
  rename_i hc
  obtain ⟨rfl, h⟩ := h
  simp only [Bool.and_eq_true] at hti
  have ht := Nat.eq_of_beq_eq_true hti.1
  have hi : i = 0 := of_decide_eq_true hti.2
  have hc : n ≤ 65536 := of_decide_eq_true hc
  subst ht
  subst hi
  generalize hr : freshRun c1 n c3 c4 c5 c6 c7 n.toNat 0 m = r at h
  refine ⟨[1, 4, 20, 21], [1, 4], fun k T' H' => ∃ (j : Nat) (m' : PMem), k = n.toNat - j ∧ T' = frT n (j : Int) ∧ H'.bl = frH c1 n c3 c4 c5 c6 c7 m' ∧ (∀ n ∈ H'.wr, n ∈ 1 :: H.wr) ∧
    (j : Int) ≤ 65536 ∧ freshRun c1 n c3 c4 c5 c6 c7 (n.toNat - j) (j : Int) m' = r, ⟨n.toNat, 0, m, rfl, hT, hH, fun n hn => by simp [hn], by omega, hr⟩, ?_⟩
  rintro k T' ⟨bl, wr⟩ ⟨j, m', rfl, rfl, hbl, hwr, hj, hrun⟩
  simp only at hbl hwr
  subst hbl
  rw [frBody_ev]
  by_cases hlt : (j : Int) < n
  · have h1 : decide ((j : Int) < n) = true := by simpa using hlt
    obtain ⟨q, hq⟩ : ∃ q, n.toNat - j = q + 1 := ⟨n.toNat - (j + 1), by omega⟩
    have hq' : q = n.toNat - (j + 1) := by omega
    rw [hq, freshRun_succ] at hrun
    rw [h1]
    simp only [cond_true]
    have hw2 : ∀ n ∈ 1 :: 1 :: wr, n ∈ 1 :: H.wr := by
      intro n hn
      simp only [List.mem_cons] at hn ⊢
      rcases hn with h | h | h
      · exact .inl h
      · exact .inl h
      · simpa using hwr n h
    have hi : IntKind.i64.wrap ((j : Int) + 1) = ((j + 1 : Nat) : Int) := by rw [IntKind.wrap_i64]; omega
    refine ⟨n.toNat - (j + 1), by omega, j + 1, _, rfl, by rw [hi], rfl, hw2, by omega, ?_⟩
    rw [← hq']
    exact hrun
  · have h1 : decide ((j : Int) < n) = false := by simpa using hlt
    rw [h1]
    simp only [cond_false]
    have hz : n.toNat - j = 0 := by omega
    rw [hz, freshRun_zero] at hrun
    subst hrun
    exact ⟨1 :: H.wr, hwr, h⟩

theorem frLo : LoOK Tryz.prog (tmpsF Tryz.prog frF) (fun _ => some lhFr) (loopsF Tryz.prog frF) := by
  have h : loopsF Tryz.prog frF = [loopF Tryz.prog frF 0] := by kernel_rfl
  rw [h]
  intro c hc hd he
  have hc : c = loopF Tryz.prog frF 0 := by simpa using hc
  subst hc
  cases he
  exact lhFr_ok

theorem fresh_ev (c1 c2 c3 c4 c5 c6 c7 : Int) (K : Option PMem → Int → Prop) :
    evL Tryz.prog own7 (fun _ => some lhFr) 10 20 frF [.agg [.int .i64 c1, .int .i64 c2, .int .i64 c3, .int .i64 c4, .int .i64 c5, .int .i64 c6, .int .i64 c7]] ⟨[], []⟩ (fun v H₁ => match v with
      | .tup [.c .nilp, .c (.int .i64 e)] => K none e
      | .tup [.c (.ptr i 0), .c (.int .i64 e)] => (shMemF H₁ i fun x c => match chkAll [] [] [c] && headOK i c with
        | true => K (some x) e
        | false => False)
      | _ => False) =
    (bif !lCheck c1 c2 c3 c4 c5 c6 c7 then K none 1 else bif decide (lLen c1 c2 c3 c4 c5 c6 c7 < 1) || decide (1048576 < lLen c1 c2 c3 c4 c5 c6 c7) then K none 1 else
      bif decide (c2 ≤ 65536) then c2 = c2 ∧ K (some (freshM c1 c2 c3 c4 c5 c6 c7)) 0 else False) := by kernel_rfl

def h_fresh : Hd := fun args H K => match args with
  | [.agg [.int .i64 c1, .int .i64 c2, .int .i64 c3, .int .i64 c4, .int .i64 c5, .int .i64 c6, .int .i64 c7]] => match lCheck c1 c2 c3 c4 c5 c6 c7 with
    | false => K (.tup [.c .nilp, .c (cI 1)]) H
    | true => match decide (lLen c1 c2 c3 c4 c5 c6 c7 < 1) || decide (1048576 < lLen c1 c2 c3 c4 c5 c6 c7) with
      | true => K (.tup [.c .nilp, .c (cI 1)]) H
      | false => K (.tup [.c (.ptr H.len 0), .c (cI 0)]) (H.new (.obj (.mem (freshM c1 c2 c3 c4 c5 c6 c7))))
  | _ => False

theorem h_fresh_ok : HOK frF h_fresh := by
  intro args H K h
  unfold h_fresh at h
  split at h
  · rename_i c1 c2 c3 c4 c5 c6 c7
    refine new2_ok (own := own7) (b := false) (mk := .mem) (fun _ _ _ => shMemF_ok) rfl (evL_ok fnOK mixed own7_ok frLo ((fresh_ev c1 c2 c3 c4 c5 c6 c7 (fun o e => match o with
      | some x => K (.tup [.c (.ptr H.len 0), .c (cI e)]) (H.new (.obj (.mem x)))
      | none => K (.tup [.c .nilp, .c (cI e)]) H)).mpr ?_))
    split at h
    · rename_i hb
      simp only [hb, Bool.not_false, cond_true]
      exact h
    · rename_i hb
      simp only [hb, Bool.not_true, cond_false]
      have hle : c2 ≤ 65536 := by
        unfold lCheck at hb
        simp only [Bool.and_eq_true, decide_eq_true_eq] at hb
        exact hb.2.2.2.2.2.2.2.2.2.2.2.1
      split at h
      · rename_i hb2
        simp only [hb2, cond_true]
        exact h
      · rename_i hb2
        simp only [hb2, cond_false, hle, decide_true, cond_true, true_and]
        exact h
  · exact h.elim

def tab8 : List (FuncId × Hd) := (frF, h_fresh) :: tab7

def own8 : FuncId → Option Hd := look tab8

theorem all8 : AllOK tab8 := ⟨h_fresh_ok, all7⟩

theorem own8_ok : OwnOK Tryz.prog own8 := look_ok all8

end Go.Proofs.YtfjnkneoddankaaGreat

/-
  An arena is made.
-/
set_option linter.unusedVariables false
set_option linter.unusedSimpArgs false
set_option maxRecDepth 100000
namespace Go.FL

def arOk (a b c d : Int) : Bool := lCheck a b c d 100 600 3 && !(decide (lLen a b c d 100 600 3 < 1) || decide (1048576 < lLen a b c d 100 600 3))

def arM (a b c d : Int) : PMem := freshM a b c d 100 600 3

end Go.FL

namespace Go.Proofs.YtfjnkneoddankaaGreat
open Go Go.FL Go.Proofs

theorem arena_ev (a b c d : Int) (K : Option PMem → Prop) : evF Tryz.prog own8 10 20 9 [.c (.int .i64 a), .c (.int .i64 b), .c (.int .i64 c), .c (.int .i64 d)] ⟨[], []⟩ (fun v H₁ => match v with
    | .tup [.agg [.int .i64 a', .int .i64 b', .int .i64 c', .int .i64 d', .int .i64 e', .int .i64 f', .int .i64 g', .nilp, .int .i64 w], .c (.bool false)] =>
      (a' = a ∧ b' = b ∧ c' = c ∧ d' = d ∧ e' = 100 ∧ f' = 600 ∧ g' = 3 ∧ w = 0) ∧ K none
    | .tup [.agg [.int .i64 a', .int .i64 b', .int .i64 c', .int .i64 d', .int .i64 e', .int .i64 f', .int .i64 g', .ptr i 0, .int .i64 w], .c (.bool true)] =>
      (a' = a ∧ b' = b ∧ c' = c ∧ d' = d ∧ e' = 100 ∧ f' = 600 ∧ g' = 3 ∧ w = 0) ∧ (shMemF H₁ i fun x c => match chkAll [] [] [c] && headOK i c with
        | true => K (some x)
        | false => False)
    | _ => False) =
    (bif lCheck a b c d 100 600 3 then bif decide (lLen a b c d 100 600 3 < 1) || decide (1048576 < lLen a b c d 100 600 3) then (a = a ∧ b = b ∧ c = c ∧ d = d ∧ (100 : Int) = 100 ∧ (600 : Int) = 600 ∧ (3 : Int) = 3 ∧ (0 : Int) = 0) ∧ K none
      else (a = a ∧ b = b ∧ c = c ∧ d = d ∧ (100 : Int) = 100 ∧ (600 : Int) = 600 ∧ (3 : Int) = 3 ∧ (0 : Int) = 0) ∧ K (some (arM a b c d))
    else (a = a ∧ b = b ∧ c = c ∧ d = d ∧ (100 : Int) = 100 ∧ (600 : Int) = 600 ∧ (3 : Int) = 3 ∧ (0 : Int) = 0) ∧ K none) := by kernel_rfl

def h_arena : Hd := fun args H K => match args with
  | [.c (.int .i64 a), .c (.int .i64 b), .c (.int .i64 c), .c (.int .i64 d)] => match arOk a b c d with
    | false => K (.tup [.agg [cI a, cI b, cI c, cI d, cI 100, cI 600, cI 3, .nilp, cI 0], .c (.bool false)]) H
    | true => K (.tup [.agg [cI a, cI b, cI c, cI d, cI 100, cI 600, cI 3, .ptr H.len 0, cI 0], .c (.bool true)]) (H.new (.obj (.mem (arM a b c d))))
  | _ => False

theorem h_arena_ok : HOK 9 h_arena := by
  intro args H K h
  unfold h_arena at h
  split at h
  case h_2 => exact h.elim
  rename_i a b c d
  have e := (arena_ev a b c d (fun o => match o with
    | some x => K (.tup [.agg [cI a, cI b, cI c, cI d, cI 100, cI 600, cI 3, .ptr H.len 0, cI 0], .c (.bool true)]) (H.new (.obj (.mem x)))
    | none => K (.tup [.agg [cI a, cI b, cI c, cI d, cI 100, cI 600, cI 3, .nilp, cI 0], .c (.bool false)]) H)).mpr (by
      unfold arOk at h
      cases h1 : lCheck a b c d 100 600 3 with
      | false =>
        simp only [h1, Bool.false_and] at h
        simp only [cond_false, true_and, and_self]
        exact h
      | true =>
        cases h2 : decide (lLen a b c d 100 600 3 < 1) || decide (1048576 < lLen a b c d 100 600 3) with
        | true =>
          simp only [h1, h2, Bool.not_true, Bool.and_false] at h
          simp only [cond_true, true_and, and_self]
          exact h
        | false =>
          simp only [h1, h2, Bool.not_false, Bool.and_true] at h
          simp only [cond_true, cond_false, true_and, and_self]
          exact h)
  refine objs_ok own8_ok (ns := []) (xs := []) rfl (by simp) List.nodup_nil (fun s s₁ vs _ h => RelVs.low rfl h) e ?_
  intro v₁ H₁ hk
  split at hk
  · rename_i a' b' c' d' e' f' g' w
    obtain ⟨⟨rfl, rfl, rfl, rfl, rfl, rfl, rfl, rfl⟩, hk⟩ := hk
    exact ⟨[], [], [], [], _, rfl, trivial, trivial, fun s₁ s' v' _ _ hr => RelV.low rfl hr, hk⟩
  · rename_i a' b' c' d' e' f' g' i w
    obtain ⟨⟨rfl, rfl, rfl, rfl, rfl, rfl, rfl, rfl⟩, hk⟩ := hk
    obtain ⟨x, c, hk, hc⟩ := shMemF_ok hk
    split at hk
    · rename_i hchk
      simp only [Bool.and_eq_true] at hchk
      obtain ⟨h1, h2⟩ := hchk
      refine ⟨[], [], [c], [(false, .mem x)], _, h1, trivial, ⟨hc, trivial⟩, ?_, hk⟩
      intro s₁ s' v' _ hd' hr
      have h0 : c[0]? = some i := by
        unfold headOK at h2
        split at h2
        · have := Nat.eq_of_beq_eq_true h2; simp [this]
        · cases h2
      have := hd' 0 c i rfl h0
      simp only [Nat.add_zero] at this
      obtain ⟨vs, rfl, hr⟩ := hr
      refine ⟨vs, rfl, ?_⟩
      generalize vs.toList = us at hr ⊢
      match us, hr with
      | [u, v], ⟨h3, h4, _⟩ =>
        refine ⟨?_, h4, trivial⟩
        obtain ⟨cs, rfl, h3⟩ := h3
        refine ⟨cs, rfl, ?_⟩
        generalize cs.toList = us at h3 ⊢
        match us, h3 with
        | [a, b, c, d, e, f, g, p, q], ⟨h1, h2, h3, h4, h5, h6, h7, ⟨r, h8, h9⟩, h10, _⟩ => exact ⟨h1, h2, h3, h4, h5, h6, h7, ⟨r, by rw [this]; exact h8, h9⟩, h10, trivial⟩
    · exact hk.elim
  · exact hk.elim

def tab9 : List (FuncId × Hd) := (9, h_arena) :: tab8

def own9 : FuncId → Option Hd := look tab9

theorem all9 : AllOK tab9 := ⟨h_arena_ok, all8⟩

theorem own9_ok : OwnOK Tryz.prog own9 := look_ok all9

end Go.Proofs.YtfjnkneoddankaaGreat

/-
  The compactor works for so many rounds; how many chunks are in a state; where an object stands.
-/
set_option linter.unusedVariables false
set_option linter.unusedSimpArgs false
set_option maxRecDepth 100000
namespace Go.FL

def roundsRun (c : PCfg) (want : Int) : Nat → PComp → PMem → Option (PComp × PMem)
  | 0, x, m => some (x, m)
  | n + 1, x, m => bif decide (x.work.rd < want) then (match compStep c (-1) x m with
    | none => none
    | some r => roundsRun c want n r.1 r.2) else some (x, m)

theorem roundsRun_zero (c : PCfg) (want : Int) (x : PComp) (m : PMem) : roundsRun c want 0 x m = some (x, m) := rfl

theorem roundsRun_succ (c : PCfg) (want : Int) (n : Nat) (x : PComp) (m : PMem) : roundsRun c want (n + 1) x m = bif decide (x.work.rd < want) then (match compStep c (-1) x m with
    | none => none
    | some r => roundsRun c want n r.1 r.2) else some (x, m) := rfl

attribute [irreducible] roundsRun

def roundsWant (n : Int) (x : PComp) : Int := IntKind.wrap .i64 (x.work.rd + n)

/-- So many rounds alone. -/
def roundsO (c : PCfg) (n : Int) (x : PComp) (m : PMem) : Option (PComp × PMem) := roundsRun c (roundsWant n x) (3000 * n).toNat x m

def roundsOk (c : PCfg) (n : Int) (x : PComp) (m : PMem) : Bool := (roundsO c n x m).isSome

def roundsX (c : PCfg) (n : Int) (x : PComp) (m : PMem) : PComp × PMem := (roundsO c n x m).getD (x, m)

def manyRun (c : PCfg) (s : Int) (m : PMem) : Nat → Int → Int → Int
  | 0, _, r => r
  | n + 1, i, r => manyRun c s m n (i + 1) (bif decide ((chunkOf (m.peek (lChunk c.threads c.slots c.chunks c.words c.gens c.sparse c.tries i))).1 = s) then r + 1 else r)

theorem manyRun_succ (c : PCfg) (s : Int) (m : PMem) (n : Nat) (i r : Int) : manyRun c s m (n + 1) i r =
    manyRun c s m n (i + 1) (bif decide ((chunkOf (m.peek (lChunk c.threads c.slots c.chunks c.words c.gens c.sparse c.tries i))).1 = s) then r + 1 else r) := rfl

attribute [irreducible] manyRun

def manyM (c : PCfg) (s : Int) (m : PMem) : Int := manyRun c s m c.chunks.toNat 0 0

def placeM (c : PCfg) (m : PMem) (h : Int) : Int := (slotOf (m.peek (lSlot c.threads c.slots c.chunks c.words c.gens c.sparse c.tries (handle h).1))).2.1

end Go.FL

namespace Go.Proofs.YtfjnkneoddankaaGreat
open Go Go.FL Go.Proofs

abbrev rdF : FuncId := 15
abbrev rdEnv (c1 c2 c3 c4 c5 c6 c7 : Int) : LB := .cells 27 [cI c1, cI c2, cI c3, cI c4, cI c5, cI c6, cI c7, .ptr 1 0, cI (-1)]
abbrev rdT (n want i : Int) : Tm := [(1, .c (.ptr 0 0)), (2, .c (cI n)), (3, .c (.ptr 2 0)), (7, .c (cI want)), (8, .c (cI i))]

theorem rdBody_ev (c1 c2 c3 c4 c5 c6 c7 : Int) (n want i : Int) (x : PComp) (cap : Nat) (m : PMem) (wr : List Nat) (k : X → Tm → LH → Prop) :
    evC Tryz.prog (evF Tryz.prog own9 10 20) (tmpsF Tryz.prog rdF) noLo 10 (loopF Tryz.prog rdF 0) (rdT n want i) ⟨[.obj (.comp x cap), .obj (.mem m), rdEnv c1 c2 c3 c4 c5 c6 c7], wr⟩ (fun x T H => k x (Tm.norm [1,2,3,7,8] T) H) =
    (bif decide (i < IntKind.wrap IntKind.i64 (3000 * n)) then bif decide (x.work.rd < want) then
      (compOk ⟨c1, c2, c3, c4, c5, c6, c7⟩ (-1) x m = true) ∧ ∀ cap' : Nat, k .normal (rdT n want (IntKind.wrap .i64 (i + 1))) ⟨[.obj (.comp (compX ⟨c1, c2, c3, c4, c5, c6, c7⟩ (-1) x m).1 cap'), .obj (.mem (compX ⟨c1, c2, c3, c4, c5, c6, c7⟩ (-1) x m).2), rdEnv c1 c2 c3 c4 c5 c6 c7], 1 :: 0 :: 0 :: wr⟩
      else k (.exit 0) (rdT n want i) ⟨[.obj (.comp x (capOf x cap)), .obj (.mem m), rdEnv c1 c2 c3 c4 c5 c6 c7], 0 :: wr⟩
    else k (.exit 0) (rdT n want i) ⟨[.obj (.comp x cap), .obj (.mem m), rdEnv c1 c2 c3 c4 c5 c6 c7], wr⟩) := by kernel_rfl

def lhRd : LHd := fun T H K => match Tm.norm [1,2,3,7,8] T with
  | [(1, .c (.ptr 0 0)), (2, .c (.int .i64 n)), (3, .c (.ptr 2 0)), (7, .c (.int .i64 want)), (8, .c (.int .i64 i))] => match H.bl with
    | [.obj (.comp x cap), .obj (.mem m), .cells t [.int .i64 c1, .int .i64 c2, .int .i64 c3, .int .i64 c4, .int .i64 c5, .int .i64 c6, .int .i64 c7, .ptr 1 0, .int .i64 w]] =>
      ((t = 27 ∧ i = 0 ∧ w = -1) ∧ (0 ≤ n ∧ n ≤ 1000) ∧ want = roundsWant n x) ∧ roundsOk ⟨c1, c2, c3, c4, c5, c6, c7⟩ n x m = true ∧
      ∀ cap' : Nat, K (.exit 0) [(1, .c (.ptr 0 0)), (7, .c (cI want))] ⟨[.obj (.comp (roundsX ⟨c1, c2, c3, c4, c5, c6, c7⟩ n x m).1 cap'), .obj (.mem (roundsX ⟨c1, c2, c3, c4, c5, c6, c7⟩ n x m).2), rdEnv c1 c2 c3 c4 c5 c6 c7], 1 :: 0 :: H.wr⟩
    | _ => False
  | _ => False

theorem lhRd_ok : BodyOK Tryz.prog (tmpsF Tryz.prog rdF) (.loop (loopF Tryz.prog rdF 0)) lhRd := by
  refine loopN_ok (evC_ok fnOK mixed (evF_ok fnOK mixed own9_ok 10 20) _ (lo := noLo) 10 _ LoOK.no) ?_
  intro T H K h
  unfold lhRd at h
  split at h
  case h_2 => exact h.elim
  rename_i x0 n want i hT
  split at h
  case h_2 => exact h.elim
  rename_i x' x cap m t c1 c2 c3 c4 c5 c6 c7 w hH
  obtain ⟨⟨⟨rfl, rfl, rfl⟩, ⟨hn0, hn1⟩, rfl⟩, hok, h⟩ := h
  unfold roundsOk at hok
  unfold roundsX at h
  unfold roundsO at hok h
  generalize hr : roundsRun ⟨c1, c2, c3, c4, c5, c6, c7⟩ (roundsWant n x) (3000 * n).toNat x m = r at h hok
  cases r with
  | none => cases hok
  | some r =>
    simp only [Option.getD_some] at h
    generalize hwt : roundsWant n x = want at h hr hT
    refine ⟨[1,2,3,7,8], [1,7], fun k T' H' => ∃ (j : Nat) (x' : PComp) (cap' : Nat) (m' : PMem), (j : Int) ≤ 3000 * n ∧ k = (3000 * n).toNat - j ∧ T' = rdT n want (j : Int) ∧ H'.bl = [.obj (.comp x' cap'), .obj (.mem m'), rdEnv c1 c2 c3 c4 c5 c6 c7] ∧ (∀ n ∈ H'.wr, n ∈ 1 :: 0 :: H.wr) ∧
      roundsRun ⟨c1, c2, c3, c4, c5, c6, c7⟩ want ((3000 * n).toNat - j) x' m' = some r, ⟨(3000 * n).toNat, 0, x, cap, m, by omega, rfl, hT, hH, fun n hn => by simp [hn], hr⟩, ?_⟩
    rintro k T' ⟨bl, wr⟩ ⟨j, x', cap', m', hj, rfl, rfl, hbl, hwr, hrun⟩
    simp only at hbl hwr
    subst hbl
    rw [rdBody_ev]
    have h3 : IntKind.wrap IntKind.i64 (3000 * n) = 3000 * n := by rw [IntKind.wrap_i64]; omega
    rw [h3]
    by_cases hlt : (j : Int) < 3000 * n
    · have h1 : decide ((j : Int) < 3000 * n) = true := by simpa using hlt
      obtain ⟨q, hq⟩ : ∃ q, (3000 * n).toNat - j = q + 1 := ⟨(3000 * n).toNat - (j + 1), by omega⟩
      have hq' : q = (3000 * n).toNat - (j + 1) := by omega
      rw [hq, roundsRun_succ] at hrun
      rw [h1]
      simp only [cond_true]
      cases hb : decide (x'.work.rd < want) with
      | false =>
        rw [hb] at hrun
        simp only [cond_false] at hrun ⊢
        cases hrun
        exact ⟨1 :: 0 :: H.wr, fun k hk => by
          rcases List.mem_cons.1 hk with rfl | hk
          · simp
          · exact hwr k hk, h _⟩
      | true =>
        rw [hb] at hrun
        simp only [cond_true] at hrun ⊢
        cases hs : compStep ⟨c1, c2, c3, c4, c5, c6, c7⟩ (-1) x' m' with
        | none => rw [hs] at hrun; cases hrun
        | some z =>
          rw [hs] at hrun
          have hX : compX ⟨c1, c2, c3, c4, c5, c6, c7⟩ (-1) x' m' = z := by unfold compX; rw [hs]; rfl
          refine ⟨by unfold compOk; rw [hs]; rfl, fun cap2 => ?_⟩
          rw [hX]
          have hi : IntKind.i64.wrap ((j : Int) + 1) = ((j + 1 : Nat) : Int) := by rw [IntKind.wrap_i64]; omega
          refine ⟨(3000 * n).toNat - (j + 1), by omega, j + 1, z.1, cap2, z.2, by omega, rfl, by rw [hi], rfl, ?_, by rw [← hq']; exact hrun⟩
          intro k hk
          simp only [List.mem_cons] at hk ⊢
          rcases hk with h | h | h | h
          · exact .inl h
          · exact .inr (.inl h)
          · exact .inr (.inl h)
          · simpa using hwr k h
    · have h1 : decide ((j : Int) < 3000 * n) = false := by simpa using hlt
      rw [h1]
      simp only [cond_false]
      have hz : (3000 * n).toNat - j = 0 := by omega
      rw [hz, roundsRun_zero] at hrun
      cases hrun
      exact ⟨1 :: 0 :: H.wr, hwr, h _⟩

theorem rdLo : LoOK Tryz.prog (tmpsF Tryz.prog rdF) (fun _ => some lhRd) (loopsF Tryz.prog rdF) := by
  have h : loopsF Tryz.prog rdF = [loopF Tryz.prog rdF 0] := by kernel_rfl
  rw [h]
  intro c hc hd he
  have hc : c = loopF Tryz.prog rdF 0 := by simpa using hc
  subst hc
  cases he
  exact lhRd_ok

theorem rounds_ev (c : PCfg) (who n : Int) (x : PComp) (cap : Nat) (m : PMem) (K : Bool → PComp → Nat → PMem → Prop) :
    evL Tryz.prog own9 (fun _ => some lhRd) 10 20 rdF [envV c 1 who, .c (.ptr 0 0), .c (cI n)] ⟨cat [(false, .comp x cap), (false, .mem m)] 0, []⟩ (fun v H₁ => match v with
      | .c (.bool r) => shF H₁ 0 fun o c1 => match o with
        | .comp x' cap' => shF H₁ 1 fun o c2 => match o with
          | .mem m' => match chkAll [(false, .comp x cap), (false, .mem m)] [c1, c2] [] with
            | true => K r x' cap' m'
            | false => False
          | _ => False
        | _ => False
      | _ => False) =
    (((27 = 27 ∧ (0 : Int) = 0 ∧ (-1 : Int) = -1) ∧ (0 ≤ n ∧ n ≤ 1000) ∧ roundsWant n x = roundsWant n x) ∧ roundsOk c n x m = true ∧
      ∀ cap' : Nat, K (decide (roundsWant n x ≤ (roundsX c n x m).1.work.rd)) (roundsX c n x m).1 (capOf (roundsX c n x m).1 cap') (roundsX c n x m).2) := by kernel_rfl

def h_rounds : Hd := fun args H K => match args with
  | [.agg [.int .i64 c1, .int .i64 c2, .int .i64 c3, .int .i64 c4, .int .i64 c5, .int .i64 c6, .int .i64 c7, .ptr m 0, .int .i64 who], .c (.ptr p 0), .c (.int .i64 n)] => match H.get p, H.get m with
    | some (.obj (.comp x cap)), some (.obj (.mem pm)) => ((0 ≤ n ∧ n ≤ 1000) ∧ roundsOk ⟨c1, c2, c3, c4, c5, c6, c7⟩ n x pm = true) ∧ ∀ cap' : Nat,
        K (.c (.bool (decide (roundsWant n x ≤ (roundsX ⟨c1, c2, c3, c4, c5, c6, c7⟩ n x pm).1.work.rd)))) ((H.put p (.obj (.comp (roundsX ⟨c1, c2, c3, c4, c5, c6, c7⟩ n x pm).1 cap'))).put m (.obj (.mem (roundsX ⟨c1, c2, c3, c4, c5, c6, c7⟩ n x pm).2)))
    | _, _ => False
  | _ => False

theorem h_rounds_ok : HOK rdF h_rounds := by
  intro args H K h
  unfold h_rounds at h
  split at h
  case h_2 => exact h.elim
  rename_i c1 c2 c3 c4 c5 c6 c7 m who p n
  split at h
  case h_2 => exact h.elim
  rename_i x cap pm hp hm
  obtain ⟨⟨hn, hok⟩, h⟩ := h
  have hpm : p ≠ m := by
    rintro rfl
    rw [hp] at hm
    injection hm with hm; injection hm with hm; cases hm
  have e := (rounds_ev ⟨c1, c2, c3, c4, c5, c6, c7⟩ who n x cap pm (fun r x' cap' m' => K (.c (.bool r)) ((H.put p (.obj (.comp x' cap'))).put m (.obj (.mem m'))))).mpr ⟨⟨⟨rfl, rfl, rfl⟩, hn, rfl⟩, hok, fun cap' => h _⟩
  refine objs_of (ns := [p, m]) (xs := [(false, .comp x cap), (false, .mem pm)]) rfl ?_ (by simpa using hpm) ?_ (evL_ok fnOK mixed own9_ok rdLo e) ?_
  · intro i n x' hi hx
    match i, hi, hx with
    | 0, hi, hx => simp at hi hx; subst hi; subst hx; exact get_obj hp
    | 1, hi, hx => simp at hi hx; subst hi; subst hx; exact get_obj hm
    | i + 2, hi, hx => simp at hi
  · intro s s₁ vs hh hr
    match vs, hr with
    | [u, v, z], ⟨h1, h2, h3, _⟩ =>
      have e0 := hh 0 p rfl
      have e1 := hh 1 m rfl
      simp only [base, Nat.zero_add] at e0 e1
      exact ⟨rel_env (c := ⟨c1, c2, c3, c4, c5, c6, c7⟩) e1 h1, rel_ptr e0 h2, RelV.low rfl h3, trivial⟩
    | [], h => exact h.elim
    | [_], h => exact h.2.elim
    | [_, _], h => exact h.2.2.elim
    | _ :: _ :: _ :: _ :: _, h => exact h.2.2.2.elim
  · intro v₁ H₁ hk
    split at hk
    · obtain ⟨o, c1', hk, hc1⟩ := shF_ok hk
      split at hk
      · obtain ⟨o, c2, hk, hc2⟩ := shF_ok hk
        split at hk
        · split at hk
          · rename_i hchk
            exact ⟨[_, _], [(false, .comp _ _), (false, .mem _)], [], [], _, hchk, ⟨hc1, hc2, trivial⟩, trivial, fun _ _ _ _ _ h => RelV.low rfl h, hk⟩
          · exact hk.elim
        · exact hk.elim
      · exact hk.elim
    · exact hk.elim

abbrev mnF : FuncId := 28
abbrev mnEnv (c1 c2 c3 c4 c5 c6 c7 who : Int) : LB := .cells 27 [cI c1, cI c2, cI c3, cI c4, cI c5, cI c6, cI c7, .ptr 0 0, cI who]
abbrev mnT (n r i : Int) : Tm := [(1, .c (cI n)), (2, .c (.ptr 1 0)), (5, .c (cI r)), (6, .c (cI i))]

theorem mnBody_ev (c1 c2 c3 c4 c5 c6 c7 who n r i : Int) (m : PMem) (wr : List Nat) (k : X → Tm → LH → Prop) :
    evC Tryz.prog (evF Tryz.prog own9 10 20) (tmpsF Tryz.prog mnF) noLo 10 (loopF Tryz.prog mnF 0) (mnT n r i) ⟨[.obj (.mem m), mnEnv c1 c2 c3 c4 c5 c6 c7 who], wr⟩ (fun x T H => k x (Tm.norm [1,2,5,6] T) H) =
    (bif decide (i < c3) then bif decide ((chunkOf (m.peek (lChunk c1 c2 c3 c4 c5 c6 c7 i))).1 = n) then
      k .normal (mnT n (IntKind.wrap .i64 (r + 1)) (IntKind.wrap .i64 (i + 1))) ⟨[.obj (.mem m), mnEnv c1 c2 c3 c4 c5 c6 c7 who], 0 :: wr⟩
      else k .normal (mnT n r (IntKind.wrap .i64 (i + 1))) ⟨[.obj (.mem m), mnEnv c1 c2 c3 c4 c5 c6 c7 who], 0 :: wr⟩
    else k (.exit 0) (mnT n r i) ⟨[.obj (.mem m), mnEnv c1 c2 c3 c4 c5 c6 c7 who], wr⟩) := by kernel_rfl

def lhMn : LHd := fun T H K => match Tm.norm [1,2,5,6] T with
  | [(1, .c (.int .i64 n)), (2, .c (.ptr 1 0)), (5, .c (.int .i64 r)), (6, .c (.int .i64 i))] => match H.bl with
    | [.obj (.mem m), .cells t [.int .i64 c1, .int .i64 c2, .int .i64 c3, .int .i64 c4, .int .i64 c5, .int .i64 c6, .int .i64 c7, .ptr 0 0, .int .i64 who]] =>
      ((t = 27 ∧ i = 0 ∧ r = 0) ∧ c3 ≤ 1000000) ∧ K (.exit 0) [(5, .c (cI (manyM ⟨c1, c2, c3, c4, c5, c6, c7⟩ n m)))] ⟨[.obj (.mem m), mnEnv c1 c2 c3 c4 c5 c6 c7 who], 0 :: H.wr⟩
    | _ => False
  | _ => False

theorem lhMn_ok : BodyOK Tryz.prog (tmpsF Tryz.prog mnF) (.loop (loopF Tryz.prog mnF 0)) lhMn := by
  refine loopN_ok (evC_ok fnOK mixed (evF_ok fnOK mixed own9_ok 10 20) _ (lo := noLo) 10 _ LoOK.no) ?_
  intro T H K h
  unfold lhMn at h
  split at h
  case h_2 => exact h.elim
  rename_i x0 n r i hT
  split at h
  case h_2 => exact h.elim
  rename_i x' m t c1 c2 c3 c4 c5 c6 c7 who hH
  obtain ⟨⟨⟨rfl, rfl, rfl⟩, hc⟩, h⟩ := h
  unfold manyM at h
  generalize hr : manyRun ⟨c1, c2, c3, c4, c5, c6, c7⟩ n m c3.toNat 0 0 = r at h
  refine ⟨[1,2,5,6], [5], fun k T' H' => ∃ (j : Nat) (q : Int), k = c3.toNat - j ∧ (0 ≤ q ∧ q ≤ j) ∧ j ≤ 1000000 ∧ T' = mnT n q (j : Int) ∧ H'.bl = [.obj (.mem m), mnEnv c1 c2 c3 c4 c5 c6 c7 who] ∧ (∀ n ∈ H'.wr, n ∈ 0 :: H.wr) ∧
    manyRun ⟨c1, c2, c3, c4, c5, c6, c7⟩ n m (c3.toNat - j) (j : Int) q = r, ⟨c3.toNat, 0, 0, rfl, by omega, by omega, hT, hH, fun n hn => by simp [hn], hr⟩, ?_⟩
  rintro k T' ⟨bl, wr⟩ ⟨j, q, rfl, hq, hj, rfl, hbl, hwr, hrun⟩
  simp only at hbl hwr
  subst hbl
  rw [mnBody_ev]
  by_cases hlt : (j : Int) < c3
  · have h1 : decide ((j : Int) < c3) = true := by simpa using hlt
    obtain ⟨z, hz⟩ : ∃ z, c3.toNat - j = z + 1 := ⟨c3.toNat - (j + 1), by omega⟩
    have hz' : z = c3.toNat - (j + 1) := by omega
    rw [hz, manyRun_succ] at hrun
    rw [h1]
    simp only [cond_true]
    have hi : IntKind.i64.wrap ((j : Int) + 1) = ((j + 1 : Nat) : Int) := by rw [IntKind.wrap_i64]; omega
    have hq1 : IntKind.i64.wrap (q + 1) = q + 1 := by rw [IntKind.wrap_i64]; omega
    have hw2 : ∀ k ∈ 0 :: wr, k ∈ 0 :: H.wr := by
      intro k hk
      rcases List.mem_cons.1 hk with rfl | hk
      · simp
      · exact hwr k hk
    cases hb : decide ((chunkOf (m.peek (lChunk c1 c2 c3 c4 c5 c6 c7 (j : Int)))).1 = n) with
    | true =>
      rw [hb] at hrun
      simp only [cond_true] at hrun ⊢
      exact ⟨c3.toNat - (j + 1), by omega, j + 1, q + 1, rfl, by omega, by omega, by rw [hi, hq1], rfl, hw2, by rw [← hz']; exact hrun⟩
    | false =>
      rw [hb] at hrun
      simp only [cond_false] at hrun ⊢
      exact ⟨c3.toNat - (j + 1), by omega, j + 1, q, rfl, by omega, by omega, by rw [hi], rfl, hw2, by rw [← hz']; exact hrun⟩
  · have h1 : decide ((j : Int) < c3) = false := by simpa using hlt
    rw [h1]
    simp only [cond_false]
    have hz : c3.toNat - j = 0 := by omega
    rw [hz] at hrun
    unfold manyRun at hrun
    subst hrun
    exact ⟨0 :: H.wr, hwr, h⟩

theorem mnLo : LoOK Tryz.prog (tmpsF Tryz.prog mnF) (fun _ => some lhMn) (loopsF Tryz.prog mnF) := by
  have h : loopsF Tryz.prog mnF = [loopF Tryz.prog mnF 0] := by kernel_rfl
  rw [h]
  intro c hc hd he
  have hc : c = loopF Tryz.prog mnF 0 := by simpa using hc
  subst hc
  cases he
  exact lhMn_ok

theorem many_ev (c : PCfg) (who n : Int) (m : PMem) (K : Int → PMem → Prop) :
    evL Tryz.prog own9 (fun _ => some lhMn) 10 20 mnF [envV c 0 who, .c (cI n)] ⟨cat [(false, .mem m)] 0, []⟩ (fun v H₁ => match v with
      | .c (.int .i64 r) => shF H₁ 0 fun o c2 => match o with
        | .mem m' => match chkAll [(false, .mem m)] [c2] [] with
          | true => K r m'
          | false => False
        | _ => False
      | _ => False) =
    (((27 = 27 ∧ (0 : Int) = 0 ∧ (0 : Int) = 0) ∧ c.chunks ≤ 1000000) ∧ K (manyM c n m) m) := by kernel_rfl

def h_many : Hd := fun args H K => match args with
  | [.agg [.int .i64 c1, .int .i64 c2, .int .i64 c3, .int .i64 c4, .int .i64 c5, .int .i64 c6, .int .i64 c7, .ptr m 0, .int .i64 who], .c (.int .i64 n)] => match H.get m with
    | some (.obj (.mem pm)) => match decide (c3 ≤ 1000000) with
      | true => K (.c (cI (manyM ⟨c1, c2, c3, c4, c5, c6, c7⟩ n pm))) (H.put m (.obj (.mem pm)))
      | false => False
    | _ => False
  | _ => False

/-- A question of the arena: the memory stays an object. -/
theorem envAsk_ok {f : FuncId} {c : PCfg} {who : Int} {m : Nat} {pm : PMem} {rest : List LV} {H : LH} {K : LV → LH → Prop} {K₁ : LV → LH → Prop} (hm : H.get m = some (.obj (.mem pm))) (hlow : lowVs rest = true)
    (hev : (∃ fn, Tryz.prog.funcs[f]? = some fn ∧ fn.body.isSome = true) ∧ CSpec Tryz.prog f (envV c 0 who :: rest) ⟨cat [(false, .mem pm)] 0, []⟩ K₁)
    (hK : ∀ v H₁, K₁ v H₁ → lowV v = true ∧ shF H₁ 0 fun o c2 => match o with
      | .mem m' => match chkAll [(false, .mem pm)] [c2] [] with
        | true => K v (H.put m (.obj (.mem m')))
        | false => False
      | _ => False) : (∃ fn, Tryz.prog.funcs[f]? = some fn ∧ fn.body.isSome = true) ∧ CSpec Tryz.prog f (envV c m who :: rest) H K := by
  refine objs_of (ns := [m]) (xs := [(false, .mem pm)]) rfl ?_ (by simp) ?_ hev ?_
  · intro i n x' hi hx
    match i, hi, hx with
    | 0, hi, hx => simp at hi hx; subst hi; subst hx; exact get_obj hm
    | i + 1, hi, hx => simp at hi
  · intro s s₁ vs hh hr
    match vs, hr with
    | u :: vs, ⟨h1, h2⟩ =>
      have e0 := hh 0 m rfl
      simp only [base, Nat.zero_add] at e0
      exact ⟨rel_env (c := c) e0 h1, RelVs.low hlow h2⟩
  · intro v₁ H₁ hk
    obtain ⟨hl, hk⟩ := hK v₁ H₁ hk
    obtain ⟨o, c2, hk, hc2⟩ := shF_ok hk
    split at hk
    · split at hk
      · rename_i hchk
        exact ⟨[_], [(false, .mem _)], [], [], v₁, hchk, ⟨hc2, trivial⟩, trivial, fun _ _ _ _ _ h => RelV.low hl h, hk⟩
      · exact hk.elim
    · exact hk.elim

theorem h_many_ok : HOK mnF h_many := by
  intro args H K h
  unfold h_many at h
  split at h
  case h_2 => exact h.elim
  rename_i c1 c2 c3 c4 c5 c6 c7 m who n
  split at h
  case h_2 => exact h.elim
  rename_i pm hm
  split at h
  case h_2 => exact h.elim
  rename_i hc
  have e := (many_ev ⟨c1, c2, c3, c4, c5, c6, c7⟩ who n pm (fun r m' => K (.c (cI r)) (H.put m (.obj (.mem m'))))).mpr ⟨⟨⟨rfl, rfl, rfl⟩, of_decide_eq_true hc⟩, h⟩
  refine envAsk_ok (c := ⟨c1, c2, c3, c4, c5, c6, c7⟩) hm rfl (evL_ok fnOK mixed own9_ok mnLo e) ?_
  intro v H₁ hk
  split at hk
  · exact ⟨rfl, hk⟩
  · exact hk.elim

theorem place_ev (c : PCfg) (who h : Int) (m : PMem) (K : Int → PMem → Prop) :
    evF Tryz.prog own9 10 20 32 [envV c 0 who, .c (cU h)] ⟨cat [(false, .mem m)] 0, []⟩ (fun v H₁ => match v with
      | .c (.int .i64 r) => shF H₁ 0 fun o c2 => match o with
        | .mem m' => match chkAll [(false, .mem m)] [c2] [] with
          | true => K r m'
          | false => False
        | _ => False
      | _ => False) = K (placeM c m h) m := by kernel_rfl

def h_placeM : Hd := fun args H K => match args with
  | [.agg [.int .i64 c1, .int .i64 c2, .int .i64 c3, .int .i64 c4, .int .i64 c5, .int .i64 c6, .int .i64 c7, .ptr m 0, .int .i64 who], .c (.int .u64 h)] => match H.get m with
    | some (.obj (.mem pm)) => K (.c (cI (placeM ⟨c1, c2, c3, c4, c5, c6, c7⟩ pm h))) (H.put m (.obj (.mem pm)))
    | _ => False
  | _ => False

theorem h_placeM_ok : HOK 32 h_placeM := by
  intro args H K h
  unfold h_placeM at h
  split at h
  case h_2 => exact h.elim
  rename_i c1 c2 c3 c4 c5 c6 c7 m who n
  split at h
  case h_2 => exact h.elim
  rename_i pm hm
  have e := (place_ev ⟨c1, c2, c3, c4, c5, c6, c7⟩ who n pm (fun r m' => K (.c (cI r)) (H.put m (.obj (.mem m'))))).mpr h
  refine envAsk_ok (c := ⟨c1, c2, c3, c4, c5, c6, c7⟩) hm rfl (evF_ok fnOK mixed own9_ok 10 20 _ _ _ _ e) ?_
  intro v H₁ hk
  split at hk
  · exact ⟨rfl, hk⟩
  · exact hk.elim

def tabK8 : List (FuncId × Hd) := [(rdF, h_rounds), (mnF, h_many), (32, h_placeM)] ++ tab9
def ownK8 : FuncId → Option Hd := look tabK8
theorem allK8 : AllOK tabK8 := ⟨h_rounds_ok, h_many_ok, h_placeM_ok, all9⟩
theorem ownK8_ok : OwnOK Tryz.prog ownK8 := look_ok allK8

end Go.Proofs.YtfjnkneoddankaaGreat

/-
  The laws' loops: objects are made, and kept in a list; they are let go.
-/
set_option linter.unusedVariables false
set_option linter.unusedSimpArgs false
set_option maxRecDepth 100000
namespace Go.FL

def pushF (n : Nat) (f : Nat → Int) (v : Int) : Nat → Int := match n with
  | 0 => fun _ => v
  | n + 1 => fun j => bif Nat.beq j (n + 1) then v else f j

/-- So many objects are made; 'cond': those that came to nothing are not listed. -/
def bldRun (c : PCfg) (who sz : Int) (cond : Bool) : Nat → Nat → (Nat → Int) → PMem → Nat × (Nat → Int) × PMem
  | 0, n, f, m => (n, f, m)
  | k + 1, n, f, m => match makeM c who m sz false with
    | (d, m') => bif cond && !decide (d.e = 0) then bldRun c who sz cond k n f m' else bldRun c who sz cond k (n + 1) (pushF n f d.h) m'

theorem bldRun_succ (c : PCfg) (who sz : Int) (cond : Bool) (k n : Nat) (f : Nat → Int) (m : PMem) : bldRun c who sz cond (k + 1) n f m =
    (bif cond && !decide ((makeM c who m sz false).1.e = 0) then bldRun c who sz cond k n f (makeM c who m sz false).2 else bldRun c who sz cond k (n + 1) (pushF n f (makeM c who m sz false).1.h) (makeM c who m sz false).2) := rfl

theorem bldRun_zero (c : PCfg) (who sz : Int) (cond : Bool) (n : Nat) (f : Nat → Int) (m : PMem) : bldRun c who sz cond 0 n f m = (n, f, m) := rfl

attribute [irreducible] bldRun

/-- So many objects of a list are let go, from that one on. -/
def dropRun2 (c : PCfg) (who : Int) (f : Nat → Int) : Nat → Nat → PMem → PMem
  | 0, _, m => m
  | k + 1, i, m => dropRun2 c who f k (i + 1) (dropdM c who m (f i) false).2

theorem dropRun2_succ (c : PCfg) (who : Int) (f : Nat → Int) (k i : Nat) (m : PMem) : dropRun2 c who f (k + 1) i m = dropRun2 c who f k (i + 1) (dropdM c who m (f i) false).2 := rfl
theorem dropRun2_zero (c : PCfg) (who : Int) (f : Nat → Int) (i : Nat) (m : PMem) : dropRun2 c who f 0 i m = m := rfl

attribute [irreducible] dropRun2

end Go.FL

namespace Go.Proofs.YtfjnkneoddankaaGreat
open Go Go.FL Go.Proofs

abbrev lawEnv (c1 c2 c3 c4 c5 c6 c7 who : Int) : LB := .cells 27 [cI c1, cI c2, cI c3, cI c4, cI c5, cI c6, cI c7, .ptr 0 0, cI who]
abbrev litB : LB := .cells 32 []
abbrev usB (n cap : Nat) (f : Nat → Int) : LB := .rows 32 1 n cap [.int .u64 f]

abbrev pbF : FuncId := 5
abbrev pbTA (sz : Int) (b : Int) (i : Int) : Tm := [(1, .c (.int .i64 b)), (5, .c (.ptr 1 0)), (7, .c (.int .i64 sz)), (8, .c (.slice 2 0 0 0)), (9, .c (cI i))]
abbrev pbTB (sz : Int) (b : Int) (k n cap : Nat) (i : Int) : Tm := [(1, .c (.int .i64 b)), (5, .c (.ptr 1 0)), (7, .c (.int .i64 sz)), (8, .c (.slice k 0 n cap)), (9, .c (cI i))]

theorem pbA_ev (c1 c2 c3 c4 c5 c6 c7 who : Int) (sz : Int) (b : Int) (i : Int) (m : PMem) (wr : List Nat) (k : X → Tm → LH → Prop) :
    evC Tryz.prog (evF Tryz.prog ownK8 10 20) (tmpsF Tryz.prog pbF) noLo 10 (loopF Tryz.prog pbF 0) (pbTA sz b i) ⟨[.obj (.mem m), lawEnv c1 c2 c3 c4 c5 c6 c7 who, litB], wr⟩ (fun x T H => k x (Tm.norm [1, 5, 7, 8, 9] T) H) =
    (bif decide (i < 30) then bif decide ((makeM ⟨c1, c2, c3, c4, c5, c6, c7⟩ who m sz false).1.e = 0) then (((0 : Nat) = 0 ∧ (0 : Nat) = 0) ∧ ∀ more : Nat, k .normal (pbTB sz b 5 1 (1 + more) (IntKind.wrap .i64 (i + 1))) ⟨[.obj (.mem (makeM ⟨c1, c2, c3, c4, c5, c6, c7⟩ who m sz false).2), lawEnv c1 c2 c3 c4 c5 c6 c7 who, litB, .cells 34 [cI (makeM ⟨c1, c2, c3, c4, c5, c6, c7⟩ who m sz false).1.e, cU (makeM ⟨c1, c2, c3, c4, c5, c6, c7⟩ who m sz false).1.h, cI (makeM ⟨c1, c2, c3, c4, c5, c6, c7⟩ who m sz false).1.v, cI (makeM ⟨c1, c2, c3, c4, c5, c6, c7⟩ who m sz false).1.st], .cells 32 [cU (makeM ⟨c1, c2, c3, c4, c5, c6, c7⟩ who m sz false).1.h], usB 1 (1 + more) (fun _ => (makeM ⟨c1, c2, c3, c4, c5, c6, c7⟩ who m sz false).1.h)], 3 :: 0 :: wr⟩)
      else k .normal (pbTA sz b (IntKind.wrap .i64 (i + 1))) ⟨[.obj (.mem (makeM ⟨c1, c2, c3, c4, c5, c6, c7⟩ who m sz false).2), lawEnv c1 c2 c3 c4 c5 c6 c7 who, litB, .cells 34 [cI (makeM ⟨c1, c2, c3, c4, c5, c6, c7⟩ who m sz false).1.e, cU (makeM ⟨c1, c2, c3, c4, c5, c6, c7⟩ who m sz false).1.h, cI (makeM ⟨c1, c2, c3, c4, c5, c6, c7⟩ who m sz false).1.v, cI (makeM ⟨c1, c2, c3, c4, c5, c6, c7⟩ who m sz false).1.st]], 3 :: 0 :: wr⟩
    else k (.exit 0) (pbTA sz b i) ⟨[.obj (.mem m), lawEnv c1 c2 c3 c4 c5 c6 c7 who, litB], wr⟩) := by kernel_rfl

theorem pbB_ev (c1 c2 c3 c4 c5 c6 c7 who : Int) (sz : Int) (b : Int) (i : Int) (n cap : Nat) (f : Nat → Int) (m : PMem) (wr : List Nat) (k : X → Tm → LH → Prop) :
    evC Tryz.prog (evF Tryz.prog ownK8 10 20) (tmpsF Tryz.prog pbF) noLo 10 (loopF Tryz.prog pbF 0) (pbTB sz b 3 n cap i) ⟨[.obj (.mem m), lawEnv c1 c2 c3 c4 c5 c6 c7 who, litB, usB n cap f], wr⟩ (fun x T H => k x (Tm.norm [1, 5, 7, 8, 9] T) H) =
    (bif decide (i < 30) then bif decide ((makeM ⟨c1, c2, c3, c4, c5, c6, c7⟩ who m sz false).1.e = 0) then (((n = n ∧ cap = cap) ∧ n ≤ 1048576) ∧ bif decide (n + 1 ≤ cap) then
        k .normal (pbTB sz b 3 (n + 1) cap (IntKind.wrap .i64 (i + 1))) ⟨[.obj (.mem (makeM ⟨c1, c2, c3, c4, c5, c6, c7⟩ who m sz false).2), lawEnv c1 c2 c3 c4 c5 c6 c7 who, litB, usB (n + 1) cap (fun j => bif Nat.beq j (n) then (makeM ⟨c1, c2, c3, c4, c5, c6, c7⟩ who m sz false).1.h else f j), .cells 34 [cI (makeM ⟨c1, c2, c3, c4, c5, c6, c7⟩ who m sz false).1.e, cU (makeM ⟨c1, c2, c3, c4, c5, c6, c7⟩ who m sz false).1.h, cI (makeM ⟨c1, c2, c3, c4, c5, c6, c7⟩ who m sz false).1.v, cI (makeM ⟨c1, c2, c3, c4, c5, c6, c7⟩ who m sz false).1.st], .cells 32 [cU (makeM ⟨c1, c2, c3, c4, c5, c6, c7⟩ who m sz false).1.h]], 3 :: 4 :: 0 :: wr⟩
        else ∀ more : Nat, k .normal (pbTB sz b 6 (n + 1) (n + 1 + more) (IntKind.wrap .i64 (i + 1))) ⟨[.obj (.mem (makeM ⟨c1, c2, c3, c4, c5, c6, c7⟩ who m sz false).2), lawEnv c1 c2 c3 c4 c5 c6 c7 who, litB, usB n cap f, .cells 34 [cI (makeM ⟨c1, c2, c3, c4, c5, c6, c7⟩ who m sz false).1.e, cU (makeM ⟨c1, c2, c3, c4, c5, c6, c7⟩ who m sz false).1.h, cI (makeM ⟨c1, c2, c3, c4, c5, c6, c7⟩ who m sz false).1.v, cI (makeM ⟨c1, c2, c3, c4, c5, c6, c7⟩ who m sz false).1.st], .cells 32 [cU (makeM ⟨c1, c2, c3, c4, c5, c6, c7⟩ who m sz false).1.h], usB (n + 1) (n + 1 + more) (fun j => bif Nat.beq j (n) then (makeM ⟨c1, c2, c3, c4, c5, c6, c7⟩ who m sz false).1.h else f j)], 4 :: 0 :: wr⟩)
      else k .normal (pbTB sz b 3 n cap (IntKind.wrap .i64 (i + 1))) ⟨[.obj (.mem (makeM ⟨c1, c2, c3, c4, c5, c6, c7⟩ who m sz false).2), lawEnv c1 c2 c3 c4 c5 c6 c7 who, litB, usB n cap f, .cells 34 [cI (makeM ⟨c1, c2, c3, c4, c5, c6, c7⟩ who m sz false).1.e, cU (makeM ⟨c1, c2, c3, c4, c5, c6, c7⟩ who m sz false).1.h, cI (makeM ⟨c1, c2, c3, c4, c5, c6, c7⟩ who m sz false).1.v, cI (makeM ⟨c1, c2, c3, c4, c5, c6, c7⟩ who m sz false).1.st]], 4 :: 0 :: wr⟩
    else k (.exit 0) (pbTB sz b 3 n cap i) ⟨[.obj (.mem m), lawEnv c1 c2 c3 c4 c5 c6 c7 who, litB, usB n cap f], wr⟩) := by kernel_rfl

def lh_pb : LHd := fun T H K => match Tm.norm [1, 5, 7, 8, 9] T with
  | [(1, .c (.int .i64 b)), (5, .c (.ptr 1 0)), (7, .c (.int .i64 sz)), (8, .c (.slice 2 0 0 0)), (9, .c (.int .i64 i))] => match H.bl with
    | [.obj (.mem m), .cells t [.int .i64 c1, .int .i64 c2, .int .i64 c3, .int .i64 c4, .int .i64 c5, .int .i64 c6, .int .i64 c7, .ptr 0 0, .int .i64 who], .cells t2 []] =>
      ((t = 27 ∧ t2 = 32 ∧ i = 0) ∧ Nat.beq (bldRun ⟨c1, c2, c3, c4, c5, c6, c7⟩ who sz true 30 0 (fun _ => 0) m).1 0 = false) ∧
      ∀ cap : Nat, K (.exit 0) [(1, .c (.int .i64 b)), (5, .c (.ptr 1 0)), (7, .c (.int .i64 sz)), (8, .c (.slice 3 0 (bldRun ⟨c1, c2, c3, c4, c5, c6, c7⟩ who sz true 30 0 (fun _ => 0) m).1 cap))]
        ⟨[.obj (.mem (bldRun ⟨c1, c2, c3, c4, c5, c6, c7⟩ who sz true 30 0 (fun _ => 0) m).2.2), lawEnv c1 c2 c3 c4 c5 c6 c7 who, litB, usB (bldRun ⟨c1, c2, c3, c4, c5, c6, c7⟩ who sz true 30 0 (fun _ => 0) m).1 cap (bldRun ⟨c1, c2, c3, c4, c5, c6, c7⟩ who sz true 30 0 (fun _ => 0) m).2.1], 0 :: 3 :: 4 :: H.wr⟩
    | _ => False
  | _ => False

abbrev pbSt (c1 c2 c3 c4 c5 c6 c7 who : Int) (sz : Int) (b : Int) : Nat → Nat → (Nat → Int) → PMem → Int → Tm → List LB → Prop
  | 0, _, _, m, i, T, bl => T = pbTA sz b i ∧ bl = [.obj (.mem m), lawEnv c1 c2 c3 c4 c5 c6 c7 who, litB]
  | n + 1, cap, f, m, i, T, bl => T = pbTB sz b 3 (n + 1) cap i ∧ bl = [.obj (.mem m), lawEnv c1 c2 c3 c4 c5 c6 c7 who, litB, usB (n + 1) cap f]

theorem lh_pb_ok : BodyOK Tryz.prog (tmpsF Tryz.prog pbF) (.loop (loopF Tryz.prog pbF 0)) lh_pb := by
  refine loopR_ok (evC_ok fnOK mixed (evF_ok fnOK mixed ownK8_ok 10 20) _ (lo := noLo) 10 _ LoOK.no) ?_
  intro T H K h
  unfold lh_pb at h
  split at h
  case h_2 => exact h.elim
  rename_i x0 b sz i hT
  split at h
  case h_2 => exact h.elim
  rename_i x' m t c1 c2 c3 c4 c5 c6 c7 who t2 hH
  obtain ⟨⟨⟨rfl, rfl, rfl⟩, hne⟩, h⟩ := h
  have hl3 : H.bl.length = 3 := by rw [hH]; rfl
  rw [hl3]
  generalize hr : bldRun ⟨c1, c2, c3, c4, c5, c6, c7⟩ who sz true 30 0 (fun _ => 0) m = r at h hne
  refine ⟨[1, 5, 7, 8, 9], fun k T' H' => ∃ (j n cap : Nat) (f : Nat → Int) (m' : PMem), k = 30 - j ∧ j ≤ 30 ∧ n ≤ j ∧ pbSt c1 c2 c3 c4 c5 c6 c7 who sz b n cap f m' (j : Int) T' H'.bl ∧ (∀ k ∈ H'.wr, k ∈ 0 :: 3 :: 4 :: H.wr) ∧
    bldRun ⟨c1, c2, c3, c4, c5, c6, c7⟩ who sz true (30 - j) n f m' = r, ⟨30, 0, 0, 0, fun _ => 0, m, rfl, by omega, by omega, ⟨hT, hH⟩, fun k hk => by simp [hk], hr⟩, ?_⟩
  rintro k T' ⟨bl, wr⟩ ⟨j, n, cap, f, m, rfl, hj, hnj, hst, hwr, hrun⟩
  simp only at hwr
  have hi : IntKind.i64.wrap ((j : Int) + 1) = ((j + 1 : Nat) : Int) := by rw [IntKind.wrap_i64]; omega
  have sub : ∀ l : List Nat, (∀ k ∈ l, k = 0 ∨ k = 3 ∨ k = 4) → ∀ k ∈ l ++ wr, k ∈ 0 :: 3 :: 4 :: H.wr := by
    intro l hl k hk
    rcases List.mem_append.1 hk with hk | hk
    · rcases hl k hk with rfl | rfl | rfl <;> simp
    · exact hwr k hk
  by_cases hlt : j < 30
  · have h1 : decide ((j : Int) < 30) = true := by simp; omega
    obtain ⟨q, hq⟩ : ∃ q, 30 - j = q + 1 := ⟨30 - (j + 1), by omega⟩
    have hq' : q = 30 - (j + 1) := by omega
    rw [hq, bldRun_succ] at hrun
    cases n with
    | zero =>
      obtain ⟨rfl, hbl⟩ := hst
      simp only at hbl
      subst hbl
      rw [pbA_ev, h1]
      simp only [cond_true]
      cases hd : decide ((makeM ⟨c1, c2, c3, c4, c5, c6, c7⟩ who m sz false).1.e = 0) with
      | true =>
        rw [hd] at hrun
        simp only [Bool.not_true, Bool.and_false, cond_false] at hrun
        simp only [cond_true]
        refine ⟨⟨trivial, trivial⟩, fun more => ?_⟩
        refine ⟨30 - (j + 1), by omega, [0, 1, 2, 5], pbTB sz b 3 (0 + 1) (1 + more) ((j + 1 : Nat) : Int), ⟨[.obj (.mem (makeM ⟨c1, c2, c3, c4, c5, c6, c7⟩ who m sz false).2), lawEnv c1 c2 c3 c4 c5 c6 c7 who, litB, usB (0 + 1) (1 + more) (pushF 0 f (makeM ⟨c1, c2, c3, c4, c5, c6, c7⟩ who m sz false).1.h)], [3, 0] ++ wr⟩, ⟨rfl, ⟨⟨rfl, rfl⟩, ⟨rfl, rfl⟩, ⟨rfl, rfl⟩, ⟨rfl, rfl⟩, trivial⟩, ?_, fun _ hk => hk⟩, j + 1, 0 + 1, (1 + more), pushF 0 f (makeM ⟨c1, c2, c3, c4, c5, c6, c7⟩ who m sz false).1.h, (makeM ⟨c1, c2, c3, c4, c5, c6, c7⟩ who m sz false).2, rfl, by omega, by omega, ⟨rfl, rfl⟩, sub [3, 0] (by simp), by rw [← hq']; exact hrun⟩
        rw [hi]
        exact ⟨⟨rfl, rfl⟩, ⟨rfl, rfl⟩, ⟨rfl, rfl⟩, ⟨rfl, rfl⟩, ⟨rfl, rfl⟩, trivial⟩
      | false =>
        rw [hd] at hrun
        simp only [Bool.not_false, Bool.and_true, Bool.true_and, cond_true] at hrun
        simp only [cond_false]
        refine ⟨30 - (j + 1), by omega, [0, 1, 2], pbTA sz b ((j + 1 : Nat) : Int), ⟨[.obj (.mem (makeM ⟨c1, c2, c3, c4, c5, c6, c7⟩ who m sz false).2), lawEnv c1 c2 c3 c4 c5 c6 c7 who, litB], [3, 0] ++ wr⟩, ⟨rfl, ⟨⟨rfl, rfl⟩, ⟨rfl, rfl⟩, ⟨rfl, rfl⟩, trivial⟩, ?_, fun _ hk => hk⟩, j + 1, 0, 0, f, (makeM ⟨c1, c2, c3, c4, c5, c6, c7⟩ who m sz false).2, rfl, by omega, by omega, ⟨rfl, rfl⟩, sub [3, 0] (by simp), by rw [← hq']; exact hrun⟩
        rw [hi]
        exact ⟨⟨rfl, rfl⟩, ⟨rfl, rfl⟩, ⟨rfl, rfl⟩, ⟨rfl, rfl⟩, ⟨rfl, rfl⟩, trivial⟩
    | succ n =>
      obtain ⟨rfl, hbl⟩ := hst
      simp only at hbl
      subst hbl
      rw [pbB_ev, h1]
      simp only [cond_true]
      cases hd : decide ((makeM ⟨c1, c2, c3, c4, c5, c6, c7⟩ who m sz false).1.e = 0) with
      | true =>
        rw [hd] at hrun
        simp only [Bool.not_true, Bool.and_false, cond_false] at hrun
        simp only [cond_true]
        refine ⟨⟨⟨trivial, trivial⟩, by omega⟩, ?_⟩
        cases hc : decide (n + 1 + 1 ≤ cap) with
        | true =>
          simp only [cond_true]
          refine ⟨30 - (j + 1), by omega, [0, 1, 2, 3], pbTB sz b 3 ((n + 1) + 1) cap ((j + 1 : Nat) : Int), ⟨[.obj (.mem (makeM ⟨c1, c2, c3, c4, c5, c6, c7⟩ who m sz false).2), lawEnv c1 c2 c3 c4 c5 c6 c7 who, litB, usB ((n + 1) + 1) cap (pushF (n + 1) f (makeM ⟨c1, c2, c3, c4, c5, c6, c7⟩ who m sz false).1.h)], [3, 4, 0] ++ wr⟩, ⟨rfl, ⟨⟨rfl, rfl⟩, ⟨rfl, rfl⟩, ⟨rfl, rfl⟩, ⟨rfl, rfl⟩, trivial⟩, ?_, fun _ hk => hk⟩, j + 1, (n + 1) + 1, cap, pushF (n + 1) f (makeM ⟨c1, c2, c3, c4, c5, c6, c7⟩ who m sz false).1.h, (makeM ⟨c1, c2, c3, c4, c5, c6, c7⟩ who m sz false).2, rfl, by omega, by omega, ⟨rfl, rfl⟩, sub [3, 4, 0] (by simp), by rw [← hq']; exact hrun⟩
          rw [hi]
          exact ⟨⟨rfl, rfl⟩, ⟨rfl, rfl⟩, ⟨rfl, rfl⟩, ⟨rfl, rfl⟩, ⟨rfl, rfl⟩, trivial⟩
        | false =>
          simp only [cond_false]
          intro more
          refine ⟨30 - (j + 1), by omega, [0, 1, 2, 6], pbTB sz b 3 ((n + 1) + 1) (n + 1 + 1 + more) ((j + 1 : Nat) : Int), ⟨[.obj (.mem (makeM ⟨c1, c2, c3, c4, c5, c6, c7⟩ who m sz false).2), lawEnv c1 c2 c3 c4 c5 c6 c7 who, litB, usB ((n + 1) + 1) (n + 1 + 1 + more) (pushF (n + 1) f (makeM ⟨c1, c2, c3, c4, c5, c6, c7⟩ who m sz false).1.h)], [4, 0] ++ wr⟩, ⟨rfl, ⟨⟨rfl, rfl⟩, ⟨rfl, rfl⟩, ⟨rfl, rfl⟩, ⟨rfl, rfl⟩, trivial⟩, ?_, fun _ hk => hk⟩, j + 1, (n + 1) + 1, (n + 1 + 1 + more), pushF (n + 1) f (makeM ⟨c1, c2, c3, c4, c5, c6, c7⟩ who m sz false).1.h, (makeM ⟨c1, c2, c3, c4, c5, c6, c7⟩ who m sz false).2, rfl, by omega, by omega, ⟨rfl, rfl⟩, sub [4, 0] (by simp), by rw [← hq']; exact hrun⟩
          rw [hi]
          exact ⟨⟨rfl, rfl⟩, ⟨rfl, rfl⟩, ⟨rfl, rfl⟩, ⟨rfl, rfl⟩, ⟨rfl, rfl⟩, trivial⟩
      | false =>
        rw [hd] at hrun
        simp only [Bool.not_false, Bool.and_true, Bool.true_and, cond_true] at hrun
        simp only [cond_false]
        refine ⟨30 - (j + 1), by omega, [0, 1, 2, 3], pbTB sz b 3 (n + 1) cap ((j + 1 : Nat) : Int), ⟨[.obj (.mem (makeM ⟨c1, c2, c3, c4, c5, c6, c7⟩ who m sz false).2), lawEnv c1 c2 c3 c4 c5 c6 c7 who, litB, usB (n + 1) cap f], [4, 0] ++ wr⟩, ⟨rfl, ⟨⟨rfl, rfl⟩, ⟨rfl, rfl⟩, ⟨rfl, rfl⟩, ⟨rfl, rfl⟩, trivial⟩, ?_, fun _ hk => hk⟩, j + 1, n + 1, cap, f, (makeM ⟨c1, c2, c3, c4, c5, c6, c7⟩ who m sz false).2, rfl, by omega, by omega, ⟨rfl, rfl⟩, sub [4, 0] (by simp), by rw [← hq']; exact hrun⟩
        rw [hi]
        exact ⟨⟨rfl, rfl⟩, ⟨rfl, rfl⟩, ⟨rfl, rfl⟩, ⟨rfl, rfl⟩, ⟨rfl, rfl⟩, trivial⟩
  · have h1 : decide ((j : Int) < 30) = false := by simp; omega
    have hz : 30 - j = 0 := by omega
    rw [hz, bldRun_zero] at hrun
    subst hrun
    cases n with
    | zero => cases hne
    | succ n =>
      obtain ⟨rfl, hbl⟩ := hst
      simp only at hbl
      subst hbl
      rw [pbB_ev, h1]
      simp only [cond_false]
      exact ⟨[0, 1, 2, 3], [(1, .c (.int .i64 b)), (5, .c (.ptr 1 0)), (7, .c (.int .i64 sz)), (8, .c (.slice 3 0 (n + 1) cap))], ⟨[.obj (.mem m), lawEnv c1 c2 c3 c4 c5 c6 c7 who, litB, usB (n + 1) cap f], 0 :: 3 :: 4 :: H.wr⟩, ⟨rfl, ⟨⟨rfl, rfl⟩, ⟨rfl, rfl⟩, ⟨rfl, rfl⟩, ⟨rfl, rfl⟩, trivial⟩, ⟨⟨rfl, rfl⟩, ⟨rfl, rfl⟩, ⟨rfl, rfl⟩, ⟨rfl, rfl⟩, trivial⟩, hwr⟩, h cap⟩

abbrev abF : FuncId := 10
abbrev abTA (i : Int) : Tm := [(1, .c (.ptr 1 0)), (3, .c (.slice 2 0 0 0)), (4, .c (cI i))]
abbrev abTB (k n cap : Nat) (i : Int) : Tm := [(1, .c (.ptr 1 0)), (3, .c (.slice k 0 n cap)), (4, .c (cI i))]

theorem abA_ev (c1 c2 c3 c4 c5 c6 c7 who : Int) (i : Int) (m : PMem) (wr : List Nat) (k : X → Tm → LH → Prop) :
    evC Tryz.prog (evF Tryz.prog ownK8 10 20) (tmpsF Tryz.prog abF) noLo 10 (loopF Tryz.prog abF 0) (abTA i) ⟨[.obj (.mem m), lawEnv c1 c2 c3 c4 c5 c6 c7 who, litB], wr⟩ (fun x T H => k x (Tm.norm [1, 3, 4] T) H) =
    (bif decide (i < 7) then (((0 : Nat) = 0 ∧ (0 : Nat) = 0) ∧ ∀ more : Nat, k .normal (abTB 4 1 (1 + more) (IntKind.wrap .i64 (i + 1))) ⟨[.obj (.mem (makeM ⟨c1, c2, c3, c4, c5, c6, c7⟩ who m 2 false).2), lawEnv c1 c2 c3 c4 c5 c6 c7 who, litB, .cells 32 [cU (makeM ⟨c1, c2, c3, c4, c5, c6, c7⟩ who m 2 false).1.h], usB 1 (1 + more) (fun _ => (makeM ⟨c1, c2, c3, c4, c5, c6, c7⟩ who m 2 false).1.h)], 0 :: wr⟩)
      
    else k (.exit 0) (abTA i) ⟨[.obj (.mem m), lawEnv c1 c2 c3 c4 c5 c6 c7 who, litB], wr⟩) := by kernel_rfl

theorem abB_ev (c1 c2 c3 c4 c5 c6 c7 who : Int) (i : Int) (n cap : Nat) (f : Nat → Int) (m : PMem) (wr : List Nat) (k : X → Tm → LH → Prop) :
    evC Tryz.prog (evF Tryz.prog ownK8 10 20) (tmpsF Tryz.prog abF) noLo 10 (loopF Tryz.prog abF 0) (abTB 3 n cap i) ⟨[.obj (.mem m), lawEnv c1 c2 c3 c4 c5 c6 c7 who, litB, usB n cap f], wr⟩ (fun x T H => k x (Tm.norm [1, 3, 4] T) H) =
    (bif decide (i < 7) then (((n = n ∧ cap = cap) ∧ n ≤ 1048576) ∧ bif decide (n + 1 ≤ cap) then
        k .normal (abTB 3 (n + 1) cap (IntKind.wrap .i64 (i + 1))) ⟨[.obj (.mem (makeM ⟨c1, c2, c3, c4, c5, c6, c7⟩ who m 2 false).2), lawEnv c1 c2 c3 c4 c5 c6 c7 who, litB, usB (n + 1) cap (fun j => bif Nat.beq j (n) then (makeM ⟨c1, c2, c3, c4, c5, c6, c7⟩ who m 2 false).1.h else f j), .cells 32 [cU (makeM ⟨c1, c2, c3, c4, c5, c6, c7⟩ who m 2 false).1.h]], 3 :: 0 :: wr⟩
        else ∀ more : Nat, k .normal (abTB 5 (n + 1) (n + 1 + more) (IntKind.wrap .i64 (i + 1))) ⟨[.obj (.mem (makeM ⟨c1, c2, c3, c4, c5, c6, c7⟩ who m 2 false).2), lawEnv c1 c2 c3 c4 c5 c6 c7 who, litB, usB n cap f, .cells 32 [cU (makeM ⟨c1, c2, c3, c4, c5, c6, c7⟩ who m 2 false).1.h], usB (n + 1) (n + 1 + more) (fun j => bif Nat.beq j (n) then (makeM ⟨c1, c2, c3, c4, c5, c6, c7⟩ who m 2 false).1.h else f j)], 0 :: wr⟩)
      
    else k (.exit 0) (abTB 3 n cap i) ⟨[.obj (.mem m), lawEnv c1 c2 c3 c4 c5 c6 c7 who, litB, usB n cap f], wr⟩) := by kernel_rfl

def lh_ab : LHd := fun T H K => match Tm.norm [1, 3, 4] T with
  | [(1, .c (.ptr 1 0)), (3, .c (.slice 2 0 0 0)), (4, .c (.int .i64 i))] => match H.bl with
    | [.obj (.mem m), .cells t [.int .i64 c1, .int .i64 c2, .int .i64 c3, .int .i64 c4, .int .i64 c5, .int .i64 c6, .int .i64 c7, .ptr 0 0, .int .i64 who], .cells t2 []] =>
      ((t = 27 ∧ t2 = 32 ∧ i = 0) ∧ Nat.beq (bldRun ⟨c1, c2, c3, c4, c5, c6, c7⟩ who 2 false 7 0 (fun _ => 0) m).1 0 = false) ∧
      ∀ cap : Nat, K (.exit 0) [(1, .c (.ptr 1 0)), (3, .c (.slice 3 0 (bldRun ⟨c1, c2, c3, c4, c5, c6, c7⟩ who 2 false 7 0 (fun _ => 0) m).1 cap))]
        ⟨[.obj (.mem (bldRun ⟨c1, c2, c3, c4, c5, c6, c7⟩ who 2 false 7 0 (fun _ => 0) m).2.2), lawEnv c1 c2 c3 c4 c5 c6 c7 who, litB, usB (bldRun ⟨c1, c2, c3, c4, c5, c6, c7⟩ who 2 false 7 0 (fun _ => 0) m).1 cap (bldRun ⟨c1, c2, c3, c4, c5, c6, c7⟩ who 2 false 7 0 (fun _ => 0) m).2.1], 0 :: 3 :: 4 :: H.wr⟩
    | _ => False
  | _ => False

abbrev abSt (c1 c2 c3 c4 c5 c6 c7 who : Int) : Nat → Nat → (Nat → Int) → PMem → Int → Tm → List LB → Prop
  | 0, _, _, m, i, T, bl => T = abTA i ∧ bl = [.obj (.mem m), lawEnv c1 c2 c3 c4 c5 c6 c7 who, litB]
  | n + 1, cap, f, m, i, T, bl => T = abTB 3 (n + 1) cap i ∧ bl = [.obj (.mem m), lawEnv c1 c2 c3 c4 c5 c6 c7 who, litB, usB (n + 1) cap f]

theorem lh_ab_ok : BodyOK Tryz.prog (tmpsF Tryz.prog abF) (.loop (loopF Tryz.prog abF 0)) lh_ab := by
  refine loopR_ok (evC_ok fnOK mixed (evF_ok fnOK mixed ownK8_ok 10 20) _ (lo := noLo) 10 _ LoOK.no) ?_
  intro T H K h
  unfold lh_ab at h
  split at h
  case h_2 => exact h.elim
  rename_i x0 i hT
  split at h
  case h_2 => exact h.elim
  rename_i x' m t c1 c2 c3 c4 c5 c6 c7 who t2 hH
  obtain ⟨⟨⟨rfl, rfl, rfl⟩, hne⟩, h⟩ := h
  have hl3 : H.bl.length = 3 := by rw [hH]; rfl
  rw [hl3]
  generalize hr : bldRun ⟨c1, c2, c3, c4, c5, c6, c7⟩ who 2 false 7 0 (fun _ => 0) m = r at h hne
  refine ⟨[1, 3, 4], fun k T' H' => ∃ (j n cap : Nat) (f : Nat → Int) (m' : PMem), k = 7 - j ∧ j ≤ 7 ∧ n ≤ j ∧ abSt c1 c2 c3 c4 c5 c6 c7 who n cap f m' (j : Int) T' H'.bl ∧ (∀ k ∈ H'.wr, k ∈ 0 :: 3 :: 4 :: H.wr) ∧
    bldRun ⟨c1, c2, c3, c4, c5, c6, c7⟩ who 2 false (7 - j) n f m' = r, ⟨7, 0, 0, 0, fun _ => 0, m, rfl, by omega, by omega, ⟨hT, hH⟩, fun k hk => by simp [hk], hr⟩, ?_⟩
  rintro k T' ⟨bl, wr⟩ ⟨j, n, cap, f, m, rfl, hj, hnj, hst, hwr, hrun⟩
  simp only at hwr
  have hi : IntKind.i64.wrap ((j : Int) + 1) = ((j + 1 : Nat) : Int) := by rw [IntKind.wrap_i64]; omega
  have sub : ∀ l : List Nat, (∀ k ∈ l, k = 0 ∨ k = 3 ∨ k = 4) → ∀ k ∈ l ++ wr, k ∈ 0 :: 3 :: 4 :: H.wr := by
    intro l hl k hk
    rcases List.mem_append.1 hk with hk | hk
    · rcases hl k hk with rfl | rfl | rfl <;> simp
    · exact hwr k hk
  by_cases hlt : j < 7
  · have h1 : decide ((j : Int) < 7) = true := by simp; omega
    obtain ⟨q, hq⟩ : ∃ q, 7 - j = q + 1 := ⟨7 - (j + 1), by omega⟩
    have hq' : q = 7 - (j + 1) := by omega
    rw [hq, bldRun_succ] at hrun
    cases n with
    | zero =>
      obtain ⟨rfl, hbl⟩ := hst
      simp only at hbl
      subst hbl
      rw [abA_ev, h1]
      simp only [cond_true]
      simp only [Bool.false_and, cond_false] at hrun
      refine ⟨⟨trivial, trivial⟩, fun more => ?_⟩
      refine ⟨7 - (j + 1), by omega, [0, 1, 2, 4], abTB 3 (0 + 1) (1 + more) ((j + 1 : Nat) : Int), ⟨[.obj (.mem (makeM ⟨c1, c2, c3, c4, c5, c6, c7⟩ who m 2 false).2), lawEnv c1 c2 c3 c4 c5 c6 c7 who, litB, usB (0 + 1) (1 + more) (pushF 0 f (makeM ⟨c1, c2, c3, c4, c5, c6, c7⟩ who m 2 false).1.h)], [0] ++ wr⟩, ⟨rfl, ⟨⟨rfl, rfl⟩, ⟨rfl, rfl⟩, ⟨rfl, rfl⟩, ⟨rfl, rfl⟩, trivial⟩, ?_, fun _ hk => hk⟩, j + 1, 0 + 1, (1 + more), pushF 0 f (makeM ⟨c1, c2, c3, c4, c5, c6, c7⟩ who m 2 false).1.h, (makeM ⟨c1, c2, c3, c4, c5, c6, c7⟩ who m 2 false).2, rfl, by omega, by omega, ⟨rfl, rfl⟩, sub [0] (by simp), by rw [← hq']; exact hrun⟩
      rw [hi]
      exact ⟨⟨rfl, rfl⟩, ⟨rfl, rfl⟩, ⟨rfl, rfl⟩, trivial⟩
    | succ n =>
      obtain ⟨rfl, hbl⟩ := hst
      simp only at hbl
      subst hbl
      rw [abB_ev, h1]
      simp only [cond_true]
      simp only [Bool.false_and, cond_false] at hrun
      refine ⟨⟨⟨trivial, trivial⟩, by omega⟩, ?_⟩
      cases hc : decide (n + 1 + 1 ≤ cap) with
      | true =>
        simp only [cond_true]
        refine ⟨7 - (j + 1), by omega, [0, 1, 2, 3], abTB 3 ((n + 1) + 1) cap ((j + 1 : Nat) : Int), ⟨[.obj (.mem (makeM ⟨c1, c2, c3, c4, c5, c6, c7⟩ who m 2 false).2), lawEnv c1 c2 c3 c4 c5 c6 c7 who, litB, usB ((n + 1) + 1) cap (pushF (n + 1) f (makeM ⟨c1, c2, c3, c4, c5, c6, c7⟩ who m 2 false).1.h)], [3, 0] ++ wr⟩, ⟨rfl, ⟨⟨rfl, rfl⟩, ⟨rfl, rfl⟩, ⟨rfl, rfl⟩, ⟨rfl, rfl⟩, trivial⟩, ?_, fun _ hk => hk⟩, j + 1, (n + 1) + 1, cap, pushF (n + 1) f (makeM ⟨c1, c2, c3, c4, c5, c6, c7⟩ who m 2 false).1.h, (makeM ⟨c1, c2, c3, c4, c5, c6, c7⟩ who m 2 false).2, rfl, by omega, by omega, ⟨rfl, rfl⟩, sub [3, 0] (by simp), by rw [← hq']; exact hrun⟩
        rw [hi]
        exact ⟨⟨rfl, rfl⟩, ⟨rfl, rfl⟩, ⟨rfl, rfl⟩, trivial⟩
      | false =>
        simp only [cond_false]
        intro more
        refine ⟨7 - (j + 1), by omega, [0, 1, 2, 5], abTB 3 ((n + 1) + 1) (n + 1 + 1 + more) ((j + 1 : Nat) : Int), ⟨[.obj (.mem (makeM ⟨c1, c2, c3, c4, c5, c6, c7⟩ who m 2 false).2), lawEnv c1 c2 c3 c4 c5 c6 c7 who, litB, usB ((n + 1) + 1) (n + 1 + 1 + more) (pushF (n + 1) f (makeM ⟨c1, c2, c3, c4, c5, c6, c7⟩ who m 2 false).1.h)], [0] ++ wr⟩, ⟨rfl, ⟨⟨rfl, rfl⟩, ⟨rfl, rfl⟩, ⟨rfl, rfl⟩, ⟨rfl, rfl⟩, trivial⟩, ?_, fun _ hk => hk⟩, j + 1, (n + 1) + 1, (n + 1 + 1 + more), pushF (n + 1) f (makeM ⟨c1, c2, c3, c4, c5, c6, c7⟩ who m 2 false).1.h, (makeM ⟨c1, c2, c3, c4, c5, c6, c7⟩ who m 2 false).2, rfl, by omega, by omega, ⟨rfl, rfl⟩, sub [0] (by simp), by rw [← hq']; exact hrun⟩
        rw [hi]
        exact ⟨⟨rfl, rfl⟩, ⟨rfl, rfl⟩, ⟨rfl, rfl⟩, trivial⟩
  · have h1 : decide ((j : Int) < 7) = false := by simp; omega
    have hz : 7 - j = 0 := by omega
    rw [hz, bldRun_zero] at hrun
    subst hrun
    cases n with
    | zero => cases hne
    | succ n =>
      obtain ⟨rfl, hbl⟩ := hst
      simp only at hbl
      subst hbl
      rw [abB_ev, h1]
      simp only [cond_false]
      exact ⟨[0, 1, 2, 3], [(1, .c (.ptr 1 0)), (3, .c (.slice 3 0 (n + 1) cap))], ⟨[.obj (.mem m), lawEnv c1 c2 c3 c4 c5 c6 c7 who, litB, usB (n + 1) cap f], 0 :: 3 :: 4 :: H.wr⟩, ⟨rfl, ⟨⟨rfl, rfl⟩, ⟨rfl, rfl⟩, ⟨rfl, rfl⟩, ⟨rfl, rfl⟩, trivial⟩, ⟨⟨rfl, rfl⟩, ⟨rfl, rfl⟩, trivial⟩, hwr⟩, h cap⟩

abbrev adF : FuncId := 10
abbrev adT (n cap : Nat) (i : Int) : Tm := [(1, .c (.ptr 1 0)), (3, .c (.slice 3 0 n cap)), (5, .c (cI i))]

theorem ad_ev (c1 c2 c3 c4 c5 c6 c7 who : Int) (i : Int) (n cap : Nat) (f : Nat → Int) (m : PMem) (wr : List Nat) (k : X → Tm → LH → Prop) :
    evC Tryz.prog (evF Tryz.prog ownK8 10 20) (tmpsF Tryz.prog adF) noLo 10 (loopF Tryz.prog adF 1) (adT n cap i) ⟨[.obj (.mem m), lawEnv c1 c2 c3 c4 c5 c6 c7 who, litB, usB n cap f], wr⟩ (fun x T H => k x (Tm.norm [1, 3, 5] T) H) =
    (bif decide (i < 6) then bif decide (0 ≤ i ∧ i < (n : Int)) then (i.toNat < n) ∧ bif decide (c4 = 0) then False else
        k .normal (adT n cap (IntKind.wrap .i64 (i + 1))) ⟨[.obj (.mem (dropdM ⟨c1, c2, c3, c4, c5, c6, c7⟩ who m (f i.toNat) false).2), lawEnv c1 c2 c3 c4 c5 c6 c7 who, litB, usB n cap f], 0 :: wr⟩ else False
    else k (.exit 2) (adT n cap i) ⟨[.obj (.mem m), lawEnv c1 c2 c3 c4 c5 c6 c7 who, litB, usB n cap f], wr⟩) := by kernel_rfl

def lh_ad : LHd := fun T H K => match Tm.norm [1, 3, 5] T with
  | [(1, .c (.ptr 1 0)), (3, .c (.slice 3 0 n cap)), (5, .c (.int .i64 i))] => match H.bl with
    | [.obj (.mem m), .cells t [.int .i64 c1, .int .i64 c2, .int .i64 c3, .int .i64 c4, .int .i64 c5, .int .i64 c6, .int .i64 c7, .ptr 0 0, .int .i64 who], .cells t2 [], .rows t3 1 n2 cap2 [.int .u64 f]] =>
      ((t = 27 ∧ t2 = 32 ∧ t3 = 32 ∧ i = 0 ∧ n2 = n ∧ cap2 = cap) ∧ Nat.ble 6 n = true ∧ n ≤ 1048576) ∧ (match decide (c4 = 0) with
      | true => False
      | false => K (.exit 2) [(1, .c (.ptr 1 0)), (3, .c (.slice 3 0 n cap))] ⟨[.obj (.mem (dropRun2 ⟨c1, c2, c3, c4, c5, c6, c7⟩ who f (6 - 0) 0 m)), lawEnv c1 c2 c3 c4 c5 c6 c7 who, litB, usB n cap f], 0 :: H.wr⟩)
    | _ => False
  | _ => False

theorem lh_ad_ok : BodyOK Tryz.prog (tmpsF Tryz.prog adF) (.loop (loopF Tryz.prog adF 1)) lh_ad := by
  refine loopN_ok (evC_ok fnOK mixed (evF_ok fnOK mixed ownK8_ok 10 20) _ (lo := noLo) 10 _ LoOK.no) ?_
  intro T H K h
  unfold lh_ad at h
  split at h
  case h_2 => exact h.elim
  rename_i x0 n cap i hT
  split at h
  case h_2 => exact h.elim
  rename_i x' m t c1 c2 c3 c4 c5 c6 c7 who t2 t3 n2 cap2 f hH
  obtain ⟨⟨⟨rfl, rfl, rfl, rfl, rfl, rfl⟩, hbn, hn⟩, h⟩ := h
  split at h
  · exact h.elim
  rename_i hc4
  have hbn := Nat.le_of_ble_eq_true hbn
  generalize hr : dropRun2 ⟨c1, c2, c3, c4, c5, c6, c7⟩ who f (6 - 0) 0 m = r at h
  refine ⟨[1, 3, 5], [1, 3], fun k T' H' => ∃ (j : Nat) (m' : PMem), k = 6 - j ∧ 0 ≤ j ∧ (j ≤ 6 ∨ j = 0) ∧ T' = adT n2 cap2 (j : Int) ∧ H'.bl = [.obj (.mem m'), lawEnv c1 c2 c3 c4 c5 c6 c7 who, litB, usB n2 cap2 f] ∧ (∀ k ∈ H'.wr, k ∈ 0 :: H.wr) ∧
    dropRun2 ⟨c1, c2, c3, c4, c5, c6, c7⟩ who f (6 - j) j m' = r, ⟨6 - 0, 0, m, rfl, by omega, by omega, hT, hH, fun k hk => by simp [hk], hr⟩, ?_⟩
  rintro k T' ⟨bl, wr⟩ ⟨j, m', rfl, hj0, hj, rfl, hbl, hwr, hrun⟩
  simp only at hbl hwr
  subst hbl
  rw [ad_ev]
  have hi : IntKind.i64.wrap ((j : Int) + 1) = ((j + 1 : Nat) : Int) := by rw [IntKind.wrap_i64]; omega
  by_cases hlt : j < 6
  · have h1 : decide ((j : Int) < 6) = true := by simp; omega
    have h2 : decide (0 ≤ (j : Int) ∧ (j : Int) < (n2 : Int)) = true := by simp; omega
    obtain ⟨q, hq⟩ : ∃ q, 6 - j = q + 1 := ⟨6 - (j + 1), by omega⟩
    have hq' : q = 6 - (j + 1) := by omega
    rw [hq, dropRun2_succ] at hrun
    rw [h1, h2, hc4]
    simp only [cond_true, cond_false, Int.toNat_natCast]
    refine ⟨by omega, 6 - (j + 1), by omega, j + 1, _, rfl, by omega, by omega, by rw [hi], rfl, ?_, by rw [← hq']; exact hrun⟩
    intro k hk
    rcases List.mem_cons.1 hk with rfl | hk
    · simp
    · exact hwr k hk
  · have h1 : decide ((j : Int) < 6) = false := by simp; omega
    rw [h1]
    simp only [cond_false]
    have hz : 6 - j = 0 := by omega
    rw [hz, dropRun2_zero] at hrun
    subst hrun
    exact ⟨0 :: H.wr, hwr, h⟩

abbrev pdF : FuncId := 5
abbrev pdT (b : Int) (n cap : Nat) (i : Int) : Tm := [(1, .c (.int .i64 b)), (5, .c (.ptr 1 0)), (8, .c (.slice 3 0 n cap)), (13, .c (cI i))]

theorem pd_ev (c1 c2 c3 c4 c5 c6 c7 who : Int) (b : Int) (bi : LB) (i : Int) (n cap : Nat) (f : Nat → Int) (m : PMem) (wr : List Nat) (k : X → Tm → LH → Prop) :
    evC Tryz.prog (evF Tryz.prog ownK8 10 20) (tmpsF Tryz.prog pdF) noLo 10 (loopF Tryz.prog pdF 2) (pdT b n cap i) ⟨[.obj (.mem m), lawEnv c1 c2 c3 c4 c5 c6 c7 who, litB, usB n cap f, bi], wr⟩ (fun x T H => k x (Tm.norm [1, 5, 8, 13] T) H) =
    (bif decide (i < (n : Int)) then bif decide (0 ≤ i ∧ i < (n : Int)) then (i.toNat < n) ∧ bif decide (c4 = 0) then False else
        k .normal (pdT b n cap (IntKind.wrap .i64 (i + 1))) ⟨[.obj (.mem (dropdM ⟨c1, c2, c3, c4, c5, c6, c7⟩ who m (f i.toNat) false).2), lawEnv c1 c2 c3 c4 c5 c6 c7 who, litB, usB n cap f, bi], 0 :: wr⟩ else False
    else k (.exit 4) (pdT b n cap i) ⟨[.obj (.mem m), lawEnv c1 c2 c3 c4 c5 c6 c7 who, litB, usB n cap f, bi], wr⟩) := by kernel_rfl

def lh_pd : LHd := fun T H K => match Tm.norm [1, 5, 8, 13] T with
  | [(1, .c (.int .i64 b)), (5, .c (.ptr 1 0)), (8, .c (.slice 3 0 n cap)), (13, .c (.int .i64 i))] => match H.bl with
    | [.obj (.mem m), .cells t [.int .i64 c1, .int .i64 c2, .int .i64 c3, .int .i64 c4, .int .i64 c5, .int .i64 c6, .int .i64 c7, .ptr 0 0, .int .i64 who], .cells t2 [], .rows t3 1 n2 cap2 [.int .u64 f], bi] =>
      ((t = 27 ∧ t2 = 32 ∧ t3 = 32 ∧ i = 0 ∧ n2 = n ∧ cap2 = cap) ∧ n ≤ 1048576) ∧ (match decide (c4 = 0) with
      | true => False
      | false => K (.exit 4) [(1, .c (.int .i64 b)), (5, .c (.ptr 1 0)), (8, .c (.slice 3 0 n cap))] ⟨[.obj (.mem (dropRun2 ⟨c1, c2, c3, c4, c5, c6, c7⟩ who f (n - 0) 0 m)), lawEnv c1 c2 c3 c4 c5 c6 c7 who, litB, usB n cap f, bi], 0 :: H.wr⟩)
    | _ => False
  | _ => False

theorem lh_pd_ok : BodyOK Tryz.prog (tmpsF Tryz.prog pdF) (.loop (loopF Tryz.prog pdF 2)) lh_pd := by
  refine loopN_ok (evC_ok fnOK mixed (evF_ok fnOK mixed ownK8_ok 10 20) _ (lo := noLo) 10 _ LoOK.no) ?_
  intro T H K h
  unfold lh_pd at h
  split at h
  case h_2 => exact h.elim
  rename_i x0 b n cap i hT
  split at h
  case h_2 => exact h.elim
  rename_i x' m t c1 c2 c3 c4 c5 c6 c7 who t2 t3 n2 cap2 f bi hH
  obtain ⟨⟨⟨rfl, rfl, rfl, rfl, rfl, rfl⟩, hn⟩, h⟩ := h
  split at h
  · exact h.elim
  rename_i hc4
  skip
  generalize hr : dropRun2 ⟨c1, c2, c3, c4, c5, c6, c7⟩ who f (n2 - 0) 0 m = r at h
  refine ⟨[1, 5, 8, 13], [1, 5, 8], fun k T' H' => ∃ (j : Nat) (m' : PMem), k = n2 - j ∧ 0 ≤ j ∧ (j ≤ n2 ∨ j = 0) ∧ T' = pdT b n2 cap2 (j : Int) ∧ H'.bl = [.obj (.mem m'), lawEnv c1 c2 c3 c4 c5 c6 c7 who, litB, usB n2 cap2 f, bi] ∧ (∀ k ∈ H'.wr, k ∈ 0 :: H.wr) ∧
    dropRun2 ⟨c1, c2, c3, c4, c5, c6, c7⟩ who f (n2 - j) j m' = r, ⟨n2 - 0, 0, m, rfl, by omega, by omega, hT, hH, fun k hk => by simp [hk], hr⟩, ?_⟩
  rintro k T' ⟨bl, wr⟩ ⟨j, m', rfl, hj0, hj, rfl, hbl, hwr, hrun⟩
  simp only at hbl hwr
  subst hbl
  rw [pd_ev]
  have hi : IntKind.i64.wrap ((j : Int) + 1) = ((j + 1 : Nat) : Int) := by rw [IntKind.wrap_i64]; omega
  by_cases hlt : j < n2
  · have h1 : decide ((j : Int) < (n2 : Int)) = true := by simp; omega
    have h2 : decide (0 ≤ (j : Int) ∧ (j : Int) < (n2 : Int)) = true := by simp; omega
    obtain ⟨q, hq⟩ : ∃ q, n2 - j = q + 1 := ⟨n2 - (j + 1), by omega⟩
    have hq' : q = n2 - (j + 1) := by omega
    rw [hq, dropRun2_succ] at hrun
    rw [h1, h2, hc4]
    simp only [cond_true, cond_false, Int.toNat_natCast]
    refine ⟨by omega, n2 - (j + 1), by omega, j + 1, _, rfl, by omega, by omega, by rw [hi], rfl, ?_, by rw [← hq']; exact hrun⟩
    intro k hk
    rcases List.mem_cons.1 hk with rfl | hk
    · simp
    · exact hwr k hk
  · have h1 : decide ((j : Int) < (n2 : Int)) = false := by simp; omega
    rw [h1]
    simp only [cond_false]
    have hz : n2 - j = 0 := by omega
    rw [hz, dropRun2_zero] at hrun
    subst hrun
    exact ⟨0 :: H.wr, hwr, h⟩

end Go.Proofs.YtfjnkneoddankaaGreat

/-
  A chunk of which nothing lives is free in the end: the laws' own watch.
-/
set_option linter.unusedVariables false
set_option linter.unusedSimpArgs false
set_option maxRecDepth 100000
namespace Go.Proofs.YtfjnkneoddankaaGreat
open Go Go.FL Go.Proofs

abbrev awC : PCfg := ⟨1, 20, 4, 20, 100, 600, 3⟩
def awB : Nat × (Nat → Int) × PMem := bldRun awC 0 2 false 7 0 (fun _ => 0) (arM 1 20 4 20)
def awD : PMem := dropRun2 awC 0 awB.2.1 6 0 awB.2.2

def awLo : Nat → Option LHd := fun k => match Nat.beq k 6 with
  | true => some lh_ab
  | false => some lh_ad

theorem awLoOK : LoOK Tryz.prog (tmpsF Tryz.prog 10) awLo (loopsF Tryz.prog 10) := by
  have h : loopsF Tryz.prog abF = [loopF Tryz.prog abF 0, loopF Tryz.prog abF 1] := by kernel_rfl
  have h0 : awLo (keyC (loopF Tryz.prog abF 0)) = some lh_ab := by kernel_rfl
  have h1 : awLo (keyC (loopF Tryz.prog abF 1)) = some lh_ad := by kernel_rfl
  show LoOK Tryz.prog (tmpsF Tryz.prog abF) awLo (loopsF Tryz.prog abF)
  rw [h]
  intro c hc hd he
  rcases List.mem_cons.1 hc with rfl | hc
  · rw [h0] at he; cases he; exact lh_ab_ok
  · have hc : c = loopF Tryz.prog abF 1 := by simpa using hc
    subst hc
    rw [h1] at he; cases he; exact lh_ad_ok

theorem awake_ev (K : Bool → Prop) : evL Tryz.prog ownK8 awLo 10 20 10 [] ⟨[], []⟩ (fun v _ => match v with | .c (.bool x) => K x | _ => False) =
    (((27 = 27 ∧ 32 = 32 ∧ (0 : Int) = 0) ∧ Nat.beq awB.1 0 = false) ∧ ∀ cap : Nat,
      ((27 = 27 ∧ 32 = 32 ∧ 32 = 32 ∧ (0 : Int) = 0 ∧ awB.1 = awB.1 ∧ cap = cap) ∧ Nat.ble 6 awB.1 = true ∧ awB.1 ≤ 1048576) ∧
      ((((0 : Int) ≤ 4 ∧ (4 : Int) ≤ 1000) ∧ roundsOk awC 4 comp0 awD = true) ∧ ∀ cap' : Nat, K true)) := by kernel_rfl

theorem aw_holds (K : Bool → Prop) (h : K true) : evL Tryz.prog ownK8 awLo 10 20 10 [] ⟨[], []⟩ (fun v _ => match v with | .c (.bool x) => K x | _ => False) := by
  have a1 : Nat.beq awB.1 0 = false := by kernel_rfl
  have a2 : Nat.ble 6 awB.1 = true := by kernel_rfl
  have a3 : Nat.ble awB.1 1048576 = true := by kernel_rfl
  have a4 : roundsOk awC 4 comp0 awD = true := by kernel_rfl
  exact (awake_ev K).mpr ⟨⟨⟨rfl, rfl, rfl⟩, a1⟩, fun cap => ⟨⟨⟨rfl, rfl, rfl, rfl, rfl, rfl⟩, a2, Nat.le_of_ble_eq_true a3⟩, ⟨⟨by decide, by decide⟩, a4⟩, fun _ => h⟩⟩

def h_awake : Hd := fun args H K => match args with
  | [] => K (.c (.bool true)) H
  | _ => False

theorem h_awake_ok : HOK 10 h_awake := by
  intro args H K h
  unfold h_awake at h
  split at h
  case h_2 => exact h.elim
  refine objs_of (ns := []) (xs := []) rfl (by simp) List.nodup_nil (args₁ := []) (fun s s₁ vs _ h => RelVs.low rfl h) (evL_ok fnOK mixed ownK8_ok awLoOK (aw_holds (fun x => K (.c (.bool x)) H) h)) ?_
  intro v H₁ hk
  split at hk
  · exact ⟨[], [], [], [], _, rfl, trivial, trivial, fun s₁ s' v' _ _ hr => RelV.low rfl hr, hk⟩
  · exact hk.elim

def tabK9 : List (FuncId × Hd) := (10, h_awake) :: tabK8
def ownK9 : FuncId → Option Hd := look tabK9
theorem allK9 : AllOK tabK9 := ⟨h_awake_ok, allK8⟩
theorem ownK9_ok : OwnOK Tryz.prog ownK9 := look_ok allK9

end Go.Proofs.YtfjnkneoddankaaGreat

/-
  The laws' loops: objects are made, and kept in a list; they are let go.
-/
set_option linter.unusedVariables false
set_option linter.unusedSimpArgs false
set_option maxRecDepth 100000
namespace Go.Proofs.YtfjnkneoddankaaGreat
open Go Go.FL Go.Proofs

abbrev qbF : FuncId := 7
abbrev qbTA (sz : Int) (b : Int) (rdy : Bool) (i : Int) : Tm := [(1, .c (.int .i64 b)), (2, .c (.bool rdy)), (7, .c (.ptr 1 0)), (9, .c (.int .i64 sz)), (10, .c (.slice 2 0 0 0)), (11, .c (cI i))]
abbrev qbTB (sz : Int) (b : Int) (rdy : Bool) (k n cap : Nat) (i : Int) : Tm := [(1, .c (.int .i64 b)), (2, .c (.bool rdy)), (7, .c (.ptr 1 0)), (9, .c (.int .i64 sz)), (10, .c (.slice k 0 n cap)), (11, .c (cI i))]

theorem qbA_ev (c1 c2 c3 c4 c5 c6 c7 who : Int) (sz : Int) (b : Int) (rdy : Bool) (i : Int) (m : PMem) (wr : List Nat) (k : X → Tm → LH → Prop) :
    evC Tryz.prog (evF Tryz.prog ownK9 10 20) (tmpsF Tryz.prog qbF) noLo 10 (loopF Tryz.prog qbF 0) (qbTA sz b rdy i) ⟨[.obj (.mem m), lawEnv c1 c2 c3 c4 c5 c6 c7 who, litB], wr⟩ (fun x T H => k x (Tm.norm [1, 2, 7, 9, 10, 11] T) H) =
    (bif decide (i < 26) then bif decide ((makeM ⟨c1, c2, c3, c4, c5, c6, c7⟩ who m sz false).1.e = 0) then (((0 : Nat) = 0 ∧ (0 : Nat) = 0) ∧ ∀ more : Nat, k .normal (qbTB sz b rdy 5 1 (1 + more) (IntKind.wrap .i64 (i + 1))) ⟨[.obj (.mem (makeM ⟨c1, c2, c3, c4, c5, c6, c7⟩ who m sz false).2), lawEnv c1 c2 c3 c4 c5 c6 c7 who, litB, .cells 34 [cI (makeM ⟨c1, c2, c3, c4, c5, c6, c7⟩ who m sz false).1.e, cU (makeM ⟨c1, c2, c3, c4, c5, c6, c7⟩ who m sz false).1.h, cI (makeM ⟨c1, c2, c3, c4, c5, c6, c7⟩ who m sz false).1.v, cI (makeM ⟨c1, c2, c3, c4, c5, c6, c7⟩ who m sz false).1.st], .cells 32 [cU (makeM ⟨c1, c2, c3, c4, c5, c6, c7⟩ who m sz false).1.h], usB 1 (1 + more) (fun _ => (makeM ⟨c1, c2, c3, c4, c5, c6, c7⟩ who m sz false).1.h)], 3 :: 0 :: wr⟩)
      else k .normal (qbTA sz b rdy (IntKind.wrap .i64 (i + 1))) ⟨[.obj (.mem (makeM ⟨c1, c2, c3, c4, c5, c6, c7⟩ who m sz false).2), lawEnv c1 c2 c3 c4 c5 c6 c7 who, litB, .cells 34 [cI (makeM ⟨c1, c2, c3, c4, c5, c6, c7⟩ who m sz false).1.e, cU (makeM ⟨c1, c2, c3, c4, c5, c6, c7⟩ who m sz false).1.h, cI (makeM ⟨c1, c2, c3, c4, c5, c6, c7⟩ who m sz false).1.v, cI (makeM ⟨c1, c2, c3, c4, c5, c6, c7⟩ who m sz false).1.st]], 3 :: 0 :: wr⟩
    else k (.exit 0) (qbTA sz b rdy i) ⟨[.obj (.mem m), lawEnv c1 c2 c3 c4 c5 c6 c7 who, litB], wr⟩) := by kernel_rfl

theorem qbB_ev (c1 c2 c3 c4 c5 c6 c7 who : Int) (sz : Int) (b : Int) (rdy : Bool) (i : Int) (n cap : Nat) (f : Nat → Int) (m : PMem) (wr : List Nat) (k : X → Tm → LH → Prop) :
    evC Tryz.prog (evF Tryz.prog ownK9 10 20) (tmpsF Tryz.prog qbF) noLo 10 (loopF Tryz.prog qbF 0) (qbTB sz b rdy 3 n cap i) ⟨[.obj (.mem m), lawEnv c1 c2 c3 c4 c5 c6 c7 who, litB, usB n cap f], wr⟩ (fun x T H => k x (Tm.norm [1, 2, 7, 9, 10, 11] T) H) =
    (bif decide (i < 26) then bif decide ((makeM ⟨c1, c2, c3, c4, c5, c6, c7⟩ who m sz false).1.e = 0) then (((n = n ∧ cap = cap) ∧ n ≤ 1048576) ∧ bif decide (n + 1 ≤ cap) then
        k .normal (qbTB sz b rdy 3 (n + 1) cap (IntKind.wrap .i64 (i + 1))) ⟨[.obj (.mem (makeM ⟨c1, c2, c3, c4, c5, c6, c7⟩ who m sz false).2), lawEnv c1 c2 c3 c4 c5 c6 c7 who, litB, usB (n + 1) cap (fun j => bif Nat.beq j (n) then (makeM ⟨c1, c2, c3, c4, c5, c6, c7⟩ who m sz false).1.h else f j), .cells 34 [cI (makeM ⟨c1, c2, c3, c4, c5, c6, c7⟩ who m sz false).1.e, cU (makeM ⟨c1, c2, c3, c4, c5, c6, c7⟩ who m sz false).1.h, cI (makeM ⟨c1, c2, c3, c4, c5, c6, c7⟩ who m sz false).1.v, cI (makeM ⟨c1, c2, c3, c4, c5, c6, c7⟩ who m sz false).1.st], .cells 32 [cU (makeM ⟨c1, c2, c3, c4, c5, c6, c7⟩ who m sz false).1.h]], 3 :: 4 :: 0 :: wr⟩
        else ∀ more : Nat, k .normal (qbTB sz b rdy 6 (n + 1) (n + 1 + more) (IntKind.wrap .i64 (i + 1))) ⟨[.obj (.mem (makeM ⟨c1, c2, c3, c4, c5, c6, c7⟩ who m sz false).2), lawEnv c1 c2 c3 c4 c5 c6 c7 who, litB, usB n cap f, .cells 34 [cI (makeM ⟨c1, c2, c3, c4, c5, c6, c7⟩ who m sz false).1.e, cU (makeM ⟨c1, c2, c3, c4, c5, c6, c7⟩ who m sz false).1.h, cI (makeM ⟨c1, c2, c3, c4, c5, c6, c7⟩ who m sz false).1.v, cI (makeM ⟨c1, c2, c3, c4, c5, c6, c7⟩ who m sz false).1.st], .cells 32 [cU (makeM ⟨c1, c2, c3, c4, c5, c6, c7⟩ who m sz false).1.h], usB (n + 1) (n + 1 + more) (fun j => bif Nat.beq j (n) then (makeM ⟨c1, c2, c3, c4, c5, c6, c7⟩ who m sz false).1.h else f j)], 4 :: 0 :: wr⟩)
      else k .normal (qbTB sz b rdy 3 n cap (IntKind.wrap .i64 (i + 1))) ⟨[.obj (.mem (makeM ⟨c1, c2, c3, c4, c5, c6, c7⟩ who m sz false).2), lawEnv c1 c2 c3 c4 c5 c6 c7 who, litB, usB n cap f, .cells 34 [cI (makeM ⟨c1, c2, c3, c4, c5, c6, c7⟩ who m sz false).1.e, cU (makeM ⟨c1, c2, c3, c4, c5, c6, c7⟩ who m sz false).1.h, cI (makeM ⟨c1, c2, c3, c4, c5, c6, c7⟩ who m sz false).1.v, cI (makeM ⟨c1, c2, c3, c4, c5, c6, c7⟩ who m sz false).1.st]], 4 :: 0 :: wr⟩
    else k (.exit 0) (qbTB sz b rdy 3 n cap i) ⟨[.obj (.mem m), lawEnv c1 c2 c3 c4 c5 c6 c7 who, litB, usB n cap f], wr⟩) := by kernel_rfl

def lh_qb : LHd := fun T H K => match Tm.norm [1, 2, 7, 9, 10, 11] T with
  | [(1, .c (.int .i64 b)), (2, .c (.bool rdy)), (7, .c (.ptr 1 0)), (9, .c (.int .i64 sz)), (10, .c (.slice 2 0 0 0)), (11, .c (.int .i64 i))] => match H.bl with
    | [.obj (.mem m), .cells t [.int .i64 c1, .int .i64 c2, .int .i64 c3, .int .i64 c4, .int .i64 c5, .int .i64 c6, .int .i64 c7, .ptr 0 0, .int .i64 who], .cells t2 []] =>
      ((t = 27 ∧ t2 = 32 ∧ i = 0) ∧ Nat.beq (bldRun ⟨c1, c2, c3, c4, c5, c6, c7⟩ who sz true 26 0 (fun _ => 0) m).1 0 = false) ∧
      ∀ cap : Nat, K (.exit 0) [(1, .c (.int .i64 b)), (2, .c (.bool rdy)), (7, .c (.ptr 1 0)), (9, .c (.int .i64 sz)), (10, .c (.slice 3 0 (bldRun ⟨c1, c2, c3, c4, c5, c6, c7⟩ who sz true 26 0 (fun _ => 0) m).1 cap))]
        ⟨[.obj (.mem (bldRun ⟨c1, c2, c3, c4, c5, c6, c7⟩ who sz true 26 0 (fun _ => 0) m).2.2), lawEnv c1 c2 c3 c4 c5 c6 c7 who, litB, usB (bldRun ⟨c1, c2, c3, c4, c5, c6, c7⟩ who sz true 26 0 (fun _ => 0) m).1 cap (bldRun ⟨c1, c2, c3, c4, c5, c6, c7⟩ who sz true 26 0 (fun _ => 0) m).2.1], 0 :: 3 :: 4 :: H.wr⟩
    | _ => False
  | _ => False

abbrev qbSt (c1 c2 c3 c4 c5 c6 c7 who : Int) (sz : Int) (b : Int) (rdy : Bool) : Nat → Nat → (Nat → Int) → PMem → Int → Tm → List LB → Prop
  | 0, _, _, m, i, T, bl => T = qbTA sz b rdy i ∧ bl = [.obj (.mem m), lawEnv c1 c2 c3 c4 c5 c6 c7 who, litB]
  | n + 1, cap, f, m, i, T, bl => T = qbTB sz b rdy 3 (n + 1) cap i ∧ bl = [.obj (.mem m), lawEnv c1 c2 c3 c4 c5 c6 c7 who, litB, usB (n + 1) cap f]

theorem lh_qb_ok : BodyOK Tryz.prog (tmpsF Tryz.prog qbF) (.loop (loopF Tryz.prog qbF 0)) lh_qb := by
  refine loopR_ok (evC_ok fnOK mixed (evF_ok fnOK mixed ownK9_ok 10 20) _ (lo := noLo) 10 _ LoOK.no) ?_
  intro T H K h
  unfold lh_qb at h
  split at h
  case h_2 => exact h.elim
  rename_i x0 b rdy sz i hT
  split at h
  case h_2 => exact h.elim
  rename_i x' m t c1 c2 c3 c4 c5 c6 c7 who t2 hH
  obtain ⟨⟨⟨rfl, rfl, rfl⟩, hne⟩, h⟩ := h
  have hl3 : H.bl.length = 3 := by rw [hH]; rfl
  rw [hl3]
  generalize hr : bldRun ⟨c1, c2, c3, c4, c5, c6, c7⟩ who sz true 26 0 (fun _ => 0) m = r at h hne
  refine ⟨[1, 2, 7, 9, 10, 11], fun k T' H' => ∃ (j n cap : Nat) (f : Nat → Int) (m' : PMem), k = 26 - j ∧ j ≤ 26 ∧ n ≤ j ∧ qbSt c1 c2 c3 c4 c5 c6 c7 who sz b rdy n cap f m' (j : Int) T' H'.bl ∧ (∀ k ∈ H'.wr, k ∈ 0 :: 3 :: 4 :: H.wr) ∧
    bldRun ⟨c1, c2, c3, c4, c5, c6, c7⟩ who sz true (26 - j) n f m' = r, ⟨26, 0, 0, 0, fun _ => 0, m, rfl, by omega, by omega, ⟨hT, hH⟩, fun k hk => by simp [hk], hr⟩, ?_⟩
  rintro k T' ⟨bl, wr⟩ ⟨j, n, cap, f, m, rfl, hj, hnj, hst, hwr, hrun⟩
  simp only at hwr
  have hi : IntKind.i64.wrap ((j : Int) + 1) = ((j + 1 : Nat) : Int) := by rw [IntKind.wrap_i64]; omega
  have sub : ∀ l : List Nat, (∀ k ∈ l, k = 0 ∨ k = 3 ∨ k = 4) → ∀ k ∈ l ++ wr, k ∈ 0 :: 3 :: 4 :: H.wr := by
    intro l hl k hk
    rcases List.mem_append.1 hk with hk | hk
    · rcases hl k hk with rfl | rfl | rfl <;> simp
    · exact hwr k hk
  by_cases hlt : j < 26
  · have h1 : decide ((j : Int) < 26) = true := by simp; omega
    obtain ⟨q, hq⟩ : ∃ q, 26 - j = q + 1 := ⟨26 - (j + 1), by omega⟩
    have hq' : q = 26 - (j + 1) := by omega
    rw [hq, bldRun_succ] at hrun
    cases n with
    | zero =>
      obtain ⟨rfl, hbl⟩ := hst
      simp only at hbl
      subst hbl
      rw [qbA_ev, h1]
      simp only [cond_true]
      cases hd : decide ((makeM ⟨c1, c2, c3, c4, c5, c6, c7⟩ who m sz false).1.e = 0) with
      | true =>
        rw [hd] at hrun
        simp only [Bool.not_true, Bool.and_false, cond_false] at hrun
        simp only [cond_true]
        refine ⟨⟨trivial, trivial⟩, fun more => ?_⟩
        refine ⟨26 - (j + 1), by omega, [0, 1, 2, 5], qbTB sz b rdy 3 (0 + 1) (1 + more) ((j + 1 : Nat) : Int), ⟨[.obj (.mem (makeM ⟨c1, c2, c3, c4, c5, c6, c7⟩ who m sz false).2), lawEnv c1 c2 c3 c4 c5 c6 c7 who, litB, usB (0 + 1) (1 + more) (pushF 0 f (makeM ⟨c1, c2, c3, c4, c5, c6, c7⟩ who m sz false).1.h)], [3, 0] ++ wr⟩, ⟨rfl, ⟨⟨rfl, rfl⟩, ⟨rfl, rfl⟩, ⟨rfl, rfl⟩, ⟨rfl, rfl⟩, trivial⟩, ?_, fun _ hk => hk⟩, j + 1, 0 + 1, (1 + more), pushF 0 f (makeM ⟨c1, c2, c3, c4, c5, c6, c7⟩ who m sz false).1.h, (makeM ⟨c1, c2, c3, c4, c5, c6, c7⟩ who m sz false).2, rfl, by omega, by omega, ⟨rfl, rfl⟩, sub [3, 0] (by simp), by rw [← hq']; exact hrun⟩
        rw [hi]
        exact ⟨⟨rfl, rfl⟩, ⟨rfl, rfl⟩, ⟨rfl, rfl⟩, ⟨rfl, rfl⟩, ⟨rfl, rfl⟩, ⟨rfl, rfl⟩, trivial⟩
      | false =>
        rw [hd] at hrun
        simp only [Bool.not_false, Bool.and_true, Bool.true_and, cond_true] at hrun
        simp only [cond_false]
        refine ⟨26 - (j + 1), by omega, [0, 1, 2], qbTA sz b rdy ((j + 1 : Nat) : Int), ⟨[.obj (.mem (makeM ⟨c1, c2, c3, c4, c5, c6, c7⟩ who m sz false).2), lawEnv c1 c2 c3 c4 c5 c6 c7 who, litB], [3, 0] ++ wr⟩, ⟨rfl, ⟨⟨rfl, rfl⟩, ⟨rfl, rfl⟩, ⟨rfl, rfl⟩, trivial⟩, ?_, fun _ hk => hk⟩, j + 1, 0, 0, f, (makeM ⟨c1, c2, c3, c4, c5, c6, c7⟩ who m sz false).2, rfl, by omega, by omega, ⟨rfl, rfl⟩, sub [3, 0] (by simp), by rw [← hq']; exact hrun⟩
        rw [hi]
        exact ⟨⟨rfl, rfl⟩, ⟨rfl, rfl⟩, ⟨rfl, rfl⟩, ⟨rfl, rfl⟩, ⟨rfl, rfl⟩, ⟨rfl, rfl⟩, trivial⟩
    | succ n =>
      obtain ⟨rfl, hbl⟩ := hst
      simp only at hbl
      subst hbl
      rw [qbB_ev, h1]
      simp only [cond_true]
      cases hd : decide ((makeM ⟨c1, c2, c3, c4, c5, c6, c7⟩ who m sz false).1.e = 0) with
      | true =>
        rw [hd] at hrun
        simp only [Bool.not_true, Bool.and_false, cond_false] at hrun
        simp only [cond_true]
        refine ⟨⟨⟨trivial, trivial⟩, by omega⟩, ?_⟩
        cases hc : decide (n + 1 + 1 ≤ cap) with
        | true =>
          simp only [cond_true]
          refine ⟨26 - (j + 1), by omega, [0, 1, 2, 3], qbTB sz b rdy 3 ((n + 1) + 1) cap ((j + 1 : Nat) : Int), ⟨[.obj (.mem (makeM ⟨c1, c2, c3, c4, c5, c6, c7⟩ who m sz false).2), lawEnv c1 c2 c3 c4 c5 c6 c7 who, litB, usB ((n + 1) + 1) cap (pushF (n + 1) f (makeM ⟨c1, c2, c3, c4, c5, c6, c7⟩ who m sz false).1.h)], [3, 4, 0] ++ wr⟩, ⟨rfl, ⟨⟨rfl, rfl⟩, ⟨rfl, rfl⟩, ⟨rfl, rfl⟩, ⟨rfl, rfl⟩, trivial⟩, ?_, fun _ hk => hk⟩, j + 1, (n + 1) + 1, cap, pushF (n + 1) f (makeM ⟨c1, c2, c3, c4, c5, c6, c7⟩ who m sz false).1.h, (makeM ⟨c1, c2, c3, c4, c5, c6, c7⟩ who m sz false).2, rfl, by omega, by omega, ⟨rfl, rfl⟩, sub [3, 4, 0] (by simp), by rw [← hq']; exact hrun⟩
          rw [hi]
          exact ⟨⟨rfl, rfl⟩, ⟨rfl, rfl⟩, ⟨rfl, rfl⟩, ⟨rfl, rfl⟩, ⟨rfl, rfl⟩, ⟨rfl, rfl⟩, trivial⟩
        | false =>
          simp only [cond_false]
          intro more
          refine ⟨26 - (j + 1), by omega, [0, 1, 2, 6], qbTB sz b rdy 3 ((n + 1) + 1) (n + 1 + 1 + more) ((j + 1 : Nat) : Int), ⟨[.obj (.mem (makeM ⟨c1, c2, c3, c4, c5, c6, c7⟩ who m sz false).2), lawEnv c1 c2 c3 c4 c5 c6 c7 who, litB, usB ((n + 1) + 1) (n + 1 + 1 + more) (pushF (n + 1) f (makeM ⟨c1, c2, c3, c4, c5, c6, c7⟩ who m sz false).1.h)], [4, 0] ++ wr⟩, ⟨rfl, ⟨⟨rfl, rfl⟩, ⟨rfl, rfl⟩, ⟨rfl, rfl⟩, ⟨rfl, rfl⟩, trivial⟩, ?_, fun _ hk => hk⟩, j + 1, (n + 1) + 1, (n + 1 + 1 + more), pushF (n + 1) f (makeM ⟨c1, c2, c3, c4, c5, c6, c7⟩ who m sz false).1.h, (makeM ⟨c1, c2, c3, c4, c5, c6, c7⟩ who m sz false).2, rfl, by omega, by omega, ⟨rfl, rfl⟩, sub [4, 0] (by simp), by rw [← hq']; exact hrun⟩
          rw [hi]
          exact ⟨⟨rfl, rfl⟩, ⟨rfl, rfl⟩, ⟨rfl, rfl⟩, ⟨rfl, rfl⟩, ⟨rfl, rfl⟩, ⟨rfl, rfl⟩, trivial⟩
      | false =>
        rw [hd] at hrun
        simp only [Bool.not_false, Bool.and_true, Bool.true_and, cond_true] at hrun
        simp only [cond_false]
        refine ⟨26 - (j + 1), by omega, [0, 1, 2, 3], qbTB sz b rdy 3 (n + 1) cap ((j + 1 : Nat) : Int), ⟨[.obj (.mem (makeM ⟨c1, c2, c3, c4, c5, c6, c7⟩ who m sz false).2), lawEnv c1 c2 c3 c4 c5 c6 c7 who, litB, usB (n + 1) cap f], [4, 0] ++ wr⟩, ⟨rfl, ⟨⟨rfl, rfl⟩, ⟨rfl, rfl⟩, ⟨rfl, rfl⟩, ⟨rfl, rfl⟩, trivial⟩, ?_, fun _ hk => hk⟩, j + 1, n + 1, cap, f, (makeM ⟨c1, c2, c3, c4, c5, c6, c7⟩ who m sz false).2, rfl, by omega, by omega, ⟨rfl, rfl⟩, sub [4, 0] (by simp), by rw [← hq']; exact hrun⟩
        rw [hi]
        exact ⟨⟨rfl, rfl⟩, ⟨rfl, rfl⟩, ⟨rfl, rfl⟩, ⟨rfl, rfl⟩, ⟨rfl, rfl⟩, ⟨rfl, rfl⟩, trivial⟩
  · have h1 : decide ((j : Int) < 26) = false := by simp; omega
    have hz : 26 - j = 0 := by omega
    rw [hz, bldRun_zero] at hrun
    subst hrun
    cases n with
    | zero => cases hne
    | succ n =>
      obtain ⟨rfl, hbl⟩ := hst
      simp only at hbl
      subst hbl
      rw [qbB_ev, h1]
      simp only [cond_false]
      exact ⟨[0, 1, 2, 3], [(1, .c (.int .i64 b)), (2, .c (.bool rdy)), (7, .c (.ptr 1 0)), (9, .c (.int .i64 sz)), (10, .c (.slice 3 0 (n + 1) cap))], ⟨[.obj (.mem m), lawEnv c1 c2 c3 c4 c5 c6 c7 who, litB, usB (n + 1) cap f], 0 :: 3 :: 4 :: H.wr⟩, ⟨rfl, ⟨⟨rfl, rfl⟩, ⟨rfl, rfl⟩, ⟨rfl, rfl⟩, ⟨rfl, rfl⟩, trivial⟩, ⟨⟨rfl, rfl⟩, ⟨rfl, rfl⟩, ⟨rfl, rfl⟩, ⟨rfl, rfl⟩, ⟨rfl, rfl⟩, trivial⟩, hwr⟩, h cap⟩

abbrev qdF : FuncId := 7
abbrev qdT (b : Int) (rdy : Bool) (sz : Int) (n cap : Nat) (i : Int) : Tm := [(1, .c (.int .i64 b)), (2, .c (.bool rdy)), (7, .c (.ptr 1 0)), (9, .c (.int .i64 sz)), (10, .c (.slice 3 0 n cap)), (13, .c (cI i))]

theorem qd_ev (c1 c2 c3 c4 c5 c6 c7 who : Int) (b : Int) (rdy : Bool) (sz : Int) (i : Int) (n cap : Nat) (f : Nat → Int) (m : PMem) (wr : List Nat) (k : X → Tm → LH → Prop) :
    evC Tryz.prog (evF Tryz.prog ownK9 10 20) (tmpsF Tryz.prog qdF) noLo 10 (loopF Tryz.prog qdF 1) (qdT b rdy sz n cap i) ⟨[.obj (.mem m), lawEnv c1 c2 c3 c4 c5 c6 c7 who, litB, usB n cap f], wr⟩ (fun x T H => k x (Tm.norm [1, 2, 7, 9, 10, 13] T) H) =
    (bif decide (i < (n : Int)) then bif decide (0 ≤ i ∧ i < (n : Int)) then (i.toNat < n) ∧ bif decide (c4 = 0) then False else
        k .normal (qdT b rdy sz n cap (IntKind.wrap .i64 (i + 1))) ⟨[.obj (.mem (dropdM ⟨c1, c2, c3, c4, c5, c6, c7⟩ who m (f i.toNat) false).2), lawEnv c1 c2 c3 c4 c5 c6 c7 who, litB, usB n cap f], 0 :: wr⟩ else False
    else k (.exit 2) (qdT b rdy sz n cap i) ⟨[.obj (.mem m), lawEnv c1 c2 c3 c4 c5 c6 c7 who, litB, usB n cap f], wr⟩) := by kernel_rfl

def lh_qd : LHd := fun T H K => match Tm.norm [1, 2, 7, 9, 10, 13] T with
  | [(1, .c (.int .i64 b)), (2, .c (.bool rdy)), (7, .c (.ptr 1 0)), (9, .c (.int .i64 sz)), (10, .c (.slice 3 0 n cap)), (13, .c (.int .i64 i))] => match H.bl with
    | [.obj (.mem m), .cells t [.int .i64 c1, .int .i64 c2, .int .i64 c3, .int .i64 c4, .int .i64 c5, .int .i64 c6, .int .i64 c7, .ptr 0 0, .int .i64 who], .cells t2 [], .rows t3 1 n2 cap2 [.int .u64 f]] =>
      ((t = 27 ∧ t2 = 32 ∧ t3 = 32 ∧ i = 1 ∧ n2 = n ∧ cap2 = cap) ∧ n ≤ 1048576) ∧ (match decide (c4 = 0) with
      | true => False
      | false => K (.exit 2) [(1, .c (.int .i64 b)), (2, .c (.bool rdy)), (7, .c (.ptr 1 0)), (9, .c (.int .i64 sz)), (10, .c (.slice 3 0 n cap))] ⟨[.obj (.mem (dropRun2 ⟨c1, c2, c3, c4, c5, c6, c7⟩ who f (n - 1) 1 m)), lawEnv c1 c2 c3 c4 c5 c6 c7 who, litB, usB n cap f], 0 :: H.wr⟩)
    | _ => False
  | _ => False

theorem lh_qd_ok : BodyOK Tryz.prog (tmpsF Tryz.prog qdF) (.loop (loopF Tryz.prog qdF 1)) lh_qd := by
  refine loopN_ok (evC_ok fnOK mixed (evF_ok fnOK mixed ownK9_ok 10 20) _ (lo := noLo) 10 _ LoOK.no) ?_
  intro T H K h
  unfold lh_qd at h
  split at h
  case h_2 => exact h.elim
  rename_i x0 b rdy sz n cap i hT
  split at h
  case h_2 => exact h.elim
  rename_i x' m t c1 c2 c3 c4 c5 c6 c7 who t2 t3 n2 cap2 f hH
  obtain ⟨⟨⟨rfl, rfl, rfl, rfl, rfl, rfl⟩, hn⟩, h⟩ := h
  split at h
  · exact h.elim
  rename_i hc4
  skip
  generalize hr : dropRun2 ⟨c1, c2, c3, c4, c5, c6, c7⟩ who f (n2 - 1) 1 m = r at h
  refine ⟨[1, 2, 7, 9, 10, 13], [1, 2, 7, 9, 10], fun k T' H' => ∃ (j : Nat) (m' : PMem), k = n2 - j ∧ 1 ≤ j ∧ (j ≤ n2 ∨ j = 1) ∧ T' = qdT b rdy sz n2 cap2 (j : Int) ∧ H'.bl = [.obj (.mem m'), lawEnv c1 c2 c3 c4 c5 c6 c7 who, litB, usB n2 cap2 f] ∧ (∀ k ∈ H'.wr, k ∈ 0 :: H.wr) ∧
    dropRun2 ⟨c1, c2, c3, c4, c5, c6, c7⟩ who f (n2 - j) j m' = r, ⟨n2 - 1, 1, m, rfl, by omega, by omega, hT, hH, fun k hk => by simp [hk], hr⟩, ?_⟩
  rintro k T' ⟨bl, wr⟩ ⟨j, m', rfl, hj0, hj, rfl, hbl, hwr, hrun⟩
  simp only at hbl hwr
  subst hbl
  rw [qd_ev]
  have hi : IntKind.i64.wrap ((j : Int) + 1) = ((j + 1 : Nat) : Int) := by rw [IntKind.wrap_i64]; omega
  by_cases hlt : j < n2
  · have h1 : decide ((j : Int) < (n2 : Int)) = true := by simp; omega
    have h2 : decide (0 ≤ (j : Int) ∧ (j : Int) < (n2 : Int)) = true := by simp; omega
    obtain ⟨q, hq⟩ : ∃ q, n2 - j = q + 1 := ⟨n2 - (j + 1), by omega⟩
    have hq' : q = n2 - (j + 1) := by omega
    rw [hq, dropRun2_succ] at hrun
    rw [h1, h2, hc4]
    simp only [cond_true, cond_false, Int.toNat_natCast]
    refine ⟨by omega, n2 - (j + 1), by omega, j + 1, _, rfl, by omega, by omega, by rw [hi], rfl, ?_, by rw [← hq']; exact hrun⟩
    intro k hk
    rcases List.mem_cons.1 hk with rfl | hk
    · simp
    · exact hwr k hk
  · have h1 : decide ((j : Int) < (n2 : Int)) = false := by simp; omega
    rw [h1]
    simp only [cond_false]
    have hz : n2 - j = 0 := by omega
    rw [hz, dropRun2_zero] at hrun
    subst hrun
    exact ⟨0 :: H.wr, hwr, h⟩

end Go.Proofs.YtfjnkneoddankaaGreat

/-
  Steps of the program's objects, as the evaluator has them.
-/
set_option linter.unusedVariables false
set_option linter.unusedSimpArgs false
set_option maxRecDepth 100000
namespace Go.FL

def inStepK {R : Type} (bot : R) (tw : (Prop → Prop) → R → R) (c : PCfg) (who : Int) (x : PIn) (m : PMem) (K : Bool → PIn → PMem → R) : R :=
  bif decide (x.pc = 0) then
   K false ⟨1, ((PMem.eLoad m who 0).fst)⟩ ((PMem.eLoad m who 0).snd)
  else
   bif decide (x.pc = 1) then
    K false ⟨2, (x.epoch)⟩ (PMem.eStore m who (wrI (6 + who)) (wrU (x.epoch + 1)))
   else
    bif decide ((PMem.eLoad m who 0).fst = x.epoch) then
     K true ⟨(x.pc), (x.epoch)⟩ ((PMem.eLoad m who 0).snd)
    else
     K false ⟨1, ((PMem.eLoad m who 0).fst)⟩ ((PMem.eLoad m who 0).snd)

def inStep (c : PCfg) (who : Int) (x : PIn) (m : PMem) : Bool × PIn × PMem := inStepK (false, x, m) twV c who x m fun r x m => (r, x, m)

theorem inStepK_eq (c : PCfg) (who : Int) (x : PIn) (m : PMem) (K : Bool → PIn → PMem → Prop) : inStepK False twP c who x m K = K (inStep c who x m).1 (inStep c who x m).2.1 (inStep c who x m).2.2 := by
  show _ = app3 K (inStepK (false, x, m) twV c who x m fun r x m => (r, x, m))
  unfold inStepK
  repeat' first
    | refine cond3 ?_ ?_
    | refine tw3 (fun p => by simp only [and_self]) ?_
    | exact rfl

end Go.FL

/-
  The contracts of steps.
-/
set_option linter.unusedVariables false
set_option linter.unusedSimpArgs false
set_option maxRecDepth 100000
namespace Go.Proofs.YtfjnkneoddankaaGreat
open Go Go.FL Go.Proofs

theorem inStep_ev (c : PCfg) (who : Int) (x : PIn) (m : PMem) (K : Bool → PIn → PMem → Prop) : evF Tryz.prog ownK9 10 20 27 [.c (.ptr 0 0), envV c 1 who] ⟨cat [(true, .in_ x), (false, .mem m)] 0, []⟩ (fun v H₁ => match v with | .c (.bool r) => (shIn H₁ 0 fun x' c' => shF H₁ 1 fun o c2 => match o with | .mem m' => (match chkAll [(true, .in_ x), (false, .mem m)] [c', c2] [] with | true => K r x' m' | false => False) | _ => False) | _ => False) = inStepK False twP c who x m K := by kernel_rfl

def h_inStep0 : Hd := fun args H K => match args with
  | [.c (.ptr p0 0), .agg [.int .i64 c1, .int .i64 c2, .int .i64 c3, .int .i64 c4, .int .i64 c5, .int .i64 c6, .int .i64 c7, .ptr m 0, .int .i64 who]] => match H.get p0, H.get m with
    | some (.obj (.in_ x)), some (.obj (.mem pm)) => K (.c (.bool (inStep ⟨c1, c2, c3, c4, c5, c6, c7⟩ who x pm).1)) ((H.put p0 (.obj (.in_ (inStep ⟨c1, c2, c3, c4, c5, c6, c7⟩ who x pm).2.1))).put m (.obj (.mem (inStep ⟨c1, c2, c3, c4, c5, c6, c7⟩ who x pm).2.2)))
    | _, _ => False
  | _ => False

theorem h_inStep0_ok : HOK 27 h_inStep0 := by
  intro args H K h
  unfold h_inStep0 at h
  split at h
  · rename_i p0 c1 c2 c3 c4 c5 c6 c7 m who
    split at h
    · rename_i x pm hp hm
      have e := (inStep_ev ⟨c1, c2, c3, c4, c5, c6, c7⟩ who x pm (fun r x' m' => K (.c (.bool r)) ((H.put p0 (.obj (.in_ x'))).put m (.obj (.mem m'))))).mpr (by rw [inStepK_eq]; exact h)
      exact step_ok ownK9_ok (c := ⟨c1, c2, c3, c4, c5, c6, c7⟩) (mk := .in_) (fun _ _ _ => shIn_ok) (by intro hh; cases hh) hp hm e
    · exact h.elim
  · exact h.elim

def h_inStep : Hd := orNil h_inStep0

theorem h_inStep_ok : HOK 27 h_inStep := orNil_ok ownK9_ok h_inStep0_ok (fuel := 10) (d := 20) (fun c who pm K h => cast (by kernel_rfl) h)

def tabK10 : List (FuncId × Hd) := [(27, h_inStep)] ++ tabK9

def ownK10 : FuncId → Option Hd := look tabK10

theorem allK10 : AllOK tabK10 := ⟨h_inStep_ok, allK9⟩

theorem ownK10_ok : OwnOK Tryz.prog ownK10 := look_ok allK10

end Go.Proofs.YtfjnkneoddankaaGreat

/-
  A pin as a block by itself.
-/
set_option linter.unusedVariables false
set_option linter.unusedSimpArgs false
set_option maxRecDepth 100000
namespace Go.Proofs.YtfjnkneoddankaaGreat
open Go Go.FL Go.Proofs

def h_inRaw : Hd := fun args H K => match args with
  | .c (.ptr p 0) :: r => match H.get p with
    | some (.cells 59 [.int .i64 a, .int .u64 b]) => h_inStep (.c (.ptr p 0) :: r) ⟨lset H.bl p (.obj (.in_ ⟨a, b⟩)), H.wr⟩ K
    | _ => h_inStep (.c (.ptr p 0) :: r) H K
  | args => h_inStep args H K

theorem h_inRaw_ok : HOK 27 h_inRaw := by
  intro args H K h
  unfold h_inRaw at h
  split at h
  · rename_i p r
    split at h
    · rename_i a b hg
      obtain ⟨h1, h2⟩ := h_inStep_ok _ _ _ h
      exact ⟨h1, CSpec.fold (x := .in_ ⟨a, b⟩) hg rfl rfl h2⟩
    · exact h_inStep_ok _ _ _ h
  · exact h_inStep_ok _ _ _ h

def tabK11 : List (FuncId × Hd) := (27, h_inRaw) :: tabK10
def ownK11 : FuncId → Option Hd := look tabK11
theorem allK11 : AllOK tabK11 := ⟨h_inRaw_ok, allK10⟩
theorem ownK11_ok : OwnOK Tryz.prog ownK11 := look_ok allK11

end Go.Proofs.YtfjnkneoddankaaGreat

/-
  A chunk that was evacuated while a thread is pinned: the law's walk.
-/
set_option linter.unusedVariables false
set_option linter.unusedSimpArgs false
set_option maxRecDepth 100000
namespace Go.FL

def pinRun (c : PCfg) (who : Int) : Nat → PIn → PMem → PIn × PMem
  | 0, x, m => (x, m)
  | k + 1, x, m => bif !(inStep c who x m).1 then pinRun c who k (inStep c who x m).2.1 (inStep c who x m).2.2 else ((inStep c who x m).2.1, (inStep c who x m).2.2)

theorem pinRun_succ (c : PCfg) (who : Int) (k : Nat) (x : PIn) (m : PMem) : pinRun c who (k + 1) x m =
    bif !(inStep c who x m).1 then pinRun c who k (inStep c who x m).2.1 (inStep c who x m).2.2 else ((inStep c who x m).2.1, (inStep c who x m).2.2) := rfl
theorem pinRun_zero (c : PCfg) (who : Int) (x : PIn) (m : PMem) : pinRun c who 0 x m = (x, m) := rfl

attribute [irreducible] pinRun

end Go.FL

namespace Go.Proofs.YtfjnkneoddankaaGreat
open Go Go.FL Go.Proofs

abbrev piT (b : Int) (n cap : Nat) (i : Int) : Tm := [(1, .c (cI b)), (5, .c (.ptr 1 0)), (8, .c (.slice 3 0 n cap)), (11, .c (.ptr 4 0)), (12, .c (cI i))]
abbrev inRawB (x : PIn) : LB := .cells 59 [cI x.pc, cU x.epoch]

theorem piR_ev (c1 c2 c3 c4 c5 c6 c7 who b i : Int) (n cap : Nat) (f : Nat → Int) (x : PIn) (m : PMem) (wr : List Nat) (k : X → Tm → LH → Prop) :
    evC Tryz.prog (evF Tryz.prog ownK11 10 20) (tmpsF Tryz.prog pbF) noLo 10 (loopF Tryz.prog pbF 1) (piT b n cap i) ⟨[.obj (.mem m), lawEnv c1 c2 c3 c4 c5 c6 c7 who, litB, usB n cap f, inRawB x], wr⟩ (fun x T H => k x (Tm.norm [1,5,8,11,12] T) H) =
    (bif decide (i < 9) then bif !(inStep ⟨c1, c2, c3, c4, c5, c6, c7⟩ who x m).1 then
      k .normal (piT b n cap (IntKind.wrap .i64 (i + 1))) ⟨[.obj (.mem (inStep ⟨c1, c2, c3, c4, c5, c6, c7⟩ who x m).2.2), lawEnv c1 c2 c3 c4 c5 c6 c7 who, litB, usB n cap f, .obj (.in_ (inStep ⟨c1, c2, c3, c4, c5, c6, c7⟩ who x m).2.1)], 0 :: 4 :: wr⟩
      else k (.exit 2) (piT b n cap i) ⟨[.obj (.mem (inStep ⟨c1, c2, c3, c4, c5, c6, c7⟩ who x m).2.2), lawEnv c1 c2 c3 c4 c5 c6 c7 who, litB, usB n cap f, .obj (.in_ (inStep ⟨c1, c2, c3, c4, c5, c6, c7⟩ who x m).2.1)], 0 :: 4 :: wr⟩
    else k (.exit 2) (piT b n cap i) ⟨[.obj (.mem m), lawEnv c1 c2 c3 c4 c5 c6 c7 who, litB, usB n cap f, inRawB x], wr⟩) := by kernel_rfl

theorem piO_ev (c1 c2 c3 c4 c5 c6 c7 who b i : Int) (n cap : Nat) (f : Nat → Int) (x : PIn) (m : PMem) (wr : List Nat) (k : X → Tm → LH → Prop) :
    evC Tryz.prog (evF Tryz.prog ownK11 10 20) (tmpsF Tryz.prog pbF) noLo 10 (loopF Tryz.prog pbF 1) (piT b n cap i) ⟨[.obj (.mem m), lawEnv c1 c2 c3 c4 c5 c6 c7 who, litB, usB n cap f, .obj (.in_ x)], wr⟩ (fun x T H => k x (Tm.norm [1,5,8,11,12] T) H) =
    (bif decide (i < 9) then bif !(inStep ⟨c1, c2, c3, c4, c5, c6, c7⟩ who x m).1 then
      k .normal (piT b n cap (IntKind.wrap .i64 (i + 1))) ⟨[.obj (.mem (inStep ⟨c1, c2, c3, c4, c5, c6, c7⟩ who x m).2.2), lawEnv c1 c2 c3 c4 c5 c6 c7 who, litB, usB n cap f, .obj (.in_ (inStep ⟨c1, c2, c3, c4, c5, c6, c7⟩ who x m).2.1)], 0 :: 4 :: wr⟩
      else k (.exit 2) (piT b n cap i) ⟨[.obj (.mem (inStep ⟨c1, c2, c3, c4, c5, c6, c7⟩ who x m).2.2), lawEnv c1 c2 c3 c4 c5 c6 c7 who, litB, usB n cap f, .obj (.in_ (inStep ⟨c1, c2, c3, c4, c5, c6, c7⟩ who x m).2.1)], 0 :: 4 :: wr⟩
    else k (.exit 2) (piT b n cap i) ⟨[.obj (.mem m), lawEnv c1 c2 c3 c4 c5 c6 c7 who, litB, usB n cap f, .obj (.in_ x)], wr⟩) := by kernel_rfl

def inB : Nat → PIn → LB
  | 0, x => inRawB x
  | _ + 1, x => .obj (.in_ x)

def lh_pi : LHd := fun T H K => match Tm.norm [1,5,8,11,12] T with
  | [(1, .c (.int .i64 b)), (5, .c (.ptr 1 0)), (8, .c (.slice 3 0 n cap)), (11, .c (.ptr 4 0)), (12, .c (.int .i64 i))] => match H.bl with
    | [.obj (.mem m), .cells t [.int .i64 c1, .int .i64 c2, .int .i64 c3, .int .i64 c4, .int .i64 c5, .int .i64 c6, .int .i64 c7, .ptr 0 0, .int .i64 who], .cells t2 [], .rows t3 1 n2 cap2 [.int .u64 f], .cells t4 [.int .i64 pc, .int .u64 ep]] =>
      ((t = 27 ∧ t2 = 32 ∧ t3 = 32 ∧ t4 = 59 ∧ i = 0 ∧ n2 = n ∧ cap2 = cap)) ∧
      K (.exit 2) [(1, .c (cI b)), (5, .c (.ptr 1 0)), (8, .c (.slice 3 0 n cap))] ⟨[.obj (.mem (pinRun ⟨c1, c2, c3, c4, c5, c6, c7⟩ who 9 ⟨pc, ep⟩ m).2), lawEnv c1 c2 c3 c4 c5 c6 c7 who, litB, usB n cap f, .obj (.in_ (pinRun ⟨c1, c2, c3, c4, c5, c6, c7⟩ who 9 ⟨pc, ep⟩ m).1)], 0 :: 4 :: H.wr⟩
    | _ => False
  | _ => False

theorem lh_pi_ok : BodyOK Tryz.prog (tmpsF Tryz.prog pbF) (.loop (loopF Tryz.prog pbF 1)) lh_pi := by
  refine loopN_ok (evC_ok fnOK mixed (evF_ok fnOK mixed ownK11_ok 10 20) _ (lo := noLo) 10 _ LoOK.no) ?_
  intro T H K h
  unfold lh_pi at h
  split at h
  case h_2 => exact h.elim
  rename_i x0 b n cap i hT
  split at h
  case h_2 => exact h.elim
  rename_i x' m t c1 c2 c3 c4 c5 c6 c7 who t2 t3 n2 cap2 f t4 pc ep hH
  obtain ⟨⟨rfl, rfl, rfl, rfl, rfl, rfl, rfl⟩, h⟩ := h
  generalize hr : pinRun ⟨c1, c2, c3, c4, c5, c6, c7⟩ who 9 ⟨pc, ep⟩ m = r at h
  refine ⟨[1,5,8,11,12], [1,5,8], fun k T' H' => ∃ (j : Nat) (x : PIn) (m' : PMem), k = 9 - j ∧ j ≤ 9 ∧ T' = piT b n2 cap2 (j : Int) ∧
    H'.bl = [.obj (.mem m'), lawEnv c1 c2 c3 c4 c5 c6 c7 who, litB, usB n2 cap2 f, inB j x] ∧ (∀ k ∈ H'.wr, k ∈ 0 :: 4 :: H.wr) ∧
    pinRun ⟨c1, c2, c3, c4, c5, c6, c7⟩ who (9 - j) x m' = r, ⟨9, 0, ⟨pc, ep⟩, m, rfl, by omega, hT, hH, fun k hk => by simp [hk], hr⟩, ?_⟩
  rintro k T' ⟨bl, wr⟩ ⟨j, x, m', rfl, hj, rfl, hbl, hwr, hrun⟩
  simp only at hbl hwr
  subst hbl
  have hi : IntKind.i64.wrap ((j : Int) + 1) = ((j + 1 : Nat) : Int) := by rw [IntKind.wrap_i64]; omega
  have hw2 : ∀ k ∈ 0 :: 4 :: wr, k ∈ 0 :: 4 :: H.wr := by
    intro k hk
    simp only [List.mem_cons] at hk ⊢
    rcases hk with h | h | h
    · exact .inl h
    · exact .inr (.inl h)
    · simpa using hwr k h
  cases j with
  | zero =>
    simp only [inB]
    rw [piR_ev]
    have h1 : decide (((0 : Nat) : Int) < 9) = true := by decide
    rw [show 9 - 0 = 8 + 1 from rfl, pinRun_succ] at hrun
    rw [h1]
    simp only [cond_true]
    cases hs : (inStep ⟨c1, c2, c3, c4, c5, c6, c7⟩ who x m').1 with
    | true =>
      rw [hs] at hrun
      simp only [Bool.not_true, cond_false] at hrun ⊢
      subst hrun
      exact ⟨0 :: 4 :: H.wr, hw2, h⟩
    | false =>
      rw [hs] at hrun
      simp only [Bool.not_false, cond_true] at hrun ⊢
      exact ⟨8, by omega, 1, _, _, rfl, by omega, by rw [hi], rfl, hw2, hrun⟩
  | succ j =>
    simp only [inB]
    rw [piO_ev]
    by_cases hlt : j + 1 < 9
    · have h1 : decide (((j + 1 : Nat) : Int) < 9) = true := by simp; omega
      obtain ⟨q, hq⟩ : ∃ q, 9 - (j + 1) = q + 1 := ⟨9 - (j + 2), by omega⟩
      have hq' : q = 9 - (j + 2) := by omega
      rw [hq, pinRun_succ] at hrun
      rw [h1]
      simp only [cond_true]
      cases hs : (inStep ⟨c1, c2, c3, c4, c5, c6, c7⟩ who x m').1 with
      | true =>
        rw [hs] at hrun
        simp only [Bool.not_true, cond_false] at hrun ⊢
        subst hrun
        exact ⟨0 :: 4 :: H.wr, hw2, h⟩
      | false =>
        rw [hs] at hrun
        simp only [Bool.not_false, cond_true] at hrun ⊢
        exact ⟨9 - (j + 2), by omega, j + 2, _, _, rfl, by omega, by rw [hi], rfl, hw2, by rw [← hq']; exact hrun⟩
    · have h1 : decide (((j + 1 : Nat) : Int) < 9) = false := by simp; omega
      rw [h1]
      simp only [cond_false]
      have hz : 9 - (j + 1) = 0 := by omega
      rw [hz, pinRun_zero] at hrun
      subst hrun
      exact ⟨0 :: 4 :: H.wr, hwr, h⟩

abbrev pnC : PCfg := ⟨2, 30, 6, 34, 100, 600, 3⟩
def pnB (sz : Int) : Nat × (Nat → Int) × PMem := bldRun pnC 0 sz true 30 0 (fun _ => 0) (arM 2 30 6 34)
def pnD (sz : Int) : PMem := dropRun2 pnC 1 (pnB sz).2.1 (pnB sz).1 0 (pinRun pnC 1 9 ⟨0, 0⟩ (pnB sz).2.2).2
def pnX (sz t : Int) : PComp × PMem := roundsX pnC t comp0 (pnD sz)
def pnM (sz t : Int) : PMem := PMem.eStore (pnX sz t).2 1 (IntKind.wrap .i64 (6 + 1)) 0
def pnY (sz t : Int) : PComp × PMem := roundsX pnC 30 (pnX sz t).1 (pnM sz t)

def pnLo : Nat → Option LHd := fun k => match Nat.beq k 7 with
  | true => some lh_pb
  | false => match Nat.beq k 15 with
    | true => some lh_pi
    | false => some lh_pd

theorem pnLoOK : LoOK Tryz.prog (tmpsF Tryz.prog pbF) pnLo (loopsF Tryz.prog pbF) := by
  have h : loopsF Tryz.prog pbF = [loopF Tryz.prog pbF 0, loopF Tryz.prog pbF 1, loopF Tryz.prog pbF 2] := by kernel_rfl
  have h0 : pnLo (keyC (loopF Tryz.prog pbF 0)) = some lh_pb := by kernel_rfl
  have h1 : pnLo (keyC (loopF Tryz.prog pbF 1)) = some lh_pi := by kernel_rfl
  have h2 : pnLo (keyC (loopF Tryz.prog pbF 2)) = some lh_pd := by kernel_rfl
  rw [h]
  intro c hc hd he
  rcases List.mem_cons.1 hc with rfl | hc
  · rw [h0] at he; cases he; exact lh_pb_ok
  · rcases List.mem_cons.1 hc with rfl | hc
    · rw [h1] at he; cases he; exact lh_pi_ok
    · have hc : c = loopF Tryz.prog pbF 2 := by simpa using hc
      subst hc
      rw [h2] at he; cases he; exact lh_pd_ok

/-- An argument cut to few values. -/
def cutA (k a n : Int) : Int := IntKind.wrap .i64 (k + IntKind.wrap .i64 (BitVec.ofInt (IntKind.bits .i64) a &&& BitVec.ofInt (IntKind.bits .i64) n).toNat)

theorem pinned_ev (a b : Int) (K : Bool → Prop) : evL Tryz.prog ownK11 pnLo 10 20 pbF [.c (.int .i64 a), .c (.int .i64 b)] ⟨[], []⟩ (fun v _ => match v with | .c (.bool x) => K x | _ => False) =
    (((27 = 27 ∧ 32 = 32 ∧ (0 : Int) = 0) ∧ Nat.beq (pnB (cutA 1 a 15)).1 0 = false) ∧ ∀ cap : Nat,
      (27 = 27 ∧ 32 = 32 ∧ 32 = 32 ∧ 59 = 59 ∧ (0 : Int) = 0 ∧ (pnB (cutA 1 a 15)).1 = (pnB (cutA 1 a 15)).1 ∧ cap = cap) ∧
      ((27 = 27 ∧ 32 = 32 ∧ 32 = 32 ∧ (0 : Int) = 0 ∧ (pnB (cutA 1 a 15)).1 = (pnB (cutA 1 a 15)).1 ∧ cap = cap) ∧ (pnB (cutA 1 a 15)).1 ≤ 1048576) ∧
      ((0 ≤ cutA 2 b 7 ∧ cutA 2 b 7 ≤ 1000) ∧ roundsOk pnC (cutA 2 b 7) comp0 (pnD (cutA 1 a 15)) = true) ∧ ∀ cap' : Nat,
      bif !decide (roundsWant (cutA 2 b 7) comp0 ≤ (pnX (cutA 1 a 15) (cutA 2 b 7)).1.work.rd) then K false else bif !decide ((pnX (cutA 1 a 15) (cutA 2 b 7)).1.work.fr = 0) then K false else
      bif decide (manyM pnC 3 (pnX (cutA 1 a 15) (cutA 2 b 7)).2 = (pnX (cutA 1 a 15) (cutA 2 b 7)).1.work.ev) then bif decide (0 < manyM pnC 3 (pnX (cutA 1 a 15) (cutA 2 b 7)).2) then
        (((0 : Int) ≤ 30 ∧ (30 : Int) ≤ 1000) ∧ roundsOk pnC 30 (pnX (cutA 1 a 15) (cutA 2 b 7)).1 (pnM (cutA 1 a 15) (cutA 2 b 7)) = true) ∧ ∀ cap'' : Nat,
        bif decide (roundsWant 30 (pnX (cutA 1 a 15) (cutA 2 b 7)).1 ≤ (pnY (cutA 1 a 15) (cutA 2 b 7)).1.work.rd) then
          bif decide (manyM pnC 3 (pnX (cutA 1 a 15) (cutA 2 b 7)).2 ≤ (pnY (cutA 1 a 15) (cutA 2 b 7)).1.work.fr) then K (decide (0 < (pnY (cutA 1 a 15) (cutA 2 b 7)).1.idle)) else K false else K false
        else K false else K false) := by kernel_rfl

end Go.Proofs.YtfjnkneoddankaaGreat

/-
  A memory laid down as a tree, so that it is read fast; what is computed on it is the same.
-/
set_option linter.unusedVariables false
set_option linter.unusedSimpArgs false
set_option maxRecDepth 100000
namespace Go.FL

inductive Tb where
  | leaf (v : Int)
  | node (l r : Tb)

/-- Goes on with a number that is worked out. -/
def forceN {α : Type} (n : Nat) (k : Nat → α) : α := Nat.rec (k 0) (fun p _ => k (p + 1)) n

theorem forceN_eq {α : Type} (n : Nat) (k : Nat → α) : forceN n k = k n := by cases n <;> rfl

def forceI {α : Type} (v : Int) (k : Int → α) : α := match v with
  | .ofNat n => forceN n fun n => k (.ofNat n)
  | .negSucc n => forceN n fun n => k (.negSucc n)

theorem forceI_eq {α : Type} (v : Int) (k : Int → α) : forceI v k = k v := by
  cases v with
  | ofNat n => exact forceN_eq n fun n => k (.ofNat n)
  | negSucc n => exact forceN_eq n fun n => k (.negSucc n)

def tbMk {α : Type} (f : Nat → Int) : Nat → Nat → (Tb → α) → α
  | 0, b, k => forceI (f b) fun v => k (.leaf v)
  | d + 1, b, k => tbMk f d b fun l => tbMk f d (b + 2 ^ d) fun r => k (.node l r)

def tbOf (f : Nat → Int) : Nat → Nat → Tb
  | 0, b => .leaf (f b)
  | d + 1, b => .node (tbOf f d b) (tbOf f d (b + 2 ^ d))

theorem tbMk_eq {α : Type} (f : Nat → Int) : ∀ (d b : Nat) (k : Tb → α), tbMk f d b k = k (tbOf f d b)
  | 0, b, k => forceI_eq _ _
  | d + 1, b, k => by simp only [tbMk, tbOf, tbMk_eq f d]

def tbGet : Tb → Nat → Nat → Nat → Int
  | .leaf v, _, _, _ => v
  | .node l r, d, b, i => match d with
    | 0 => 0
    | d + 1 => match Nat.ble (b + 2 ^ d) i with
      | true => tbGet r d (b + 2 ^ d) i
      | false => tbGet l d b i

theorem tbGet_of (f : Nat → Int) : ∀ (d b i : Nat), b ≤ i → i < b + 2 ^ d → tbGet (tbOf f d b) d b i = f i
  | 0, b, i, h1, h2 => by
    have : i = b := by simp at h2; omega
    subst this; rfl
  | d + 1, b, i, h1, h2 => by
    simp only [tbOf, tbGet]
    have hp : 2 ^ (d + 1) = 2 ^ d + 2 ^ d := by rw [Nat.pow_succ]; omega
    split
    · rename_i h
      have h := Nat.le_of_ble_eq_true h
      exact tbGet_of f d _ i h (by omega)
    · rename_i h
      have h : ¬ (b + 2 ^ d ≤ i) := fun hc => by rw [Nat.ble_eq_true_of_le hc] at h; cases h
      exact tbGet_of f d b i h1 (by omega)

/-- The memory with its first words in a tree. -/
def normK {α : Type} (d : Nat) (m : PMem) (k : PMem → α) : α := forceI m.steps fun s => tbMk m.w d 0 fun t =>
  k { m with steps := s, w := fun j => match Nat.blt j (2 ^ d) with
    | true => tbGet t d 0 j
    | false => m.w j }

theorem normK_eq {α : Type} (d : Nat) (m : PMem) (k : PMem → α) : normK d m k = k m := by
  unfold normK
  rw [forceI_eq, tbMk_eq]
  congr 1
  have : (fun j => match Nat.blt j (2 ^ d) with | true => tbGet (tbOf m.w d 0) d 0 j | false => m.w j) = m.w := by
    funext j
    split
    · rename_i h
      have h : j + 1 ≤ 2 ^ d := by simpa [Nat.blt] using h
      exact tbGet_of m.w d 0 j (Nat.zero_le _) (by omega)
    · rfl
  rw [this]

def bldN (d : Nat) (c : PCfg) (who sz : Int) (cond : Bool) : Nat → Nat → (Nat → Int) → PMem → Nat × (Nat → Int) × PMem
  | 0, n, f, m => (n, f, m)
  | k + 1, n, f, m => normK d m fun m => match makeM c who m sz false with
    | (e, m') => forceI e.h fun h => bif cond && !decide (e.e = 0) then bldN d c who sz cond k n f m' else bldN d c who sz cond k (n + 1) (pushF n f h) m'

theorem bldN_eq (d : Nat) (c : PCfg) (who sz : Int) (cond : Bool) : ∀ (k n : Nat) (f : Nat → Int) (m : PMem), bldN d c who sz cond k n f m = bldRun c who sz cond k n f m
  | 0, n, f, m => by rw [bldRun_zero]; rfl
  | k + 1, n, f, m => by
    rw [bldRun_succ]
    simp only [bldN, normK_eq, forceI_eq, bldN_eq d c who sz cond k]

def dropN (d : Nat) (c : PCfg) (who : Int) (f : Nat → Int) : Nat → Nat → PMem → PMem
  | 0, _, m => m
  | k + 1, i, m => normK d m fun m => dropN d c who f k (i + 1) (dropdM c who m (f i) false).2

theorem dropN_eq (d : Nat) (c : PCfg) (who : Int) (f : Nat → Int) : ∀ (k i : Nat) (m : PMem), dropN d c who f k i m = dropRun2 c who f k i m
  | 0, i, m => by rw [dropRun2_zero]; rfl
  | k + 1, i, m => by
    rw [dropRun2_succ]
    simp only [dropN, normK_eq, dropN_eq d c who f k]

/-- At a round's beginning. -/
def roundsN (d : Nat) (c : PCfg) (want : Int) : Nat → PComp → PMem → Option (PComp × PMem)
  | 0, x, m => some (x, m)
  | n + 1, x, m => bif decide (x.work.rd < want) then
      (bif decide (x.pc = 0) && decide (x.at_ = 0) then normK d m fun m => match compStep c (-1) x m with
        | none => none
        | some r => roundsN d c want n r.1 r.2
      else match compStep c (-1) x m with
        | none => none
        | some r => roundsN d c want n r.1 r.2) else some (x, m)

theorem roundsN_eq (d : Nat) (c : PCfg) (want : Int) : ∀ (n : Nat) (x : PComp) (m : PMem), roundsN d c want n x m = roundsRun c want n x m
  | 0, x, m => by rw [roundsRun_zero]; rfl
  | n + 1, x, m => by
    rw [roundsRun_succ]
    simp only [roundsN, normK_eq, roundsN_eq d c want n]
    cases decide (x.pc = 0) && decide (x.at_ = 0) <;> rfl

end Go.FL

/-
  From a contract to a row: what came in reads as it did.
-/
set_option linter.unusedVariables false
set_option linter.unusedSimpArgs false
namespace Go.FL
open Go Go.ChangeShapes Go.WideShapes Go.ChangeAt Go.RowKit

variable {H : Type} {enc : TypeId × Value → H} {P : Program}

theorem trodAll_below (hl : laidOutB P = true) {W W' : World} (hb : Below W.heap.size W W') : ∀ {ts : List TypeId} {vs : List Value} {ds : List (DataW H)} {ps : List MemPlace},
    (∀ t ∈ ts, P.readableRec t = true ∧ t < P.types.size) → DataW.TrodAll enc P W 0 (fun _ => true) true ts vs ds ps → (∀ x ∈ ps, x.block < W.heap.size) →
    DataW.TrodAll enc P W' 0 (fun b => decide (b < W.heap.size)) true ts vs ds ps
  | [], [], [], ps, _, h, _ => h
  | t :: ts, v :: vs, d :: ds, ps, hr, h, hlt => by
    obtain ⟨p, q, h1, h2, rfl⟩ := h
    obtain ⟨r1, r2⟩ := hr t (by simp)
    exact ⟨p, q, Below.trod hl r1 r2 h1 hb (fun x hx => hlt x (by simp [hx])), trodAll_below hl hb (fun t ht => hr t (by simp [ht])) h2 (fun x hx => hlt x (by simp [hx])), rfl⟩
  | [], _ :: _, _, _, _, h, _ => h.elim
  | [], [], _ :: _, _, _, h, _ => h.elim
  | _ :: _, [], _, _, _, h, _ => h.elim
  | _ :: _, _ :: _, [], _, _, h, _ => h.elim

/-- A law's row: 'true', and what came in reads as it did. -/
theorem law_post (hl : laidOutB P = true) (hbool : P.underlying 4 = some .bool) {f : Func} {s : ChangeSpec} {W W' : World} {args : Array Value} {ds gs : List (DataW H)} {before : List MemPlace}
    (hres : f.resultTypes = #[4]) (hr : ∀ t ∈ f.params.toList, P.readableRec t = true ∧ t < P.types.size) (hv : s.vars = [])
    (hs : s.fn H (ds ++ gs) = { results := [.lit (.bool true)], args := ds }) (hW : DataW.Whole enc P f.params.toList s.vars false W args.toList ds gs before) (hb : Below W.heap.size W W') :
    s.post enc P f false true false false W args (.bool true) W' := by
  have hW0 := hW
  obtain ⟨p, q, hA, hV, hpq, hfz, hnd⟩ := hW
  rw [hv] at hV
  have hgs : gs = [] ∧ q = [] := by
    cases gs with
    | nil => exact ⟨rfl, hV⟩
    | cons g gs => exact hV.elim
  obtain ⟨rfl, rfl⟩ := hgs
  rw [List.append_nil] at hpq
  subst hpq
  refine ⟨ds, [], before, [], before, [], hW0, ?_, ?_, ?_, hb.frame _, fun h => by cases h⟩
  · rw [hs, hres]
    exact trodAll_mk1 (shut_bool hbool true)
  · rw [hs]
    exact trodAll_below hl hb hr hA (fun x hx => hW0.lt x hx)
  · rw [hs, hv]
    rfl

theorem Rel.none (w : World) : Rel [] ⟨[], []⟩ w :=
  ⟨rfl, fun n b r f h => by simp at h, by
    intro i j y h1 h2
    obtain ⟨r, f, h, _⟩ := h1
    simp at h, by
    intro n y h
    obtain ⟨r, f, h, _⟩ := h
    simp at h⟩

/-- A law that holds, over a memory of which it asks nothing. -/
theorem law_calls {f : FuncId} {args : List LV} {vs : List Value} {W : World} (h : (∃ fn, P.funcs[f]? = some fn ∧ fn.body.isSome = true) ∧ CSpec P f args ⟨[], []⟩ (fun v _ => match v with
      | .c (.bool true) => True
      | _ => False)) (hr : RelVs [] args vs) :
    Calls P f vs.toArray W fun e W' => e = .returned (.bool true) ∧ Below W.heap.size W W' := by
  refine Calls.mono (h.2 [] vs W hr (Rel.none W)) ?_
  intro e W' he
  match e, he with
  | .returned v', ⟨s', v, H', hk, hv, hH, hp⟩ =>
    dsimp only at hk
    split at hk
    · have hv : v' = .bool true := hv
      exact ⟨by rw [hv], hp.os, hp.tape, hp.output, hp.size, fun k hk => hp.frame k hk fun n _ ho => by
        obtain ⟨r, f, h, _⟩ := ho
        simp at h⟩
    · exact hk.elim

end Go.FL

/-
  What laws share: from a walk that ends in 'true' to a row.
-/
set_option linter.unusedVariables false
set_option linter.unusedSimpArgs false
set_option maxRecDepth 100000
namespace Go.FL
open Go

theorem and_small (x : Int) (n : Nat) (hn : n < 2 ^ 63) : ∃ t : Nat, t ≤ n ∧ IntKind.wrap IntKind.i64 ↑(BitVec.toNat (BitVec.ofInt (IntKind.bits IntKind.i64) x &&& BitVec.ofInt (IntKind.bits IntKind.i64) (n : Int))) = (t : Int) := by
  have h : (BitVec.ofInt (IntKind.bits IntKind.i64) x &&& BitVec.ofInt (IntKind.bits IntKind.i64) (n : Int)).toNat ≤ n := by
    rw [BitVec.toNat_and]
    refine Nat.le_trans Nat.and_le_right ?_
    rw [BitVec.toNat_ofInt]
    have : ((n : Int) % ((2 ^ IntKind.bits IntKind.i64 : Nat) : Int)).toNat = n % 2 ^ IntKind.bits IntKind.i64 := by
      rw [← Int.natCast_emod, Int.toNat_natCast]
    rw [this]
    exact Nat.mod_le _ _
  refine ⟨_, h, ?_⟩
  generalize (BitVec.ofInt (IntKind.bits IntKind.i64) x &&& BitVec.ofInt (IntKind.bits IntKind.i64) (n : Int)).toNat = t at h
  exact IntWalk.i64_in _ (by omega)

end Go.FL

namespace Go.Proofs.YtfjnkneoddankaaGreat
open Go Go.FL Go.Proofs Go.ChangeShapes Go.WideShapes Go.ChangeAt Go.RowKit

theorem Tryz.own : ownKnob Tryz.prog.godebug = none := by kernel_rfl
theorem Tryz.laidOut : laidOutB Tryz.prog = true := by kernel_rfl

theorem evL_use {own : FuncId → Option Hd} (hown : OwnOK Tryz.prog own) {lo : Nat → Option LHd} {fuel d : Nat} {f : FuncId} {args : List LV} {H : LH} {K : LV → LH → Prop} {B : Prop} (hlo : LoOK Tryz.prog (tmpsF Tryz.prog f) lo (loopsF Tryz.prog f))
    (e : evL Tryz.prog own lo fuel d f args H K = B) (hB : B) : (∃ fn, Tryz.prog.funcs[f]? = some fn ∧ fn.body.isSome = true) ∧ CSpec Tryz.prog f args H K := evL_ok fnOK mixed hown hlo (e.mpr hB)

/-- What a law's walk ends in. -/
def isTrue : Bool → Prop
  | true => True
  | false => False

theorem bool_calls {f : FuncId} {args : List LV} {vs : List Value} {W : World} (h : (∃ fn, Tryz.prog.funcs[f]? = some fn ∧ fn.body.isSome = true) ∧ CSpec Tryz.prog f args ⟨[], []⟩ (fun v _ => match v with
      | .c (.bool b) => isTrue b
      | _ => False)) (hr : RelVs [] args vs) :
    Calls Tryz.prog f vs.toArray W fun e W' => e = .returned (.bool true) ∧ Below W.heap.size W W' := by
  refine law_calls ⟨h.1, fun s vs w hr hH => Calls.mono (h.2 s vs w hr hH) ?_⟩ hr
  intro e W' he
  match e, he with
  | .returned v', ⟨s', v, H', hk, hv, hH, hp⟩ =>
    refine ⟨s', v, H', ?_, hv, hH, hp⟩
    dsimp only at hk ⊢
    split at hk
    · rename_i b
      cases b with
      | true => trivial
      | false => exact hk.elim
    · exact hk.elim

end Go.Proofs.YtfjnkneoddankaaGreat

/-
  A chunk in which somebody is about to show an object: the law's walk, and the plain law.
-/
set_option linter.unusedVariables false
set_option linter.unusedSimpArgs false
set_option maxRecDepth 1000000
namespace Go.Proofs.YtfjnkneoddankaaGreat
open Go Go.FL Go.Proofs

abbrev pdC : PCfg := ⟨1, 30, 8, 34, 100, 600, 3⟩
def pdB (sz : Int) : Nat × (Nat → Int) × PMem := bldRun pdC 0 sz true 26 0 (fun _ => 0) (arM 1 30 8 34)
def pdD (sz : Int) : PMem := dropRun2 pdC 0 (pdB sz).2.1 ((pdB sz).1 - 1) 1 (pdB sz).2.2
def pdAt (sz : Int) : Int := placeM pdC (pdD sz) ((pdB sz).2.1 0)
def pdPut (m : PMem) (a k : Int) (w : Int) : PMem := (PMem.store m a (putHead k (headOf w).2.1 (headOf w).2.2.1 (headOf w).2.2.2.1 (headOf w).2.2.2.2)).2
def pdW (sz : Int) : Int := PMem.peek (pdD sz) (pdAt sz)
def pdS (sz : Int) (r : Bool) : PMem := bif r then pdPut (pdD sz) (pdAt sz) 0 (pdW sz) else pdPut (pdD sz) (pdAt sz) 1 (pdW sz)
def pdM (h1 a w : Int) (m : PMem) : PMem := pdPut (accdM pdC 0 m 1 h1 0 0 0 false).2 a 2 w
def pdOpen (sz : Int) (m : PMem) : Int := IntKind.wrap IntKind.i64 (IntKind.wrap IntKind.i64 (PMem.peek m (IntKind.wrap IntKind.i64 (2 + lClass sz))) - 1)

abbrev pdBody (K : Bool → Prop) (sz t : Int) (n : Nat) (h0 h1 a w : Int) (S : PMem) : Prop :=
  ((0 ≤ t ∧ t ≤ 1000) ∧ roundsOk pdC t comp0 S = true) ∧ ∀ _ : Nat,
    bif !decide (roundsWant t comp0 ≤ (roundsX pdC t comp0 S).1.work.rd) then K false else
    bif decide ((0 : Int) ≤ 0 ∧ (0 : Int) < (n : Int)) then (Int.toNat 0 < n) ∧
      (bif !decide (placeM pdC (roundsX pdC t comp0 S).2 h0 = a) then K false else
      bif !decide ((roundsX pdC t comp0 S).1.work.mv = 0) then K false else
      bif decide ((0 : Int) ≤ 1 ∧ (1 : Int) < (n : Int)) then (Int.toNat 1 < n) ∧
        (bif !decide ((accdM pdC 0 (roundsX pdC t comp0 S).2 1 h1 0 0 0 false).1.e = 3) then K false else
        (((0 : Int) ≤ 30 ∧ (30 : Int) ≤ 1000) ∧ roundsOk pdC 30 (roundsX pdC t comp0 S).1 (pdM h1 a w (roundsX pdC t comp0 S).2) = true) ∧ ∀ _ : Nat,
          bif !decide (roundsWant 30 (roundsX pdC t comp0 S).1 ≤ (roundsX pdC 30 (roundsX pdC t comp0 S).1 (pdM h1 a w (roundsX pdC t comp0 S).2)).1.work.rd) then K false else
          bif decide (pdOpen sz (pdM h1 a w (roundsX pdC t comp0 S).2) = lOf 1 30 8 34 100 600 3 a) then K true else
          bif decide ((0 : Int) ≤ 0 ∧ (0 : Int) < (n : Int)) then (Int.toNat 0 < n) ∧ K (!decide (placeM pdC (roundsX pdC 30 (roundsX pdC t comp0 S).1 (pdM h1 a w (roundsX pdC t comp0 S).2)).2 h0 = a)) else False)
      else False)
    else False

def pdLo : Nat → Option LHd := fun k => match Nat.beq k 6 with
  | true => some lh_qb
  | false => some lh_qd

abbrev pqF : FuncId := 7

theorem pdLoOK : LoOK Tryz.prog (tmpsF Tryz.prog pqF) pdLo (loopsF Tryz.prog pqF) := by
  have h : loopsF Tryz.prog pqF = [loopF Tryz.prog pqF 0, loopF Tryz.prog pqF 1] := by kernel_rfl
  have h0 : pdLo (keyC (loopF Tryz.prog pqF 0)) = some lh_qb := by kernel_rfl
  have h1 : pdLo (keyC (loopF Tryz.prog pqF 1)) = some lh_qd := by kernel_rfl
  rw [h]
  intro c hc hd he
  rcases List.mem_cons.1 hc with rfl | hc
  · rw [h0] at he; cases he; exact lh_qb_ok
  · have hc : c = loopF Tryz.prog pqF 1 := by simpa using hc
    subst hc
    rw [h1] at he; cases he; exact lh_qd_ok

theorem pending_ev (a b : Int) (rdy : Bool) (K : Bool → Prop) : evL Tryz.prog ownK9 pdLo 10 20 pqF [.c (.int .i64 a), .c (.int .i64 b), .c (.bool rdy)] ⟨[], []⟩ (fun v _ => match v with | .c (.bool x) => K x | _ => False) =
    (((27 = 27 ∧ 32 = 32 ∧ (0 : Int) = 0) ∧ Nat.beq (pdB (cutA 1 a 15)).1 0 = false) ∧ ∀ more : Nat,
      bif decide (((pdB (cutA 1 a 15)).1 : Int) < 2) then K false else
      ((27 = 27 ∧ 32 = 32 ∧ 32 = 32 ∧ (1 : Int) = 1 ∧ (pdB (cutA 1 a 15)).1 = (pdB (cutA 1 a 15)).1 ∧ more = more) ∧ (pdB (cutA 1 a 15)).1 ≤ 1048576) ∧
      bif decide ((0 : Int) ≤ 0 ∧ (0 : Int) < ((pdB (cutA 1 a 15)).1 : Int)) then (Int.toNat 0 < (pdB (cutA 1 a 15)).1) ∧
        (bif rdy then pdBody K (cutA 1 a 15) (cutA 2 b 3) (pdB (cutA 1 a 15)).1 ((pdB (cutA 1 a 15)).2.1 0) ((pdB (cutA 1 a 15)).2.1 1) (pdAt (cutA 1 a 15)) (pdW (cutA 1 a 15)) (pdPut (pdD (cutA 1 a 15)) (pdAt (cutA 1 a 15)) 0 (pdW (cutA 1 a 15)))
        else pdBody K (cutA 1 a 15) (cutA 2 b 3) (pdB (cutA 1 a 15)).1 ((pdB (cutA 1 a 15)).2.1 0) ((pdB (cutA 1 a 15)).2.1 1) (pdAt (cutA 1 a 15)) (pdW (cutA 1 a 15)) (pdPut (pdD (cutA 1 a 15)) (pdAt (cutA 1 a 15)) 1 (pdW (cutA 1 a 15))))
      else False) := by kernel_rfl

end Go.Proofs.YtfjnkneoddankaaGreat

/-
  A chunk in which somebody is about to show an object: one case after another.
-/
set_option linter.unusedVariables false
set_option linter.unusedSimpArgs false
set_option maxRecDepth 1000000
namespace Go.Proofs.YtfjnkneoddankaaGreat
open Go Go.FL Go.Proofs

/-- One case, the memory at the beginning given. -/
def pdChk (sz h0 h1 a w : Int) (S : PMem) (t : Int) : Bool := match roundsO pdC t comp0 S with
  | none => false
  | some r => decide (roundsWant t comp0 ≤ r.1.work.rd) && (decide (placeM pdC r.2 h0 = a) && (decide (r.1.work.mv = 0) && (decide ((accdM pdC 0 r.2 1 h1 0 0 0 false).1.e = 3) &&
      (match roundsO pdC 30 r.1 (pdM h1 a w r.2) with
      | none => false
      | some q => decide (roundsWant 30 r.1 ≤ q.1.work.rd) && (decide (pdOpen sz (pdM h1 a w r.2) = lOf 1 30 8 34 100 600 3 a) || !decide (placeM pdC q.2 h0 = a))))))

def pdTimes : List Int := [2, 3, 4, 5]

def pdAll (sz : Int) : Bool := Nat.ble 2 (pdB sz).1 && (Nat.ble (pdB sz).1 1048576 &&
  forceI ((pdB sz).2.1 0) fun h0 => forceI ((pdB sz).2.1 1) fun h1 => normK 9 (pdD sz) fun D => forceI (placeM pdC D h0) fun a => forceI (PMem.peek D a) fun w =>
    (normK 9 (pdPut D a 0 w) fun S => pdTimes.all fun t => pdChk sz h0 h1 a w S t) && (normK 9 (pdPut D a 1 w) fun S => pdTimes.all fun t => pdChk sz h0 h1 a w S t))

theorem pdAll_use {sz : Int} (h : pdAll sz = true) : (2 ≤ (pdB sz).1 ∧ (pdB sz).1 ≤ 1048576) ∧ ∀ t ∈ pdTimes,
    pdChk sz ((pdB sz).2.1 0) ((pdB sz).2.1 1) (pdAt sz) (pdW sz) (pdPut (pdD sz) (pdAt sz) 0 (pdW sz)) t = true ∧
    pdChk sz ((pdB sz).2.1 0) ((pdB sz).2.1 1) (pdAt sz) (pdW sz) (pdPut (pdD sz) (pdAt sz) 1 (pdW sz)) t = true := by
  unfold pdAll at h
  simp only [normK_eq, forceI_eq, Bool.and_eq_true] at h
  obtain ⟨h1, h2, h3, h4⟩ := h
  exact ⟨⟨Nat.le_of_ble_eq_true h1, Nat.le_of_ble_eq_true h2⟩, fun t ht => ⟨List.all_eq_true.1 h3 t ht, List.all_eq_true.1 h4 t ht⟩⟩

attribute [local irreducible] roundsO placeM pdM pdOpen accdM lOf

theorem pd_key (sz t : Int) (n : Nat) (h0 h1 a w : Int) (S : PMem) (hn : 2 ≤ n) (ht : 0 ≤ t ∧ t ≤ 1000) (hc : pdChk sz h0 h1 a w S t = true) : pdBody isTrue sz t n h0 h1 a w S := by
  unfold pdChk at hc
  unfold pdBody roundsOk roundsX
  have d1 : decide ((0 : Int) ≤ 0 ∧ (0 : Int) < (n : Int)) = true := by simp; omega
  have d2 : decide ((0 : Int) ≤ 1 ∧ (1 : Int) < (n : Int)) = true := by simp; omega
  have z0 : Int.toNat 0 < n := by simp; omega
  have z1 : Int.toNat 1 < n := by simp; omega
  rw [d1, d2]
  cases e1 : roundsO pdC t comp0 S with
  | none => rw [e1] at hc; cases hc
  | some r =>
    rw [e1] at hc
    simp only [Option.getD_some, Option.isSome_some] at hc ⊢
    obtain ⟨q, e2⟩ : ∃ q, roundsO pdC 30 r.1 (pdM h1 a w r.2) = some q := by
      cases e2 : roundsO pdC 30 r.1 (pdM h1 a w r.2) with
      | none =>
        rw [e2] at hc
        simp only [Bool.and_false] at hc
        cases hc
      | some q => exact ⟨q, rfl⟩
    simp only [e2, Option.getD_some, Option.isSome_some, Bool.and_eq_true, Bool.or_eq_true] at hc ⊢
    obtain ⟨a1, a2, a3, a4, a5, a6⟩ := hc
    rw [a1, a2, a3, a4, a5]
    simp only [Bool.not_true, cond_true, cond_false]
    refine ⟨⟨ht, trivial⟩, fun _ => ⟨z0, z1, ⟨⟨by decide, by decide⟩, trivial⟩, fun _ => ?_⟩⟩
    cases hd : decide (pdOpen sz (pdM h1 a w r.2) = lOf 1 30 8 34 100 600 3 a) with
    | true => trivial
    | false =>
      rw [hd] at a6
      simp only [Bool.false_eq_true, false_or] at a6
      rw [a6]
      exact ⟨z0, trivial⟩

end Go.Proofs.YtfjnkneoddankaaGreat
