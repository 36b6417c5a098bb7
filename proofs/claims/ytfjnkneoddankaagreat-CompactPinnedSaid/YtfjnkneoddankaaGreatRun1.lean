/-
  Objects made, let go, read and laid alone.
-/
import Derived.Test.YtfjnkneoddankaaGreatCan7
set_option linter.unusedVariables false
set_option linter.unusedSimpArgs false
set_option maxRecDepth 100000

namespace Go.FL

/-- So many steps at most. -/
def makeRun (c : PCfg) (who : Int) : Nat → PAlloc → PMem → PAlloc × PMem
  | 0, a, m => (a, m)
  | n + 1, a, m => match (allocStep c who a m).1 with
    | true => ((allocStep c who a m).2.1, (allocStep c who a m).2.2)
    | false => makeRun c who n (allocStep c who a m).2.1 (allocStep c who a m).2.2

theorem makeRun_zero (c : PCfg) (who : Int) (a : PAlloc) (m : PMem) : makeRun c who 0 a m = (a, m) := rfl

theorem makeRun_succ (c : PCfg) (who : Int) (n : Nat) (a : PAlloc) (m : PMem) : makeRun c who (n + 1) a m = (match (allocStep c who a m).1 with
    | true => ((allocStep c who a m).2.1, (allocStep c who a m).2.2)
    | false => makeRun c who n (allocStep c who a m).2.1 (allocStep c who a m).2.2) := rfl

attribute [irreducible] makeRun

def makeM (c : PCfg) (who : Int) (pm : PMem) (a : Int) (b : Bool) : PDone × PMem := ((makeRun c who 400 ⟨a, b, 0, ⟨0, 0, 0, 0, false⟩, 0, 0, none, 0, 0, none, ⟨0, 0, 0, 0⟩⟩ pm).1.out, (makeRun c who 400 ⟨a, b, 0, ⟨0, 0, 0, 0, false⟩, 0, 0, none, 0, 0, none, ⟨0, 0, 0, 0⟩⟩ pm).2)

end Go.FL

namespace Go.Proofs.YtfjnkneoddankaaGreat
open Go Go.FL Go.Proofs

abbrev makeF : FuncId := 11

abbrev makeT (i : Int) : Tm := [(3, .c (.ptr 1 0)), (6, .c (.ptr 2 0)), (7, .c (.ptr 3 0)), (8, .c (cI i))]

abbrev makeH (c : PCfg) (who : Int) (bx : LB) (a : PAlloc) (m : PMem) : List LB := [.obj (.mem m), .cells 27 [cI c.threads, cI c.slots, cI c.chunks, cI c.words, cI c.gens, cI c.sparse, cI c.tries, .ptr 0 0, cI who], bx, .obj (.alloc a)]

theorem makeBody_ev (c : PCfg) (who : Int) (bx : LB) (a : PAlloc) (m : PMem) (wr : List Nat) (i : Int) (k : X → Tm → LH → Prop) :
    evC Tryz.prog (evF Tryz.prog ownK6 10 20) (tmpsF Tryz.prog makeF) noLo 10 (loopF Tryz.prog makeF 0) (makeT i) ⟨makeH c who bx a m, wr⟩ (fun x T H => k x (Tm.norm [3, 6, 7, 8] T) H) =
    (bif decide (i < 400) then 
      bif (allocStep c who a m).1 then k (.exit 0) (makeT i) ⟨makeH c who bx (allocStep c who a m).2.1 (allocStep c who a m).2.2, 0 :: 3 :: wr⟩
      else k .normal (makeT (IntKind.wrap .i64 (i + 1))) ⟨makeH c who bx (allocStep c who a m).2.1 (allocStep c who a m).2.2, 0 :: 3 :: wr⟩
    else k (.exit 0) (makeT i) ⟨makeH c who bx a m, wr⟩) := by kernel_rfl

def lh_make : LHd := fun T H K => match Tm.norm [3, 6, 7, 8] T with
  | [(3, .c (.ptr 1 0)), (6, .c (.ptr 2 0)), (7, .c (.ptr 3 0)), (8, .c (.int .i64 i))] => match H.bl with
    | [.obj (.mem m), .cells t [.int .i64 c1, .int .i64 c2, .int .i64 c3, .int .i64 c4, .int .i64 c5, .int .i64 c6, .int .i64 c7, .ptr 0 0, .int .i64 who], bx, .obj (.alloc a)] =>
      match Nat.beq t 27 && decide (i = 0) with
      | false => False
      | true => ( K (.exit 0) [(3, .c (.ptr 1 0)), (6, .c (.ptr 2 0)), (7, .c (.ptr 3 0))] ⟨makeH ⟨c1, c2, c3, c4, c5, c6, c7⟩ who bx (makeRun ⟨c1, c2, c3, c4, c5, c6, c7⟩ who 400 a m).1 (makeRun ⟨c1, c2, c3, c4, c5, c6, c7⟩ who 400 a m).2, 0 :: 3 :: H.wr⟩)
    | _ => False
  | _ => False

theorem lh_make_ok : BodyOK Tryz.prog (tmpsF Tryz.prog makeF) (.loop (loopF Tryz.prog makeF 0)) lh_make := by
  refine loopN_ok (evC_ok fnOK mixed (evF_ok fnOK mixed ownK6_ok 10 20) _ (lo := noLo) 10 _ LoOK.no) ?_
  intro T H K h
  unfold lh_make at h
  split at h
  case h_2 => exact h.elim
  rename_i x i hT
  split at h
  case h_2 => exact h.elim
  rename_i x' m t c1 c2 c3 c4 c5 c6 c7 who bx a hH
  split at h
  · exact h.elim
  rename_i hti
  simp only [Bool.and_eq_true] at hti
  have ht := Nat.eq_of_beq_eq_true hti.1
  have hi : i = 0 := of_decide_eq_true hti.2
  subst ht
  subst hi
  generalize hr : makeRun ⟨c1, c2, c3, c4, c5, c6, c7⟩ who 400 a m = r at h
  refine ⟨[3, 6, 7, 8], [3, 6, 7], fun n T' H' => ∃ (j : Nat) (a' : PAlloc) (m' : PMem), j ≤ 400 ∧ n = 400 - j ∧ T' = makeT (j : Int) ∧ H'.bl = makeH ⟨c1, c2, c3, c4, c5, c6, c7⟩ who bx a' m' ∧ (∀ n ∈ H'.wr, n ∈ 0 :: 3 :: H.wr) ∧
    makeRun ⟨c1, c2, c3, c4, c5, c6, c7⟩ who (400 - j) a' m' = r, ⟨400, 0, a, m, by omega, rfl, hT, hH, fun n hn => by simp [hn], hr⟩, ?_⟩
  rintro n T' ⟨bl, wr⟩ ⟨j, a', m', hj, rfl, rfl, hbl, hwr, hrun⟩
  simp only at hbl hwr
  subst hbl
  rw [makeBody_ev]
  by_cases hlt : j < 400
  · have h1 : decide ((j : Int) < 400) = true := by simp; omega
    obtain ⟨q, hq⟩ : ∃ q, 400 - j = q + 1 := ⟨400 - (j + 1), by omega⟩
    have hq' : q = 400 - (j + 1) := by omega
    rw [hq, makeRun_succ] at hrun
    rw [h1]
    simp only [cond_true]
    have hw2 : ∀ n ∈ 0 :: 3 :: wr, n ∈ 0 :: 3 :: H.wr := by
      intro n hn
      simp only [List.mem_cons] at hn ⊢
      rcases hn with h | h | h
      · exact .inl h
      · exact .inr (.inl h)
      · simpa using hwr n h
    cases hst : (allocStep ⟨c1, c2, c3, c4, c5, c6, c7⟩ who a' m').1 with
    | true =>
      rw [hst] at hrun
      simp only [cond_true] at hrun ⊢
      subst hrun
      exact ⟨0 :: 3 :: H.wr, hw2, h⟩
    | false =>
      rw [hst] at hrun
      simp only [cond_false] at hrun ⊢
      refine ⟨400 - (j + 1), by omega, j + 1, _, _, hlt, rfl, ?_, rfl, hw2, by rw [← hq']; exact hrun⟩
      have hi : IntKind.i64.wrap ((j : Int) + 1) = ((j + 1 : Nat) : Int) := by rw [IntKind.wrap_i64]; omega
      rw [hi]
  · have h1 : decide ((j : Int) < 400) = false := by simp; omega
    rw [h1]
    simp only [cond_false]
    have hz : 400 - j = 0 := by omega
    rw [hz, makeRun_zero] at hrun
    subst hrun
    exact ⟨0 :: 3 :: H.wr, hwr, h⟩

theorem makeLo : LoOK Tryz.prog (tmpsF Tryz.prog makeF) (fun _ => some lh_make) (loopsF Tryz.prog makeF) := by
  have h : loopsF Tryz.prog makeF = [loopF Tryz.prog makeF 0] := by kernel_rfl
  rw [h]
  intro c hc hd he
  have hc : c = loopF Tryz.prog makeF 0 := by simpa using hc
  subst hc
  cases he
  exact lh_make_ok

theorem make_ev (c : PCfg) (who : Int) (m : PMem) (a : Int) (b : Bool) (K : PDone → PMem → Prop) :
    evL Tryz.prog ownK6 (fun _ => some lh_make) 10 20 makeF [envV c 0 who, .c (.int .i64 a), .c (.bool b)] ⟨cat [(false, .mem m)] 0, []⟩ (fun v H₁ => match v with
      | .agg [.int .i64 e, .int .u64 h, .int .i64 v, .int .i64 st] => shF H₁ 0 fun o c2 => match o with
        | .mem m' => match chkAll [(false, .mem m)] [c2] [] with
          | true => K ⟨e, h, v, st⟩ m'
          | false => False
        | _ => False
      | _ => False) =
    ( K ⟨(makeRun c who 400 ⟨a, b, 0, ⟨0, 0, 0, 0, false⟩, 0, 0, none, 0, 0, none, ⟨0, 0, 0, 0⟩⟩ m).1.out.e, (makeRun c who 400 ⟨a, b, 0, ⟨0, 0, 0, 0, false⟩, 0, 0, none, 0, 0, none, ⟨0, 0, 0, 0⟩⟩ m).1.out.h, (makeRun c who 400 ⟨a, b, 0, ⟨0, 0, 0, 0, false⟩, 0, 0, none, 0, 0, none, ⟨0, 0, 0, 0⟩⟩ m).1.out.v, (makeRun c who 400 ⟨a, b, 0, ⟨0, 0, 0, 0, false⟩, 0, 0, none, 0, 0, none, ⟨0, 0, 0, 0⟩⟩ m).1.out.st⟩ (makeRun c who 400 ⟨a, b, 0, ⟨0, 0, 0, 0, false⟩, 0, 0, none, 0, 0, none, ⟨0, 0, 0, 0⟩⟩ m).2) := by kernel_rfl

def h_make : Hd := fun args H K => match args with
  | [.agg [.int .i64 c1, .int .i64 c2, .int .i64 c3, .int .i64 c4, .int .i64 c5, .int .i64 c6, .int .i64 c7, .ptr m 0, .int .i64 who], .c (.int .i64 a), .c (.bool b)] =>
    match H.get m with
    | some (.obj (.mem pm)) => ( K (.agg [cI (makeM ⟨c1, c2, c3, c4, c5, c6, c7⟩ who pm a b).1.e, cU (makeM ⟨c1, c2, c3, c4, c5, c6, c7⟩ who pm a b).1.h, cI (makeM ⟨c1, c2, c3, c4, c5, c6, c7⟩ who pm a b).1.v, cI (makeM ⟨c1, c2, c3, c4, c5, c6, c7⟩ who pm a b).1.st]) (H.put m (.obj (.mem (makeM ⟨c1, c2, c3, c4, c5, c6, c7⟩ who pm a b).2))))
    | _ => False
  | _ => False

theorem h_make_ok : HOK makeF h_make := by
  intro args H K h
  unfold h_make at h
  split at h
  case h_2 => exact h.elim
  rename_i c1 c2 c3 c4 c5 c6 c7 m who a b
  split at h
  case h_2 => exact h.elim
  rename_i pm hm
  have e := (make_ev ⟨c1, c2, c3, c4, c5, c6, c7⟩ who pm a b (fun d m' => K (.agg [cI d.e, cU d.h, cI d.v, cI d.st]) (H.put m (.obj (.mem m'))))).mpr (by
    unfold makeM at h
    skip
    exact h)
  refine objs_of (ns := [m]) (xs := [(false, .mem pm)]) rfl ?_ (by simp) ?_ (evL_ok fnOK mixed ownK6_ok makeLo e) ?_
  · intro i n x' hi hx
    match i, hi, hx with
    | 0, hi, hx => simp at hi hx; subst hi; subst hx; exact get_obj hm
    | i + 1, hi, hx => simp at hi
  · intro s s₁ vs hh hr
    match vs, hr with
    | u :: vs, ⟨h1, h2⟩ =>
      have e0 := hh 0 m rfl
      simp only [base, Nat.zero_add] at e0
      exact ⟨rel_env (c := ⟨c1, c2, c3, c4, c5, c6, c7⟩) e0 h1, RelVs.low rfl h2⟩
  · intro v₁ H₁ hk
    split at hk
    · rename_i e1 h1 v1 st1
      obtain ⟨o, c2, hk, hc2⟩ := shF_ok hk
      split at hk
      · rename_i pm'
        split at hk
        · rename_i hchk
          exact ⟨[c2], [(false, .mem pm')], [], [], .agg [.int .i64 e1, .int .u64 h1, .int .i64 v1, .int .i64 st1], hchk, ⟨hc2, trivial⟩, trivial, fun _ _ _ _ _ h => RelV.low rfl h, hk⟩
        · exact hk.elim
      · exact hk.elim
    · exact hk.elim

end Go.Proofs.YtfjnkneoddankaaGreat

namespace Go.FL

/-- So many steps at most. -/
def dropdRun (c : PCfg) (who : Int) : Nat → PDrop → PMem → PDrop × PMem
  | 0, a, m => (a, m)
  | n + 1, a, m => match (dropStep c who a m).1 with
    | true => ((dropStep c who a m).2.1, (dropStep c who a m).2.2)
    | false => dropdRun c who n (dropStep c who a m).2.1 (dropStep c who a m).2.2

theorem dropdRun_zero (c : PCfg) (who : Int) (a : PDrop) (m : PMem) : dropdRun c who 0 a m = (a, m) := rfl

theorem dropdRun_succ (c : PCfg) (who : Int) (n : Nat) (a : PDrop) (m : PMem) : dropdRun c who (n + 1) a m = (match (dropStep c who a m).1 with
    | true => ((dropStep c who a m).2.1, (dropStep c who a m).2.2)
    | false => dropdRun c who n (dropStep c who a m).2.1 (dropStep c who a m).2.2) := rfl

attribute [irreducible] dropdRun

def dropdM (c : PCfg) (who : Int) (pm : PMem) (a : Int) (b : Bool) : PDone × PMem := ((dropdRun c who 200 ⟨a, b, 0, 0, 0, 0, 0, none, none, ⟨0, 0, 0, 0⟩⟩ pm).1.out, (dropdRun c who 200 ⟨a, b, 0, 0, 0, 0, 0, none, none, ⟨0, 0, 0, 0⟩⟩ pm).2)

end Go.FL

namespace Go.Proofs.YtfjnkneoddankaaGreat
open Go Go.FL Go.Proofs

abbrev dropdF : FuncId := 17

abbrev dropdT (i : Int) : Tm := [(3, .c (.ptr 1 0)), (6, .c (.ptr 2 0)), (7, .c (.ptr 3 0)), (8, .c (cI i))]

abbrev dropdH (c : PCfg) (who : Int) (bx : LB) (a : PDrop) (m : PMem) : List LB := [.obj (.mem m), .cells 27 [cI c.threads, cI c.slots, cI c.chunks, cI c.words, cI c.gens, cI c.sparse, cI c.tries, .ptr 0 0, cI who], bx, .obj (.drop a)]

theorem dropdBody_ev (c : PCfg) (who : Int) (bx : LB) (a : PDrop) (m : PMem) (wr : List Nat) (i : Int) (k : X → Tm → LH → Prop) :
    evC Tryz.prog (evF Tryz.prog ownK6 10 20) (tmpsF Tryz.prog dropdF) noLo 10 (loopF Tryz.prog dropdF 0) (dropdT i) ⟨dropdH c who bx a m, wr⟩ (fun x T H => k x (Tm.norm [3, 6, 7, 8] T) H) =
    (bif decide (i < 200) then bif decide (c.words = 0) then False else
      bif (dropStep c who a m).1 then k (.exit 0) (dropdT i) ⟨dropdH c who bx (dropStep c who a m).2.1 (dropStep c who a m).2.2, 0 :: 3 :: wr⟩
      else k .normal (dropdT (IntKind.wrap .i64 (i + 1))) ⟨dropdH c who bx (dropStep c who a m).2.1 (dropStep c who a m).2.2, 0 :: 3 :: wr⟩
    else k (.exit 0) (dropdT i) ⟨dropdH c who bx a m, wr⟩) := by kernel_rfl

def lh_dropd : LHd := fun T H K => match Tm.norm [3, 6, 7, 8] T with
  | [(3, .c (.ptr 1 0)), (6, .c (.ptr 2 0)), (7, .c (.ptr 3 0)), (8, .c (.int .i64 i))] => match H.bl with
    | [.obj (.mem m), .cells t [.int .i64 c1, .int .i64 c2, .int .i64 c3, .int .i64 c4, .int .i64 c5, .int .i64 c6, .int .i64 c7, .ptr 0 0, .int .i64 who], bx, .obj (.drop a)] =>
      match Nat.beq t 27 && decide (i = 0) with
      | false => False
      | true => (match decide (c4 = 0) with | true => False | false => K (.exit 0) [(3, .c (.ptr 1 0)), (6, .c (.ptr 2 0)), (7, .c (.ptr 3 0))] ⟨dropdH ⟨c1, c2, c3, c4, c5, c6, c7⟩ who bx (dropdRun ⟨c1, c2, c3, c4, c5, c6, c7⟩ who 200 a m).1 (dropdRun ⟨c1, c2, c3, c4, c5, c6, c7⟩ who 200 a m).2, 0 :: 3 :: H.wr⟩)
    | _ => False
  | _ => False

theorem lh_dropd_ok : BodyOK Tryz.prog (tmpsF Tryz.prog dropdF) (.loop (loopF Tryz.prog dropdF 0)) lh_dropd := by
  refine loopN_ok (evC_ok fnOK mixed (evF_ok fnOK mixed ownK6_ok 10 20) _ (lo := noLo) 10 _ LoOK.no) ?_
  intro T H K h
  unfold lh_dropd at h
  split at h
  case h_2 => exact h.elim
  rename_i x i hT
  split at h
  case h_2 => exact h.elim
  rename_i x' m t c1 c2 c3 c4 c5 c6 c7 who bx a hH
  split at h
  · exact h.elim
  rename_i hti
  split at h
  · exact h.elim
  rename_i hc
  have hcd : decide (c4 = 0) = false := hc
  simp only [Bool.and_eq_true] at hti
  have ht := Nat.eq_of_beq_eq_true hti.1
  have hi : i = 0 := of_decide_eq_true hti.2
  subst ht
  subst hi
  generalize hr : dropdRun ⟨c1, c2, c3, c4, c5, c6, c7⟩ who 200 a m = r at h
  refine ⟨[3, 6, 7, 8], [3, 6, 7], fun n T' H' => ∃ (j : Nat) (a' : PDrop) (m' : PMem), j ≤ 200 ∧ n = 200 - j ∧ T' = dropdT (j : Int) ∧ H'.bl = dropdH ⟨c1, c2, c3, c4, c5, c6, c7⟩ who bx a' m' ∧ (∀ n ∈ H'.wr, n ∈ 0 :: 3 :: H.wr) ∧
    dropdRun ⟨c1, c2, c3, c4, c5, c6, c7⟩ who (200 - j) a' m' = r, ⟨200, 0, a, m, by omega, rfl, hT, hH, fun n hn => by simp [hn], hr⟩, ?_⟩
  rintro n T' ⟨bl, wr⟩ ⟨j, a', m', hj, rfl, rfl, hbl, hwr, hrun⟩
  simp only at hbl hwr
  subst hbl
  rw [dropdBody_ev]
  by_cases hlt : j < 200
  · have h1 : decide ((j : Int) < 200) = true := by simp; omega
    obtain ⟨q, hq⟩ : ∃ q, 200 - j = q + 1 := ⟨200 - (j + 1), by omega⟩
    have hq' : q = 200 - (j + 1) := by omega
    rw [hq, dropdRun_succ] at hrun
    rw [h1]
    simp only [cond_true, hcd, cond_false]
    have hw2 : ∀ n ∈ 0 :: 3 :: wr, n ∈ 0 :: 3 :: H.wr := by
      intro n hn
      simp only [List.mem_cons] at hn ⊢
      rcases hn with h | h | h
      · exact .inl h
      · exact .inr (.inl h)
      · simpa using hwr n h
    cases hst : (dropStep ⟨c1, c2, c3, c4, c5, c6, c7⟩ who a' m').1 with
    | true =>
      rw [hst] at hrun
      simp only [cond_true] at hrun ⊢
      subst hrun
      exact ⟨0 :: 3 :: H.wr, hw2, h⟩
    | false =>
      rw [hst] at hrun
      simp only [cond_false] at hrun ⊢
      refine ⟨200 - (j + 1), by omega, j + 1, _, _, hlt, rfl, ?_, rfl, hw2, by rw [← hq']; exact hrun⟩
      have hi : IntKind.i64.wrap ((j : Int) + 1) = ((j + 1 : Nat) : Int) := by rw [IntKind.wrap_i64]; omega
      rw [hi]
  · have h1 : decide ((j : Int) < 200) = false := by simp; omega
    rw [h1]
    simp only [cond_false]
    have hz : 200 - j = 0 := by omega
    rw [hz, dropdRun_zero] at hrun
    subst hrun
    exact ⟨0 :: 3 :: H.wr, hwr, h⟩

theorem dropdLo : LoOK Tryz.prog (tmpsF Tryz.prog dropdF) (fun _ => some lh_dropd) (loopsF Tryz.prog dropdF) := by
  have h : loopsF Tryz.prog dropdF = [loopF Tryz.prog dropdF 0] := by kernel_rfl
  rw [h]
  intro c hc hd he
  have hc : c = loopF Tryz.prog dropdF 0 := by simpa using hc
  subst hc
  cases he
  exact lh_dropd_ok

theorem dropd_ev (c : PCfg) (who : Int) (m : PMem) (a : Int) (b : Bool) (K : PDone → PMem → Prop) :
    evL Tryz.prog ownK6 (fun _ => some lh_dropd) 10 20 dropdF [envV c 0 who, .c (.int .u64 a), .c (.bool b)] ⟨cat [(false, .mem m)] 0, []⟩ (fun v H₁ => match v with
      | .agg [.int .i64 e, .int .u64 h, .int .i64 v, .int .i64 st] => shF H₁ 0 fun o c2 => match o with
        | .mem m' => match chkAll [(false, .mem m)] [c2] [] with
          | true => K ⟨e, h, v, st⟩ m'
          | false => False
        | _ => False
      | _ => False) =
    (bif decide (c.words = 0) then False else K ⟨(dropdRun c who 200 ⟨a, b, 0, 0, 0, 0, 0, none, none, ⟨0, 0, 0, 0⟩⟩ m).1.out.e, (dropdRun c who 200 ⟨a, b, 0, 0, 0, 0, 0, none, none, ⟨0, 0, 0, 0⟩⟩ m).1.out.h, (dropdRun c who 200 ⟨a, b, 0, 0, 0, 0, 0, none, none, ⟨0, 0, 0, 0⟩⟩ m).1.out.v, (dropdRun c who 200 ⟨a, b, 0, 0, 0, 0, 0, none, none, ⟨0, 0, 0, 0⟩⟩ m).1.out.st⟩ (dropdRun c who 200 ⟨a, b, 0, 0, 0, 0, 0, none, none, ⟨0, 0, 0, 0⟩⟩ m).2) := by kernel_rfl

def h_dropd : Hd := fun args H K => match args with
  | [.agg [.int .i64 c1, .int .i64 c2, .int .i64 c3, .int .i64 c4, .int .i64 c5, .int .i64 c6, .int .i64 c7, .ptr m 0, .int .i64 who], .c (.int .u64 a), .c (.bool b)] =>
    match H.get m with
    | some (.obj (.mem pm)) => (match decide (c4 = 0) with | true => False | false => K (.agg [cI (dropdM ⟨c1, c2, c3, c4, c5, c6, c7⟩ who pm a b).1.e, cU (dropdM ⟨c1, c2, c3, c4, c5, c6, c7⟩ who pm a b).1.h, cI (dropdM ⟨c1, c2, c3, c4, c5, c6, c7⟩ who pm a b).1.v, cI (dropdM ⟨c1, c2, c3, c4, c5, c6, c7⟩ who pm a b).1.st]) (H.put m (.obj (.mem (dropdM ⟨c1, c2, c3, c4, c5, c6, c7⟩ who pm a b).2))))
    | _ => False
  | _ => False

theorem h_dropd_ok : HOK dropdF h_dropd := by
  intro args H K h
  unfold h_dropd at h
  split at h
  case h_2 => exact h.elim
  rename_i c1 c2 c3 c4 c5 c6 c7 m who a b
  split at h
  case h_2 => exact h.elim
  rename_i pm hm
  split at h
  · exact h.elim
  rename_i hc
  have e := (dropd_ev ⟨c1, c2, c3, c4, c5, c6, c7⟩ who pm a b (fun d m' => K (.agg [cI d.e, cU d.h, cI d.v, cI d.st]) (H.put m (.obj (.mem m'))))).mpr (by
    unfold dropdM at h
    simp only [hc, cond_false]
    exact h)
  refine objs_of (ns := [m]) (xs := [(false, .mem pm)]) rfl ?_ (by simp) ?_ (evL_ok fnOK mixed ownK6_ok dropdLo e) ?_
  · intro i n x' hi hx
    match i, hi, hx with
    | 0, hi, hx => simp at hi hx; subst hi; subst hx; exact get_obj hm
    | i + 1, hi, hx => simp at hi
  · intro s s₁ vs hh hr
    match vs, hr with
    | u :: vs, ⟨h1, h2⟩ =>
      have e0 := hh 0 m rfl
      simp only [base, Nat.zero_add] at e0
      exact ⟨rel_env (c := ⟨c1, c2, c3, c4, c5, c6, c7⟩) e0 h1, RelVs.low rfl h2⟩
  · intro v₁ H₁ hk
    split at hk
    · rename_i e1 h1 v1 st1
      obtain ⟨o, c2, hk, hc2⟩ := shF_ok hk
      split at hk
      · rename_i pm'
        split at hk
        · rename_i hchk
          exact ⟨[c2], [(false, .mem pm')], [], [], .agg [.int .i64 e1, .int .u64 h1, .int .i64 v1, .int .i64 st1], hchk, ⟨hc2, trivial⟩, trivial, fun _ _ _ _ _ h => RelV.low rfl h, hk⟩
        · exact hk.elim
      · exact hk.elim
    · exact hk.elim

end Go.Proofs.YtfjnkneoddankaaGreat

namespace Go.FL

/-- So many steps at most. -/
def accdRun (c : PCfg) (who : Int) : Nat → PAccess → PMem → PAccess × PMem
  | 0, a, m => (a, m)
  | n + 1, a, m => match (accessStep c who a m).1 with
    | true => ((accessStep c who a m).2.1, (accessStep c who a m).2.2)
    | false => accdRun c who n (accessStep c who a m).2.1 (accessStep c who a m).2.2

theorem accdRun_zero (c : PCfg) (who : Int) (a : PAccess) (m : PMem) : accdRun c who 0 a m = (a, m) := rfl

theorem accdRun_succ (c : PCfg) (who : Int) (n : Nat) (a : PAccess) (m : PMem) : accdRun c who (n + 1) a m = (match (accessStep c who a m).1 with
    | true => ((accessStep c who a m).2.1, (accessStep c who a m).2.2)
    | false => accdRun c who n (accessStep c who a m).2.1 (accessStep c who a m).2.2) := rfl

attribute [irreducible] accdRun

def accdM (c : PCfg) (who : Int) (pm : PMem) (x1 x2 x3 x4 x5 : Int) (b : Bool) : PDone × PMem := ((accdRun c who 200 ⟨⟨x1, x2, x3, x4, x5⟩, b, 0, 0, 0, 0, 0, 0, 0, 0, none, ⟨0, 0, 0, 0⟩⟩ pm).1.out, (accdRun c who 200 ⟨⟨x1, x2, x3, x4, x5⟩, b, 0, 0, 0, 0, 0, 0, 0, 0, none, ⟨0, 0, 0, 0⟩⟩ pm).2)

end Go.FL

namespace Go.Proofs.YtfjnkneoddankaaGreat
open Go Go.FL Go.Proofs

abbrev accdF : FuncId := 30

abbrev accdT (i : Int) : Tm := [(3, .c (.ptr 1 0)), (6, .c (.ptr 3 0)), (7, .c (.ptr 4 0)), (8, .c (cI i))]

abbrev accdH (c : PCfg) (who : Int) (bw bx : LB) (a : PAccess) (m : PMem) : List LB := [.obj (.mem m), .cells 27 [cI c.threads, cI c.slots, cI c.chunks, cI c.words, cI c.gens, cI c.sparse, cI c.tries, .ptr 0 0, cI who], bw, bx, .obj (.access a)]

theorem accdBody_ev (c : PCfg) (who : Int) (bw bx : LB) (a : PAccess) (m : PMem) (wr : List Nat) (i : Int) (k : X → Tm → LH → Prop) :
    evC Tryz.prog (evF Tryz.prog ownK6 10 20) (tmpsF Tryz.prog accdF) noLo 10 (loopF Tryz.prog accdF 0) (accdT i) ⟨accdH c who bw bx a m, wr⟩ (fun x T H => k x (Tm.norm [3, 6, 7, 8] T) H) =
    (bif decide (i < 200) then 
      bif (accessStep c who a m).1 then k (.exit 0) (accdT i) ⟨accdH c who bw bx (accessStep c who a m).2.1 (accessStep c who a m).2.2, 0 :: 4 :: wr⟩
      else k .normal (accdT (IntKind.wrap .i64 (i + 1))) ⟨accdH c who bw bx (accessStep c who a m).2.1 (accessStep c who a m).2.2, 0 :: 4 :: wr⟩
    else k (.exit 0) (accdT i) ⟨accdH c who bw bx a m, wr⟩) := by kernel_rfl

def lh_accd : LHd := fun T H K => match Tm.norm [3, 6, 7, 8] T with
  | [(3, .c (.ptr 1 0)), (6, .c (.ptr 3 0)), (7, .c (.ptr 4 0)), (8, .c (.int .i64 i))] => match H.bl with
    | [.obj (.mem m), .cells t [.int .i64 c1, .int .i64 c2, .int .i64 c3, .int .i64 c4, .int .i64 c5, .int .i64 c6, .int .i64 c7, .ptr 0 0, .int .i64 who], bw, bx, .obj (.access a)] =>
      match Nat.beq t 27 && decide (i = 0) with
      | false => False
      | true => ( K (.exit 0) [(3, .c (.ptr 1 0)), (6, .c (.ptr 3 0)), (7, .c (.ptr 4 0))] ⟨accdH ⟨c1, c2, c3, c4, c5, c6, c7⟩ who bw bx (accdRun ⟨c1, c2, c3, c4, c5, c6, c7⟩ who 200 a m).1 (accdRun ⟨c1, c2, c3, c4, c5, c6, c7⟩ who 200 a m).2, 0 :: 4 :: H.wr⟩)
    | _ => False
  | _ => False

theorem lh_accd_ok : BodyOK Tryz.prog (tmpsF Tryz.prog accdF) (.loop (loopF Tryz.prog accdF 0)) lh_accd := by
  refine loopN_ok (evC_ok fnOK mixed (evF_ok fnOK mixed ownK6_ok 10 20) _ (lo := noLo) 10 _ LoOK.no) ?_
  intro T H K h
  unfold lh_accd at h
  split at h
  case h_2 => exact h.elim
  rename_i x i hT
  split at h
  case h_2 => exact h.elim
  rename_i x' m t c1 c2 c3 c4 c5 c6 c7 who bw bx a hH
  split at h
  · exact h.elim
  rename_i hti
  simp only [Bool.and_eq_true] at hti
  have ht := Nat.eq_of_beq_eq_true hti.1
  have hi : i = 0 := of_decide_eq_true hti.2
  subst ht
  subst hi
  generalize hr : accdRun ⟨c1, c2, c3, c4, c5, c6, c7⟩ who 200 a m = r at h
  refine ⟨[3, 6, 7, 8], [3, 6, 7], fun n T' H' => ∃ (j : Nat) (a' : PAccess) (m' : PMem), j ≤ 200 ∧ n = 200 - j ∧ T' = accdT (j : Int) ∧ H'.bl = accdH ⟨c1, c2, c3, c4, c5, c6, c7⟩ who bw bx a' m' ∧ (∀ n ∈ H'.wr, n ∈ 0 :: 4 :: H.wr) ∧
    accdRun ⟨c1, c2, c3, c4, c5, c6, c7⟩ who (200 - j) a' m' = r, ⟨200, 0, a, m, by omega, rfl, hT, hH, fun n hn => by simp [hn], hr⟩, ?_⟩
  rintro n T' ⟨bl, wr⟩ ⟨j, a', m', hj, rfl, rfl, hbl, hwr, hrun⟩
  simp only at hbl hwr
  subst hbl
  rw [accdBody_ev]
  by_cases hlt : j < 200
  · have h1 : decide ((j : Int) < 200) = true := by simp; omega
    obtain ⟨q, hq⟩ : ∃ q, 200 - j = q + 1 := ⟨200 - (j + 1), by omega⟩
    have hq' : q = 200 - (j + 1) := by omega
    rw [hq, accdRun_succ] at hrun
    rw [h1]
    simp only [cond_true]
    have hw2 : ∀ n ∈ 0 :: 4 :: wr, n ∈ 0 :: 4 :: H.wr := by
      intro n hn
      simp only [List.mem_cons] at hn ⊢
      rcases hn with h | h | h
      · exact .inl h
      · exact .inr (.inl h)
      · simpa using hwr n h
    cases hst : (accessStep ⟨c1, c2, c3, c4, c5, c6, c7⟩ who a' m').1 with
    | true =>
      rw [hst] at hrun
      simp only [cond_true] at hrun ⊢
      subst hrun
      exact ⟨0 :: 4 :: H.wr, hw2, h⟩
    | false =>
      rw [hst] at hrun
      simp only [cond_false] at hrun ⊢
      refine ⟨200 - (j + 1), by omega, j + 1, _, _, hlt, rfl, ?_, rfl, hw2, by rw [← hq']; exact hrun⟩
      have hi : IntKind.i64.wrap ((j : Int) + 1) = ((j + 1 : Nat) : Int) := by rw [IntKind.wrap_i64]; omega
      rw [hi]
  · have h1 : decide ((j : Int) < 200) = false := by simp; omega
    rw [h1]
    simp only [cond_false]
    have hz : 200 - j = 0 := by omega
    rw [hz, accdRun_zero] at hrun
    subst hrun
    exact ⟨0 :: 4 :: H.wr, hwr, h⟩

theorem accdLo : LoOK Tryz.prog (tmpsF Tryz.prog accdF) (fun _ => some lh_accd) (loopsF Tryz.prog accdF) := by
  have h : loopsF Tryz.prog accdF = [loopF Tryz.prog accdF 0] := by kernel_rfl
  rw [h]
  intro c hc hd he
  have hc : c = loopF Tryz.prog accdF 0 := by simpa using hc
  subst hc
  cases he
  exact lh_accd_ok

theorem accd_ev (c : PCfg) (who : Int) (m : PMem) (x1 x2 x3 x4 x5 : Int) (b : Bool) (K : PDone → PMem → Prop) :
    evL Tryz.prog ownK6 (fun _ => some lh_accd) 10 20 accdF [envV c 0 who, .agg [.int .i64 x1, .int .u64 x2, .int .i64 x3, .int .i64 x4, .int .i64 x5], .c (.bool b)] ⟨cat [(false, .mem m)] 0, []⟩ (fun v H₁ => match v with
      | .agg [.int .i64 e, .int .u64 h, .int .i64 v, .int .i64 st] => shF H₁ 0 fun o c2 => match o with
        | .mem m' => match chkAll [(false, .mem m)] [c2] [] with
          | true => K ⟨e, h, v, st⟩ m'
          | false => False
        | _ => False
      | _ => False) =
    ( K ⟨(accdRun c who 200 ⟨⟨x1, x2, x3, x4, x5⟩, b, 0, 0, 0, 0, 0, 0, 0, 0, none, ⟨0, 0, 0, 0⟩⟩ m).1.out.e, (accdRun c who 200 ⟨⟨x1, x2, x3, x4, x5⟩, b, 0, 0, 0, 0, 0, 0, 0, 0, none, ⟨0, 0, 0, 0⟩⟩ m).1.out.h, (accdRun c who 200 ⟨⟨x1, x2, x3, x4, x5⟩, b, 0, 0, 0, 0, 0, 0, 0, 0, none, ⟨0, 0, 0, 0⟩⟩ m).1.out.v, (accdRun c who 200 ⟨⟨x1, x2, x3, x4, x5⟩, b, 0, 0, 0, 0, 0, 0, 0, 0, none, ⟨0, 0, 0, 0⟩⟩ m).1.out.st⟩ (accdRun c who 200 ⟨⟨x1, x2, x3, x4, x5⟩, b, 0, 0, 0, 0, 0, 0, 0, 0, none, ⟨0, 0, 0, 0⟩⟩ m).2) := by kernel_rfl

def h_accd : Hd := fun args H K => match args with
  | [.agg [.int .i64 c1, .int .i64 c2, .int .i64 c3, .int .i64 c4, .int .i64 c5, .int .i64 c6, .int .i64 c7, .ptr m 0, .int .i64 who], .agg [.int .i64 x1, .int .u64 x2, .int .i64 x3, .int .i64 x4, .int .i64 x5], .c (.bool b)] =>
    match H.get m with
    | some (.obj (.mem pm)) => ( K (.agg [cI (accdM ⟨c1, c2, c3, c4, c5, c6, c7⟩ who pm x1 x2 x3 x4 x5 b).1.e, cU (accdM ⟨c1, c2, c3, c4, c5, c6, c7⟩ who pm x1 x2 x3 x4 x5 b).1.h, cI (accdM ⟨c1, c2, c3, c4, c5, c6, c7⟩ who pm x1 x2 x3 x4 x5 b).1.v, cI (accdM ⟨c1, c2, c3, c4, c5, c6, c7⟩ who pm x1 x2 x3 x4 x5 b).1.st]) (H.put m (.obj (.mem (accdM ⟨c1, c2, c3, c4, c5, c6, c7⟩ who pm x1 x2 x3 x4 x5 b).2))))
    | _ => False
  | _ => False

theorem h_accd_ok : HOK accdF h_accd := by
  intro args H K h
  unfold h_accd at h
  split at h
  case h_2 => exact h.elim
  rename_i c1 c2 c3 c4 c5 c6 c7 m who x1 x2 x3 x4 x5 b
  split at h
  case h_2 => exact h.elim
  rename_i pm hm
  have e := (accd_ev ⟨c1, c2, c3, c4, c5, c6, c7⟩ who pm x1 x2 x3 x4 x5 b (fun d m' => K (.agg [cI d.e, cU d.h, cI d.v, cI d.st]) (H.put m (.obj (.mem m'))))).mpr (by
    unfold accdM at h
    skip
    exact h)
  refine objs_of (ns := [m]) (xs := [(false, .mem pm)]) rfl ?_ (by simp) ?_ (evL_ok fnOK mixed ownK6_ok accdLo e) ?_
  · intro i n x' hi hx
    match i, hi, hx with
    | 0, hi, hx => simp at hi hx; subst hi; subst hx; exact get_obj hm
    | i + 1, hi, hx => simp at hi
  · intro s s₁ vs hh hr
    match vs, hr with
    | u :: vs, ⟨h1, h2⟩ =>
      have e0 := hh 0 m rfl
      simp only [base, Nat.zero_add] at e0
      exact ⟨rel_env (c := ⟨c1, c2, c3, c4, c5, c6, c7⟩) e0 h1, RelVs.low rfl h2⟩
  · intro v₁ H₁ hk
    split at hk
    · rename_i e1 h1 v1 st1
      obtain ⟨o, c2, hk, hc2⟩ := shF_ok hk
      split at hk
      · rename_i pm'
        split at hk
        · rename_i hchk
          exact ⟨[c2], [(false, .mem pm')], [], [], .agg [.int .i64 e1, .int .u64 h1, .int .i64 v1, .int .i64 st1], hchk, ⟨hc2, trivial⟩, trivial, fun _ _ _ _ _ h => RelV.low rfl h, hk⟩
        · exact hk.elim
      · exact hk.elim
    · exact hk.elim

end Go.Proofs.YtfjnkneoddankaaGreat

namespace Go.Proofs.YtfjnkneoddankaaGreat
open Go Go.FL Go.Proofs

def tabK7 : List (FuncId × Hd) := [(makeF, h_make), (dropdF, h_dropd), (accdF, h_accd)] ++ tabK6
def ownK7 : FuncId → Option Hd := look tabK7
theorem allK7 : AllOK tabK7 := ⟨h_make_ok, h_dropd_ok, h_accd_ok, allK6⟩
theorem ownK7_ok : OwnOK Tryz.prog ownK7 := look_ok allK7

end Go.Proofs.YtfjnkneoddankaaGreat
