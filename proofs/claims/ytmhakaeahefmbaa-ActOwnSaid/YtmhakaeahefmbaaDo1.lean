/-
  An act that is done alone.
-/
import Derived.Test.YtmhakaeahefmbaaAct1
set_option linter.unusedVariables false
set_option linter.unusedSimpArgs false
set_option maxRecDepth 100000
namespace Go.FL

/-- So many steps at most. -/
def actRun (c : PCfg) (who : Int) : Nat → PAct → PMem → PAct × PMem
  | 0, a, m => (a, m)
  | n + 1, a, m => match (actStep c who a m).1 with
    | true => ((actStep c who a m).2.1, (actStep c who a m).2.2)
    | false => actRun c who n (actStep c who a m).2.1 (actStep c who a m).2.2

theorem actRun_zero (c : PCfg) (who : Int) (a : PAct) (m : PMem) : actRun c who 0 a m = (a, m) := rfl

theorem actRun_succ (c : PCfg) (who : Int) (n : Nat) (a : PAct) (m : PMem) : actRun c who (n + 1) a m = (match (actStep c who a m).1 with
    | true => ((actStep c who a m).2.1, (actStep c who a m).2.2)
    | false => actRun c who n (actStep c who a m).2.1 (actStep c who a m).2.2) := rfl

attribute [irreducible] actRun

end Go.FL

namespace Go.Proofs.Ytmhakaeahefmbaa
open Go Go.FL Go.Proofs

abbrev doF : FuncId := 12

abbrev doT (i : Int) : Tm := [(2, .c (.ptr 1 0)), (4, .c (.ptr 3 0)), (5, .c (.ptr 4 0)), (7, .c (cI i))]

abbrev envB (c : PCfg) (who : Int) : LB := .cells 27 [cI c.threads, cI c.slots, cI c.chunks, cI c.words, cI c.gens, cI c.sparse, cI c.tries, .ptr 0 0, cI who]

abbrev doH (c : PCfg) (who : Int) (bx br : LB) (a : PAct) (m : PMem) : List LB := [.obj (.mem m), envB c who, bx, br, .obj (.act a)]

theorem doBody_ev (c : PCfg) (who : Int) (bx br : LB) (a : PAct) (m : PMem) (wr : List Nat) (i : Int) (k : X → Tm → LH → Prop) :
    evC Try.prog (evF Try.prog own5 10 20) (tmpsF Try.prog doF) noLo 10 (loopF Try.prog doF 0) (doT i) ⟨doH c who bx br a m, wr⟩ (fun x T H => k x (Tm.norm [2, 4, 5, 7] T) H) =
    (bif decide (i < 500) then bif decide (c.words = 0) then False else
      bif (actStep c who a m).1 then k (.exit 0) (doT i) ⟨doH c who bx br (actStep c who a m).2.1 (actStep c who a m).2.2, 0 :: 4 :: wr⟩
      else k .normal (doT (IntKind.wrap .i64 (i + 1))) ⟨doH c who bx br (actStep c who a m).2.1 (actStep c who a m).2.2, 0 :: 4 :: wr⟩
    else k (.exit 0) (doT i) ⟨doH c who bx br a m, wr⟩) := by kernel_rfl

/-- The loop's law. -/
def lhDo : LHd := fun T H K => match Tm.norm [2, 4, 5, 7] T with
  | [(2, .c (.ptr 1 0)), (4, .c (.ptr 3 0)), (5, .c (.ptr 4 0)), (7, .c (.int .i64 i))] => match H.bl with
    | [.obj (.mem m), .cells t [.int .i64 c1, .int .i64 c2, .int .i64 c3, .int .i64 c4, .int .i64 c5, .int .i64 c6, .int .i64 c7, .ptr 0 0, .int .i64 who], bx, br, .obj (.act a)] =>
      match Nat.beq t 27 && decide (i = 0) with
      | false => False
      | true => match decide (c4 = 0) with
      | true => False
      | false => K (.exit 0) [(2, .c (.ptr 1 0)), (4, .c (.ptr 3 0)), (5, .c (.ptr 4 0))]
          ⟨doH ⟨c1, c2, c3, c4, c5, c6, c7⟩ who bx br (actRun ⟨c1, c2, c3, c4, c5, c6, c7⟩ who 500 a m).1 (actRun ⟨c1, c2, c3, c4, c5, c6, c7⟩ who 500 a m).2, 0 :: 4 :: H.wr⟩
    | _ => False
  | _ => False

theorem lhDo_ok : BodyOK Try.prog (tmpsF Try.prog doF) (.loop (loopF Try.prog doF 0)) lhDo := by
  refine loopN_ok (evC_ok fnOK mixed (evF_ok fnOK mixed own5_ok 10 20) _ (lo := noLo) 10 _ LoOK.no) ?_
  intro T H K h
  unfold lhDo at h
  split at h
  case h_2 => exact h.elim
  rename_i x i hT
  split at h
  case h_2 => exact h.elim
  rename_i x' m t c1 c2 c3 c4 c5 c6 c7 who bx br a hH
  split at h
  · exact h.elim
  rename_i hti
  split at h
  · exact h.elim
  rename_i hc
  simp only [Bool.and_eq_true] at hti
  have ht := Nat.eq_of_beq_eq_true hti.1
  have hi : i = 0 := of_decide_eq_true hti.2
  have hc : c4 ≠ 0 := of_decide_eq_false hc
  subst ht
  subst hi
  generalize hr : actRun ⟨c1, c2, c3, c4, c5, c6, c7⟩ who 500 a m = r at h
  refine ⟨[2, 4, 5, 7], [2, 4, 5], fun n T' H' => ∃ (j : Nat) (a' : PAct) (m' : PMem), j ≤ 500 ∧ n = 500 - j ∧ T' = doT (j : Int) ∧ H'.bl = doH ⟨c1, c2, c3, c4, c5, c6, c7⟩ who bx br a' m' ∧ (∀ n ∈ H'.wr, n ∈ 0 :: 4 :: H.wr) ∧
    actRun ⟨c1, c2, c3, c4, c5, c6, c7⟩ who (500 - j) a' m' = r, ⟨500, 0, a, m, by omega, rfl, hT, hH, fun n hn => by simp [hn], hr⟩, ?_⟩
  rintro n T' ⟨bl, wr⟩ ⟨j, a', m', hj, rfl, rfl, hbl, hwr, hrun⟩
  simp only at hbl hwr
  subst hbl
  rw [doBody_ev]
  have hcd : decide (c4 = 0) = false := by simp [hc]
  by_cases hlt : j < 500
  · have h1 : decide ((j : Int) < 500) = true := by simp; omega
    obtain ⟨q, hq⟩ : ∃ q, 500 - j = q + 1 := ⟨500 - (j + 1), by omega⟩
    have hq' : q = 500 - (j + 1) := by omega
    rw [hq, actRun_succ] at hrun
    rw [h1]
    simp only [cond_true, hcd, cond_false]
    have hw2 : ∀ n ∈ 0 :: 4 :: wr, n ∈ 0 :: 4 :: H.wr := by
      intro n hn
      simp only [List.mem_cons] at hn ⊢
      rcases hn with h | h | h
      · exact .inl h
      · exact .inr (.inl h)
      · simpa using hwr n h
    cases hst : (actStep ⟨c1, c2, c3, c4, c5, c6, c7⟩ who a' m').1 with
    | true =>
      rw [hst] at hrun
      simp only [cond_true] at hrun ⊢
      subst hrun
      exact ⟨0 :: 4 :: H.wr, hw2, h⟩
    | false =>
      rw [hst] at hrun
      simp only [cond_false] at hrun ⊢
      refine ⟨500 - (j + 1), by omega, j + 1, _, _, hlt, rfl, ?_, rfl, hw2, by rw [← hq']; exact hrun⟩
      have hi : IntKind.i64.wrap ((j : Int) + 1) = ((j + 1 : Nat) : Int) := by rw [IntKind.wrap_i64]; omega
      rw [hi]
  · have h1 : decide ((j : Int) < 500) = false := by simp; omega
    rw [h1]
    simp only [cond_false]
    have hz : 500 - j = 0 := by omega
    rw [hz, actRun_zero] at hrun
    subst hrun
    exact ⟨0 :: 4 :: H.wr, hwr, h⟩

end Go.Proofs.Ytmhakaeahefmbaa
