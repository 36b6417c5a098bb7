/-
  The pins: the loop's law.
-/
import Derived.Test.YtmhakaeahefmbaaPin1
set_option linter.unusedVariables false
set_option linter.unusedSimpArgs false
set_option maxRecDepth 100000
namespace Go.FL

/-- So many rounds at most: each goes as it is said, and one of them ends it. -/
def pinsGood (c : PCfg) (who : Int) : Nat → Int → PAct → PMem → Bool
  | 0, _, _, _ => false
  | n + 1, i, a, m => !decide (IntKind.wrap .i64 (m.steps + 1) < (actStep c who a m).2.2.steps) && ((!decide (3 ≤ i) || decide (m.peek (IntKind.wrap .i64 (6 + who)) = 1)) &&
    (((actStep c who a m).1 == (decide (0 < i) && (decide ((actStep c who a m).2.2.peek (IntKind.wrap .i64 (6 + who)) = 0) && decide (m.peek (IntKind.wrap .i64 (6 + who)) = 1)))) &&
    ((actStep c who a m).1 || pinsGood c who n (i + 1) (actStep c who a m).2.1 (actStep c who a m).2.2)))

theorem pinsGood_succ (c : PCfg) (who : Int) (n : Nat) (i : Int) (a : PAct) (m : PMem) : pinsGood c who (n + 1) i a m = (!decide (IntKind.wrap .i64 (m.steps + 1) < (actStep c who a m).2.2.steps) && ((!decide (3 ≤ i) || decide (m.peek (IntKind.wrap .i64 (6 + who)) = 1)) &&
    (((actStep c who a m).1 == (decide (0 < i) && (decide ((actStep c who a m).2.2.peek (IntKind.wrap .i64 (6 + who)) = 0) && decide (m.peek (IntKind.wrap .i64 (6 + who)) = 1)))) &&
    ((actStep c who a m).1 || pinsGood c who n (i + 1) (actStep c who a m).2.1 (actStep c who a m).2.2)))) := rfl

theorem pinsGood_zero (c : PCfg) (who : Int) (i : Int) (a : PAct) (m : PMem) : pinsGood c who 0 i a m = false := rfl

attribute [irreducible] pinsGood

theorem sub_cons {a : Nat} {l W : List Nat} (ha : a ∈ W) (hl : ∀ n ∈ l, n ∈ W) : ∀ n ∈ a :: l, n ∈ W := by
  intro n hn
  rcases List.mem_cons.1 hn with rfl | hn
  · exact ha
  · exact hl n hn

end Go.FL

namespace Go.Proofs.Ytmhakaeahefmbaa
open Go Go.FL Go.Proofs

abbrev pinF : FuncId := 4

abbrev pinT (b : Bool) (i : Int) : Tm := [(4, .c (.bool b)), (5, .c (.ptr 2 0)), (7, .c (.ptr 3 0)), (9, .c (cI i))]

abbrev pinH (c : PCfg) (who : Int) (b0 : LB) (a : PAct) (m : PMem) : List LB :=
  [b0, .obj (.mem m), .cells 27 [cI c.threads, cI c.slots, cI c.chunks, cI c.words, cI c.gens, cI c.sparse, cI c.tries, .ptr 1 0, cI who], .obj (.act a)]

theorem pinBody_ev (c : PCfg) (who : Int) (b0 : LB) (m : PMem) (a : PAct) (i : Int) (wr : List Nat) (k : X → Tm → LH → Prop) :
    evC Try.prog (evF Try.prog own11 10 20) (tmpsF Try.prog pinF) noLo 10 (loopF Try.prog pinF 0) (pinT false i) ⟨pinH c who b0 a m, wr⟩ (fun x T H => k x (Tm.norm [4, 5, 7, 9] T) H) = (
  bif decide (i < 300) then
   bif decide (c.words = 0) then
    False
   else
    bif decide (IntKind.wrap IntKind.i64 (m.steps + 1) < (actStep c who a m).snd.snd.steps) then
     False
    else
     bif decide (3 ≤ i) then
      bif !decide (PMem.peek m (IntKind.wrap IntKind.i64 (6 + who)) = 1) then
       False
      else
       bif decide (0 < i) then
        bif decide (PMem.peek (actStep c who a m).snd.snd (IntKind.wrap IntKind.i64 (6 + who)) = 0) then
         bif !(actStep c who a m).fst == decide (PMem.peek m (IntKind.wrap IntKind.i64 (6 + who)) = 1) then
          k .ret (pinT false i) ⟨pinH c who b0 (actStep c who a m).2.1 (actStep c who a m).2.2, 1 :: 1 :: 1 :: 3 :: 1 :: 1 :: wr⟩
         else
          bif (actStep c who a m).fst then
           k .ret (pinT true i) ⟨pinH c who b0 (actStep c who a m).2.1 (actStep c who a m).2.2, 1 :: 1 :: 1 :: 3 :: 1 :: 1 :: wr⟩
          else
           k .normal (pinT false (IntKind.wrap .i64 (i + 1))) ⟨pinH c who b0 (actStep c who a m).2.1 (actStep c who a m).2.2, 1 :: 1 :: 1 :: 3 :: 1 :: 1 :: wr⟩
        else
         bif !(actStep c who a m).fst == false then
          k .ret (pinT false i) ⟨pinH c who b0 (actStep c who a m).2.1 (actStep c who a m).2.2, 1 :: 1 :: 1 :: 3 :: 1 :: 1 :: wr⟩
         else
          bif (actStep c who a m).fst then
           k .ret (pinT true i) ⟨pinH c who b0 (actStep c who a m).2.1 (actStep c who a m).2.2, 1 :: 1 :: 1 :: 3 :: 1 :: 1 :: wr⟩
          else
           k .normal (pinT false (IntKind.wrap .i64 (i + 1))) ⟨pinH c who b0 (actStep c who a m).2.1 (actStep c who a m).2.2, 1 :: 1 :: 1 :: 3 :: 1 :: 1 :: wr⟩
       else
        bif !(actStep c who a m).fst == false then
         k .ret (pinT false i) ⟨pinH c who b0 (actStep c who a m).2.1 (actStep c who a m).2.2, 1 :: 1 :: 3 :: 1 :: 1 :: wr⟩
        else
         bif (actStep c who a m).fst then
          k .ret (pinT true i) ⟨pinH c who b0 (actStep c who a m).2.1 (actStep c who a m).2.2, 1 :: 1 :: 3 :: 1 :: 1 :: wr⟩
         else
          k .normal (pinT false (IntKind.wrap .i64 (i + 1))) ⟨pinH c who b0 (actStep c who a m).2.1 (actStep c who a m).2.2, 1 :: 1 :: 3 :: 1 :: 1 :: wr⟩
     else
      bif decide (0 < i) then
       bif decide (PMem.peek (actStep c who a m).snd.snd (IntKind.wrap IntKind.i64 (6 + who)) = 0) then
        bif !(actStep c who a m).fst == decide (PMem.peek m (IntKind.wrap IntKind.i64 (6 + who)) = 1) then
         k .ret (pinT false i) ⟨pinH c who b0 (actStep c who a m).2.1 (actStep c who a m).2.2, 1 :: 1 :: 1 :: 3 :: 1 :: 1 :: wr⟩
        else
         bif (actStep c who a m).fst then
          k .ret (pinT true i) ⟨pinH c who b0 (actStep c who a m).2.1 (actStep c who a m).2.2, 1 :: 1 :: 1 :: 3 :: 1 :: 1 :: wr⟩
         else
          k .normal (pinT false (IntKind.wrap .i64 (i + 1))) ⟨pinH c who b0 (actStep c who a m).2.1 (actStep c who a m).2.2, 1 :: 1 :: 1 :: 3 :: 1 :: 1 :: wr⟩
       else
        bif !(actStep c who a m).fst == false then
         k .ret (pinT false i) ⟨pinH c who b0 (actStep c who a m).2.1 (actStep c who a m).2.2, 1 :: 1 :: 1 :: 3 :: 1 :: 1 :: wr⟩
        else
         bif (actStep c who a m).fst then
          k .ret (pinT true i) ⟨pinH c who b0 (actStep c who a m).2.1 (actStep c who a m).2.2, 1 :: 1 :: 1 :: 3 :: 1 :: 1 :: wr⟩
         else
          k .normal (pinT false (IntKind.wrap .i64 (i + 1))) ⟨pinH c who b0 (actStep c who a m).2.1 (actStep c who a m).2.2, 1 :: 1 :: 1 :: 3 :: 1 :: 1 :: wr⟩
      else
       bif !(actStep c who a m).fst == false then
        k .ret (pinT false i) ⟨pinH c who b0 (actStep c who a m).2.1 (actStep c who a m).2.2, 1 :: 1 :: 3 :: 1 :: 1 :: wr⟩
       else
        bif (actStep c who a m).fst then
         k .ret (pinT true i) ⟨pinH c who b0 (actStep c who a m).2.1 (actStep c who a m).2.2, 1 :: 1 :: 3 :: 1 :: 1 :: wr⟩
        else
         k .normal (pinT false (IntKind.wrap .i64 (i + 1))) ⟨pinH c who b0 (actStep c who a m).2.1 (actStep c who a m).2.2, 1 :: 1 :: 3 :: 1 :: 1 :: wr⟩
  else
   k (.exit 0) (pinT false i) ⟨pinH c who b0 a m, wr⟩) := by kernel_rfl

def lhPin : LHd := fun T H K => match Tm.norm [4, 5, 7, 9] T with
  | [(4, .c (.bool b)), (5, .c (.ptr 2 0)), (7, .c (.ptr 3 0)), (9, .c (.int .i64 i))] => match H.bl with
    | [b0, .obj (.mem m), .cells t [.int .i64 c1, .int .i64 c2, .int .i64 c3, .int .i64 c4, .int .i64 c5, .int .i64 c6, .int .i64 c7, .ptr 1 0, .int .i64 who], .obj (.act a)] =>
      match Nat.beq t 27 && (decide (i = 0) && !b) with
      | false => False
      | true => match decide (c4 = 0) with
      | true => False
      | false => pinsGood ⟨c1, c2, c3, c4, c5, c6, c7⟩ who 300 0 a m = true ∧ ∀ bl, K .ret [(4, .c (.bool true))] ⟨bl, 1 :: 3 :: H.wr⟩
    | _ => False
  | _ => False

theorem lhPin_ok : BodyOK Try.prog (tmpsF Try.prog pinF) (.loop (loopF Try.prog pinF 0)) lhPin := by
  refine loopN_ok (evC_ok fnOK mixed (evF_ok fnOK mixed own11_ok 10 20) _ (lo := noLo) 10 _ LoOK.no) ?_
  intro T H K h
  unfold lhPin at h
  split at h
  case h_2 => exact h.elim
  rename_i x b i hT
  split at h
  case h_2 => exact h.elim
  rename_i x' b0 m t c1 c2 c3 c4 c5 c6 c7 who a hH
  split at h
  · exact h.elim
  rename_i hti
  split at h
  · exact h.elim
  rename_i hc
  obtain ⟨hg, h⟩ := h
  simp only [Bool.and_eq_true, Bool.not_eq_true'] at hti
  have ht := Nat.eq_of_beq_eq_true hti.1
  have hi : i = 0 := of_decide_eq_true hti.2.1
  have hb := hti.2.2
  subst ht
  subst hi
  subst hb
  refine ⟨[4, 5, 7, 9], [4], fun n T' H' => ∃ (j : Nat) (a' : PAct) (m' : PMem), (j : Int) + n = 300 ∧ T' = pinT false (j : Int) ∧ H'.bl = pinH ⟨c1, c2, c3, c4, c5, c6, c7⟩ who b0 a' m' ∧ (∀ n ∈ H'.wr, n ∈ 1 :: 3 :: H.wr) ∧
    pinsGood ⟨c1, c2, c3, c4, c5, c6, c7⟩ who n (j : Int) a' m' = true, ⟨300, 0, a, m, by omega, hT, hH, fun n hn => by simp [hn], hg⟩, ?_⟩
  rintro n T' ⟨bl, wr⟩ ⟨j, a', m', hj, rfl, hbl, hwr, hrun⟩
  simp only at hbl hwr
  subst hbl
  rw [pinBody_ev]
  cases n with
  | zero => rw [pinsGood_zero] at hrun; cases hrun
  | succ n =>
    rw [pinsGood_succ] at hrun
    have h1 : decide ((j : Int) < 300) = true := by simp; omega
    have hi : IntKind.i64.wrap ((j : Int) + 1) = ((j + 1 : Nat) : Int) := by rw [IntKind.wrap_i64]; omega
    simp only [Bool.and_eq_true] at hrun
    obtain ⟨g1, g2, g3, g4⟩ := hrun
    simp only [Bool.not_eq_true'] at g1
    have hc : decide (c4 = 0) = false := hc
    have hret : ∀ bl wr', (∀ n ∈ wr', n ∈ 1 :: 3 :: H.wr) → loopK (fun n T' H' => ∃ (j : Nat) (a' : PAct) (m' : PMem), (j : Int) + n = 300 ∧ T' = pinT false (j : Int) ∧ H'.bl = pinH ⟨c1, c2, c3, c4, c5, c6, c7⟩ who b0 a' m' ∧ (∀ n ∈ H'.wr, n ∈ 1 :: 3 :: H.wr) ∧
        pinsGood ⟨c1, c2, c3, c4, c5, c6, c7⟩ who n (j : Int) a' m' = true) K [4] (n + 1) .ret (pinT true (j : Int)) ⟨bl, wr'⟩ := fun bl wr' hw => ⟨1 :: 3 :: H.wr, hw, h bl⟩
    have hnorm : ∀ wr', (∀ n ∈ wr', n ∈ 1 :: 3 :: H.wr) → (actStep ⟨c1, c2, c3, c4, c5, c6, c7⟩ who a' m').1 = false → loopK (fun n T' H' => ∃ (j : Nat) (a' : PAct) (m' : PMem), (j : Int) + n = 300 ∧ T' = pinT false (j : Int) ∧ H'.bl = pinH ⟨c1, c2, c3, c4, c5, c6, c7⟩ who b0 a' m' ∧ (∀ n ∈ H'.wr, n ∈ 1 :: 3 :: H.wr) ∧
        pinsGood ⟨c1, c2, c3, c4, c5, c6, c7⟩ who n (j : Int) a' m' = true) K [4] (n + 1) .normal (pinT false (IntKind.wrap .i64 ((j : Int) + 1))) ⟨pinH ⟨c1, c2, c3, c4, c5, c6, c7⟩ who b0 (actStep ⟨c1, c2, c3, c4, c5, c6, c7⟩ who a' m').2.1 (actStep ⟨c1, c2, c3, c4, c5, c6, c7⟩ who a' m').2.2, wr'⟩ := fun wr' hw hs => by
      rw [hs, Bool.false_or] at g4
      exact ⟨n, by omega, j + 1, _, _, by omega, by rw [hi], rfl, hw, g4⟩
    have hsub : ∀ n ∈ 1 :: 3 :: 1 :: 1 :: wr, n ∈ 1 :: 3 :: H.wr := sub_cons (by simp) (sub_cons (by simp) (sub_cons (by simp) (sub_cons (by simp) hwr)))
    rw [h1]
    simp only [cond_true, cond_false, hc, g1]
    generalize hs : (actStep ⟨c1, c2, c3, c4, c5, c6, c7⟩ who a' m').1 = s at *
    generalize decide ((3 : Int) ≤ (j : Int)) = e3 at *
    generalize decide ((0 : Int) < (j : Int)) = e0 at *
    generalize decide (PMem.peek (actStep ⟨c1, c2, c3, c4, c5, c6, c7⟩ who a' m').2.2 (IntKind.wrap .i64 (6 + who)) = 0) = ep at *
    generalize decide (PMem.peek m' (IntKind.wrap .i64 (6 + who)) = 1) = ew at *
    cases s <;> cases e3 <;> cases e0 <;> cases ep <;> cases ew <;> first
      | (exfalso; revert g2; decide)
      | (exfalso; revert g3; decide)
      | exact hnorm _ (by repeat' first | exact hwr | refine sub_cons (by simp) ?_) rfl
      | exact hret _ _ (by repeat' first | exact hwr | refine sub_cons (by simp) ?_)

end Go.Proofs.Ytmhakaeahefmbaa
