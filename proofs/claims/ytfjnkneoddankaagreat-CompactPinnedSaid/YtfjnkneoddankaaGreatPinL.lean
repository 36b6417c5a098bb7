/-
  A chunk that was evacuated while a thread is pinned: the plain law, for each size and each number of rounds.
-/
import Derived.Test.YtfjnkneoddankaaGreatFast
import Derived.Test.YtfjnkneoddankaaGreatLawB
import Derived.KernelRfl
set_option linter.unusedVariables false
set_option linter.unusedSimpArgs false
set_option maxRecDepth 1000000
namespace Go.Proofs.YtfjnkneoddankaaGreat
open Go Go.FL Go.Proofs

/-- One case, the memory at the beginning given. -/
def pnChk (m : PMem) (t : Int) : Bool := match roundsO pnC t comp0 m with
  | none => false
  | some r => decide (roundsWant t comp0 ≤ r.1.work.rd) && (decide (r.1.work.fr = 0) && (decide (manyM pnC 3 r.2 = r.1.work.ev) && (decide (0 < manyM pnC 3 r.2) &&
      (match roundsO pnC 30 r.1 (PMem.eStore r.2 1 (IntKind.wrap .i64 (6 + 1)) 0) with
      | none => false
      | some q => decide (roundsWant 30 r.1 ≤ q.1.work.rd) && (decide (manyM pnC 3 r.2 ≤ q.1.work.fr) && decide (0 < q.1.idle))))))

def pnTimes : List Int := [2, 3, 4, 5, 6, 7, 8, 9]

def pnAll (sz : Int) : Bool := !Nat.beq (pnB sz).1 0 && (Nat.ble (pnB sz).1 1048576 && normK 9 (pnD sz) fun m => pnTimes.all fun t => pnChk m t)

theorem pnAll_use {sz : Int} (h : pnAll sz = true) : (Nat.beq (pnB sz).1 0 = false ∧ (pnB sz).1 ≤ 1048576) ∧ ∀ t ∈ pnTimes, pnChk (pnD sz) t = true := by
  unfold pnAll at h
  rw [normK_eq] at h
  simp only [Bool.and_eq_true, Bool.not_eq_true'] at h
  exact ⟨⟨h.1, Nat.le_of_ble_eq_true h.2.1⟩, List.all_eq_true.1 h.2.2⟩

attribute [local irreducible] roundsO manyM

theorem pn_key (sz t : Int) (hB : Nat.beq (pnB sz).1 0 = false) (hle : (pnB sz).1 ≤ 1048576) (ht : 0 ≤ t ∧ t ≤ 1000) (hc : pnChk (pnD sz) t = true) :
    ((roundsOk pnC t comp0 (pnD sz) = true) ∧
      (bif !decide (roundsWant t comp0 ≤ (pnX sz t).1.work.rd) then isTrue false else bif !decide ((pnX sz t).1.work.fr = 0) then isTrue false else
      bif decide (manyM pnC 3 (pnX sz t).2 = (pnX sz t).1.work.ev) then bif decide (0 < manyM pnC 3 (pnX sz t).2) then
        (((0 : Int) ≤ 30 ∧ (30 : Int) ≤ 1000) ∧ roundsOk pnC 30 (pnX sz t).1 (pnM sz t) = true) ∧ ∀ cap'' : Nat,
        bif decide (roundsWant 30 (pnX sz t).1 ≤ (pnY sz t).1.work.rd) then
          bif decide (manyM pnC 3 (pnX sz t).2 ≤ (pnY sz t).1.work.fr) then isTrue (decide (0 < (pnY sz t).1.idle)) else isTrue false else isTrue false
        else isTrue false else isTrue false)) := by
  unfold pnChk at hc
  unfold roundsOk pnY pnM pnX roundsX
  cases h1 : roundsO pnC t comp0 (pnD sz) with
  | none => rw [h1] at hc; cases hc
  | some r =>
    rw [h1] at hc
    simp only [Option.getD_some, Option.isSome_some, true_and] at hc ⊢
    obtain ⟨q, h2⟩ : ∃ q, roundsO pnC 30 r.1 (PMem.eStore r.2 1 (IntKind.wrap .i64 (6 + 1)) 0) = some q := by
      cases h2 : roundsO pnC 30 r.1 (PMem.eStore r.2 1 (IntKind.wrap .i64 (6 + 1)) 0) with
      | none =>
        rw [h2] at hc
        simp only [Bool.and_false] at hc
        cases hc
      | some q => exact ⟨q, rfl⟩
    simp only [h2, Option.getD_some, Option.isSome_some, Bool.and_eq_true] at hc ⊢
    obtain ⟨a1, a2, a3, a4, a5, a6, a7⟩ := hc
    simp only [a1, a2, a3, a4, a5, a6, a7, Bool.not_true, cond_true, cond_false]
    exact ⟨⟨⟨by decide, by decide⟩, trivial⟩, fun _ => trivial⟩

end Go.Proofs.YtfjnkneoddankaaGreat
