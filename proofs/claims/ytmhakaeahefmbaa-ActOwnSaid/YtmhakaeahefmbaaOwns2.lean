/-
  What is Own: the plain law.
-/
import Derived.Test.YtmhakaeahefmbaaOwns1
import Derived.Test.YtmhakaeahefmbaaCut
import Derived.KernelRfl
set_option linter.unusedVariables false
set_option linter.unusedSimpArgs false
set_option maxRecDepth 100000
namespace Go.FL
open Go

/-- An act that is done alone, and may be. -/
def doR (c : PCfg) (who : Int) (m : PMem) (x1 x2 x3 x4 x5 x6 : Int) (x7 : Bool) : PDone × PMem :=
  ((actRun c who 500 (actMk x1 x2 x3 x4 x5 x6 x7) m).1.out, (actRun c who 500 (actMk x1 x2 x3 x4 x5 x6 x7) m).2)

theorem doM_run {c : PCfg} {who : Int} {m : PMem} {x1 x2 x3 x4 x5 x6 : Int} {x7 : Bool} (h : actOk x1 x5 x6 = true) : doM c who m x1 x2 x3 x4 x5 x6 x7 = doR c who m x1 x2 x3 x4 x5 x6 x7 := by
  unfold doM
  rw [h]
  rfl

def ownChk (z k x2 v : Int) : Bool :=
  decide ((doR oc 0 (ownsB z).2 k x2 (ownsA z).1.h 0 v 0 true).1.e = 3) &&
  (decide ((doR oc 0 (doR oc 0 (ownsB z).2 k x2 (ownsA z).1.h 0 v 0 true).2 k x2 (ownsB z).1.h 0 v 0 false).1.e = 3) &&
  (decide ((doR oc 0 (doR oc 0 (doR oc 0 (ownsB z).2 k x2 (ownsA z).1.h 0 v 0 true).2 k x2 (ownsB z).1.h 0 v 0 false).2 k x2 (ownsB z).1.h 0 v 0 true).1.e = 0) &&
  decide ((doR oc 0 (doR oc 0 (doR oc 0 (doR oc 0 (ownsB z).2 k x2 (ownsA z).1.h 0 v 0 true).2 k x2 (ownsB z).1.h 0 v 0 false).2 k x2 (ownsB z).1.h 0 v 0 true).2 k x2 (ownsA z).1.h 0 v 0 false).1.e = 0)))

theorem ownChk_all (x2 v : Int) : ((List.range 17).all fun z => Nat.beq z 0 || ([2, 3, 4, 5] : List Int).all fun k => ownChk (z : Int) k x2 v) = true := by kernel_rfl

theorem ownSz_in (z : Int) : 1 ≤ ownSz z ∧ ownSz z ≤ 16 := by
  obtain ⟨t, h1, h2⟩ := and_small z 15 (by decide)
  have : ownSz z = IntKind.wrap .i64 (1 + (t : Int)) := congrArg (fun n => IntKind.wrap .i64 (1 + n)) h2
  rw [this, IntWalk.i64_in _ (by omega)]
  omega

theorem ownKind_in (k : Int) : 2 ≤ ownKind k ∧ ownKind k ≤ 5 := by
  unfold ownKind
  have h1 : -4 < Int.tmod k 4 := Int.lt_tmod_of_pos k (by omega)
  have h2 : Int.tmod k 4 < 4 := Int.tmod_lt_of_pos k (by omega)
  rw [IntWalk.i64_in (Int.tmod k 4 + 4) (by omega)]
  have h3 : 0 ≤ Int.tmod (Int.tmod k 4 + 4) 4 := Int.tmod_nonneg _ (by omega)
  have h4 : Int.tmod (Int.tmod k 4 + 4) 4 < 4 := Int.tmod_lt_of_pos _ (by omega)
  rw [IntWalk.i64_in _ (by omega)]
  omega

theorem owns_all {z k : Int} (hz : 1 ≤ z ∧ z ≤ 16) (hk : 2 ≤ k ∧ k ≤ 5) (x2 : Int) {v : Int} (hv : 0 ≤ v ∧ v ≤ 1099511627775) :
    (ownsP z k x2 v).1.e = 3 ∧ (ownsQ z k x2 v).1.e = 3 ∧ (ownsR z k x2 v).1.e = 0 ∧ (ownsS z k x2 v).1.e = 0 := by
  have hok : actOk k v 0 = true := by
    unfold actOk
    simp only [Bool.and_eq_true, decide_eq_true_eq]
    omega
  have h := List.all_eq_true.1 (ownChk_all x2 v) z.toNat (List.mem_range.2 (by omega))
  have h0 : Nat.beq z.toNat 0 = false := by
    cases hb : Nat.beq z.toNat 0 with
    | false => rfl
    | true => have := Nat.eq_of_beq_eq_true hb; omega
  rw [h0, Bool.false_or] at h
  have h := List.all_eq_true.1 h k (by
    have : k = 2 ∨ k = 3 ∨ k = 4 ∨ k = 5 := by omega
    rcases this with rfl | rfl | rfl | rfl <;> simp)
  rw [Int.toNat_of_nonneg (by omega)] at h
  unfold ownChk at h
  simp only [Bool.and_eq_true, decide_eq_true_eq] at h
  have hP : ownsP z k x2 v = doR oc 0 (ownsB z).2 k x2 (ownsA z).1.h 0 v 0 true := doM_run hok
  have hQ : ownsQ z k x2 v = doR oc 0 (ownsP z k x2 v).2 k x2 (ownsB z).1.h 0 v 0 false := doM_run hok
  have hR : ownsR z k x2 v = doR oc 0 (ownsQ z k x2 v).2 k x2 (ownsB z).1.h 0 v 0 true := doM_run hok
  have hS : ownsS z k x2 v = doR oc 0 (ownsR z k x2 v).2 k x2 (ownsA z).1.h 0 v 0 false := doM_run hok
  rw [hS, hR, hQ, hP]
  exact h

end Go.FL
