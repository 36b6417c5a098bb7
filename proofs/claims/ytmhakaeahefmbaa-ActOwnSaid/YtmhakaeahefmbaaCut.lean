/-
  What is cut is within its bounds.
-/
import Derived.Test.YtmhakaeahefmbaaPin1
import Derived.IntWalk
set_option linter.unusedVariables false
set_option linter.unusedSimpArgs false
namespace Go.FL
open Go

theorem cutKind_in (x : Int) : 1 ≤ cutKind x ∧ cutKind x ≤ 5 := by
  unfold cutKind
  have h1 : -5 < Int.tmod x 5 := Int.lt_tmod_of_pos x (by omega)
  have h2 : Int.tmod x 5 < 5 := Int.tmod_lt_of_pos x (by omega)
  rw [IntWalk.i64_in (Int.tmod x 5 + 5) (by omega)]
  have h3 : 0 ≤ Int.tmod (Int.tmod x 5 + 5) 5 := Int.tmod_nonneg _ (by omega)
  have h4 : Int.tmod (Int.tmod x 5 + 5) 5 < 5 := Int.tmod_lt_of_pos _ (by omega)
  rw [IntWalk.i64_in _ (by omega)]
  omega

theorem and_small (x : Int) (n : Nat) (hn : n < 2 ^ 63) : ∃ t : Nat, t ≤ n ∧ IntKind.wrap IntKind.i64 ↑(BitVec.toNat (BitVec.ofInt (IntKind.bits IntKind.i64) x &&& BitVec.ofInt (IntKind.bits IntKind.i64) (n : Int))) = (t : Int) := by
  have h : (BitVec.ofInt (IntKind.bits IntKind.i64) x &&& BitVec.ofInt (IntKind.bits IntKind.i64) (n : Int)).toNat ≤ n := by
    rw [BitVec.toNat_and]
    refine Nat.le_trans Nat.and_le_right ?_
    rw [BitVec.toNat_ofInt]
    have : ((n : Int) % ((2 ^ IntKind.bits IntKind.i64 : Nat) : Int)).toNat = n % 2 ^ IntKind.bits IntKind.i64 := by
      rw [← Int.natCast_emod, Int.toNat_natCast]
    rw [this]
    exact Nat.mod_le _ _
  refine ⟨_, h, ?_⟩
  generalize (BitVec.ofInt (IntKind.bits IntKind.i64) x &&& BitVec.ofInt (IntKind.bits IntKind.i64) (n : Int)).toNat = t at h
  exact IntWalk.i64_in _ (by omega)

theorem cutVal_in (x : Int) : 0 ≤ cutVal x ∧ cutVal x ≤ 1099511627775 := by
  obtain ⟨t, h1, h2⟩ := and_small x 1099511627775 (by decide)
  have : cutVal x = (t : Int) := h2
  omega

theorem cut_ok (x1 x5 x6 : Int) : actOk (cutKind x1) (cutVal x5) (cutVal x6) = true := by
  have h1 := cutKind_in x1
  have h5 := cutVal_in x5
  have h6 := cutVal_in x6
  unfold actOk
  simp only [Bool.and_eq_true, decide_eq_true_eq]
  omega

end Go.FL
