/-
  While an act is done the epoch is pinned: the row.
-/
import Derived.Test.YtmhakaeahefmbaaPin3
import Derived.Test.YtmhakaeahefmbaaPin4
import Derived.Test.YtmhakaeahefmbaaLawA
set_option linter.unusedVariables false
set_option linter.unusedSimpArgs false
set_option maxRecDepth 100000
namespace Go.FL
open Go

theorem cutKind_in (x : Int) : 1 ≤ cutKind x ∧ cutKind x ≤ 5 := by
  unfold cutKind
  have h1 : -5 < Int.tmod x 5 := Int.lt_tmod_of_pos x (by omega)
  have h2 : Int.tmod x 5 < 5 := Int.tmod_lt_of_pos x (by omega)
  rw [IntWalk.i64_in (Int.tmod x 5 + 5) (by omega)]
  have h3 : 0 ≤ Int.tmod (Int.tmod x 5 + 5) 5 := Int.tmod_nonneg _ (by omega)
  have h4 : Int.tmod (Int.tmod x 5 + 5) 5 < 5 := Int.tmod_lt_of_pos _ (by omega)
  rw [IntWalk.i64_in _ (by omega)]
  omega

theorem and_small (x : Int) (n : Nat) (hn : n < 2 ^ 63) : ∃ t : Nat, t ≤ n ∧ IntKind.wrap IntKind.i64 ↑(BitVec.toNat (BitVec.ofInt (IntKind.bits IntKind.i64) x &&& BitVec.ofInt (IntKind.bits IntKind.i64) (n : Int))) = (t : Int) := by
  have h : (BitVec.ofInt (IntKind.bits IntKind.i64) x &&& BitVec.ofInt (IntKind.bits IntKind.i64) (n : Int)).toNat ≤ n := by
    rw [BitVec.toNat_and]
    refine Nat.le_trans Nat.and_le_right ?_
    rw [BitVec.toNat_ofInt]
    have : ((n : Int) % ((2 ^ IntKind.bits IntKind.i64 : Nat) : Int)).toNat = n % 2 ^ IntKind.bits IntKind.i64 := by
      rw [← Int.natCast_emod, Int.toNat_natCast]
    rw [this]
    exact Nat.mod_le _ _
  refine ⟨_, h, ?_⟩
  generalize (BitVec.ofInt (IntKind.bits IntKind.i64) x &&& BitVec.ofInt (IntKind.bits IntKind.i64) (n : Int)).toNat = t at h
  exact IntWalk.i64_in _ (by omega)

theorem cutVal_in (x : Int) : 0 ≤ cutVal x ∧ cutVal x ≤ 1099511627775 := by
  obtain ⟨t, h1, h2⟩ := and_small x 1099511627775 (by decide)
  have : cutVal x = (t : Int) := h2
  omega

theorem whoM_in (x : Int) : whoM x ∈ whos := by
  obtain ⟨t, h1, h2⟩ := and_small x 3 (by decide)
  have h : whoM x = (t : Int) := h2
  rw [h]
  match t, h1 with
  | 0, _ => decide
  | 1, _ => decide
  | 2, _ => decide
  | 3, _ => decide
  | t + 4, h => omega

theorem cut_ok (x1 x5 x6 : Int) : actOk (cutKind x1) (cutVal x5) (cutVal x6) = true := by
  have h1 := cutKind_in x1
  have h5 := cutVal_in x5
  have h6 := cutVal_in x6
  unfold actOk
  simp only [Bool.and_eq_true, decide_eq_true_eq]
  omega

end Go.FL

namespace Go.Proofs.Ytmhakaeahefmbaa
open Go Go.FL Go.Proofs Go.ChangeShapes Go.WideShapes Go.ChangeAt Go.RowKit

theorem pins_calls (x1 x2 x3 x4 x5 x6 : Int) (x7 : Bool) (w : Int) (W : World) : Calls Try.prog pinF #[.agg #[.int .i64 x1, .int .i64 x2, .int .u64 x3, .int .i64 x4, .int .i64 x5, .int .i64 x6, .bool x7], .int .i64 w] W
    fun e W' => e = .returned (.bool true) ∧ Below W.heap.size W W' :=
  bool_calls (vs := [.agg #[.int .i64 x1, .int .i64 x2, .int .u64 x3, .int .i64 x4, .int .i64 x5, .int .i64 x6, .bool x7], .int .i64 w]) (args := [.agg [.int .i64 x1, .int .i64 x2, .int .u64 x3, .int .i64 x4, .int .i64 x5, .int .i64 x6, .bool x7], .c (.int .i64 w)])
    (evL_ok fnOK mixed own11_ok pinLo ((pins_ev x1 x2 x3 x4 x5 x6 x7 w isTrue).mpr (by
      have hc := List.all_eq_true.1 pinChk_all (whoM w) (whoM_in w)
      unfold pinChk at hc
      simp only [Bool.and_eq_true, Bool.not_eq_true', decide_eq_true_eq] at hc
      obtain ⟨_, _, _, _, _, _, _, _, _, _, hp, _⟩ := hc
      rw [cut_ok]
      have hp : decide (PMem.peek (arM 4 6 4 40) (IntKind.wrap .i64 (6 + whoM w)) = 0) = true := decide_eq_true hp
      rw [hp]
      exact ⟨pins_all (whoM_in w) _ _ _ _ _ _ _, fun _ => trivial⟩))) ⟨⟨_, rfl, rfl, rfl, rfl, rfl, rfl, rfl, rfl, trivial⟩, rfl, trivial⟩

theorem actPins_lifted (os : Os) (started : os.Started) (H : Type) (enc : TypeId × Value → H) :
    ReturnsInHanded {} Try.checked os 4 .any (Rows.actPinsSpec.pre6 enc Try.prog Try.f4 Rows.actPinsRow.domain false) (Rows.actPinsSpec.post enc Try.prog Try.f4 false true false false) := by
  refine returnsInHanded_of_change (C := Try.checked) Try.own started (by kernel_rfl) Try.func4
    (ChangeSpec.witness6 (enc := enc) (C := Try.checked) false ⟨#[], #[.agg #[.int .i64 0, .int .i64 0, .int .u64 0, .int .i64 0, .int .i64 0, .int .i64 0, .bool false], .int .i64 0], []⟩ 8 (by kernel_rfl) (by kernel_rfl) (by kernel_rfl) (by kernel_rfl)) ?_
  intro W base args ds gs before hval0 hW hcnd _
  have hval : ∀ (j : Nat) t v, Try.f4.params[j]? = some t → args[j]? = some v → Value.okWide Try.prog W .any base t v := hval0
  have hW0 := hW
  obtain ⟨p, q, hA0, hV, hpq, hfz, hnd⟩ := hW0
  have hA : DataW.TrodAll enc Try.prog W 0 (fun _ => true) true Try.f4.params.toList args.toList ds p := hA0
  rw [Try.params4] at hA hval
  obtain ⟨v0, v1, d0, d1, p0, p1, rfl, rfl, rfl, h0, h1⟩ := trodAll_two hA
  obtain ⟨x1, x2, x3, x4, x5, x6, x7, rfl, _⟩ := open_act (hval 0 36 v0 rfl rfl) h0
  obtain ⟨w, rfl, _, _, _⟩ := open_int Try.underlying3 (hval 1 3 v1 rfl rfl) h1
  refine (pins_calls x1 x2 x3 x4 x5 x6 x7 w W).mono fun e W' ⟨he, hb⟩ => ?_
  refine ⟨_, he, law_post Try.laidOut Try.underlying4 (by kernel_rfl) ?_ rfl ?_ hW hb⟩
  · rw [Try.params4]
    intro t ht
    have ht : t = 36 ∨ t = 3 := by simpa using ht
    rcases ht with rfl | rfl
    · exact ⟨by kernel_rfl, of_decide_eq_true (by kernel_rfl)⟩
    · exact ⟨by kernel_rfl, of_decide_eq_true (by kernel_rfl)⟩
  · obtain ⟨rfl, rfl⟩ := trodVars_none hV
    rfl

theorem actPins_holds : Rows.ActPinsSaid :=
  OpenClaim.holds_of_wide 4 Try.f4 rfl rfl rfl rfl rfl rfl rfl ⟨rfl, rfl, rfl, rfl, rfl⟩ rfl rfl rfl rfl rfl (by kernel_rfl) Try.func4 (by kernel_rfl)
    (of_decide_eq_true (by kernel_rfl)) (by unfold Func.isWrapper; rw [if_neg (of_decide_eq_false (by kernel_rfl))]; exact ⟨rfl, rfl⟩)
    (fun os started H enc _ => actPins_lifted os started H enc)

end Go.Proofs.Ytmhakaeahefmbaa
