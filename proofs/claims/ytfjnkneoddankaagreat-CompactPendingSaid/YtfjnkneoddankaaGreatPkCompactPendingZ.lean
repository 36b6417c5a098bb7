/-
  A chunk in which somebody is about to show an object is left as it was, round by round, until that is done: the row.
-/
import Derived.Test.YtfjnkneoddankaaGreatPkCompactPending6
import Derived.Test.YtfjnkneoddankaaGreatPkCompactPending7
import Derived.Test.YtfjnkneoddankaaGreatPkCompactPending8
import Derived.Test.YtfjnkneoddankaaGreatPkCompactPending9
set_option linter.unusedVariables false
set_option linter.unusedSimpArgs false
set_option maxRecDepth 100000
namespace Go.Proofs.YtfjnkneoddankaaGreat
open Go Go.FL Go.Proofs Go.ChangeShapes Go.WideShapes Go.ChangeAt Go.RowKit

theorem cutA_in (k n : Nat) (hk : k + n < 1000) (x : Int) : ∃ t : Nat, t ≤ n ∧ cutA k x n = ((k + t : Nat) : Int) := by
  obtain ⟨t, h1, h2⟩ := and_small x n (by omega)
  refine ⟨t, h1, ?_⟩
  unfold cutA
  rw [h2, ← Int.natCast_add]
  exact IntWalk.i64_in _ (by omega)

theorem pdAll_all (t : Nat) (ht : t ≤ 15) : pdAll ((1 + t : Nat) : Int) = true := by
  match t, ht with
  | 0, _ => exact pdAll_1
  | 1, _ => exact pdAll_2
  | 2, _ => exact pdAll_3
  | 3, _ => exact pdAll_4
  | 4, _ => exact pdAll_5
  | 5, _ => exact pdAll_6
  | 6, _ => exact pdAll_7
  | 7, _ => exact pdAll_8
  | 8, _ => exact pdAll_9
  | 9, _ => exact pdAll_10
  | 10, _ => exact pdAll_11
  | 11, _ => exact pdAll_12
  | 12, _ => exact pdAll_13
  | 13, _ => exact pdAll_14
  | 14, _ => exact pdAll_15
  | 15, _ => exact pdAll_16
  | t + 16, h => omega

theorem pdTimes_in (t : Nat) (ht : t ≤ 3) : ((2 + t : Nat) : Int) ∈ pdTimes := by
  match t, ht with
  | 0, _ => decide
  | 1, _ => decide
  | 2, _ => decide
  | 3, _ => decide
  | t + 4, h => omega

theorem pending_spec (a b : Int) (rdy : Bool) : (∃ fn, Tryz.prog.funcs[pqF]? = some fn ∧ fn.body.isSome = true) ∧ CSpec Tryz.prog pqF [.c (.int .i64 a), .c (.int .i64 b), .c (.bool rdy)] ⟨[], []⟩ (fun v _ => match v with
      | .c (.bool b) => isTrue b
      | _ => False) := by
  refine evL_use ownK9_ok pdLoOK (pending_ev a b rdy isTrue) ?_
  obtain ⟨x, hx, hs⟩ := cutA_in 1 15 (by decide) a
  obtain ⟨y, hy, ht⟩ := cutA_in 2 3 (by decide) b
  have hs : cutA 1 a 15 = ((1 + x : Nat) : Int) := hs
  have ht : cutA 2 b 3 = ((2 + y : Nat) : Int) := ht
  obtain ⟨⟨h1, h2⟩, h3⟩ := pdAll_use (pdAll_all x hx)
  obtain ⟨h4, h5⟩ := h3 _ (pdTimes_in y hy)
  rw [hs, ht]
  have hb : (0 : Int) ≤ ((2 + y : Nat) : Int) ∧ ((2 + y : Nat) : Int) ≤ 1000 := by omega
  generalize ((1 + x : Nat) : Int) = sz at h1 h2 h4 h5 ⊢
  generalize ((2 + y : Nat) : Int) = t at h4 h5 hb ⊢
  have k0 := pd_key sz t (pdB sz).1 _ _ _ _ _ h1 hb h4
  have k1 := pd_key sz t (pdB sz).1 _ _ _ _ _ h1 hb h5
  have d0 : Nat.beq (pdB sz).1 0 = false := Bool.eq_false_iff.2 fun hc => by
    have := Nat.eq_of_beq_eq_true hc
    omega
  have d1 : decide (((pdB sz).1 : Int) < 2) = false := by simp; omega
  have d2 : decide ((0 : Int) ≤ 0 ∧ (0 : Int) < ((pdB sz).1 : Int)) = true := by simp; omega
  have z0 : Int.toNat 0 < (pdB sz).1 := by simp; omega
  refine ⟨⟨⟨rfl, rfl, rfl⟩, d0⟩, fun more => ?_⟩
  rw [d1, d2]
  simp only [cond_true, cond_false]
  refine ⟨⟨by simp, h2⟩, z0, ?_⟩
  cases rdy with
  | true => exact k0
  | false => exact k1

theorem pending_calls (a b : Int) (rdy : Bool) (W : World) : Calls Tryz.prog pqF #[.int .i64 a, .int .i64 b, .bool rdy] W fun e W' => e = .returned (.bool true) ∧ Below W.heap.size W W' :=
  bool_calls (vs := [.int .i64 a, .int .i64 b, .bool rdy]) (args := [.c (.int .i64 a), .c (.int .i64 b), .c (.bool rdy)]) (pending_spec a b rdy) ⟨rfl, rfl, rfl, trivial⟩

theorem compactPending_lifted (os : Os) (started : os.Started) (H : Type) (enc : TypeId × Value → H) :
    ReturnsInHanded {} Tryz.checked os 7 .any (Rows.compactPendingSpec.pre6 enc Tryz.prog Tryz.f7 Rows.compactPendingRow.domain false) (Rows.compactPendingSpec.post enc Tryz.prog Tryz.f7 false true false false) := by
  refine returnsInHanded_of_change (C := Tryz.checked) Tryz.own started (by kernel_rfl) Tryz.func7
    (ChangeSpec.witness6 (enc := enc) (C := Tryz.checked) false ⟨#[], #[.int .i64 0, .int .i64 0, .bool false], []⟩ 8 (by kernel_rfl) (by kernel_rfl) (by kernel_rfl) (by kernel_rfl)) ?_
  intro W base args ds gs before hval0 hW hcnd _
  have hval : ∀ (j : Nat) t v, Tryz.f7.params[j]? = some t → args[j]? = some v → Value.okWide Tryz.prog W .any base t v := hval0
  have hW0 := hW
  obtain ⟨p, q, hA0, hV, hpq, hfz, hnd⟩ := hW0
  have hA : DataW.TrodAll enc Tryz.prog W 0 (fun _ => true) true Tryz.f7.params.toList args.toList ds p := hA0
  rw [Tryz.params7] at hA hval
  obtain ⟨v0, v1, v2, d0, d1, d2, p0, p1, p2, rfl, rfl, rfl, h0, h1, h2⟩ := trodAll_three hA
  obtain ⟨a, rfl, _, _, _⟩ := open_int Tryz.underlying3 (hval 0 3 v0 rfl rfl) h0
  obtain ⟨b, rfl, _, _, _⟩ := open_int Tryz.underlying3 (hval 1 3 v1 rfl rfl) h1
  obtain ⟨c, rfl, _, _⟩ := open_bool Tryz.underlying4 (hval 2 4 v2 rfl rfl) h2
  refine (pending_calls a b c W).mono fun e W' ⟨he, hb⟩ => ?_
  refine ⟨_, he, law_post Tryz.laidOut Tryz.underlying4 (by kernel_rfl) ?_ rfl ?_ hW hb⟩
  · rw [Tryz.params7]
    intro t ht
    have ht : t = 3 ∨ t = 4 := by simpa using ht
    rcases ht with rfl | rfl
    · exact ⟨by kernel_rfl, of_decide_eq_true (by kernel_rfl)⟩
    · exact ⟨by kernel_rfl, of_decide_eq_true (by kernel_rfl)⟩
  · obtain ⟨rfl, rfl⟩ := trodVars_none hV
    rfl

theorem compactPending_holds : Rows.CompactPendingSaid :=
  OpenClaim.holds_of_wide 7 Tryz.f7 rfl rfl rfl rfl rfl rfl rfl ⟨rfl, rfl, rfl, rfl, rfl⟩ rfl rfl rfl rfl rfl (by kernel_rfl) Tryz.func7 (by kernel_rfl)
    (of_decide_eq_true (by kernel_rfl)) (by unfold Func.isWrapper; rw [if_neg (of_decide_eq_false (by kernel_rfl))]; exact ⟨rfl, rfl⟩)
    (fun os started H enc _ => compactPending_lifted os started H enc)

end Go.Proofs.YtfjnkneoddankaaGreat
