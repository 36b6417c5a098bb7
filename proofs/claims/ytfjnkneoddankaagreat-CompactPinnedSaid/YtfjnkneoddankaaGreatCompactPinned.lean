/-
  A chunk that was evacuated while a thread is pinned is not free, and its words stay, until that is pinned no more: the row.
-/
import Derived.Test.YtfjnkneoddankaaGreatPinE1
import Derived.Test.YtfjnkneoddankaaGreatPinE2
import Derived.Test.YtfjnkneoddankaaGreatPinE3
import Derived.Test.YtfjnkneoddankaaGreatPinE4
set_option linter.unusedVariables false
set_option linter.unusedSimpArgs false
set_option maxRecDepth 100000
namespace Go.Proofs.YtfjnkneoddankaaGreat
open Go Go.FL Go.Proofs Go.ChangeShapes Go.WideShapes Go.ChangeAt Go.RowKit

theorem cutA_in (k n : Nat) (hk : k + n < 1000) (x : Int) : ∃ t : Nat, t ≤ n ∧ cutA k x n = ((k + t : Nat) : Int) := by
  obtain ⟨t, h1, h2⟩ := and_small x n (by omega)
  refine ⟨t, h1, ?_⟩
  unfold cutA
  rw [h2, ← Int.natCast_add]
  exact IntWalk.i64_in _ (by omega)

theorem pnAll_all (t : Nat) (ht : t ≤ 15) : pnAll ((1 + t : Nat) : Int) = true := by
  match t, ht with
  | 0, _ => exact pnAll_1
  | 1, _ => exact pnAll_2
  | 2, _ => exact pnAll_3
  | 3, _ => exact pnAll_4
  | 4, _ => exact pnAll_5
  | 5, _ => exact pnAll_6
  | 6, _ => exact pnAll_7
  | 7, _ => exact pnAll_8
  | 8, _ => exact pnAll_9
  | 9, _ => exact pnAll_10
  | 10, _ => exact pnAll_11
  | 11, _ => exact pnAll_12
  | 12, _ => exact pnAll_13
  | 13, _ => exact pnAll_14
  | 14, _ => exact pnAll_15
  | 15, _ => exact pnAll_16
  | t + 16, h => omega

theorem pnTimes_in (t : Nat) (ht : t ≤ 7) : ((2 + t : Nat) : Int) ∈ pnTimes := by
  match t, ht with
  | 0, _ => decide
  | 1, _ => decide
  | 2, _ => decide
  | 3, _ => decide
  | 4, _ => decide
  | 5, _ => decide
  | 6, _ => decide
  | 7, _ => decide
  | t + 8, h => omega

theorem pinned_spec (a b : Int) : (∃ fn, Tryz.prog.funcs[pbF]? = some fn ∧ fn.body.isSome = true) ∧ CSpec Tryz.prog pbF [.c (.int .i64 a), .c (.int .i64 b)] ⟨[], []⟩ (fun v _ => match v with
      | .c (.bool b) => isTrue b
      | _ => False) := by
  refine evL_use ownK11_ok pnLoOK (pinned_ev a b isTrue) ?_
  obtain ⟨x, hx, hs⟩ := cutA_in 1 15 (by decide) a
  obtain ⟨y, hy, ht⟩ := cutA_in 2 7 (by decide) b
  have hs : cutA 1 a 15 = ((1 + x : Nat) : Int) := hs
  have ht : cutA 2 b 7 = ((2 + y : Nat) : Int) := ht
  obtain ⟨⟨h1, h2⟩, h3⟩ := pnAll_use (pnAll_all x hx)
  have h4 := h3 _ (pnTimes_in y hy)
  rw [hs, ht]
  have hb : (0 : Int) ≤ ((2 + y : Nat) : Int) ∧ ((2 + y : Nat) : Int) ≤ 1000 := by omega
  generalize ((1 + x : Nat) : Int) = sz at h1 h2 h4
  generalize ((2 + y : Nat) : Int) = t at h4 hb
  have key := pn_key sz t h1 h2 hb h4
  exact ⟨⟨⟨rfl, rfl, rfl⟩, h1⟩, fun cap => ⟨⟨rfl, rfl, rfl, rfl, rfl, rfl, rfl⟩, ⟨⟨rfl, rfl, rfl, rfl, rfl, rfl⟩, h2⟩, ⟨hb, key.1⟩, fun _ => key.2⟩⟩

theorem pinned_calls (a b : Int) (W : World) : Calls Tryz.prog pbF #[.int .i64 a, .int .i64 b] W fun e W' => e = .returned (.bool true) ∧ Below W.heap.size W W' :=
  bool_calls (vs := [.int .i64 a, .int .i64 b]) (args := [.c (.int .i64 a), .c (.int .i64 b)]) (pinned_spec a b) ⟨rfl, rfl, trivial⟩

theorem compactPinned_lifted (os : Os) (started : os.Started) (H : Type) (enc : TypeId × Value → H) :
    ReturnsInHanded {} Tryz.checked os 5 .any (Rows.compactPinnedSpec.pre6 enc Tryz.prog Tryz.f5 Rows.compactPinnedRow.domain false) (Rows.compactPinnedSpec.post enc Tryz.prog Tryz.f5 false true false false) := by
  refine returnsInHanded_of_change (C := Tryz.checked) Tryz.own started (by kernel_rfl) Tryz.func5
    (ChangeSpec.witness6 (enc := enc) (C := Tryz.checked) false ⟨#[], #[.int .i64 0, .int .i64 0], []⟩ 8 (by kernel_rfl) (by kernel_rfl) (by kernel_rfl) (by kernel_rfl)) ?_
  intro W base args ds gs before hval0 hW hcnd _
  have hval : ∀ (j : Nat) t v, Tryz.f5.params[j]? = some t → args[j]? = some v → Value.okWide Tryz.prog W .any base t v := hval0
  have hW0 := hW
  obtain ⟨p, q, hA0, hV, hpq, hfz, hnd⟩ := hW0
  have hA : DataW.TrodAll enc Tryz.prog W 0 (fun _ => true) true Tryz.f5.params.toList args.toList ds p := hA0
  rw [Tryz.params5] at hA hval
  obtain ⟨v0, v1, d0, d1, p0, p1, rfl, rfl, rfl, h0, h1⟩ := trodAll_two hA
  obtain ⟨a, rfl, _, _, _⟩ := open_int Tryz.underlying3 (hval 0 3 v0 rfl rfl) h0
  obtain ⟨b, rfl, _, _, _⟩ := open_int Tryz.underlying3 (hval 1 3 v1 rfl rfl) h1
  refine (pinned_calls a b W).mono fun e W' ⟨he, hb⟩ => ?_
  refine ⟨_, he, law_post Tryz.laidOut Tryz.underlying4 (by kernel_rfl) ?_ rfl ?_ hW hb⟩
  · rw [Tryz.params5]
    intro t ht
    have ht : t = 3 := by simpa using ht
    subst ht
    exact ⟨by kernel_rfl, of_decide_eq_true (by kernel_rfl)⟩
  · obtain ⟨rfl, rfl⟩ := trodVars_none hV
    rfl

theorem compactPinned_holds : Rows.CompactPinnedSaid :=
  OpenClaim.holds_of_wide 5 Tryz.f5 rfl rfl rfl rfl rfl rfl rfl ⟨rfl, rfl, rfl, rfl, rfl⟩ rfl rfl rfl rfl rfl (by kernel_rfl) Tryz.func5 (by kernel_rfl)
    (of_decide_eq_true (by kernel_rfl)) (by unfold Func.isWrapper; rw [if_neg (of_decide_eq_false (by kernel_rfl))]; exact ⟨rfl, rfl⟩)
    (fun os started H enc _ => compactPinned_lifted os started H enc)

end Go.Proofs.YtfjnkneoddankaaGreat
