/-
  What is Own is done just by acts that say so: the row.
-/
import Derived.Test.YtmhakaeahefmbaaOwns2
import Derived.Test.YtmhakaeahefmbaaLawA
set_option linter.unusedVariables false
set_option linter.unusedSimpArgs false
set_option maxRecDepth 100000
namespace Go.Proofs.Ytmhakaeahefmbaa
open Go Go.FL Go.Proofs Go.ChangeShapes Go.WideShapes Go.ChangeAt Go.RowKit

theorem owns_key (a b c d : PDone × PMem) (h1 : a.1.e = 3) (h2 : b.1.e = 3) (h3 : c.1.e = 0) (h4 : d.1.e = 0) :
    (bif decide (a.1.e = 3) then bif decide (b.1.e = 3) then bif decide (c.1.e = 0) then isTrue (decide (d.1.e = 0)) else isTrue false else isTrue false else isTrue false) := by
  rw [decide_eq_true h1, decide_eq_true h2, decide_eq_true h3, decide_eq_true h4]
  trivial

attribute [local irreducible] ownsP ownsQ ownsR ownsS

theorem owns_spec (z x1 x2 x3 x4 x5 x6 : Int) (x7 : Bool) : (∃ fn, Try.prog.funcs[8]? = some fn ∧ fn.body.isSome = true) ∧
    CSpec Try.prog 8 [.c (.int .i64 z), .agg [.int .i64 x1, .int .i64 x2, .int .u64 x3, .int .i64 x4, .int .i64 x5, .int .i64 x6, .bool x7]] ⟨[], []⟩ (fun v H₁ => match v with
      | .c (.bool b) => isTrue b
      | _ => False) := by
  have h := @owns_all (ownSz z) (ownKind (cutKind x1)) (ownSz_in z) (ownKind_in (cutKind x1)) x2 (cutVal x5) (cutVal_in x5)
  have k := owns_key (ownsP (ownSz z) (ownKind (cutKind x1)) x2 (cutVal x5)) (ownsQ (ownSz z) (ownKind (cutKind x1)) x2 (cutVal x5)) (ownsR (ownSz z) (ownKind (cutKind x1)) x2 (cutVal x5)) (ownsS (ownSz z) (ownKind (cutKind x1)) x2 (cutVal x5)) h.1 h.2.1 h.2.2.1 h.2.2.2
  exact evF_use own11_ok (own_ev z x1 x2 x3 x4 x5 x6 x7 isTrue) k

theorem owns_calls (z x1 x2 x3 x4 x5 x6 : Int) (x7 : Bool) (W : World) : Calls Try.prog 8 #[.int .i64 z, .agg #[.int .i64 x1, .int .i64 x2, .int .u64 x3, .int .i64 x4, .int .i64 x5, .int .i64 x6, .bool x7]] W
    fun e W' => e = .returned (.bool true) ∧ Below W.heap.size W W' :=
  bool_calls (vs := [.int .i64 z, .agg #[.int .i64 x1, .int .i64 x2, .int .u64 x3, .int .i64 x4, .int .i64 x5, .int .i64 x6, .bool x7]]) (args := [.c (.int .i64 z), .agg [.int .i64 x1, .int .i64 x2, .int .u64 x3, .int .i64 x4, .int .i64 x5, .int .i64 x6, .bool x7]])
    (owns_spec z x1 x2 x3 x4 x5 x6 x7) ⟨rfl, ⟨_, rfl, rfl, rfl, rfl, rfl, rfl, rfl, rfl, trivial⟩, trivial⟩

theorem actOwn_lifted (os : Os) (started : os.Started) (H : Type) (enc : TypeId × Value → H) :
    ReturnsInHanded {} Try.checked os 8 .any (Rows.actOwnSpec.pre6 enc Try.prog Try.f8 Rows.actOwnRow.domain false) (Rows.actOwnSpec.post enc Try.prog Try.f8 false true false false) := by
  refine returnsInHanded_of_change (C := Try.checked) Try.own started (by kernel_rfl) Try.func8
    (ChangeSpec.witness6 (enc := enc) (C := Try.checked) false ⟨#[], #[.int .i64 0, .agg #[.int .i64 0, .int .i64 0, .int .u64 0, .int .i64 0, .int .i64 0, .int .i64 0, .bool false]], []⟩ 8 (by kernel_rfl) (by kernel_rfl) (by kernel_rfl) (by kernel_rfl)) ?_
  intro W base args ds gs before hval0 hW hcnd _
  have hval : ∀ (j : Nat) t v, Try.f8.params[j]? = some t → args[j]? = some v → Value.okWide Try.prog W .any base t v := hval0
  have hW0 := hW
  obtain ⟨p, q, hA0, hV, hpq, hfz, hnd⟩ := hW0
  have hA : DataW.TrodAll enc Try.prog W 0 (fun _ => true) true Try.f8.params.toList args.toList ds p := hA0
  rw [Try.params8] at hA hval
  obtain ⟨v0, v1, d0, d1, p0, p1, rfl, rfl, rfl, h0, h1⟩ := trodAll_two hA
  obtain ⟨z, rfl, _, _, _⟩ := open_int Try.underlying3 (hval 0 3 v0 rfl rfl) h0
  obtain ⟨x1, x2, x3, x4, x5, x6, x7, rfl, _⟩ := open_act (hval 1 36 v1 rfl rfl) h1
  refine (owns_calls z x1 x2 x3 x4 x5 x6 x7 W).mono fun e W' ⟨he, hb⟩ => ?_
  refine ⟨_, he, law_post Try.laidOut Try.underlying4 (by kernel_rfl) ?_ rfl ?_ hW hb⟩
  · rw [Try.params8]
    intro t ht
    have ht : t = 3 ∨ t = 36 := by simpa using ht
    rcases ht with rfl | rfl
    · exact ⟨by kernel_rfl, of_decide_eq_true (by kernel_rfl)⟩
    · exact ⟨by kernel_rfl, of_decide_eq_true (by kernel_rfl)⟩
  · obtain ⟨rfl, rfl⟩ := trodVars_none hV
    rfl

theorem actOwn_holds : Rows.ActOwnSaid :=
  OpenClaim.holds_of_wide 8 Try.f8 rfl rfl rfl rfl rfl rfl rfl ⟨rfl, rfl, rfl, rfl, rfl⟩ rfl rfl rfl rfl rfl (by kernel_rfl) Try.func8 (by kernel_rfl)
    (of_decide_eq_true (by kernel_rfl)) (by unfold Func.isWrapper; rw [if_neg (of_decide_eq_false (by kernel_rfl))]; exact ⟨rfl, rfl⟩)
    (fun os started H enc _ => actOwn_lifted os started H enc)

end Go.Proofs.Ytmhakaeahefmbaa
