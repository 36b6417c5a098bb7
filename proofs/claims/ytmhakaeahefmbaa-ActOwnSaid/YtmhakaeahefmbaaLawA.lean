/-
  What laws over acts share.
-/
import Derived.Test.YtmhakaeahefmbaaLaw
import Derived.Test.YtmhakaeahefmbaaStepOk
import Derived.Lib.SmallJoins
set_option linter.unusedVariables false
set_option linter.unusedSimpArgs false
set_option maxRecDepth 100000
namespace Go.Proofs.Ytmhakaeahefmbaa
open Go Go.FL Go.Proofs Go.ChangeShapes Go.WideShapes Go.ChangeAt Go.RowKit

theorem Try.own : ownKnob Try.prog.godebug = none := by kernel_rfl
theorem Try.laidOut : laidOutB Try.prog = true := by kernel_rfl

/-- An act that is handed in. -/
theorem open_act {H : Type} {enc : TypeId × Value → H} {W : World} {r : Reach} {b0 base : Nat} {sp : Nat → Bool} {held : Bool} {v : Value} {d : DataW H} {p : List MemPlace}
    (hv : Value.okWide Try.prog W r b0 36 v) (h : DataW.Trod enc Try.prog W base sp held 36 v d p) :
    ∃ (x1 x2 x3 x4 x5 x6 : Int) (x7 : Bool), v = .agg #[.int .i64 x1, .int .i64 x2, .int .u64 x3, .int .i64 x4, .int .i64 x5, .int .i64 x6, .bool x7] ∧
      (Lit.int .i64 x1).wf = true ∧ (Lit.int .i64 x2).wf = true ∧ (Lit.int .u64 x3).wf = true ∧ (Lit.int .i64 x4).wf = true ∧ (Lit.int .i64 x5).wf = true ∧ (Lit.int .i64 x6).wf = true := by
  obtain ⟨cs, rfl, hsz⟩ := okWide_struct Try.underlying36 hv
  have h7 : cs.size = 7 := hsz.trans (by kernel_rfl)
  obtain ⟨fuel, hf⟩ := h
  obtain ⟨xs, n, rfl, hx, hlen, hxs, hall⟩ := DataW.trod_struct Try.underlying36 hf
  obtain ⟨c0, c1, c2, c3, c4, c5, c6, rfl⟩ : ∃ c0 c1 c2 c3 c4 c5 c6, cs = #[c0, c1, c2, c3, c4, c5, c6] := by
    obtain ⟨l⟩ := cs
    match l, h7 with
    | [a, b, c, d, e, f, g], _ => exact ⟨a, b, c, d, e, f, g, rfl⟩
  have k3 : Try.prog.cellsOf 3 = 1 := by kernel_rfl
  have k34 : Try.prog.cellsOf 34 = 1 := by kernel_rfl
  have k4 : Try.prog.cellsOf 4 = 1 := by kernel_rfl
  match xs, hxs with
  | [y0, y1, y2, y3, y4, y5, y6], _ =>
    have a0 : DataW.trod enc Try.prog W base sp held n 3 (List.take (Try.prog.cellsOf 3) [c0, c1, c2, c3, c4, c5, c6]) = some y0 := hall 0 _ rfl
    rw [k3] at a0
    have a1 : DataW.trod enc Try.prog W base sp held n 3 (List.take (Try.prog.cellsOf 3) [c1, c2, c3, c4, c5, c6]) = some y1 := hall 1 _ rfl
    rw [k3] at a1
    have a2 : DataW.trod enc Try.prog W base sp held n 34 (List.take (Try.prog.cellsOf 34) [c2, c3, c4, c5, c6]) = some y2 := hall 2 _ rfl
    rw [k34] at a2
    have a3 : DataW.trod enc Try.prog W base sp held n 3 (List.take (Try.prog.cellsOf 3) [c3, c4, c5, c6]) = some y3 := hall 3 _ rfl
    rw [k3] at a3
    have a4 : DataW.trod enc Try.prog W base sp held n 3 (List.take (Try.prog.cellsOf 3) [c4, c5, c6]) = some y4 := hall 4 _ rfl
    rw [k3] at a4
    have a5 : DataW.trod enc Try.prog W base sp held n 3 (List.take (Try.prog.cellsOf 3) [c5, c6]) = some y5 := hall 5 _ rfl
    rw [k3] at a5
    have a6 : DataW.trod enc Try.prog W base sp held n 4 (List.take (Try.prog.cellsOf 4) [c6]) = some y6 := hall 6 _ rfl
    rw [k4] at a6
    obtain ⟨x1, e1, _, w1⟩ := DataW.trod_int Try.underlying3 a0
    obtain ⟨x2, e2, _, w2⟩ := DataW.trod_int Try.underlying3 a1
    obtain ⟨x3, e3, _, w3⟩ := DataW.trod_int Try.underlying34 a2
    obtain ⟨x4, e4, _, w4⟩ := DataW.trod_int Try.underlying3 a3
    obtain ⟨x5, e5, _, w5⟩ := DataW.trod_int Try.underlying3 a4
    obtain ⟨x6, e6, _, w6⟩ := DataW.trod_int Try.underlying3 a5
    obtain ⟨x7, e7, _⟩ := DataW.trod_bool Try.underlying4 a6
    simp only [List.take, List.cons.injEq, and_true] at e1 e2 e3 e4 e5 e6 e7
    subst e1 e2 e3 e4 e5 e6 e7
    exact ⟨x1, x2, x3, x4, x5, x6, x7, rfl, w1, w2, w3, w4, w5, w6⟩

theorem evF_use {own : FuncId → Option Hd} (hown : OwnOK Try.prog own) {fuel d : Nat} {f : FuncId} {args : List LV} {H : LH} {K : LV → LH → Prop} {B : Prop} (e : evF Try.prog own fuel d f args H K = B) (hB : B) :
    (∃ fn, Try.prog.funcs[f]? = some fn ∧ fn.body.isSome = true) ∧ CSpec Try.prog f args H K := evF_ok fnOK mixed hown fuel d _ _ _ _ (e.mpr hB)

theorem evL_use {own : FuncId → Option Hd} (hown : OwnOK Try.prog own) {lo : Nat → Option LHd} {fuel d : Nat} {f : FuncId} {args : List LV} {H : LH} {K : LV → LH → Prop} {B : Prop} (hlo : LoOK Try.prog (tmpsF Try.prog f) lo (loopsF Try.prog f))
    (e : evL Try.prog own lo fuel d f args H K = B) (hB : B) : (∃ fn, Try.prog.funcs[f]? = some fn ∧ fn.body.isSome = true) ∧ CSpec Try.prog f args H K := evL_ok fnOK mixed hown hlo (e.mpr hB)

/-- What a law's walk ends in. -/
def isTrue : Bool → Prop
  | true => True
  | false => False

theorem bool_calls {f : FuncId} {args : List LV} {vs : List Value} {W : World} (h : (∃ fn, Try.prog.funcs[f]? = some fn ∧ fn.body.isSome = true) ∧ CSpec Try.prog f args ⟨[], []⟩ (fun v _ => match v with
      | .c (.bool b) => isTrue b
      | _ => False)) (hr : RelVs [] args vs) :
    Calls Try.prog f vs.toArray W fun e W' => e = .returned (.bool true) ∧ Below W.heap.size W W' := by
  refine law_calls ⟨h.1, fun s vs w hr hH => Calls.mono (h.2 s vs w hr hH) ?_⟩ hr
  intro e W' he
  match e, he with
  | .returned v', ⟨s', v, H', hk, hv, hH, hp⟩ =>
    refine ⟨s', v, H', ?_, hv, hH, hp⟩
    dsimp only at hk ⊢
    split at hk
    · rename_i b
      cases b with
      | true => trivial
      | false => exact hk.elim
    · exact hk.elim

end Go.Proofs.Ytmhakaeahefmbaa
