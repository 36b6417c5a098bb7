/-
  From a contract to a row: what came in reads as it did.
-/
import Derived.Test.YtfjnkneoddankaaGreatRows
import Derived.Test.YtfjnkneoddankaaGreatEvCode
import Derived.ProofKit
set_option linter.unusedVariables false
set_option linter.unusedSimpArgs false
namespace Go.FL
open Go Go.ChangeShapes Go.WideShapes Go.ChangeAt Go.RowKit

variable {H : Type} {enc : TypeId × Value → H} {P : Program}

theorem trodAll_below (hl : laidOutB P = true) {W W' : World} (hb : Below W.heap.size W W') : ∀ {ts : List TypeId} {vs : List Value} {ds : List (DataW H)} {ps : List MemPlace},
    (∀ t ∈ ts, P.readableRec t = true ∧ t < P.types.size) → DataW.TrodAll enc P W 0 (fun _ => true) true ts vs ds ps → (∀ x ∈ ps, x.block < W.heap.size) →
    DataW.TrodAll enc P W' 0 (fun b => decide (b < W.heap.size)) true ts vs ds ps
  | [], [], [], ps, _, h, _ => h
  | t :: ts, v :: vs, d :: ds, ps, hr, h, hlt => by
    obtain ⟨p, q, h1, h2, rfl⟩ := h
    obtain ⟨r1, r2⟩ := hr t (by simp)
    exact ⟨p, q, Below.trod hl r1 r2 h1 hb (fun x hx => hlt x (by simp [hx])), trodAll_below hl hb (fun t ht => hr t (by simp [ht])) h2 (fun x hx => hlt x (by simp [hx])), rfl⟩
  | [], _ :: _, _, _, _, h, _ => h.elim
  | [], [], _ :: _, _, _, h, _ => h.elim
  | _ :: _, [], _, _, _, h, _ => h.elim
  | _ :: _, _ :: _, [], _, _, h, _ => h.elim

/-- A law's row: 'true', and what came in reads as it did. -/
theorem law_post (hl : laidOutB P = true) (hbool : P.underlying 4 = some .bool) {f : Func} {s : ChangeSpec} {W W' : World} {args : Array Value} {ds gs : List (DataW H)} {before : List MemPlace}
    (hres : f.resultTypes = #[4]) (hr : ∀ t ∈ f.params.toList, P.readableRec t = true ∧ t < P.types.size) (hv : s.vars = [])
    (hs : s.fn H (ds ++ gs) = { results := [.lit (.bool true)], args := ds }) (hW : DataW.Whole enc P f.params.toList s.vars false W args.toList ds gs before) (hb : Below W.heap.size W W') :
    s.post enc P f false true false false W args (.bool true) W' := by
  have hW0 := hW
  obtain ⟨p, q, hA, hV, hpq, hfz, hnd⟩ := hW
  rw [hv] at hV
  have hgs : gs = [] ∧ q = [] := by
    cases gs with
    | nil => exact ⟨rfl, hV⟩
    | cons g gs => exact hV.elim
  obtain ⟨rfl, rfl⟩ := hgs
  rw [List.append_nil] at hpq
  subst hpq
  refine ⟨ds, [], before, [], before, [], hW0, ?_, ?_, ?_, hb.frame _, fun h => by cases h⟩
  · rw [hs, hres]
    exact trodAll_mk1 (shut_bool hbool true)
  · rw [hs]
    exact trodAll_below hl hb hr hA (fun x hx => hW0.lt x hx)
  · rw [hs, hv]
    rfl

theorem Rel.none (w : World) : Rel [] ⟨[], []⟩ w :=
  ⟨rfl, fun n b r f h => by simp at h, by
    intro i j y h1 h2
    obtain ⟨r, f, h, _⟩ := h1
    simp at h, by
    intro n y h
    obtain ⟨r, f, h, _⟩ := h
    simp at h⟩

/-- A law that holds, over a memory of which it asks nothing. -/
theorem law_calls {f : FuncId} {args : List LV} {vs : List Value} {W : World} (h : (∃ fn, P.funcs[f]? = some fn ∧ fn.body.isSome = true) ∧ CSpec P f args ⟨[], []⟩ (fun v _ => match v with
      | .c (.bool true) => True
      | _ => False)) (hr : RelVs [] args vs) :
    Calls P f vs.toArray W fun e W' => e = .returned (.bool true) ∧ Below W.heap.size W W' := by
  refine Calls.mono (h.2 [] vs W hr (Rel.none W)) ?_
  intro e W' he
  match e, he with
  | .returned v', ⟨s', v, H', hk, hv, hH, hp⟩ =>
    dsimp only at hk
    split at hk
    · have hv : v' = .bool true := hv
      exact ⟨by rw [hv], hp.os, hp.tape, hp.output, hp.size, fun k hk => hp.frame k hk fun n _ ho => by
        obtain ⟨r, f, h, _⟩ := ho
        simp at h⟩
    · exact hk.elim

end Go.FL
