/-
  What an act that is done alone comes to.
-/
import Derived.Test.YtmhakaeahefmbaaDo1
set_option linter.unusedVariables false
set_option linter.unusedSimpArgs false
set_option maxRecDepth 100000
namespace Go.FL

/-- An act that is done alone: what it comes to, and the memory. -/
def doM (c : PCfg) (who : Int) (m : PMem) (x1 x2 x3 x4 x5 x6 : Int) (x7 : Bool) : PDone × PMem := match actOk x1 x5 x6 with
  | true => ((actRun c who 500 (actMk x1 x2 x3 x4 x5 x6 x7) m).1.out, (actRun c who 500 (actMk x1 x2 x3 x4 x5 x6 x7) m).2)
  | false => (⟨1, 0, 0, 0⟩, m)

end Go.FL

namespace Go.Proofs.Ytmhakaeahefmbaa
open Go Go.FL Go.Proofs

theorem doLo : LoOK Try.prog (tmpsF Try.prog doF) (fun _ => some lhDo) (loopsF Try.prog doF) := by
  have h : loopsF Try.prog doF = [loopF Try.prog doF 0] := by kernel_rfl
  rw [h]
  intro c hc hd he
  have hc : c = loopF Try.prog doF 0 := by simpa using hc
  subst hc
  cases he
  exact lhDo_ok

theorem do_ev (c : PCfg) (who : Int) (m : PMem) (x1 x2 x3 x4 x5 x6 : Int) (x7 : Bool) (K : PDone → PMem → Prop) :
    evL Try.prog own5 (fun _ => some lhDo) 10 20 doF [envV c 0 who, .agg [.int .i64 x1, .int .i64 x2, .int .u64 x3, .int .i64 x4, .int .i64 x5, .int .i64 x6, .bool x7]] ⟨cat [(false, .mem m)] 0, []⟩ (fun v H₁ => match v with
      | .agg [.int .i64 e, .int .u64 h, .int .i64 v, .int .i64 st] => shF H₁ 0 fun o c2 => match o with
        | .mem m' => match chkAll [(false, .mem m)] [c2] [] with
          | true => K ⟨e, h, v, st⟩ m'
          | false => False
        | _ => False
      | _ => False) =
    (bif actOk x1 x5 x6 then bif decide (c.words = 0) then False else K ⟨(actRun c who 500 (actMk x1 x2 x3 x4 x5 x6 x7) m).1.out.e, (actRun c who 500 (actMk x1 x2 x3 x4 x5 x6 x7) m).1.out.h, (actRun c who 500 (actMk x1 x2 x3 x4 x5 x6 x7) m).1.out.v, (actRun c who 500 (actMk x1 x2 x3 x4 x5 x6 x7) m).1.out.st⟩ (actRun c who 500 (actMk x1 x2 x3 x4 x5 x6 x7) m).2 else K ⟨1, 0, 0, 0⟩ m) := by kernel_rfl

def h_do : Hd := fun args H K => match args with
  | [.agg [.int .i64 c1, .int .i64 c2, .int .i64 c3, .int .i64 c4, .int .i64 c5, .int .i64 c6, .int .i64 c7, .ptr m 0, .int .i64 who], .agg [.int .i64 x1, .int .i64 x2, .int .u64 x3, .int .i64 x4, .int .i64 x5, .int .i64 x6, .bool x7]] =>
    match H.get m with
    | some (.obj (.mem pm)) => match decide (c4 = 0) with
      | true => False
      | false => K (.agg [cI (doM ⟨c1, c2, c3, c4, c5, c6, c7⟩ who pm x1 x2 x3 x4 x5 x6 x7).1.e, cU (doM ⟨c1, c2, c3, c4, c5, c6, c7⟩ who pm x1 x2 x3 x4 x5 x6 x7).1.h,
          cI (doM ⟨c1, c2, c3, c4, c5, c6, c7⟩ who pm x1 x2 x3 x4 x5 x6 x7).1.v, cI (doM ⟨c1, c2, c3, c4, c5, c6, c7⟩ who pm x1 x2 x3 x4 x5 x6 x7).1.st])
          (H.put m (.obj (.mem (doM ⟨c1, c2, c3, c4, c5, c6, c7⟩ who pm x1 x2 x3 x4 x5 x6 x7).2)))
    | _ => False
  | _ => False

theorem h_do_ok : HOK doF h_do := by
  intro args H K h
  unfold h_do at h
  split at h
  case h_2 => exact h.elim
  rename_i c1 c2 c3 c4 c5 c6 c7 m who x1 x2 x3 x4 x5 x6 x7
  split at h
  case h_2 => exact h.elim
  rename_i pm hm
  split at h
  · exact h.elim
  rename_i hc
  have e := (do_ev ⟨c1, c2, c3, c4, c5, c6, c7⟩ who pm x1 x2 x3 x4 x5 x6 x7 (fun d m' => K (.agg [cI d.e, cU d.h, cI d.v, cI d.st]) (H.put m (.obj (.mem m'))))).mpr (by
    unfold doM at h
    cases hb : actOk x1 x5 x6 with
    | true => simp only [hb] at h ⊢; rw [hc]; exact h
    | false => simp only [hb] at h ⊢; exact h)
  refine objs_of (ns := [m]) (xs := [(false, .mem pm)]) rfl ?_ (by simp) ?_ (evL_ok fnOK mixed own5_ok doLo e) ?_
  · intro i n x' hi hx
    match i, hi, hx with
    | 0, hi, hx => simp at hi hx; subst hi; subst hx; exact get_obj hm
    | i + 1, hi, hx => simp at hi
  · intro s s₁ vs hh hr
    match vs, hr with
    | [u, v], ⟨h1, h2, _⟩ =>
      have e0 := hh 0 m rfl
      simp only [base, Nat.zero_add] at e0
      exact ⟨rel_env (c := ⟨c1, c2, c3, c4, c5, c6, c7⟩) e0 h1, RelV.low rfl h2, trivial⟩
    | [], h => exact h.elim
    | [_], h => exact h.2.elim
    | _ :: _ :: _ :: _, h => exact h.2.2.elim
  · intro v₁ H₁ hk
    split at hk
    · rename_i e1 h1 v1 st1
      obtain ⟨o, c2, hk, hc2⟩ := shF_ok hk
      split at hk
      · rename_i pm'
        split at hk
        · rename_i hchk
          exact ⟨[c2], [(false, .mem pm')], [], [], .agg [.int .i64 e1, .int .u64 h1, .int .i64 v1, .int .i64 st1], hchk, ⟨hc2, trivial⟩, trivial, fun _ _ _ _ _ h => RelV.low rfl h, hk⟩
        · exact hk.elim
      · exact hk.elim
    · exact hk.elim

def tab6 : List (FuncId × Hd) := (doF, h_do) :: tab5

def own6 : FuncId → Option Hd := look tab6

theorem all6 : AllOK tab6 := ⟨h_do_ok, all5⟩

theorem own6_ok : OwnOK Try.prog own6 := look_ok all6

end Go.Proofs.Ytmhakaeahefmbaa
