/-
  An arena is made.
-/
import Derived.Test.YtfjnkneoddankaaGreatFr2
set_option linter.unusedVariables false
set_option linter.unusedSimpArgs false
set_option maxRecDepth 100000
namespace Go.FL

def arOk (a b c d : Int) : Bool := lCheck a b c d 100 600 3 && !(decide (lLen a b c d 100 600 3 < 1) || decide (1048576 < lLen a b c d 100 600 3))

def arM (a b c d : Int) : PMem := freshM a b c d 100 600 3

end Go.FL

namespace Go.Proofs.YtfjnkneoddankaaGreat
open Go Go.FL Go.Proofs

theorem arena_ev (a b c d : Int) (K : Option PMem → Prop) : evF Tryz.prog own8 10 20 9 [.c (.int .i64 a), .c (.int .i64 b), .c (.int .i64 c), .c (.int .i64 d)] ⟨[], []⟩ (fun v H₁ => match v with
    | .tup [.agg [.int .i64 a', .int .i64 b', .int .i64 c', .int .i64 d', .int .i64 e', .int .i64 f', .int .i64 g', .nilp, .int .i64 w], .c (.bool false)] =>
      (a' = a ∧ b' = b ∧ c' = c ∧ d' = d ∧ e' = 100 ∧ f' = 600 ∧ g' = 3 ∧ w = 0) ∧ K none
    | .tup [.agg [.int .i64 a', .int .i64 b', .int .i64 c', .int .i64 d', .int .i64 e', .int .i64 f', .int .i64 g', .ptr i 0, .int .i64 w], .c (.bool true)] =>
      (a' = a ∧ b' = b ∧ c' = c ∧ d' = d ∧ e' = 100 ∧ f' = 600 ∧ g' = 3 ∧ w = 0) ∧ (shMemF H₁ i fun x c => match chkAll [] [] [c] && headOK i c with
        | true => K (some x)
        | false => False)
    | _ => False) =
    (bif lCheck a b c d 100 600 3 then bif decide (lLen a b c d 100 600 3 < 1) || decide (1048576 < lLen a b c d 100 600 3) then (a = a ∧ b = b ∧ c = c ∧ d = d ∧ (100 : Int) = 100 ∧ (600 : Int) = 600 ∧ (3 : Int) = 3 ∧ (0 : Int) = 0) ∧ K none
      else (a = a ∧ b = b ∧ c = c ∧ d = d ∧ (100 : Int) = 100 ∧ (600 : Int) = 600 ∧ (3 : Int) = 3 ∧ (0 : Int) = 0) ∧ K (some (arM a b c d))
    else (a = a ∧ b = b ∧ c = c ∧ d = d ∧ (100 : Int) = 100 ∧ (600 : Int) = 600 ∧ (3 : Int) = 3 ∧ (0 : Int) = 0) ∧ K none) := by kernel_rfl

def h_arena : Hd := fun args H K => match args with
  | [.c (.int .i64 a), .c (.int .i64 b), .c (.int .i64 c), .c (.int .i64 d)] => match arOk a b c d with
    | false => K (.tup [.agg [cI a, cI b, cI c, cI d, cI 100, cI 600, cI 3, .nilp, cI 0], .c (.bool false)]) H
    | true => K (.tup [.agg [cI a, cI b, cI c, cI d, cI 100, cI 600, cI 3, .ptr H.len 0, cI 0], .c (.bool true)]) (H.new (.obj (.mem (arM a b c d))))
  | _ => False

theorem h_arena_ok : HOK 9 h_arena := by
  intro args H K h
  unfold h_arena at h
  split at h
  case h_2 => exact h.elim
  rename_i a b c d
  have e := (arena_ev a b c d (fun o => match o with
    | some x => K (.tup [.agg [cI a, cI b, cI c, cI d, cI 100, cI 600, cI 3, .ptr H.len 0, cI 0], .c (.bool true)]) (H.new (.obj (.mem x)))
    | none => K (.tup [.agg [cI a, cI b, cI c, cI d, cI 100, cI 600, cI 3, .nilp, cI 0], .c (.bool false)]) H)).mpr (by
      unfold arOk at h
      cases h1 : lCheck a b c d 100 600 3 with
      | false =>
        simp only [h1, Bool.false_and] at h
        simp only [cond_false, true_and, and_self]
        exact h
      | true =>
        cases h2 : decide (lLen a b c d 100 600 3 < 1) || decide (1048576 < lLen a b c d 100 600 3) with
        | true =>
          simp only [h1, h2, Bool.not_true, Bool.and_false] at h
          simp only [cond_true, true_and, and_self]
          exact h
        | false =>
          simp only [h1, h2, Bool.not_false, Bool.and_true] at h
          simp only [cond_true, cond_false, true_and, and_self]
          exact h)
  refine objs_ok own8_ok (ns := []) (xs := []) rfl (by simp) List.nodup_nil (fun s s₁ vs _ h => RelVs.low rfl h) e ?_
  intro v₁ H₁ hk
  split at hk
  · rename_i a' b' c' d' e' f' g' w
    obtain ⟨⟨rfl, rfl, rfl, rfl, rfl, rfl, rfl, rfl⟩, hk⟩ := hk
    exact ⟨[], [], [], [], _, rfl, trivial, trivial, fun s₁ s' v' _ _ hr => RelV.low rfl hr, hk⟩
  · rename_i a' b' c' d' e' f' g' i w
    obtain ⟨⟨rfl, rfl, rfl, rfl, rfl, rfl, rfl, rfl⟩, hk⟩ := hk
    obtain ⟨x, c, hk, hc⟩ := shMemF_ok hk
    split at hk
    · rename_i hchk
      simp only [Bool.and_eq_true] at hchk
      obtain ⟨h1, h2⟩ := hchk
      refine ⟨[], [], [c], [(false, .mem x)], _, h1, trivial, ⟨hc, trivial⟩, ?_, hk⟩
      intro s₁ s' v' _ hd' hr
      have h0 : c[0]? = some i := by
        unfold headOK at h2
        split at h2
        · have := Nat.eq_of_beq_eq_true h2; simp [this]
        · cases h2
      have := hd' 0 c i rfl h0
      simp only [Nat.add_zero] at this
      obtain ⟨vs, rfl, hr⟩ := hr
      refine ⟨vs, rfl, ?_⟩
      generalize vs.toList = us at hr ⊢
      match us, hr with
      | [u, v], ⟨h3, h4, _⟩ =>
        refine ⟨?_, h4, trivial⟩
        obtain ⟨cs, rfl, h3⟩ := h3
        refine ⟨cs, rfl, ?_⟩
        generalize cs.toList = us at h3 ⊢
        match us, h3 with
        | [a, b, c, d, e, f, g, p, q], ⟨h1, h2, h3, h4, h5, h6, h7, ⟨r, h8, h9⟩, h10, _⟩ => exact ⟨h1, h2, h3, h4, h5, h6, h7, ⟨r, by rw [this]; exact h8, h9⟩, h10, trivial⟩
    · exact hk.elim
  · exact hk.elim

def tab9 : List (FuncId × Hd) := (9, h_arena) :: tab8

def own9 : FuncId → Option Hd := look tab9

theorem all9 : AllOK tab9 := ⟨h_arena_ok, all8⟩

theorem own9_ok : OwnOK Tryz.prog own9 := look_ok all9

end Go.Proofs.YtfjnkneoddankaaGreat
