/-
  An act is made.
-/
import Derived.Test.YtmhakaeahefmbaaCan4
set_option linter.unusedVariables false
set_option linter.unusedSimpArgs false
set_option maxRecDepth 100000
namespace Go.FL

def actNewK (x1 x2 x3 x4 x5 x6 : Int) (x7 : Bool) (K : Option PAct → Int → Prop) : Prop :=
  bif decide (0 ≤ x5) then
   bif decide (x5 ≤ 1099511627775) then
    bif decide (0 ≤ x6) then
     bif decide (1 ≤ x1) then
      bif decide (x1 ≤ 5) then
       bif !decide (x6 ≤ 1099511627775) then
        K none 1
       else
        bif decide (x1 = 1) then
         K (some ⟨⟨0, 0⟩, 0, (.alloc ⟨(x2), (x7), 0, ⟨0, 0, 0, 0, false⟩, 0, 0, none, 0, 0, none, ⟨0, 0, 0, 0⟩⟩), ⟨0, 0, 0, 0⟩⟩) 0
        else
         bif decide (x1 = 2) then
          K (some ⟨⟨0, 0⟩, 0, (.drop ⟨(x3), (x7), 0, 0, 0, 0, 0, none, none, ⟨0, 0, 0, 0⟩⟩), ⟨0, 0, 0, 0⟩⟩) 0
         else
          K (some ⟨⟨0, 0⟩, 0, (.access ⟨⟨(IntKind.wrap IntKind.i64 (IntKind.wrap IntKind.i64 (x1 - 3) + 1)), (x3), (x4), (x5), (x6)⟩, (x7), 0, 0, 0, 0, 0, 0, 0, 0, none, ⟨0, 0, 0, 0⟩⟩), ⟨0, 0, 0, 0⟩⟩) 0
      else
       K none 1
     else
      K none 1
    else
     bif decide (1 ≤ x1) then
      bif decide (x1 ≤ 5) then
       K none 1
      else
       K none 1
     else
      K none 1
   else
    bif decide (1 ≤ x1) then
     bif decide (x1 ≤ 5) then
      K none 1
     else
      K none 1
    else
     K none 1
  else
   bif decide (1 ≤ x1) then
    bif decide (x1 ≤ 5) then
     K none 1
    else
     K none 1
   else
    K none 1

/-- Which acts may be. -/
def actOk (x1 x5 x6 : Int) : Bool := decide (0 ≤ x5) && (decide (x5 ≤ 1099511627775) && (decide (0 ≤ x6) && (decide (1 ≤ x1) && (decide (x1 ≤ 5) && decide (x6 ≤ 1099511627775)))))

def workMk (x1 x2 x3 x4 x5 x6 : Int) (x7 : Bool) : PWork :=
  bif decide (x1 = 1) then .alloc ⟨x2, x7, 0, ⟨0, 0, 0, 0, false⟩, 0, 0, none, 0, 0, none, ⟨0, 0, 0, 0⟩⟩
  else bif decide (x1 = 2) then .drop ⟨x3, x7, 0, 0, 0, 0, 0, none, none, ⟨0, 0, 0, 0⟩⟩
  else .access ⟨⟨IntKind.wrap IntKind.i64 (IntKind.wrap IntKind.i64 (x1 - 3) + 1), x3, x4, x5, x6⟩, x7, 0, 0, 0, 0, 0, 0, 0, 0, none, ⟨0, 0, 0, 0⟩⟩

/-- An act that is begun. -/
def actMk (x1 x2 x3 x4 x5 x6 : Int) (x7 : Bool) : PAct := ⟨⟨0, 0⟩, 0, workMk x1 x2 x3 x4 x5 x6 x7, ⟨0, 0, 0, 0⟩⟩

theorem actNewK_eq (x1 x2 x3 x4 x5 x6 : Int) (x7 : Bool) (K : Option PAct → Int → Prop) : actNewK x1 x2 x3 x4 x5 x6 x7 K =
    (match actOk x1 x5 x6 with | true => K (some (actMk x1 x2 x3 x4 x5 x6 x7)) 0 | false => K none 1) := by
  unfold actNewK actOk actMk workMk
  generalize decide (0 ≤ x5) = b1
  generalize decide (x5 ≤ 1099511627775) = b2
  generalize decide (0 ≤ x6) = b3
  generalize decide (1 ≤ x1) = b4
  generalize decide (x1 ≤ 5) = b5
  generalize decide (x6 ≤ 1099511627775) = b6
  generalize decide (x1 = 1) = b7
  generalize decide (x1 = 2) = b8
  cases b1 <;> cases b2 <;> cases b3 <;> cases b4 <;> cases b5 <;> cases b6 <;> cases b7 <;> cases b8 <;> rfl

end Go.FL

namespace Go.Proofs.Ytmhakaeahefmbaa
open Go Go.FL Go.Proofs

theorem actNew_ev (x1 x2 x3 x4 x5 x6 : Int) (x7 : Bool) (K : Option PAct → Int → Prop) : evF Try.prog own4 10 20 14 [.agg [.int .i64 x1, .int .i64 x2, .int .u64 x3, .int .i64 x4, .int .i64 x5, .int .i64 x6, .bool x7]] ⟨[], []⟩ (fun v H₁ => match v with
    | .tup [.c .nilp, .c (.int .i64 e)] => K none e
    | .tup [.c (.ptr i 0), .c (.int .i64 e)] => (shAct H₁ i fun x c => match chkAll [] [] [c] && headOK i c with
      | true => K (some x) e
      | false => False)
    | _ => False) = actNewK x1 x2 x3 x4 x5 x6 x7 K := by kernel_rfl

def h_actNew : Hd := fun args H K => match args with
  | [.agg [.int .i64 x1, .int .i64 x2, .int .u64 x3, .int .i64 x4, .int .i64 x5, .int .i64 x6, .bool x7]] => match actOk x1 x5 x6 with
    | true => K (.tup [.c (.ptr H.len 0), .c (cI 0)]) (H.new (.obj (.act (actMk x1 x2 x3 x4 x5 x6 x7))))
    | false => K (.tup [.c .nilp, .c (cI 1)]) H
  | _ => False

theorem h_actNew_ok : HOK 14 h_actNew := by
  intro args H K h
  unfold h_actNew at h
  split at h
  · rename_i x1 x2 x3 x4 x5 x6 x7
    have e := (actNew_ev x1 x2 x3 x4 x5 x6 x7 (fun o e => match o with
      | some x => K (.tup [.c (.ptr H.len 0), .c (cI e)]) (H.new (.obj (.act x)))
      | none => K (.tup [.c .nilp, .c (cI e)]) H)).mpr (by
        rw [actNewK_eq]
        split at h <;> rename_i hb <;> simp only [hb] <;> exact h)
    refine objs_ok own4_ok (ns := []) (xs := []) rfl (by simp) List.nodup_nil (fun s s₁ vs _ h => RelVs.low rfl h) e ?_
    intro v₁ H₁ hk
    split at hk
    · rename_i e'
      exact ⟨[], [], [], [], .tup [.c .nilp, .c (cI e')], rfl, trivial, trivial, fun s₁ s' v' _ _ hr => RelV.low rfl hr, hk⟩
    · rename_i i e'
      obtain ⟨x, c, hk, hc⟩ := shAct_ok hk
      split at hk
      · rename_i hchk
        simp only [Bool.and_eq_true] at hchk
        obtain ⟨h1, h2⟩ := hchk
        refine ⟨[], [], [c], [(true, .act x)], .tup [.c (.ptr H.len 0), .c (cI e')], h1, trivial, ⟨hc, trivial⟩, ?_, hk⟩
        intro s₁ s' v' _ hd' hr
        have h0 : c[0]? = some i := by
          unfold headOK at h2
          split at h2
          · have := Nat.eq_of_beq_eq_true h2; simp [this]
          · cases h2
        have := hd' 0 c i rfl h0
        simp only [Nat.add_zero] at this
        obtain ⟨vs, rfl, hr⟩ := hr
        refine ⟨vs, rfl, ?_⟩
        generalize vs.toList = us at hr ⊢
        match us, hr with
        | [u, v], ⟨h3, h4, _⟩ =>
          refine ⟨?_, h4, trivial⟩
          obtain ⟨r, h5, h6⟩ := h3
          exact ⟨r, by rw [this]; exact h5, h6⟩
      · exact hk.elim
    · exact hk.elim
  · exact h.elim

def tab5 : List (FuncId × Hd) := (14, h_actNew) :: tab4

def own5 : FuncId → Option Hd := look tab5

theorem all5 : AllOK tab5 := ⟨h_actNew_ok, all4⟩

theorem own5_ok : OwnOK Try.prog own5 := look_ok all5

end Go.Proofs.Ytmhakaeahefmbaa
