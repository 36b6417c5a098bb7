/-
  The contracts of steps.
-/
import Derived.Test.YtfjnkneoddankaaGreatCan3
import Derived.Test.YtfjnkneoddankaaGreatSh4
import Derived.Test.YtfjnkneoddankaaGreatModS4
set_option linter.unusedVariables false
set_option linter.unusedSimpArgs false
set_option maxRecDepth 100000
namespace Go.Proofs.YtfjnkneoddankaaGreat
open Go Go.FL Go.Proofs

theorem moveStep0_ev (c : PCfg) (who : Int) (x : PMove) (m : PMem) (K : Bool → PMove → PMem → Prop) : evF Tryz.prog own3 10 20 52 [.c (.ptr 0 0), envV c 1 who] ⟨cat [(true, .move ({ x with p := none })), (false, .mem m)] 0, []⟩ (fun v H₁ => match v with | .c (.bool r) => (shMove H₁ 0 fun x' c' => shF H₁ 1 fun o c2 => match o with | .mem m' => (match chkAll [(true, .move ({ x with p := none })), (false, .mem m)] [c', c2] [] with | true => K r x' m' | false => False) | _ => False) | _ => False) = moveStep0K False twP c who x m K := by kernel_rfl

theorem moveStep1_ev (c : PCfg) (who : Int) (x : PMove) (p : PPlace) (m : PMem) (K : Bool → PMove → PMem → Prop) : evF Tryz.prog own3 10 20 52 [.c (.ptr 0 0), envV c 2 who] ⟨cat [(true, .move ({ x with p := some p })), (false, .mem m)] 0, []⟩ (fun v H₁ => match v with | .c (.bool r) => (shMove H₁ 0 fun x' c' => shF H₁ 2 fun o c2 => match o with | .mem m' => (match chkAll [(true, .move ({ x with p := some p })), (false, .mem m)] [c', c2] [] with | true => K r x' m' | false => False) | _ => False) | _ => False) = moveStep1K False twP c who x p m K := by kernel_rfl

def h_moveStep0 : Hd := fun args H K => match args with
  | [.c (.ptr p0 0), .agg [.int .i64 c1, .int .i64 c2, .int .i64 c3, .int .i64 c4, .int .i64 c5, .int .i64 c6, .int .i64 c7, .ptr m 0, .int .i64 who]] => match H.get p0, H.get m with
    | some (.obj (.move x)), some (.obj (.mem pm)) => match decide (c4 = 0) with | true => False | false => K (.c (.bool (moveStep ⟨c1, c2, c3, c4, c5, c6, c7⟩ who x pm).1)) ((H.put p0 (.obj (.move (moveStep ⟨c1, c2, c3, c4, c5, c6, c7⟩ who x pm).2.1))).put m (.obj (.mem (moveStep ⟨c1, c2, c3, c4, c5, c6, c7⟩ who x pm).2.2)))
    | _, _ => False
  | _ => False

theorem h_moveStep0_ok : HOK 52 h_moveStep0 := by
  intro args H K h
  unfold h_moveStep0 at h
  split at h
  · rename_i p0 c1 c2 c3 c4 c5 c6 c7 m who
    split at h
    · rename_i x pm hp hm
      split at h
      · exact h.elim
      rename_i hc
      have hc : c4 ≠ 0 := of_decide_eq_false hc
      obtain ⟨addr, head, pc, w, p, sa, sc, got, i, cell, n, out⟩ := x
      cases p with
      | none =>
        have e := (moveStep0_ev ⟨c1, c2, c3, c4, c5, c6, c7⟩ who ⟨addr, head, pc, w, none, sa, sc, got, i, cell, n, out⟩ pm (fun r x' m' => K (.c (.bool r)) ((H.put p0 (.obj (.move x'))).put m (.obj (.mem m'))))).mpr (by rw [moveStep0K_eq (hc := hc)]; exact h)
        exact step_ok own3_ok (c := ⟨c1, c2, c3, c4, c5, c6, c7⟩) (mk := .move) (fun _ _ _ => shMove_ok) (by intro hh; cases hh) hp hm e
      | some p =>
        have e := (moveStep1_ev ⟨c1, c2, c3, c4, c5, c6, c7⟩ who ⟨addr, head, pc, w, (some p), sa, sc, got, i, cell, n, out⟩ p pm (fun r x' m' => K (.c (.bool r)) ((H.put p0 (.obj (.move x'))).put m (.obj (.mem m'))))).mpr (by rw [moveStep1K_eq (hc := hc)]; exact h)
        exact step_ok own3_ok (c := ⟨c1, c2, c3, c4, c5, c6, c7⟩) (mk := .move) (fun _ _ _ => shMove_ok) (by intro hh; cases hh) hp hm e
    · exact h.elim
  · exact h.elim

def h_moveStep : Hd := orNil h_moveStep0

theorem h_moveStep_ok : HOK 52 h_moveStep := orNil_ok own3_ok h_moveStep0_ok (fuel := 10) (d := 20) (fun c who pm K h => cast (by kernel_rfl) h)

theorem advStep_ev (c : PCfg) (who : Int) (x : PAdv) (m : PMem) (K : Bool → PAdv → PMem → Prop) : evF Tryz.prog own3 10 20 107 [.c (.ptr 0 0), envV c 1 who] ⟨cat [(true, .adv x), (false, .mem m)] 0, []⟩ (fun v H₁ => match v with | .c (.bool r) => (shAdv H₁ 0 fun x' c' => shF H₁ 1 fun o c2 => match o with | .mem m' => (match chkAll [(true, .adv x), (false, .mem m)] [c', c2] [] with | true => K r x' m' | false => False) | _ => False) | _ => False) = advStepK False twP c who x m K := by kernel_rfl

def h_advStep0 : Hd := fun args H K => match args with
  | [.c (.ptr p0 0), .agg [.int .i64 c1, .int .i64 c2, .int .i64 c3, .int .i64 c4, .int .i64 c5, .int .i64 c6, .int .i64 c7, .ptr m 0, .int .i64 who]] => match H.get p0, H.get m with
    | some (.obj (.adv x)), some (.obj (.mem pm)) => K (.c (.bool (advStep ⟨c1, c2, c3, c4, c5, c6, c7⟩ who x pm).1)) ((H.put p0 (.obj (.adv (advStep ⟨c1, c2, c3, c4, c5, c6, c7⟩ who x pm).2.1))).put m (.obj (.mem (advStep ⟨c1, c2, c3, c4, c5, c6, c7⟩ who x pm).2.2)))
    | _, _ => False
  | _ => False

theorem h_advStep0_ok : HOK 107 h_advStep0 := by
  intro args H K h
  unfold h_advStep0 at h
  split at h
  · rename_i p0 c1 c2 c3 c4 c5 c6 c7 m who
    split at h
    · rename_i x pm hp hm
      have e := (advStep_ev ⟨c1, c2, c3, c4, c5, c6, c7⟩ who x pm (fun r x' m' => K (.c (.bool r)) ((H.put p0 (.obj (.adv x'))).put m (.obj (.mem m'))))).mpr (by rw [advStepK_eq]; exact h)
      exact step_ok own3_ok (c := ⟨c1, c2, c3, c4, c5, c6, c7⟩) (mk := .adv) (fun _ _ _ => shAdv_ok) (by intro hh; cases hh) hp hm e
    · exact h.elim
  · exact h.elim

def h_advStep : Hd := orNil h_advStep0

theorem h_advStep_ok : HOK 107 h_advStep := orNil_ok own3_ok h_advStep0_ok (fuel := 10) (d := 20) (fun c who pm K h => cast (by kernel_rfl) h)

theorem settleStep_ev (c : PCfg) (who : Int) (x : PSettle) (m : PMem) (K : Bool → PSettle → PMem → Prop) : evF Tryz.prog own3 10 20 109 [.c (.ptr 0 0), envV c 1 who] ⟨cat [(true, .settle x), (false, .mem m)] 0, []⟩ (fun v H₁ => match v with | .c (.bool r) => (shSettle H₁ 0 fun x' c' => shF H₁ 1 fun o c2 => match o with | .mem m' => (match chkAll [(true, .settle x), (false, .mem m)] [c', c2] [] with | true => K r x' m' | false => False) | _ => False) | _ => False) = settleStepK False twP c who x m K := by kernel_rfl

def h_settleStep0 : Hd := fun args H K => match args with
  | [.c (.ptr p0 0), .agg [.int .i64 c1, .int .i64 c2, .int .i64 c3, .int .i64 c4, .int .i64 c5, .int .i64 c6, .int .i64 c7, .ptr m 0, .int .i64 who]] => match H.get p0, H.get m with
    | some (.obj (.settle x)), some (.obj (.mem pm)) => K (.c (.bool (settleStep ⟨c1, c2, c3, c4, c5, c6, c7⟩ who x pm).1)) ((H.put p0 (.obj (.settle (settleStep ⟨c1, c2, c3, c4, c5, c6, c7⟩ who x pm).2.1))).put m (.obj (.mem (settleStep ⟨c1, c2, c3, c4, c5, c6, c7⟩ who x pm).2.2)))
    | _, _ => False
  | _ => False

theorem h_settleStep0_ok : HOK 109 h_settleStep0 := by
  intro args H K h
  unfold h_settleStep0 at h
  split at h
  · rename_i p0 c1 c2 c3 c4 c5 c6 c7 m who
    split at h
    · rename_i x pm hp hm
      have e := (settleStep_ev ⟨c1, c2, c3, c4, c5, c6, c7⟩ who x pm (fun r x' m' => K (.c (.bool r)) ((H.put p0 (.obj (.settle x'))).put m (.obj (.mem m'))))).mpr (by rw [settleStepK_eq]; exact h)
      exact step_ok own3_ok (c := ⟨c1, c2, c3, c4, c5, c6, c7⟩) (mk := .settle) (fun _ _ _ => shSettle_ok) (by intro hh; cases hh) hp hm e
    · exact h.elim
  · exact h.elim

def h_settleStep : Hd := orNil h_settleStep0

theorem h_settleStep_ok : HOK 109 h_settleStep := orNil_ok own3_ok h_settleStep0_ok (fuel := 10) (d := 20) (fun c who pm K h => cast (by kernel_rfl) h)

def h_moveOut : Hd := fun args H K => match args with
  | [.c (.ptr p0 0)] => match H.get p0 with
    | some (.obj (.move x)) => K (.c (cI x.out)) (H.put p0 (.obj (.move x)))
    | _ => False
  | _ => False

theorem h_moveOut_ok : HOK 105 h_moveOut := by
  intro args H K h
  unfold h_moveOut at h
  split at h
  · rename_i p0
    split at h
    · rename_i x hp
      obtain ⟨addr, head, pc, w, p, sa, sc, got, i, cell, n, out⟩ := x
      cases p with
      | none =>
        have e : evF Tryz.prog own3 10 20 105 [.c (.ptr 0 0)] ⟨cat [(true, .move ⟨addr, head, pc, w, none, sa, sc, got, i, cell, n, out⟩)] 0, []⟩ (fun v H₁ => match lowV v with
            | true => (shMove H₁ 0 fun x' c => match chkAll [(true, .move ⟨addr, head, pc, w, none, sa, sc, got, i, cell, n, out⟩)] [c] [] with
                | true => K v (H.put p0 (.obj (.move x')))
                | false => False)
            | false => False) := cast (by kernel_rfl) h
        exact ask_ok own3_ok (mk := .move) (fun _ _ _ => shMove_ok) (rest := []) rfl hp e
      | some p =>
        have e : evF Tryz.prog own3 10 20 105 [.c (.ptr 0 0)] ⟨cat [(true, .move ⟨addr, head, pc, w, (some p), sa, sc, got, i, cell, n, out⟩)] 0, []⟩ (fun v H₁ => match lowV v with
            | true => (shMove H₁ 0 fun x' c => match chkAll [(true, .move ⟨addr, head, pc, w, (some p), sa, sc, got, i, cell, n, out⟩)] [c] [] with
                | true => K v (H.put p0 (.obj (.move x')))
                | false => False)
            | false => False) := cast (by kernel_rfl) h
        exact ask_ok own3_ok (mk := .move) (fun _ _ _ => shMove_ok) (rest := []) rfl hp e
    · exact h.elim
  · exact h.elim

def h_settleFreed : Hd := fun args H K => match args with
  | [.c (.ptr p0 0)] => match H.get p0 with
    | some (.obj (.settle x)) => K (.c (.bool x.freed)) (H.put p0 (.obj (.settle x)))
    | _ => False
  | _ => False

theorem h_settleFreed_ok : HOK 110 h_settleFreed := by
  intro args H K h
  unfold h_settleFreed at h
  split at h
  · rename_i p0
    split at h
    · rename_i x hp
      have e : evF Tryz.prog own3 10 20 110 [.c (.ptr 0 0)] ⟨cat [(true, .settle x)] 0, []⟩ (fun v H₁ => match lowV v with
          | true => (shSettle H₁ 0 fun x' c => match chkAll [(true, .settle x)] [c] [] with
              | true => K v (H.put p0 (.obj (.settle x')))
              | false => False)
          | false => False) := cast (by kernel_rfl) h
      exact ask_ok own3_ok (mk := .settle) (fun _ _ _ => shSettle_ok) (rest := []) rfl hp e
    · exact h.elim
  · exact h.elim

def h_moveNew : Hd := fun args H K => match args with
  | [.c (.int .i64 a), .agg [.int .i64 x1, .int .i64 x2, .int .i64 x3, .int .i64 x4, .bool x5]] => K (.c (.ptr H.len 0)) (H.new (.obj (.move ⟨a, ⟨x1, x2, x3, x4, x5⟩, 0, 0, none, 0, 0, false, 0, 0, 0, 0⟩)))
  | _ => False

theorem h_moveNew_ok : HOK 95 h_moveNew := by
  intro args H K h
  unfold h_moveNew at h
  split at h
  · rename_i a x1 x2 x3 x4 x5
    have e : evF Tryz.prog own3 10 20 95 [.c (.int .i64 a), .agg [.int .i64 x1, .int .i64 x2, .int .i64 x3, .int .i64 x4, .bool x5]] ⟨[], []⟩ (fun v H₁ => match v with
        | .c (.ptr i 0) => (shMove H₁ i fun x c => match chkAll [] [] [c] && headOK i c with
          | true => K (.c (.ptr H.len 0)) (H.new (.obj (.move x)))
          | false => False)
        | _ => False) := cast (by kernel_rfl) h
    exact new_ok own3_ok (mk := .move) (fun _ _ _ => shMove_ok) rfl e
  · exact h.elim

def h_settleNew : Hd := fun args H K => match args with
  | [.c (.int .i64 a)] => K (.c (.ptr H.len 0)) (H.new (.obj (.settle ⟨a, 0, 0, 0, 0, false⟩)))
  | _ => False

theorem h_settleNew_ok : HOK 108 h_settleNew := by
  intro args H K h
  unfold h_settleNew at h
  split at h
  · rename_i a
    have e : evF Tryz.prog own3 10 20 108 [.c (.int .i64 a)] ⟨[], []⟩ (fun v H₁ => match v with
        | .c (.ptr i 0) => (shSettle H₁ i fun x c => match chkAll [] [] [c] && headOK i c with
          | true => K (.c (.ptr H.len 0)) (H.new (.obj (.settle x)))
          | false => False)
        | _ => False) := cast (by kernel_rfl) h
    exact new_ok own3_ok (mk := .settle) (fun _ _ _ => shSettle_ok) rfl e
  · exact h.elim

def tabK1 : List (FuncId × Hd) := [(52, h_moveStep), (107, h_advStep), (109, h_settleStep), (105, h_moveOut), (110, h_settleFreed), (95, h_moveNew), (108, h_settleNew)] ++ tab3

def ownK1 : FuncId → Option Hd := look tabK1

theorem allK1 : AllOK tabK1 := ⟨h_moveStep_ok, h_advStep_ok, h_settleStep_ok, h_moveOut_ok, h_settleFreed_ok, h_moveNew_ok, h_settleNew_ok, all3⟩

theorem ownK1_ok : OwnOK Tryz.prog ownK1 := look_ok allK1

end Go.Proofs.YtfjnkneoddankaaGreat
