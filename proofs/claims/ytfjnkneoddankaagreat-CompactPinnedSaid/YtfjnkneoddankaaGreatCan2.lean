/-
  The contracts of steps.
-/
import Derived.Test.YtfjnkneoddankaaGreatOwn1
import Derived.Test.YtfjnkneoddankaaGreatModS1
set_option linter.unusedVariables false
set_option linter.unusedSimpArgs false
set_option maxRecDepth 100000
namespace Go.Proofs.YtfjnkneoddankaaGreat
open Go Go.FL Go.Proofs

theorem giveStep_ev (c : PCfg) (who : Int) (x : PGive) (m : PMem) (K : Bool → PGive → PMem → Prop) : evF Tryz.prog own1 10 20 83 [.c (.ptr 0 0), envV c 1 who] ⟨cat [(true, .give x), (false, .mem m)] 0, []⟩ (fun v H₁ => match v with | .c (.bool r) => (shGive H₁ 0 fun x' c' => shF H₁ 1 fun o c2 => match o with | .mem m' => (match chkAll [(true, .give x), (false, .mem m)] [c', c2] [] with | true => K r x' m' | false => False) | _ => False) | _ => False) = giveStepK False twP c who x m K := by kernel_rfl

def h_giveStep0 : Hd := fun args H K => match args with
  | [.c (.ptr p0 0), .agg [.int .i64 c1, .int .i64 c2, .int .i64 c3, .int .i64 c4, .int .i64 c5, .int .i64 c6, .int .i64 c7, .ptr m 0, .int .i64 who]] => match H.get p0, H.get m with
    | some (.obj (.give x)), some (.obj (.mem pm)) => K (.c (.bool (giveStep ⟨c1, c2, c3, c4, c5, c6, c7⟩ who x pm).1)) ((H.put p0 (.obj (.give (giveStep ⟨c1, c2, c3, c4, c5, c6, c7⟩ who x pm).2.1))).put m (.obj (.mem (giveStep ⟨c1, c2, c3, c4, c5, c6, c7⟩ who x pm).2.2)))
    | _, _ => False
  | _ => False

theorem h_giveStep0_ok : HOK 83 h_giveStep0 := by
  intro args H K h
  unfold h_giveStep0 at h
  split at h
  · rename_i p0 c1 c2 c3 c4 c5 c6 c7 m who
    split at h
    · rename_i x pm hp hm
      have e := (giveStep_ev ⟨c1, c2, c3, c4, c5, c6, c7⟩ who x pm (fun r x' m' => K (.c (.bool r)) ((H.put p0 (.obj (.give x'))).put m (.obj (.mem m'))))).mpr (by rw [giveStepK_eq]; exact h)
      exact step_ok own1_ok (c := ⟨c1, c2, c3, c4, c5, c6, c7⟩) (mk := .give) (fun _ _ _ => shGive_ok) (by intro hh; cases hh) hp hm e
    · exact h.elim
  · exact h.elim

def h_giveStep : Hd := orNil h_giveStep0

theorem h_giveStep_ok : HOK 83 h_giveStep := orNil_ok own1_ok h_giveStep0_ok (fuel := 10) (d := 20) (fun c who pm K h => cast (by kernel_rfl) h)

theorem placeStep_ev (c : PCfg) (who : Int) (x : PPlace) (m : PMem) (K : Bool → PPlace → PMem → Prop) : evF Tryz.prog own1 10 20 76 [.c (.ptr 0 0), envV c 1 who] ⟨cat [(true, .place x), (false, .mem m)] 0, []⟩ (fun v H₁ => match v with | .c (.bool r) => (shPlace H₁ 0 fun x' c' => shF H₁ 1 fun o c2 => match o with | .mem m' => (match chkAll [(true, .place x), (false, .mem m)] [c', c2] [] with | true => K r x' m' | false => False) | _ => False) | _ => False) = placeStepK False twP c who x m K := by kernel_rfl

def h_placeStep0 : Hd := fun args H K => match args with
  | [.c (.ptr p0 0), .agg [.int .i64 c1, .int .i64 c2, .int .i64 c3, .int .i64 c4, .int .i64 c5, .int .i64 c6, .int .i64 c7, .ptr m 0, .int .i64 who]] => match H.get p0, H.get m with
    | some (.obj (.place x)), some (.obj (.mem pm)) => K (.c (.bool (placeStep ⟨c1, c2, c3, c4, c5, c6, c7⟩ who x pm).1)) ((H.put p0 (.obj (.place (placeStep ⟨c1, c2, c3, c4, c5, c6, c7⟩ who x pm).2.1))).put m (.obj (.mem (placeStep ⟨c1, c2, c3, c4, c5, c6, c7⟩ who x pm).2.2)))
    | _, _ => False
  | _ => False

theorem h_placeStep0_ok : HOK 76 h_placeStep0 := by
  intro args H K h
  unfold h_placeStep0 at h
  split at h
  · rename_i p0 c1 c2 c3 c4 c5 c6 c7 m who
    split at h
    · rename_i x pm hp hm
      have e := (placeStep_ev ⟨c1, c2, c3, c4, c5, c6, c7⟩ who x pm (fun r x' m' => K (.c (.bool r)) ((H.put p0 (.obj (.place x'))).put m (.obj (.mem m'))))).mpr (by rw [placeStepK_eq]; exact h)
      exact step_ok own1_ok (c := ⟨c1, c2, c3, c4, c5, c6, c7⟩) (mk := .place) (fun _ _ _ => shPlace_ok) (by intro hh; cases hh) hp hm e
    · exact h.elim
  · exact h.elim

def h_placeStep : Hd := orNil h_placeStep0

theorem h_placeStep_ok : HOK 76 h_placeStep := orNil_ok own1_ok h_placeStep0_ok (fuel := 10) (d := 20) (fun c who pm K h => cast (by kernel_rfl) h)

theorem helpStep_ev (c : PCfg) (who : Int) (x : PHelp) (m : PMem) (K : Bool → PHelp → PMem → Prop) : evF Tryz.prog own1 10 20 88 [.c (.ptr 0 0), envV c 1 who] ⟨cat [(true, .help x), (false, .mem m)] 0, []⟩ (fun v H₁ => match v with | .c (.bool r) => (shHelp H₁ 0 fun x' c' => shF H₁ 1 fun o c2 => match o with | .mem m' => (match chkAll [(true, .help x), (false, .mem m)] [c', c2] [] with | true => K r x' m' | false => False) | _ => False) | _ => False) = helpStepK False twP c who x m K := by kernel_rfl

def h_helpStep0 : Hd := fun args H K => match args with
  | [.c (.ptr p0 0), .agg [.int .i64 c1, .int .i64 c2, .int .i64 c3, .int .i64 c4, .int .i64 c5, .int .i64 c6, .int .i64 c7, .ptr m 0, .int .i64 who]] => match H.get p0, H.get m with
    | some (.obj (.help x)), some (.obj (.mem pm)) => K (.c (.bool (helpStep ⟨c1, c2, c3, c4, c5, c6, c7⟩ who x pm).1)) ((H.put p0 (.obj (.help (helpStep ⟨c1, c2, c3, c4, c5, c6, c7⟩ who x pm).2.1))).put m (.obj (.mem (helpStep ⟨c1, c2, c3, c4, c5, c6, c7⟩ who x pm).2.2)))
    | _, _ => False
  | _ => False

theorem h_helpStep0_ok : HOK 88 h_helpStep0 := by
  intro args H K h
  unfold h_helpStep0 at h
  split at h
  · rename_i p0 c1 c2 c3 c4 c5 c6 c7 m who
    split at h
    · rename_i x pm hp hm
      have e := (helpStep_ev ⟨c1, c2, c3, c4, c5, c6, c7⟩ who x pm (fun r x' m' => K (.c (.bool r)) ((H.put p0 (.obj (.help x'))).put m (.obj (.mem m'))))).mpr (by rw [helpStepK_eq]; exact h)
      exact step_ok own1_ok (c := ⟨c1, c2, c3, c4, c5, c6, c7⟩) (mk := .help) (fun _ _ _ => shHelp_ok) (by intro hh; cases hh) hp hm e
    · exact h.elim
  · exact h.elim

def h_helpStep : Hd := orNil h_helpStep0

theorem h_helpStep_ok : HOK 88 h_helpStep := orNil_ok own1_ok h_helpStep0_ok (fuel := 10) (d := 20) (fun c who pm K h => cast (by kernel_rfl) h)

def h_placeSpot : Hd := fun args H K => match args with
  | [.c (.ptr p0 0)] => match H.get p0 with
    | some (.obj (.place x)) => K (.tup [.agg [cI (bif x.ok then x.sa else 0), cI (bif x.ok then x.sc else 0)], .c (.bool x.ok)]) (H.put p0 (.obj (.place x)))
    | _ => False
  | _ => False

theorem h_placeSpot_ok : HOK 77 h_placeSpot := by
  intro args H K h
  unfold h_placeSpot at h
  split at h
  · rename_i p0
    split at h
    · rename_i x hp
      obtain ⟨cls, pc, opn, at_, w, sa, sc, ok⟩ := x
      cases ok with
      | true =>
        have e : evF Tryz.prog own1 10 20 77 [.c (.ptr 0 0)] ⟨cat [(true, .place ⟨cls, pc, opn, at_, w, sa, sc, true⟩)] 0, []⟩ (fun v H₁ => match lowV v with
            | true => (shPlace H₁ 0 fun x' c => match chkAll [(true, .place ⟨cls, pc, opn, at_, w, sa, sc, true⟩)] [c] [] with
                | true => K v (H.put p0 (.obj (.place x')))
                | false => False)
            | false => False) := cast (by kernel_rfl) h
        exact ask_ok own1_ok (mk := .place) (fun _ _ _ => shPlace_ok) (rest := []) rfl hp e
      | false =>
        have e : evF Tryz.prog own1 10 20 77 [.c (.ptr 0 0)] ⟨cat [(true, .place ⟨cls, pc, opn, at_, w, sa, sc, false⟩)] 0, []⟩ (fun v H₁ => match lowV v with
            | true => (shPlace H₁ 0 fun x' c => match chkAll [(true, .place ⟨cls, pc, opn, at_, w, sa, sc, false⟩)] [c] [] with
                | true => K v (H.put p0 (.obj (.place x')))
                | false => False)
            | false => False) := cast (by kernel_rfl) h
        exact ask_ok own1_ok (mk := .place) (fun _ _ _ => shPlace_ok) (rest := []) rfl hp e
    · exact h.elim
  · exact h.elim

def h_placeNew : Hd := fun args H K => match args with
  | [.c (.int .i64 a)] => K (.c (.ptr H.len 0)) (H.new (.obj (.place ⟨a, 0, 0, 0, 0, 0, 0, false⟩)))
  | _ => False

theorem h_placeNew_ok : HOK 75 h_placeNew := by
  intro args H K h
  unfold h_placeNew at h
  split at h
  · rename_i a
    have e : evF Tryz.prog own1 10 20 75 [.c (.int .i64 a)] ⟨[], []⟩ (fun v H₁ => match v with
        | .c (.ptr i 0) => (shPlace H₁ i fun x c => match chkAll [] [] [c] && headOK i c with
          | true => K (.c (.ptr H.len 0)) (H.new (.obj (.place x)))
          | false => False)
        | _ => False) := cast (by kernel_rfl) h
    exact new_ok own1_ok (mk := .place) (fun _ _ _ => shPlace_ok) rfl e
  · exact h.elim

def h_giveNew : Hd := fun args H K => match args with
  | [.c (.int .i64 a)] => K (.c (.ptr H.len 0)) (H.new (.obj (.give ⟨0, a, 0⟩)))
  | _ => False

theorem h_giveNew_ok : HOK 78 h_giveNew := by
  intro args H K h
  unfold h_giveNew at h
  split at h
  · rename_i a
    have e : evF Tryz.prog own1 10 20 78 [.c (.int .i64 a)] ⟨[], []⟩ (fun v H₁ => match v with
        | .c (.ptr i 0) => (shGive H₁ i fun x c => match chkAll [] [] [c] && headOK i c with
          | true => K (.c (.ptr H.len 0)) (H.new (.obj (.give x)))
          | false => False)
        | _ => False) := cast (by kernel_rfl) h
    exact new_ok own1_ok (mk := .give) (fun _ _ _ => shGive_ok) rfl e
  · exact h.elim

def h_helpNew : Hd := fun args H K => match args with
  | [.c (.int .i64 a), .c (.int .u64 b), .c (.int .i64 d)] => K (.c (.ptr H.len 0)) (H.new (.obj (.help ⟨a, b, d, 0, 0, false, false⟩)))
  | _ => False

theorem h_helpNew_ok : HOK 86 h_helpNew := by
  intro args H K h
  unfold h_helpNew at h
  split at h
  · rename_i a b d
    have e : evF Tryz.prog own1 10 20 86 [.c (.int .i64 a), .c (.int .u64 b), .c (.int .i64 d)] ⟨[], []⟩ (fun v H₁ => match v with
        | .c (.ptr i 0) => (shHelp H₁ i fun x c => match chkAll [] [] [c] && headOK i c with
          | true => K (.c (.ptr H.len 0)) (H.new (.obj (.help x)))
          | false => False)
        | _ => False) := cast (by kernel_rfl) h
    exact new_ok own1_ok (mk := .help) (fun _ _ _ => shHelp_ok) rfl e
  · exact h.elim

def tab2 : List (FuncId × Hd) := [(83, h_giveStep), (76, h_placeStep), (88, h_helpStep), (77, h_placeSpot), (75, h_placeNew), (78, h_giveNew), (86, h_helpNew)] ++ tab1

def own2 : FuncId → Option Hd := look tab2

theorem all2 : AllOK tab2 := ⟨h_giveStep_ok, h_placeStep_ok, h_helpStep_ok, h_placeSpot_ok, h_placeNew_ok, h_giveNew_ok, h_helpNew_ok, all1⟩

theorem own2_ok : OwnOK Tryz.prog own2 := look_ok all2

end Go.Proofs.YtfjnkneoddankaaGreat
