/-
  The contracts of steps.
-/
import Derived.Test.YtmhakaeahefmbaaCan3
import Derived.Test.YtmhakaeahefmbaaModS3
set_option linter.unusedVariables false
set_option linter.unusedSimpArgs false
set_option maxRecDepth 100000
namespace Go.Proofs.Ytmhakaeahefmbaa
open Go Go.FL Go.Proofs

theorem actStep_alloc_ev (c : PCfg) (who : Int) (x : PAct) (y : PAlloc) (m : PMem) (K : Bool → PAct → PMem → Prop) : evF Try.prog own3 10 20 18 [.c (.ptr 0 0), envV c 2 who] ⟨cat [(true, .act ({ x with work := .alloc y })), (false, .mem m)] 0, []⟩ (fun v H₁ => match v with | .c (.bool r) => (shAct H₁ 0 fun x' c' => shF H₁ 2 fun o c2 => match o with | .mem m' => (match chkAll [(true, .act ({ x with work := .alloc y })), (false, .mem m)] [c', c2] [] with | true => K r x' m' | false => False) | _ => False) | _ => False) = actStep_allocK False twP c who x y m K := by kernel_rfl

theorem actStep_drop_ev (c : PCfg) (who : Int) (x : PAct) (y : PDrop) (m : PMem) (K : Bool → PAct → PMem → Prop) : evF Try.prog own3 10 20 18 [.c (.ptr 0 0), envV c 2 who] ⟨cat [(true, .act ({ x with work := .drop y })), (false, .mem m)] 0, []⟩ (fun v H₁ => match v with | .c (.bool r) => (shAct H₁ 0 fun x' c' => shF H₁ 2 fun o c2 => match o with | .mem m' => (match chkAll [(true, .act ({ x with work := .drop y })), (false, .mem m)] [c', c2] [] with | true => K r x' m' | false => False) | _ => False) | _ => False) = actStep_dropK False twP c who x y m K := by kernel_rfl

theorem actStep_access_ev (c : PCfg) (who : Int) (x : PAct) (y : PAccess) (m : PMem) (K : Bool → PAct → PMem → Prop) : evF Try.prog own3 10 20 18 [.c (.ptr 0 0), envV c 2 who] ⟨cat [(true, .act ({ x with work := .access y })), (false, .mem m)] 0, []⟩ (fun v H₁ => match v with | .c (.bool r) => (shAct H₁ 0 fun x' c' => shF H₁ 2 fun o c2 => match o with | .mem m' => (match chkAll [(true, .act ({ x with work := .access y })), (false, .mem m)] [c', c2] [] with | true => K r x' m' | false => False) | _ => False) | _ => False) = actStep_accessK False twP c who x y m K := by kernel_rfl

def h_actStep : Hd := fun args H K => match args with
  | [.c (.ptr p0 0), .agg [.int .i64 c1, .int .i64 c2, .int .i64 c3, .int .i64 c4, .int .i64 c5, .int .i64 c6, .int .i64 c7, .ptr m 0, .int .i64 who]] => match H.get p0, H.get m with
    | some (.obj (.act x)), some (.obj (.mem pm)) => match decide (c4 = 0) with | true => False | false => K (.c (.bool (actStep ⟨c1, c2, c3, c4, c5, c6, c7⟩ who x pm).1)) ((H.put p0 (.obj (.act (actStep ⟨c1, c2, c3, c4, c5, c6, c7⟩ who x pm).2.1))).put m (.obj (.mem (actStep ⟨c1, c2, c3, c4, c5, c6, c7⟩ who x pm).2.2)))
    | _, _ => False
  | _ => False

theorem h_actStep_ok : HOK 18 h_actStep := by
  intro args H K h
  unfold h_actStep at h
  split at h
  · rename_i p0 c1 c2 c3 c4 c5 c6 c7 m who
    split at h
    · rename_i x pm hp hm
      split at h
      · exact h.elim
      rename_i hc
      have hc : c4 ≠ 0 := of_decide_eq_false hc
      obtain ⟨in_, pc, work, out⟩ := x
      cases work with
      | alloc y =>
        have e := (actStep_alloc_ev ⟨c1, c2, c3, c4, c5, c6, c7⟩ who ⟨in_, pc, (.alloc y), out⟩ y pm (fun r x' m' => K (.c (.bool r)) ((H.put p0 (.obj (.act x'))).put m (.obj (.mem m'))))).mpr (by rw [actStep_allocK_eq (hc := hc)]; exact h)
        exact step_ok own3_ok (c := ⟨c1, c2, c3, c4, c5, c6, c7⟩) (mk := .act) (fun _ _ _ => shAct_ok) (by intro hh; cases hh) hp hm e
      | drop y =>
        have e := (actStep_drop_ev ⟨c1, c2, c3, c4, c5, c6, c7⟩ who ⟨in_, pc, (.drop y), out⟩ y pm (fun r x' m' => K (.c (.bool r)) ((H.put p0 (.obj (.act x'))).put m (.obj (.mem m'))))).mpr (by rw [actStep_dropK_eq (hc := hc)]; exact h)
        exact step_ok own3_ok (c := ⟨c1, c2, c3, c4, c5, c6, c7⟩) (mk := .act) (fun _ _ _ => shAct_ok) (by intro hh; cases hh) hp hm e
      | access y =>
        have e := (actStep_access_ev ⟨c1, c2, c3, c4, c5, c6, c7⟩ who ⟨in_, pc, (.access y), out⟩ y pm (fun r x' m' => K (.c (.bool r)) ((H.put p0 (.obj (.act x'))).put m (.obj (.mem m'))))).mpr (by rw [actStep_accessK_eq (hc := hc)]; exact h)
        exact step_ok own3_ok (c := ⟨c1, c2, c3, c4, c5, c6, c7⟩) (mk := .act) (fun _ _ _ => shAct_ok) (by intro hh; cases hh) hp hm e
    · exact h.elim
  · exact h.elim

def h_actDone : Hd := fun args H K => match args with
  | [.c (.ptr p0 0)] => match H.get p0 with
    | some (.obj (.act x)) => K (.agg [cI x.out.e, cU x.out.h, cI x.out.v, cI x.out.st]) (H.put p0 (.obj (.act x)))
    | _ => False
  | _ => False

theorem h_actDone_ok : HOK 20 h_actDone := by
  intro args H K h
  unfold h_actDone at h
  split at h
  · rename_i p0
    split at h
    · rename_i x hp
      obtain ⟨in_, pc, work, out⟩ := x
      cases work with
      | alloc y =>
        have e : evF Try.prog own3 10 20 20 [.c (.ptr 0 0)] ⟨cat [(true, .act ⟨in_, pc, (.alloc y), out⟩)] 0, []⟩ (fun v H₁ => match lowV v with
            | true => (shAct H₁ 0 fun x' c => match chkAll [(true, .act ⟨in_, pc, (.alloc y), out⟩)] [c] [] with
                | true => K v (H.put p0 (.obj (.act x')))
                | false => False)
            | false => False) := cast (by kernel_rfl) h
        exact ask_ok own3_ok (mk := .act) (fun _ _ _ => shAct_ok) (rest := []) rfl hp e
      | drop y =>
        have e : evF Try.prog own3 10 20 20 [.c (.ptr 0 0)] ⟨cat [(true, .act ⟨in_, pc, (.drop y), out⟩)] 0, []⟩ (fun v H₁ => match lowV v with
            | true => (shAct H₁ 0 fun x' c => match chkAll [(true, .act ⟨in_, pc, (.drop y), out⟩)] [c] [] with
                | true => K v (H.put p0 (.obj (.act x')))
                | false => False)
            | false => False) := cast (by kernel_rfl) h
        exact ask_ok own3_ok (mk := .act) (fun _ _ _ => shAct_ok) (rest := []) rfl hp e
      | access y =>
        have e : evF Try.prog own3 10 20 20 [.c (.ptr 0 0)] ⟨cat [(true, .act ⟨in_, pc, (.access y), out⟩)] 0, []⟩ (fun v H₁ => match lowV v with
            | true => (shAct H₁ 0 fun x' c => match chkAll [(true, .act ⟨in_, pc, (.access y), out⟩)] [c] [] with
                | true => K v (H.put p0 (.obj (.act x')))
                | false => False)
            | false => False) := cast (by kernel_rfl) h
        exact ask_ok own3_ok (mk := .act) (fun _ _ _ => shAct_ok) (rest := []) rfl hp e
    · exact h.elim
  · exact h.elim

def tab4 : List (FuncId × Hd) := [(18, h_actStep), (20, h_actDone)] ++ tab3

def own4 : FuncId → Option Hd := look tab4

theorem all4 : AllOK tab4 := ⟨h_actStep_ok, h_actDone_ok, all3⟩

theorem own4_ok : OwnOK Try.prog own4 := look_ok all4

end Go.Proofs.Ytmhakaeahefmbaa
