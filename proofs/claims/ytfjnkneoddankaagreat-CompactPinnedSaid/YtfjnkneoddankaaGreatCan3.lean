/-
  The contracts of steps.
-/
import Derived.Test.YtfjnkneoddankaaGreatCan2
import Derived.Test.YtfjnkneoddankaaGreatModS2
set_option linter.unusedVariables false
set_option linter.unusedSimpArgs false
set_option maxRecDepth 100000
namespace Go.Proofs.YtfjnkneoddankaaGreat
open Go Go.FL Go.Proofs

theorem allocStep00_ev (c : PCfg) (who : Int) (x : PAlloc) (m : PMem) (K : Bool → PAlloc → PMem → Prop) : evF Tryz.prog own2 10 20 42 [.c (.ptr 0 0), envV c 1 who] ⟨cat [(true, .alloc ({ x with p := none, give := none })), (false, .mem m)] 0, []⟩ (fun v H₁ => match v with | .c (.bool r) => (shAlloc H₁ 0 fun x' c' => shF H₁ 1 fun o c2 => match o with | .mem m' => (match chkAll [(true, .alloc ({ x with p := none, give := none })), (false, .mem m)] [c', c2] [] with | true => K r x' m' | false => False) | _ => False) | _ => False) = allocStep00K False twP c who x m K := by kernel_rfl

theorem allocStep10_ev (c : PCfg) (who : Int) (x : PAlloc) (p : PPlace) (m : PMem) (K : Bool → PAlloc → PMem → Prop) : evF Tryz.prog own2 10 20 42 [.c (.ptr 0 0), envV c 2 who] ⟨cat [(true, .alloc ({ x with p := some p, give := none })), (false, .mem m)] 0, []⟩ (fun v H₁ => match v with | .c (.bool r) => (shAlloc H₁ 0 fun x' c' => shF H₁ 2 fun o c2 => match o with | .mem m' => (match chkAll [(true, .alloc ({ x with p := some p, give := none })), (false, .mem m)] [c', c2] [] with | true => K r x' m' | false => False) | _ => False) | _ => False) = allocStep10K False twP c who x p m K := by kernel_rfl

theorem allocStep01_ev (c : PCfg) (who : Int) (x : PAlloc) (give : PGive) (m : PMem) (K : Bool → PAlloc → PMem → Prop) : evF Tryz.prog own2 10 20 42 [.c (.ptr 0 0), envV c 2 who] ⟨cat [(true, .alloc ({ x with p := none, give := some give })), (false, .mem m)] 0, []⟩ (fun v H₁ => match v with | .c (.bool r) => (shAlloc H₁ 0 fun x' c' => shF H₁ 2 fun o c2 => match o with | .mem m' => (match chkAll [(true, .alloc ({ x with p := none, give := some give })), (false, .mem m)] [c', c2] [] with | true => K r x' m' | false => False) | _ => False) | _ => False) = allocStep01K False twP c who x give m K := by kernel_rfl

theorem allocStep11_ev (c : PCfg) (who : Int) (x : PAlloc) (p : PPlace) (give : PGive) (m : PMem) (K : Bool → PAlloc → PMem → Prop) : evF Tryz.prog own2 10 20 42 [.c (.ptr 0 0), envV c 3 who] ⟨cat [(true, .alloc ({ x with p := some p, give := some give })), (false, .mem m)] 0, []⟩ (fun v H₁ => match v with | .c (.bool r) => (shAlloc H₁ 0 fun x' c' => shF H₁ 3 fun o c2 => match o with | .mem m' => (match chkAll [(true, .alloc ({ x with p := some p, give := some give })), (false, .mem m)] [c', c2] [] with | true => K r x' m' | false => False) | _ => False) | _ => False) = allocStep11K False twP c who x p give m K := by kernel_rfl

def h_allocStep0 : Hd := fun args H K => match args with
  | [.c (.ptr p0 0), .agg [.int .i64 c1, .int .i64 c2, .int .i64 c3, .int .i64 c4, .int .i64 c5, .int .i64 c6, .int .i64 c7, .ptr m 0, .int .i64 who]] => match H.get p0, H.get m with
    | some (.obj (.alloc x)), some (.obj (.mem pm)) => K (.c (.bool (allocStep ⟨c1, c2, c3, c4, c5, c6, c7⟩ who x pm).1)) ((H.put p0 (.obj (.alloc (allocStep ⟨c1, c2, c3, c4, c5, c6, c7⟩ who x pm).2.1))).put m (.obj (.mem (allocStep ⟨c1, c2, c3, c4, c5, c6, c7⟩ who x pm).2.2)))
    | _, _ => False
  | _ => False

theorem h_allocStep0_ok : HOK 42 h_allocStep0 := by
  intro args H K h
  unfold h_allocStep0 at h
  split at h
  · rename_i p0 c1 c2 c3 c4 c5 c6 c7 m who
    split at h
    · rename_i x pm hp hm
      obtain ⟨size, own, pc, take, at_, gen, p, sa, sc, give, out⟩ := x
      cases p with
      | none =>
        cases give with
        | none =>
          have e := (allocStep00_ev ⟨c1, c2, c3, c4, c5, c6, c7⟩ who ⟨size, own, pc, take, at_, gen, none, sa, sc, none, out⟩ pm (fun r x' m' => K (.c (.bool r)) ((H.put p0 (.obj (.alloc x'))).put m (.obj (.mem m'))))).mpr (by rw [allocStep00K_eq]; exact h)
          exact step_ok own2_ok (c := ⟨c1, c2, c3, c4, c5, c6, c7⟩) (mk := .alloc) (fun _ _ _ => shAlloc_ok) (by intro hh; cases hh) hp hm e
        | some give =>
          have e := (allocStep01_ev ⟨c1, c2, c3, c4, c5, c6, c7⟩ who ⟨size, own, pc, take, at_, gen, none, sa, sc, (some give), out⟩ give pm (fun r x' m' => K (.c (.bool r)) ((H.put p0 (.obj (.alloc x'))).put m (.obj (.mem m'))))).mpr (by rw [allocStep01K_eq]; exact h)
          exact step_ok own2_ok (c := ⟨c1, c2, c3, c4, c5, c6, c7⟩) (mk := .alloc) (fun _ _ _ => shAlloc_ok) (by intro hh; cases hh) hp hm e
      | some p =>
        cases give with
        | none =>
          have e := (allocStep10_ev ⟨c1, c2, c3, c4, c5, c6, c7⟩ who ⟨size, own, pc, take, at_, gen, (some p), sa, sc, none, out⟩ p pm (fun r x' m' => K (.c (.bool r)) ((H.put p0 (.obj (.alloc x'))).put m (.obj (.mem m'))))).mpr (by rw [allocStep10K_eq]; exact h)
          exact step_ok own2_ok (c := ⟨c1, c2, c3, c4, c5, c6, c7⟩) (mk := .alloc) (fun _ _ _ => shAlloc_ok) (by intro hh; cases hh) hp hm e
        | some give =>
          have e := (allocStep11_ev ⟨c1, c2, c3, c4, c5, c6, c7⟩ who ⟨size, own, pc, take, at_, gen, (some p), sa, sc, (some give), out⟩ p give pm (fun r x' m' => K (.c (.bool r)) ((H.put p0 (.obj (.alloc x'))).put m (.obj (.mem m'))))).mpr (by rw [allocStep11K_eq]; exact h)
          exact step_ok own2_ok (c := ⟨c1, c2, c3, c4, c5, c6, c7⟩) (mk := .alloc) (fun _ _ _ => shAlloc_ok) (by intro hh; cases hh) hp hm e
    · exact h.elim
  · exact h.elim

def h_allocStep : Hd := orNil h_allocStep0

theorem h_allocStep_ok : HOK 42 h_allocStep := orNil_ok own2_ok h_allocStep0_ok (fuel := 10) (d := 20) (fun c who pm K h => cast (by kernel_rfl) h)

theorem dropStep00_ev (c : PCfg) (who : Int) (x : PDrop) (m : PMem) (K : Bool → PDrop → PMem → Prop) : evF Tryz.prog own2 10 20 45 [.c (.ptr 0 0), envV c 1 who] ⟨cat [(true, .drop ({ x with help := none, give := none })), (false, .mem m)] 0, []⟩ (fun v H₁ => match v with | .c (.bool r) => (shDrop H₁ 0 fun x' c' => shF H₁ 1 fun o c2 => match o with | .mem m' => (match chkAll [(true, .drop ({ x with help := none, give := none })), (false, .mem m)] [c', c2] [] with | true => K r x' m' | false => False) | _ => False) | _ => False) = dropStep00K False twP c who x m K := by kernel_rfl

theorem dropStep10_ev (c : PCfg) (who : Int) (x : PDrop) (help : PHelp) (m : PMem) (K : Bool → PDrop → PMem → Prop) : evF Tryz.prog own2 10 20 45 [.c (.ptr 0 0), envV c 2 who] ⟨cat [(true, .drop ({ x with help := some help, give := none })), (false, .mem m)] 0, []⟩ (fun v H₁ => match v with | .c (.bool r) => (shDrop H₁ 0 fun x' c' => shF H₁ 2 fun o c2 => match o with | .mem m' => (match chkAll [(true, .drop ({ x with help := some help, give := none })), (false, .mem m)] [c', c2] [] with | true => K r x' m' | false => False) | _ => False) | _ => False) = dropStep10K False twP c who x help m K := by kernel_rfl

theorem dropStep01_ev (c : PCfg) (who : Int) (x : PDrop) (give : PGive) (m : PMem) (K : Bool → PDrop → PMem → Prop) : evF Tryz.prog own2 10 20 45 [.c (.ptr 0 0), envV c 2 who] ⟨cat [(true, .drop ({ x with help := none, give := some give })), (false, .mem m)] 0, []⟩ (fun v H₁ => match v with | .c (.bool r) => (shDrop H₁ 0 fun x' c' => shF H₁ 2 fun o c2 => match o with | .mem m' => (match chkAll [(true, .drop ({ x with help := none, give := some give })), (false, .mem m)] [c', c2] [] with | true => K r x' m' | false => False) | _ => False) | _ => False) = dropStep01K False twP c who x give m K := by kernel_rfl

theorem dropStep11_ev (c : PCfg) (who : Int) (x : PDrop) (help : PHelp) (give : PGive) (m : PMem) (K : Bool → PDrop → PMem → Prop) : evF Tryz.prog own2 10 20 45 [.c (.ptr 0 0), envV c 3 who] ⟨cat [(true, .drop ({ x with help := some help, give := some give })), (false, .mem m)] 0, []⟩ (fun v H₁ => match v with | .c (.bool r) => (shDrop H₁ 0 fun x' c' => shF H₁ 3 fun o c2 => match o with | .mem m' => (match chkAll [(true, .drop ({ x with help := some help, give := some give })), (false, .mem m)] [c', c2] [] with | true => K r x' m' | false => False) | _ => False) | _ => False) = dropStep11K False twP c who x help give m K := by kernel_rfl

def h_dropStep0 : Hd := fun args H K => match args with
  | [.c (.ptr p0 0), .agg [.int .i64 c1, .int .i64 c2, .int .i64 c3, .int .i64 c4, .int .i64 c5, .int .i64 c6, .int .i64 c7, .ptr m 0, .int .i64 who]] => match H.get p0, H.get m with
    | some (.obj (.drop x)), some (.obj (.mem pm)) => match decide (c4 = 0) with | true => False | false => K (.c (.bool (dropStep ⟨c1, c2, c3, c4, c5, c6, c7⟩ who x pm).1)) ((H.put p0 (.obj (.drop (dropStep ⟨c1, c2, c3, c4, c5, c6, c7⟩ who x pm).2.1))).put m (.obj (.mem (dropStep ⟨c1, c2, c3, c4, c5, c6, c7⟩ who x pm).2.2)))
    | _, _ => False
  | _ => False

theorem h_dropStep0_ok : HOK 45 h_dropStep0 := by
  intro args H K h
  unfold h_dropStep0 at h
  split at h
  · rename_i p0 c1 c2 c3 c4 c5 c6 c7 m who
    split at h
    · rename_i x pm hp hm
      split at h
      · exact h.elim
      rename_i hc
      have hc : c4 ≠ 0 := of_decide_eq_false hc
      obtain ⟨n, own, hs, hg, pc, w, size, help, give, out⟩ := x
      cases help with
      | none =>
        cases give with
        | none =>
          have e := (dropStep00_ev ⟨c1, c2, c3, c4, c5, c6, c7⟩ who ⟨n, own, hs, hg, pc, w, size, none, none, out⟩ pm (fun r x' m' => K (.c (.bool r)) ((H.put p0 (.obj (.drop x'))).put m (.obj (.mem m'))))).mpr (by rw [dropStep00K_eq (hc := hc)]; exact h)
          exact step_ok own2_ok (c := ⟨c1, c2, c3, c4, c5, c6, c7⟩) (mk := .drop) (fun _ _ _ => shDrop_ok) (by intro hh; cases hh) hp hm e
        | some give =>
          have e := (dropStep01_ev ⟨c1, c2, c3, c4, c5, c6, c7⟩ who ⟨n, own, hs, hg, pc, w, size, none, (some give), out⟩ give pm (fun r x' m' => K (.c (.bool r)) ((H.put p0 (.obj (.drop x'))).put m (.obj (.mem m'))))).mpr (by rw [dropStep01K_eq (hc := hc)]; exact h)
          exact step_ok own2_ok (c := ⟨c1, c2, c3, c4, c5, c6, c7⟩) (mk := .drop) (fun _ _ _ => shDrop_ok) (by intro hh; cases hh) hp hm e
      | some help =>
        cases give with
        | none =>
          have e := (dropStep10_ev ⟨c1, c2, c3, c4, c5, c6, c7⟩ who ⟨n, own, hs, hg, pc, w, size, (some help), none, out⟩ help pm (fun r x' m' => K (.c (.bool r)) ((H.put p0 (.obj (.drop x'))).put m (.obj (.mem m'))))).mpr (by rw [dropStep10K_eq (hc := hc)]; exact h)
          exact step_ok own2_ok (c := ⟨c1, c2, c3, c4, c5, c6, c7⟩) (mk := .drop) (fun _ _ _ => shDrop_ok) (by intro hh; cases hh) hp hm e
        | some give =>
          have e := (dropStep11_ev ⟨c1, c2, c3, c4, c5, c6, c7⟩ who ⟨n, own, hs, hg, pc, w, size, (some help), (some give), out⟩ help give pm (fun r x' m' => K (.c (.bool r)) ((H.put p0 (.obj (.drop x'))).put m (.obj (.mem m'))))).mpr (by rw [dropStep11K_eq (hc := hc)]; exact h)
          exact step_ok own2_ok (c := ⟨c1, c2, c3, c4, c5, c6, c7⟩) (mk := .drop) (fun _ _ _ => shDrop_ok) (by intro hh; cases hh) hp hm e
    · exact h.elim
  · exact h.elim

def h_dropStep : Hd := orNil h_dropStep0

theorem h_dropStep_ok : HOK 45 h_dropStep := orNil_ok own2_ok h_dropStep0_ok (fuel := 10) (d := 20) (fun c who pm K h => cast (by kernel_rfl) h)

theorem accessStep0_ev (c : PCfg) (who : Int) (x : PAccess) (m : PMem) (K : Bool → PAccess → PMem → Prop) : evF Tryz.prog own2 10 20 60 [.c (.ptr 0 0), envV c 1 who] ⟨cat [(true, .access ({ x with help := none })), (false, .mem m)] 0, []⟩ (fun v H₁ => match v with | .c (.bool r) => (shAccess H₁ 0 fun x' c' => shF H₁ 1 fun o c2 => match o with | .mem m' => (match chkAll [(true, .access ({ x with help := none })), (false, .mem m)] [c', c2] [] with | true => K r x' m' | false => False) | _ => False) | _ => False) = accessStep0K False twP c who x m K := by kernel_rfl

theorem accessStep1_ev (c : PCfg) (who : Int) (x : PAccess) (help : PHelp) (m : PMem) (K : Bool → PAccess → PMem → Prop) : evF Tryz.prog own2 10 20 60 [.c (.ptr 0 0), envV c 2 who] ⟨cat [(true, .access ({ x with help := some help })), (false, .mem m)] 0, []⟩ (fun v H₁ => match v with | .c (.bool r) => (shAccess H₁ 0 fun x' c' => shF H₁ 2 fun o c2 => match o with | .mem m' => (match chkAll [(true, .access ({ x with help := some help })), (false, .mem m)] [c', c2] [] with | true => K r x' m' | false => False) | _ => False) | _ => False) = accessStep1K False twP c who x help m K := by kernel_rfl

def h_accessStep0 : Hd := fun args H K => match args with
  | [.c (.ptr p0 0), .agg [.int .i64 c1, .int .i64 c2, .int .i64 c3, .int .i64 c4, .int .i64 c5, .int .i64 c6, .int .i64 c7, .ptr m 0, .int .i64 who]] => match H.get p0, H.get m with
    | some (.obj (.access x)), some (.obj (.mem pm)) => K (.c (.bool (accessStep ⟨c1, c2, c3, c4, c5, c6, c7⟩ who x pm).1)) ((H.put p0 (.obj (.access (accessStep ⟨c1, c2, c3, c4, c5, c6, c7⟩ who x pm).2.1))).put m (.obj (.mem (accessStep ⟨c1, c2, c3, c4, c5, c6, c7⟩ who x pm).2.2)))
    | _, _ => False
  | _ => False

theorem h_accessStep0_ok : HOK 60 h_accessStep0 := by
  intro args H K h
  unfold h_accessStep0 at h
  split at h
  · rename_i p0 c1 c2 c3 c4 c5 c6 c7 m who
    split at h
    · rename_i x pm hp hm
      obtain ⟨x, own, hs, hg, pc, w, cell, seen, read, size, help, out⟩ := x
      cases help with
      | none =>
        have e := (accessStep0_ev ⟨c1, c2, c3, c4, c5, c6, c7⟩ who ⟨x, own, hs, hg, pc, w, cell, seen, read, size, none, out⟩ pm (fun r x' m' => K (.c (.bool r)) ((H.put p0 (.obj (.access x'))).put m (.obj (.mem m'))))).mpr (by rw [accessStep0K_eq]; exact h)
        exact step_ok own2_ok (c := ⟨c1, c2, c3, c4, c5, c6, c7⟩) (mk := .access) (fun _ _ _ => shAccess_ok) (by intro hh; cases hh) hp hm e
      | some help =>
        have e := (accessStep1_ev ⟨c1, c2, c3, c4, c5, c6, c7⟩ who ⟨x, own, hs, hg, pc, w, cell, seen, read, size, (some help), out⟩ help pm (fun r x' m' => K (.c (.bool r)) ((H.put p0 (.obj (.access x'))).put m (.obj (.mem m'))))).mpr (by rw [accessStep1K_eq]; exact h)
        exact step_ok own2_ok (c := ⟨c1, c2, c3, c4, c5, c6, c7⟩) (mk := .access) (fun _ _ _ => shAccess_ok) (by intro hh; cases hh) hp hm e
    · exact h.elim
  · exact h.elim

def h_accessStep : Hd := orNil h_accessStep0

theorem h_accessStep_ok : HOK 60 h_accessStep := orNil_ok own2_ok h_accessStep0_ok (fuel := 10) (d := 20) (fun c who pm K h => cast (by kernel_rfl) h)

def h_allocDone : Hd := fun args H K => match args with
  | [.c (.ptr p0 0)] => match H.get p0 with
    | some (.obj (.alloc x)) => K (.agg [cI x.out.e, cU x.out.h, cI x.out.v, cI x.out.st]) (H.put p0 (.obj (.alloc x)))
    | _ => False
  | _ => False

theorem h_allocDone_ok : HOK 43 h_allocDone := by
  intro args H K h
  unfold h_allocDone at h
  split at h
  · rename_i p0
    split at h
    · rename_i x hp
      obtain ⟨size, own, pc, take, at_, gen, p, sa, sc, give, out⟩ := x
      cases p with
      | none =>
        cases give with
        | none =>
          have e : evF Tryz.prog own2 10 20 43 [.c (.ptr 0 0)] ⟨cat [(true, .alloc ⟨size, own, pc, take, at_, gen, none, sa, sc, none, out⟩)] 0, []⟩ (fun v H₁ => match lowV v with
              | true => (shAlloc H₁ 0 fun x' c => match chkAll [(true, .alloc ⟨size, own, pc, take, at_, gen, none, sa, sc, none, out⟩)] [c] [] with
                  | true => K v (H.put p0 (.obj (.alloc x')))
                  | false => False)
              | false => False) := cast (by kernel_rfl) h
          exact ask_ok own2_ok (mk := .alloc) (fun _ _ _ => shAlloc_ok) (rest := []) rfl hp e
        | some give =>
          have e : evF Tryz.prog own2 10 20 43 [.c (.ptr 0 0)] ⟨cat [(true, .alloc ⟨size, own, pc, take, at_, gen, none, sa, sc, (some give), out⟩)] 0, []⟩ (fun v H₁ => match lowV v with
              | true => (shAlloc H₁ 0 fun x' c => match chkAll [(true, .alloc ⟨size, own, pc, take, at_, gen, none, sa, sc, (some give), out⟩)] [c] [] with
                  | true => K v (H.put p0 (.obj (.alloc x')))
                  | false => False)
              | false => False) := cast (by kernel_rfl) h
          exact ask_ok own2_ok (mk := .alloc) (fun _ _ _ => shAlloc_ok) (rest := []) rfl hp e
      | some p =>
        cases give with
        | none =>
          have e : evF Tryz.prog own2 10 20 43 [.c (.ptr 0 0)] ⟨cat [(true, .alloc ⟨size, own, pc, take, at_, gen, (some p), sa, sc, none, out⟩)] 0, []⟩ (fun v H₁ => match lowV v with
              | true => (shAlloc H₁ 0 fun x' c => match chkAll [(true, .alloc ⟨size, own, pc, take, at_, gen, (some p), sa, sc, none, out⟩)] [c] [] with
                  | true => K v (H.put p0 (.obj (.alloc x')))
                  | false => False)
              | false => False) := cast (by kernel_rfl) h
          exact ask_ok own2_ok (mk := .alloc) (fun _ _ _ => shAlloc_ok) (rest := []) rfl hp e
        | some give =>
          have e : evF Tryz.prog own2 10 20 43 [.c (.ptr 0 0)] ⟨cat [(true, .alloc ⟨size, own, pc, take, at_, gen, (some p), sa, sc, (some give), out⟩)] 0, []⟩ (fun v H₁ => match lowV v with
              | true => (shAlloc H₁ 0 fun x' c => match chkAll [(true, .alloc ⟨size, own, pc, take, at_, gen, (some p), sa, sc, (some give), out⟩)] [c] [] with
                  | true => K v (H.put p0 (.obj (.alloc x')))
                  | false => False)
              | false => False) := cast (by kernel_rfl) h
          exact ask_ok own2_ok (mk := .alloc) (fun _ _ _ => shAlloc_ok) (rest := []) rfl hp e
    · exact h.elim
  · exact h.elim

def h_dropDone : Hd := fun args H K => match args with
  | [.c (.ptr p0 0)] => match H.get p0 with
    | some (.obj (.drop x)) => K (.agg [cI x.out.e, cU x.out.h, cI x.out.v, cI x.out.st]) (H.put p0 (.obj (.drop x)))
    | _ => False
  | _ => False

theorem h_dropDone_ok : HOK 46 h_dropDone := by
  intro args H K h
  unfold h_dropDone at h
  split at h
  · rename_i p0
    split at h
    · rename_i x hp
      obtain ⟨n, own, hs, hg, pc, w, size, help, give, out⟩ := x
      cases help with
      | none =>
        cases give with
        | none =>
          have e : evF Tryz.prog own2 10 20 46 [.c (.ptr 0 0)] ⟨cat [(true, .drop ⟨n, own, hs, hg, pc, w, size, none, none, out⟩)] 0, []⟩ (fun v H₁ => match lowV v with
              | true => (shDrop H₁ 0 fun x' c => match chkAll [(true, .drop ⟨n, own, hs, hg, pc, w, size, none, none, out⟩)] [c] [] with
                  | true => K v (H.put p0 (.obj (.drop x')))
                  | false => False)
              | false => False) := cast (by kernel_rfl) h
          exact ask_ok own2_ok (mk := .drop) (fun _ _ _ => shDrop_ok) (rest := []) rfl hp e
        | some give =>
          have e : evF Tryz.prog own2 10 20 46 [.c (.ptr 0 0)] ⟨cat [(true, .drop ⟨n, own, hs, hg, pc, w, size, none, (some give), out⟩)] 0, []⟩ (fun v H₁ => match lowV v with
              | true => (shDrop H₁ 0 fun x' c => match chkAll [(true, .drop ⟨n, own, hs, hg, pc, w, size, none, (some give), out⟩)] [c] [] with
                  | true => K v (H.put p0 (.obj (.drop x')))
                  | false => False)
              | false => False) := cast (by kernel_rfl) h
          exact ask_ok own2_ok (mk := .drop) (fun _ _ _ => shDrop_ok) (rest := []) rfl hp e
      | some help =>
        cases give with
        | none =>
          have e : evF Tryz.prog own2 10 20 46 [.c (.ptr 0 0)] ⟨cat [(true, .drop ⟨n, own, hs, hg, pc, w, size, (some help), none, out⟩)] 0, []⟩ (fun v H₁ => match lowV v with
              | true => (shDrop H₁ 0 fun x' c => match chkAll [(true, .drop ⟨n, own, hs, hg, pc, w, size, (some help), none, out⟩)] [c] [] with
                  | true => K v (H.put p0 (.obj (.drop x')))
                  | false => False)
              | false => False) := cast (by kernel_rfl) h
          exact ask_ok own2_ok (mk := .drop) (fun _ _ _ => shDrop_ok) (rest := []) rfl hp e
        | some give =>
          have e : evF Tryz.prog own2 10 20 46 [.c (.ptr 0 0)] ⟨cat [(true, .drop ⟨n, own, hs, hg, pc, w, size, (some help), (some give), out⟩)] 0, []⟩ (fun v H₁ => match lowV v with
              | true => (shDrop H₁ 0 fun x' c => match chkAll [(true, .drop ⟨n, own, hs, hg, pc, w, size, (some help), (some give), out⟩)] [c] [] with
                  | true => K v (H.put p0 (.obj (.drop x')))
                  | false => False)
              | false => False) := cast (by kernel_rfl) h
          exact ask_ok own2_ok (mk := .drop) (fun _ _ _ => shDrop_ok) (rest := []) rfl hp e
    · exact h.elim
  · exact h.elim

def h_accessDone : Hd := fun args H K => match args with
  | [.c (.ptr p0 0)] => match H.get p0 with
    | some (.obj (.access x)) => K (.agg [cI x.out.e, cU x.out.h, cI x.out.v, cI x.out.st]) (H.put p0 (.obj (.access x)))
    | _ => False
  | _ => False

theorem h_accessDone_ok : HOK 39 h_accessDone := by
  intro args H K h
  unfold h_accessDone at h
  split at h
  · rename_i p0
    split at h
    · rename_i x hp
      obtain ⟨x, own, hs, hg, pc, w, cell, seen, read, size, help, out⟩ := x
      cases help with
      | none =>
        have e : evF Tryz.prog own2 10 20 39 [.c (.ptr 0 0)] ⟨cat [(true, .access ⟨x, own, hs, hg, pc, w, cell, seen, read, size, none, out⟩)] 0, []⟩ (fun v H₁ => match lowV v with
            | true => (shAccess H₁ 0 fun x' c => match chkAll [(true, .access ⟨x, own, hs, hg, pc, w, cell, seen, read, size, none, out⟩)] [c] [] with
                | true => K v (H.put p0 (.obj (.access x')))
                | false => False)
            | false => False) := cast (by kernel_rfl) h
        exact ask_ok own2_ok (mk := .access) (fun _ _ _ => shAccess_ok) (rest := []) rfl hp e
      | some help =>
        have e : evF Tryz.prog own2 10 20 39 [.c (.ptr 0 0)] ⟨cat [(true, .access ⟨x, own, hs, hg, pc, w, cell, seen, read, size, (some help), out⟩)] 0, []⟩ (fun v H₁ => match lowV v with
            | true => (shAccess H₁ 0 fun x' c => match chkAll [(true, .access ⟨x, own, hs, hg, pc, w, cell, seen, read, size, (some help), out⟩)] [c] [] with
                | true => K v (H.put p0 (.obj (.access x')))
                | false => False)
            | false => False) := cast (by kernel_rfl) h
        exact ask_ok own2_ok (mk := .access) (fun _ _ _ => shAccess_ok) (rest := []) rfl hp e
    · exact h.elim
  · exact h.elim

def h_allocNew : Hd := fun args H K => match args with
  | [.c (.int .i64 a), .c (.bool b)] => K (.c (.ptr H.len 0)) (H.new (.obj (.alloc ⟨a, b, 0, ⟨0, 0, 0, 0, false⟩, 0, 0, none, 0, 0, none, ⟨0, 0, 0, 0⟩⟩)))
  | _ => False

theorem h_allocNew_ok : HOK 41 h_allocNew := by
  intro args H K h
  unfold h_allocNew at h
  split at h
  · rename_i a b
    have e : evF Tryz.prog own2 10 20 41 [.c (.int .i64 a), .c (.bool b)] ⟨[], []⟩ (fun v H₁ => match v with
        | .c (.ptr i 0) => (shAlloc H₁ i fun x c => match chkAll [] [] [c] && headOK i c with
          | true => K (.c (.ptr H.len 0)) (H.new (.obj (.alloc x)))
          | false => False)
        | _ => False) := cast (by kernel_rfl) h
    exact new_ok own2_ok (mk := .alloc) (fun _ _ _ => shAlloc_ok) rfl e
  · exact h.elim

def h_dropNew : Hd := fun args H K => match args with
  | [.c (.int .u64 a), .c (.bool b)] => K (.c (.ptr H.len 0)) (H.new (.obj (.drop ⟨a, b, 0, 0, 0, 0, 0, none, none, ⟨0, 0, 0, 0⟩⟩)))
  | _ => False

theorem h_dropNew_ok : HOK 44 h_dropNew := by
  intro args H K h
  unfold h_dropNew at h
  split at h
  · rename_i a b
    have e : evF Tryz.prog own2 10 20 44 [.c (.int .u64 a), .c (.bool b)] ⟨[], []⟩ (fun v H₁ => match v with
        | .c (.ptr i 0) => (shDrop H₁ i fun x c => match chkAll [] [] [c] && headOK i c with
          | true => K (.c (.ptr H.len 0)) (H.new (.obj (.drop x)))
          | false => False)
        | _ => False) := cast (by kernel_rfl) h
    exact new_ok own2_ok (mk := .drop) (fun _ _ _ => shDrop_ok) rfl e
  · exact h.elim

def h_accessNew : Hd := fun args H K => match args with
  | [.agg [.int .i64 x1, .int .u64 x2, .int .i64 x3, .int .i64 x4, .int .i64 x5], .c (.bool b)] => K (.c (.ptr H.len 0)) (H.new (.obj (.access ⟨⟨x1, x2, x3, x4, x5⟩, b, 0, 0, 0, 0, 0, 0, 0, 0, none, ⟨0, 0, 0, 0⟩⟩)))
  | _ => False

theorem h_accessNew_ok : HOK 37 h_accessNew := by
  intro args H K h
  unfold h_accessNew at h
  split at h
  · rename_i x1 x2 x3 x4 x5 b
    have e : evF Tryz.prog own2 10 20 37 [.agg [.int .i64 x1, .int .u64 x2, .int .i64 x3, .int .i64 x4, .int .i64 x5], .c (.bool b)] ⟨[], []⟩ (fun v H₁ => match v with
        | .c (.ptr i 0) => (shAccess H₁ i fun x c => match chkAll [] [] [c] && headOK i c with
          | true => K (.c (.ptr H.len 0)) (H.new (.obj (.access x)))
          | false => False)
        | _ => False) := cast (by kernel_rfl) h
    exact new_ok own2_ok (mk := .access) (fun _ _ _ => shAccess_ok) rfl e
  · exact h.elim

def tab3 : List (FuncId × Hd) := [(42, h_allocStep), (45, h_dropStep), (60, h_accessStep), (43, h_allocDone), (46, h_dropDone), (39, h_accessDone), (41, h_allocNew), (44, h_dropNew), (37, h_accessNew)] ++ tab2

def own3 : FuncId → Option Hd := look tab3

theorem all3 : AllOK tab3 := ⟨h_allocStep_ok, h_dropStep_ok, h_accessStep_ok, h_allocDone_ok, h_dropDone_ok, h_accessDone_ok, h_allocNew_ok, h_dropNew_ok, h_accessNew_ok, all2⟩

theorem own3_ok : OwnOK Tryz.prog own3 := look_ok all3

end Go.Proofs.YtfjnkneoddankaaGreat
