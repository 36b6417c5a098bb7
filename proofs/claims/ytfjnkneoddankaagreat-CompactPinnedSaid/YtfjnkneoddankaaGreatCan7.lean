/-
  The compactor's maker and askers.
-/
import Derived.Test.YtfjnkneoddankaaGreatCan6
set_option linter.unusedVariables false
set_option linter.unusedSimpArgs false
set_option maxRecDepth 100000
namespace Go.FL

def shComp2 (H : LH) (n : Nat) (k : PComp × Nat → List Nat → Prop) : Prop := shComp H n fun x cap c => k (x, cap) c

theorem shComp2_ok {H : LH} {n : Nat} {k : PComp × Nat → List Nat → Prop} (h : shComp2 H n k) : ∃ x c, k x c ∧ Clus H c (true, .comp x.1 x.2) := by
  obtain ⟨x, cap, c, h1, h2⟩ := shComp_ok h
  exact ⟨(x, cap), c, h1, h2⟩

/-- A list that is none has no capacity. -/
def capOf (x : PComp) (cap : Nat) : Nat := match x.seen with
  | none => 0
  | some _ => cap

def comp0 : PComp := ⟨0, none, 0, 0, 0, 0, none, none, none, ⟨0, 0, 0, 0, 0⟩, ⟨0, 0, 0, 0, 0⟩, 0⟩

end Go.FL

namespace Go.Proofs.YtfjnkneoddankaaGreat
open Go Go.FL Go.Proofs

def h_compNew : Hd := fun args H K => match args with
  | [] => K (.c (.ptr H.len 0)) (H.new (.obj (.comp ⟨0, none, 0, 0, 0, 0, none, none, none, ⟨0, 0, 0, 0, 0⟩, ⟨0, 0, 0, 0, 0⟩, 0⟩ 0)))
  | _ => False

theorem h_compNew_ok : HOK 14 h_compNew := by
  intro args H K h
  unfold h_compNew at h
  split at h
  · have e : evF Tryz.prog ownK5 10 20 14 [] ⟨[], []⟩ (fun v H₁ => match v with
        | .c (.ptr i 0) => (shComp2 H₁ i fun x c => match chkAll [] [] [c] && headOK i c with
          | true => K (.c (.ptr H.len 0)) (H.new (.obj (.comp x.1 x.2)))
          | false => False)
        | _ => False) := cast (by kernel_rfl) h
    exact new_ok ownK5_ok (mk := fun r : PComp × Nat => .comp r.1 r.2) (fun _ _ _ => shComp2_ok) rfl e
  · exact h.elim

def h_compWork : Hd := fun args H K => match args with
  | [.c (.ptr p0 0)] => match H.get p0 with
    | some (.obj (.comp x cap)) => K (.agg [cI x.work.ev, cI x.work.lf, cI x.work.fr, cI x.work.mv, cI x.work.rd]) (H.put p0 (.obj (.comp x (capOf x cap))))
    | _ => False
  | _ => False

theorem compWork0000 {H : LH} {K : LV → LH → Prop} {p0 cap : Nat} {pc at_ pos w now k1 k2 k3 k4 k5 idle : Int} {was : PWk} (hp : H.get p0 = some (.obj (.comp ⟨pc, none, at_, pos, w, now, none, none, none, ⟨k1, k2, k3, k4, k5⟩, was, idle⟩ cap))) (h : K (.agg [cI k1, cI k2, cI k3, cI k4, cI k5]) (H.put p0 (.obj (.comp ⟨pc, none, at_, pos, w, now, none, none, none, ⟨k1, k2, k3, k4, k5⟩, was, idle⟩ 0)))) :
    (∃ fn, Tryz.prog.funcs[16]? = some fn ∧ fn.body.isSome = true) ∧ CSpec Tryz.prog 16 [.c (.ptr p0 0)] H K := by
  have e : evF Tryz.prog ownK5 10 20 16 [.c (.ptr 0 0)] ⟨cat [(true, .comp ⟨pc, none, at_, pos, w, now, none, none, none, ⟨k1, k2, k3, k4, k5⟩, was, idle⟩ cap)] 0, []⟩ (fun v H₁ => match lowV v with
    | true => (shComp2 H₁ 0 fun x' c => match chkAll [(true, .comp ⟨pc, none, at_, pos, w, now, none, none, none, ⟨k1, k2, k3, k4, k5⟩, was, idle⟩ cap)] [c] [] with
        | true => K v (H.put p0 (.obj (.comp x'.1 x'.2)))
        | false => False)
    | false => False) := cast (by kernel_rfl) h
  exact ask_ok ownK5_ok (mk := fun r : PComp × Nat => .comp r.1 r.2) (x := (⟨pc, none, at_, pos, w, now, none, none, none, ⟨k1, k2, k3, k4, k5⟩, was, idle⟩, cap)) (fun _ _ _ => shComp2_ok) (rest := []) rfl hp e

theorem compWork1000 {H : LH} {K : LV → LH → Prop} {p0 cap : Nat} {pc at_ pos w now k1 k2 k3 k4 k5 idle : Int} {was : PWk} {seen : PSeenL} (hp : H.get p0 = some (.obj (.comp ⟨pc, some seen, at_, pos, w, now, none, none, none, ⟨k1, k2, k3, k4, k5⟩, was, idle⟩ cap))) (h : K (.agg [cI k1, cI k2, cI k3, cI k4, cI k5]) (H.put p0 (.obj (.comp ⟨pc, some seen, at_, pos, w, now, none, none, none, ⟨k1, k2, k3, k4, k5⟩, was, idle⟩ cap)))) :
    (∃ fn, Tryz.prog.funcs[16]? = some fn ∧ fn.body.isSome = true) ∧ CSpec Tryz.prog 16 [.c (.ptr p0 0)] H K := by
  have e : evF Tryz.prog ownK5 10 20 16 [.c (.ptr 0 0)] ⟨cat [(true, .comp ⟨pc, some seen, at_, pos, w, now, none, none, none, ⟨k1, k2, k3, k4, k5⟩, was, idle⟩ cap)] 0, []⟩ (fun v H₁ => match lowV v with
    | true => (shComp2 H₁ 0 fun x' c => match chkAll [(true, .comp ⟨pc, some seen, at_, pos, w, now, none, none, none, ⟨k1, k2, k3, k4, k5⟩, was, idle⟩ cap)] [c] [] with
        | true => K v (H.put p0 (.obj (.comp x'.1 x'.2)))
        | false => False)
    | false => False) := cast (by kernel_rfl) (show (seen.len = seen.len ∧ cap = cap) ∧ K (.agg [cI k1, cI k2, cI k3, cI k4, cI k5]) (H.put p0 (.obj (.comp ⟨pc, some seen, at_, pos, w, now, none, none, none, ⟨k1, k2, k3, k4, k5⟩, was, idle⟩ cap))) from ⟨⟨rfl, rfl⟩, h⟩)
  exact ask_ok ownK5_ok (mk := fun r : PComp × Nat => .comp r.1 r.2) (x := (⟨pc, some seen, at_, pos, w, now, none, none, none, ⟨k1, k2, k3, k4, k5⟩, was, idle⟩, cap)) (fun _ _ _ => shComp2_ok) (rest := []) rfl hp e

theorem compWork0100 {H : LH} {K : LV → LH → Prop} {p0 cap : Nat} {pc at_ pos w now k1 k2 k3 k4 k5 idle : Int} {was : PWk} {m : PMove} (hp : H.get p0 = some (.obj (.comp ⟨pc, none, at_, pos, w, now, some m, none, none, ⟨k1, k2, k3, k4, k5⟩, was, idle⟩ cap))) (h : K (.agg [cI k1, cI k2, cI k3, cI k4, cI k5]) (H.put p0 (.obj (.comp ⟨pc, none, at_, pos, w, now, some m, none, none, ⟨k1, k2, k3, k4, k5⟩, was, idle⟩ 0)))) :
    (∃ fn, Tryz.prog.funcs[16]? = some fn ∧ fn.body.isSome = true) ∧ CSpec Tryz.prog 16 [.c (.ptr p0 0)] H K := by
  have e : evF Tryz.prog ownK5 10 20 16 [.c (.ptr 0 0)] ⟨cat [(true, .comp ⟨pc, none, at_, pos, w, now, some m, none, none, ⟨k1, k2, k3, k4, k5⟩, was, idle⟩ cap)] 0, []⟩ (fun v H₁ => match lowV v with
    | true => (shComp2 H₁ 0 fun x' c => match chkAll [(true, .comp ⟨pc, none, at_, pos, w, now, some m, none, none, ⟨k1, k2, k3, k4, k5⟩, was, idle⟩ cap)] [c] [] with
        | true => K v (H.put p0 (.obj (.comp x'.1 x'.2)))
        | false => False)
    | false => False) := cast (by kernel_rfl) h
  exact ask_ok ownK5_ok (mk := fun r : PComp × Nat => .comp r.1 r.2) (x := (⟨pc, none, at_, pos, w, now, some m, none, none, ⟨k1, k2, k3, k4, k5⟩, was, idle⟩, cap)) (fun _ _ _ => shComp2_ok) (rest := []) rfl hp e

theorem compWork1100 {H : LH} {K : LV → LH → Prop} {p0 cap : Nat} {pc at_ pos w now k1 k2 k3 k4 k5 idle : Int} {was : PWk} {seen : PSeenL} {m : PMove} (hp : H.get p0 = some (.obj (.comp ⟨pc, some seen, at_, pos, w, now, some m, none, none, ⟨k1, k2, k3, k4, k5⟩, was, idle⟩ cap))) (h : K (.agg [cI k1, cI k2, cI k3, cI k4, cI k5]) (H.put p0 (.obj (.comp ⟨pc, some seen, at_, pos, w, now, some m, none, none, ⟨k1, k2, k3, k4, k5⟩, was, idle⟩ cap)))) :
    (∃ fn, Tryz.prog.funcs[16]? = some fn ∧ fn.body.isSome = true) ∧ CSpec Tryz.prog 16 [.c (.ptr p0 0)] H K := by
  have e : evF Tryz.prog ownK5 10 20 16 [.c (.ptr 0 0)] ⟨cat [(true, .comp ⟨pc, some seen, at_, pos, w, now, some m, none, none, ⟨k1, k2, k3, k4, k5⟩, was, idle⟩ cap)] 0, []⟩ (fun v H₁ => match lowV v with
    | true => (shComp2 H₁ 0 fun x' c => match chkAll [(true, .comp ⟨pc, some seen, at_, pos, w, now, some m, none, none, ⟨k1, k2, k3, k4, k5⟩, was, idle⟩ cap)] [c] [] with
        | true => K v (H.put p0 (.obj (.comp x'.1 x'.2)))
        | false => False)
    | false => False) := cast (by kernel_rfl) (show (seen.len = seen.len ∧ cap = cap) ∧ K (.agg [cI k1, cI k2, cI k3, cI k4, cI k5]) (H.put p0 (.obj (.comp ⟨pc, some seen, at_, pos, w, now, some m, none, none, ⟨k1, k2, k3, k4, k5⟩, was, idle⟩ cap))) from ⟨⟨rfl, rfl⟩, h⟩)
  exact ask_ok ownK5_ok (mk := fun r : PComp × Nat => .comp r.1 r.2) (x := (⟨pc, some seen, at_, pos, w, now, some m, none, none, ⟨k1, k2, k3, k4, k5⟩, was, idle⟩, cap)) (fun _ _ _ => shComp2_ok) (rest := []) rfl hp e

theorem compWork0010 {H : LH} {K : LV → LH → Prop} {p0 cap : Nat} {pc at_ pos w now k1 k2 k3 k4 k5 idle : Int} {was : PWk} {a : PAdv} (hp : H.get p0 = some (.obj (.comp ⟨pc, none, at_, pos, w, now, none, some a, none, ⟨k1, k2, k3, k4, k5⟩, was, idle⟩ cap))) (h : K (.agg [cI k1, cI k2, cI k3, cI k4, cI k5]) (H.put p0 (.obj (.comp ⟨pc, none, at_, pos, w, now, none, some a, none, ⟨k1, k2, k3, k4, k5⟩, was, idle⟩ 0)))) :
    (∃ fn, Tryz.prog.funcs[16]? = some fn ∧ fn.body.isSome = true) ∧ CSpec Tryz.prog 16 [.c (.ptr p0 0)] H K := by
  have e : evF Tryz.prog ownK5 10 20 16 [.c (.ptr 0 0)] ⟨cat [(true, .comp ⟨pc, none, at_, pos, w, now, none, some a, none, ⟨k1, k2, k3, k4, k5⟩, was, idle⟩ cap)] 0, []⟩ (fun v H₁ => match lowV v with
    | true => (shComp2 H₁ 0 fun x' c => match chkAll [(true, .comp ⟨pc, none, at_, pos, w, now, none, some a, none, ⟨k1, k2, k3, k4, k5⟩, was, idle⟩ cap)] [c] [] with
        | true => K v (H.put p0 (.obj (.comp x'.1 x'.2)))
        | false => False)
    | false => False) := cast (by kernel_rfl) h
  exact ask_ok ownK5_ok (mk := fun r : PComp × Nat => .comp r.1 r.2) (x := (⟨pc, none, at_, pos, w, now, none, some a, none, ⟨k1, k2, k3, k4, k5⟩, was, idle⟩, cap)) (fun _ _ _ => shComp2_ok) (rest := []) rfl hp e

theorem compWork1010 {H : LH} {K : LV → LH → Prop} {p0 cap : Nat} {pc at_ pos w now k1 k2 k3 k4 k5 idle : Int} {was : PWk} {seen : PSeenL} {a : PAdv} (hp : H.get p0 = some (.obj (.comp ⟨pc, some seen, at_, pos, w, now, none, some a, none, ⟨k1, k2, k3, k4, k5⟩, was, idle⟩ cap))) (h : K (.agg [cI k1, cI k2, cI k3, cI k4, cI k5]) (H.put p0 (.obj (.comp ⟨pc, some seen, at_, pos, w, now, none, some a, none, ⟨k1, k2, k3, k4, k5⟩, was, idle⟩ cap)))) :
    (∃ fn, Tryz.prog.funcs[16]? = some fn ∧ fn.body.isSome = true) ∧ CSpec Tryz.prog 16 [.c (.ptr p0 0)] H K := by
  have e : evF Tryz.prog ownK5 10 20 16 [.c (.ptr 0 0)] ⟨cat [(true, .comp ⟨pc, some seen, at_, pos, w, now, none, some a, none, ⟨k1, k2, k3, k4, k5⟩, was, idle⟩ cap)] 0, []⟩ (fun v H₁ => match lowV v with
    | true => (shComp2 H₁ 0 fun x' c => match chkAll [(true, .comp ⟨pc, some seen, at_, pos, w, now, none, some a, none, ⟨k1, k2, k3, k4, k5⟩, was, idle⟩ cap)] [c] [] with
        | true => K v (H.put p0 (.obj (.comp x'.1 x'.2)))
        | false => False)
    | false => False) := cast (by kernel_rfl) (show (seen.len = seen.len ∧ cap = cap) ∧ K (.agg [cI k1, cI k2, cI k3, cI k4, cI k5]) (H.put p0 (.obj (.comp ⟨pc, some seen, at_, pos, w, now, none, some a, none, ⟨k1, k2, k3, k4, k5⟩, was, idle⟩ cap))) from ⟨⟨rfl, rfl⟩, h⟩)
  exact ask_ok ownK5_ok (mk := fun r : PComp × Nat => .comp r.1 r.2) (x := (⟨pc, some seen, at_, pos, w, now, none, some a, none, ⟨k1, k2, k3, k4, k5⟩, was, idle⟩, cap)) (fun _ _ _ => shComp2_ok) (rest := []) rfl hp e

theorem compWork0110 {H : LH} {K : LV → LH → Prop} {p0 cap : Nat} {pc at_ pos w now k1 k2 k3 k4 k5 idle : Int} {was : PWk} {m : PMove} {a : PAdv} (hp : H.get p0 = some (.obj (.comp ⟨pc, none, at_, pos, w, now, some m, some a, none, ⟨k1, k2, k3, k4, k5⟩, was, idle⟩ cap))) (h : K (.agg [cI k1, cI k2, cI k3, cI k4, cI k5]) (H.put p0 (.obj (.comp ⟨pc, none, at_, pos, w, now, some m, some a, none, ⟨k1, k2, k3, k4, k5⟩, was, idle⟩ 0)))) :
    (∃ fn, Tryz.prog.funcs[16]? = some fn ∧ fn.body.isSome = true) ∧ CSpec Tryz.prog 16 [.c (.ptr p0 0)] H K := by
  have e : evF Tryz.prog ownK5 10 20 16 [.c (.ptr 0 0)] ⟨cat [(true, .comp ⟨pc, none, at_, pos, w, now, some m, some a, none, ⟨k1, k2, k3, k4, k5⟩, was, idle⟩ cap)] 0, []⟩ (fun v H₁ => match lowV v with
    | true => (shComp2 H₁ 0 fun x' c => match chkAll [(true, .comp ⟨pc, none, at_, pos, w, now, some m, some a, none, ⟨k1, k2, k3, k4, k5⟩, was, idle⟩ cap)] [c] [] with
        | true => K v (H.put p0 (.obj (.comp x'.1 x'.2)))
        | false => False)
    | false => False) := cast (by kernel_rfl) h
  exact ask_ok ownK5_ok (mk := fun r : PComp × Nat => .comp r.1 r.2) (x := (⟨pc, none, at_, pos, w, now, some m, some a, none, ⟨k1, k2, k3, k4, k5⟩, was, idle⟩, cap)) (fun _ _ _ => shComp2_ok) (rest := []) rfl hp e

theorem compWork1110 {H : LH} {K : LV → LH → Prop} {p0 cap : Nat} {pc at_ pos w now k1 k2 k3 k4 k5 idle : Int} {was : PWk} {seen : PSeenL} {m : PMove} {a : PAdv} (hp : H.get p0 = some (.obj (.comp ⟨pc, some seen, at_, pos, w, now, some m, some a, none, ⟨k1, k2, k3, k4, k5⟩, was, idle⟩ cap))) (h : K (.agg [cI k1, cI k2, cI k3, cI k4, cI k5]) (H.put p0 (.obj (.comp ⟨pc, some seen, at_, pos, w, now, some m, some a, none, ⟨k1, k2, k3, k4, k5⟩, was, idle⟩ cap)))) :
    (∃ fn, Tryz.prog.funcs[16]? = some fn ∧ fn.body.isSome = true) ∧ CSpec Tryz.prog 16 [.c (.ptr p0 0)] H K := by
  have e : evF Tryz.prog ownK5 10 20 16 [.c (.ptr 0 0)] ⟨cat [(true, .comp ⟨pc, some seen, at_, pos, w, now, some m, some a, none, ⟨k1, k2, k3, k4, k5⟩, was, idle⟩ cap)] 0, []⟩ (fun v H₁ => match lowV v with
    | true => (shComp2 H₁ 0 fun x' c => match chkAll [(true, .comp ⟨pc, some seen, at_, pos, w, now, some m, some a, none, ⟨k1, k2, k3, k4, k5⟩, was, idle⟩ cap)] [c] [] with
        | true => K v (H.put p0 (.obj (.comp x'.1 x'.2)))
        | false => False)
    | false => False) := cast (by kernel_rfl) (show (seen.len = seen.len ∧ cap = cap) ∧ K (.agg [cI k1, cI k2, cI k3, cI k4, cI k5]) (H.put p0 (.obj (.comp ⟨pc, some seen, at_, pos, w, now, some m, some a, none, ⟨k1, k2, k3, k4, k5⟩, was, idle⟩ cap))) from ⟨⟨rfl, rfl⟩, h⟩)
  exact ask_ok ownK5_ok (mk := fun r : PComp × Nat => .comp r.1 r.2) (x := (⟨pc, some seen, at_, pos, w, now, some m, some a, none, ⟨k1, k2, k3, k4, k5⟩, was, idle⟩, cap)) (fun _ _ _ => shComp2_ok) (rest := []) rfl hp e

theorem compWork0001 {H : LH} {K : LV → LH → Prop} {p0 cap : Nat} {pc at_ pos w now k1 k2 k3 k4 k5 idle : Int} {was : PWk} {s : PSettle} (hp : H.get p0 = some (.obj (.comp ⟨pc, none, at_, pos, w, now, none, none, some s, ⟨k1, k2, k3, k4, k5⟩, was, idle⟩ cap))) (h : K (.agg [cI k1, cI k2, cI k3, cI k4, cI k5]) (H.put p0 (.obj (.comp ⟨pc, none, at_, pos, w, now, none, none, some s, ⟨k1, k2, k3, k4, k5⟩, was, idle⟩ 0)))) :
    (∃ fn, Tryz.prog.funcs[16]? = some fn ∧ fn.body.isSome = true) ∧ CSpec Tryz.prog 16 [.c (.ptr p0 0)] H K := by
  have e : evF Tryz.prog ownK5 10 20 16 [.c (.ptr 0 0)] ⟨cat [(true, .comp ⟨pc, none, at_, pos, w, now, none, none, some s, ⟨k1, k2, k3, k4, k5⟩, was, idle⟩ cap)] 0, []⟩ (fun v H₁ => match lowV v with
    | true => (shComp2 H₁ 0 fun x' c => match chkAll [(true, .comp ⟨pc, none, at_, pos, w, now, none, none, some s, ⟨k1, k2, k3, k4, k5⟩, was, idle⟩ cap)] [c] [] with
        | true => K v (H.put p0 (.obj (.comp x'.1 x'.2)))
        | false => False)
    | false => False) := cast (by kernel_rfl) h
  exact ask_ok ownK5_ok (mk := fun r : PComp × Nat => .comp r.1 r.2) (x := (⟨pc, none, at_, pos, w, now, none, none, some s, ⟨k1, k2, k3, k4, k5⟩, was, idle⟩, cap)) (fun _ _ _ => shComp2_ok) (rest := []) rfl hp e

theorem compWork1001 {H : LH} {K : LV → LH → Prop} {p0 cap : Nat} {pc at_ pos w now k1 k2 k3 k4 k5 idle : Int} {was : PWk} {seen : PSeenL} {s : PSettle} (hp : H.get p0 = some (.obj (.comp ⟨pc, some seen, at_, pos, w, now, none, none, some s, ⟨k1, k2, k3, k4, k5⟩, was, idle⟩ cap))) (h : K (.agg [cI k1, cI k2, cI k3, cI k4, cI k5]) (H.put p0 (.obj (.comp ⟨pc, some seen, at_, pos, w, now, none, none, some s, ⟨k1, k2, k3, k4, k5⟩, was, idle⟩ cap)))) :
    (∃ fn, Tryz.prog.funcs[16]? = some fn ∧ fn.body.isSome = true) ∧ CSpec Tryz.prog 16 [.c (.ptr p0 0)] H K := by
  have e : evF Tryz.prog ownK5 10 20 16 [.c (.ptr 0 0)] ⟨cat [(true, .comp ⟨pc, some seen, at_, pos, w, now, none, none, some s, ⟨k1, k2, k3, k4, k5⟩, was, idle⟩ cap)] 0, []⟩ (fun v H₁ => match lowV v with
    | true => (shComp2 H₁ 0 fun x' c => match chkAll [(true, .comp ⟨pc, some seen, at_, pos, w, now, none, none, some s, ⟨k1, k2, k3, k4, k5⟩, was, idle⟩ cap)] [c] [] with
        | true => K v (H.put p0 (.obj (.comp x'.1 x'.2)))
        | false => False)
    | false => False) := cast (by kernel_rfl) (show (seen.len = seen.len ∧ cap = cap) ∧ K (.agg [cI k1, cI k2, cI k3, cI k4, cI k5]) (H.put p0 (.obj (.comp ⟨pc, some seen, at_, pos, w, now, none, none, some s, ⟨k1, k2, k3, k4, k5⟩, was, idle⟩ cap))) from ⟨⟨rfl, rfl⟩, h⟩)
  exact ask_ok ownK5_ok (mk := fun r : PComp × Nat => .comp r.1 r.2) (x := (⟨pc, some seen, at_, pos, w, now, none, none, some s, ⟨k1, k2, k3, k4, k5⟩, was, idle⟩, cap)) (fun _ _ _ => shComp2_ok) (rest := []) rfl hp e

theorem compWork0101 {H : LH} {K : LV → LH → Prop} {p0 cap : Nat} {pc at_ pos w now k1 k2 k3 k4 k5 idle : Int} {was : PWk} {m : PMove} {s : PSettle} (hp : H.get p0 = some (.obj (.comp ⟨pc, none, at_, pos, w, now, some m, none, some s, ⟨k1, k2, k3, k4, k5⟩, was, idle⟩ cap))) (h : K (.agg [cI k1, cI k2, cI k3, cI k4, cI k5]) (H.put p0 (.obj (.comp ⟨pc, none, at_, pos, w, now, some m, none, some s, ⟨k1, k2, k3, k4, k5⟩, was, idle⟩ 0)))) :
    (∃ fn, Tryz.prog.funcs[16]? = some fn ∧ fn.body.isSome = true) ∧ CSpec Tryz.prog 16 [.c (.ptr p0 0)] H K := by
  have e : evF Tryz.prog ownK5 10 20 16 [.c (.ptr 0 0)] ⟨cat [(true, .comp ⟨pc, none, at_, pos, w, now, some m, none, some s, ⟨k1, k2, k3, k4, k5⟩, was, idle⟩ cap)] 0, []⟩ (fun v H₁ => match lowV v with
    | true => (shComp2 H₁ 0 fun x' c => match chkAll [(true, .comp ⟨pc, none, at_, pos, w, now, some m, none, some s, ⟨k1, k2, k3, k4, k5⟩, was, idle⟩ cap)] [c] [] with
        | true => K v (H.put p0 (.obj (.comp x'.1 x'.2)))
        | false => False)
    | false => False) := cast (by kernel_rfl) h
  exact ask_ok ownK5_ok (mk := fun r : PComp × Nat => .comp r.1 r.2) (x := (⟨pc, none, at_, pos, w, now, some m, none, some s, ⟨k1, k2, k3, k4, k5⟩, was, idle⟩, cap)) (fun _ _ _ => shComp2_ok) (rest := []) rfl hp e

theorem compWork1101 {H : LH} {K : LV → LH → Prop} {p0 cap : Nat} {pc at_ pos w now k1 k2 k3 k4 k5 idle : Int} {was : PWk} {seen : PSeenL} {m : PMove} {s : PSettle} (hp : H.get p0 = some (.obj (.comp ⟨pc, some seen, at_, pos, w, now, some m, none, some s, ⟨k1, k2, k3, k4, k5⟩, was, idle⟩ cap))) (h : K (.agg [cI k1, cI k2, cI k3, cI k4, cI k5]) (H.put p0 (.obj (.comp ⟨pc, some seen, at_, pos, w, now, some m, none, some s, ⟨k1, k2, k3, k4, k5⟩, was, idle⟩ cap)))) :
    (∃ fn, Tryz.prog.funcs[16]? = some fn ∧ fn.body.isSome = true) ∧ CSpec Tryz.prog 16 [.c (.ptr p0 0)] H K := by
  have e : evF Tryz.prog ownK5 10 20 16 [.c (.ptr 0 0)] ⟨cat [(true, .comp ⟨pc, some seen, at_, pos, w, now, some m, none, some s, ⟨k1, k2, k3, k4, k5⟩, was, idle⟩ cap)] 0, []⟩ (fun v H₁ => match lowV v with
    | true => (shComp2 H₁ 0 fun x' c => match chkAll [(true, .comp ⟨pc, some seen, at_, pos, w, now, some m, none, some s, ⟨k1, k2, k3, k4, k5⟩, was, idle⟩ cap)] [c] [] with
        | true => K v (H.put p0 (.obj (.comp x'.1 x'.2)))
        | false => False)
    | false => False) := cast (by kernel_rfl) (show (seen.len = seen.len ∧ cap = cap) ∧ K (.agg [cI k1, cI k2, cI k3, cI k4, cI k5]) (H.put p0 (.obj (.comp ⟨pc, some seen, at_, pos, w, now, some m, none, some s, ⟨k1, k2, k3, k4, k5⟩, was, idle⟩ cap))) from ⟨⟨rfl, rfl⟩, h⟩)
  exact ask_ok ownK5_ok (mk := fun r : PComp × Nat => .comp r.1 r.2) (x := (⟨pc, some seen, at_, pos, w, now, some m, none, some s, ⟨k1, k2, k3, k4, k5⟩, was, idle⟩, cap)) (fun _ _ _ => shComp2_ok) (rest := []) rfl hp e

theorem compWork0011 {H : LH} {K : LV → LH → Prop} {p0 cap : Nat} {pc at_ pos w now k1 k2 k3 k4 k5 idle : Int} {was : PWk} {a : PAdv} {s : PSettle} (hp : H.get p0 = some (.obj (.comp ⟨pc, none, at_, pos, w, now, none, some a, some s, ⟨k1, k2, k3, k4, k5⟩, was, idle⟩ cap))) (h : K (.agg [cI k1, cI k2, cI k3, cI k4, cI k5]) (H.put p0 (.obj (.comp ⟨pc, none, at_, pos, w, now, none, some a, some s, ⟨k1, k2, k3, k4, k5⟩, was, idle⟩ 0)))) :
    (∃ fn, Tryz.prog.funcs[16]? = some fn ∧ fn.body.isSome = true) ∧ CSpec Tryz.prog 16 [.c (.ptr p0 0)] H K := by
  have e : evF Tryz.prog ownK5 10 20 16 [.c (.ptr 0 0)] ⟨cat [(true, .comp ⟨pc, none, at_, pos, w, now, none, some a, some s, ⟨k1, k2, k3, k4, k5⟩, was, idle⟩ cap)] 0, []⟩ (fun v H₁ => match lowV v with
    | true => (shComp2 H₁ 0 fun x' c => match chkAll [(true, .comp ⟨pc, none, at_, pos, w, now, none, some a, some s, ⟨k1, k2, k3, k4, k5⟩, was, idle⟩ cap)] [c] [] with
        | true => K v (H.put p0 (.obj (.comp x'.1 x'.2)))
        | false => False)
    | false => False) := cast (by kernel_rfl) h
  exact ask_ok ownK5_ok (mk := fun r : PComp × Nat => .comp r.1 r.2) (x := (⟨pc, none, at_, pos, w, now, none, some a, some s, ⟨k1, k2, k3, k4, k5⟩, was, idle⟩, cap)) (fun _ _ _ => shComp2_ok) (rest := []) rfl hp e

theorem compWork1011 {H : LH} {K : LV → LH → Prop} {p0 cap : Nat} {pc at_ pos w now k1 k2 k3 k4 k5 idle : Int} {was : PWk} {seen : PSeenL} {a : PAdv} {s : PSettle} (hp : H.get p0 = some (.obj (.comp ⟨pc, some seen, at_, pos, w, now, none, some a, some s, ⟨k1, k2, k3, k4, k5⟩, was, idle⟩ cap))) (h : K (.agg [cI k1, cI k2, cI k3, cI k4, cI k5]) (H.put p0 (.obj (.comp ⟨pc, some seen, at_, pos, w, now, none, some a, some s, ⟨k1, k2, k3, k4, k5⟩, was, idle⟩ cap)))) :
    (∃ fn, Tryz.prog.funcs[16]? = some fn ∧ fn.body.isSome = true) ∧ CSpec Tryz.prog 16 [.c (.ptr p0 0)] H K := by
  have e : evF Tryz.prog ownK5 10 20 16 [.c (.ptr 0 0)] ⟨cat [(true, .comp ⟨pc, some seen, at_, pos, w, now, none, some a, some s, ⟨k1, k2, k3, k4, k5⟩, was, idle⟩ cap)] 0, []⟩ (fun v H₁ => match lowV v with
    | true => (shComp2 H₁ 0 fun x' c => match chkAll [(true, .comp ⟨pc, some seen, at_, pos, w, now, none, some a, some s, ⟨k1, k2, k3, k4, k5⟩, was, idle⟩ cap)] [c] [] with
        | true => K v (H.put p0 (.obj (.comp x'.1 x'.2)))
        | false => False)
    | false => False) := cast (by kernel_rfl) (show (seen.len = seen.len ∧ cap = cap) ∧ K (.agg [cI k1, cI k2, cI k3, cI k4, cI k5]) (H.put p0 (.obj (.comp ⟨pc, some seen, at_, pos, w, now, none, some a, some s, ⟨k1, k2, k3, k4, k5⟩, was, idle⟩ cap))) from ⟨⟨rfl, rfl⟩, h⟩)
  exact ask_ok ownK5_ok (mk := fun r : PComp × Nat => .comp r.1 r.2) (x := (⟨pc, some seen, at_, pos, w, now, none, some a, some s, ⟨k1, k2, k3, k4, k5⟩, was, idle⟩, cap)) (fun _ _ _ => shComp2_ok) (rest := []) rfl hp e

theorem compWork0111 {H : LH} {K : LV → LH → Prop} {p0 cap : Nat} {pc at_ pos w now k1 k2 k3 k4 k5 idle : Int} {was : PWk} {m : PMove} {a : PAdv} {s : PSettle} (hp : H.get p0 = some (.obj (.comp ⟨pc, none, at_, pos, w, now, some m, some a, some s, ⟨k1, k2, k3, k4, k5⟩, was, idle⟩ cap))) (h : K (.agg [cI k1, cI k2, cI k3, cI k4, cI k5]) (H.put p0 (.obj (.comp ⟨pc, none, at_, pos, w, now, some m, some a, some s, ⟨k1, k2, k3, k4, k5⟩, was, idle⟩ 0)))) :
    (∃ fn, Tryz.prog.funcs[16]? = some fn ∧ fn.body.isSome = true) ∧ CSpec Tryz.prog 16 [.c (.ptr p0 0)] H K := by
  have e : evF Tryz.prog ownK5 10 20 16 [.c (.ptr 0 0)] ⟨cat [(true, .comp ⟨pc, none, at_, pos, w, now, some m, some a, some s, ⟨k1, k2, k3, k4, k5⟩, was, idle⟩ cap)] 0, []⟩ (fun v H₁ => match lowV v with
    | true => (shComp2 H₁ 0 fun x' c => match chkAll [(true, .comp ⟨pc, none, at_, pos, w, now, some m, some a, some s, ⟨k1, k2, k3, k4, k5⟩, was, idle⟩ cap)] [c] [] with
        | true => K v (H.put p0 (.obj (.comp x'.1 x'.2)))
        | false => False)
    | false => False) := cast (by kernel_rfl) h
  exact ask_ok ownK5_ok (mk := fun r : PComp × Nat => .comp r.1 r.2) (x := (⟨pc, none, at_, pos, w, now, some m, some a, some s, ⟨k1, k2, k3, k4, k5⟩, was, idle⟩, cap)) (fun _ _ _ => shComp2_ok) (rest := []) rfl hp e

theorem compWork1111 {H : LH} {K : LV → LH → Prop} {p0 cap : Nat} {pc at_ pos w now k1 k2 k3 k4 k5 idle : Int} {was : PWk} {seen : PSeenL} {m : PMove} {a : PAdv} {s : PSettle} (hp : H.get p0 = some (.obj (.comp ⟨pc, some seen, at_, pos, w, now, some m, some a, some s, ⟨k1, k2, k3, k4, k5⟩, was, idle⟩ cap))) (h : K (.agg [cI k1, cI k2, cI k3, cI k4, cI k5]) (H.put p0 (.obj (.comp ⟨pc, some seen, at_, pos, w, now, some m, some a, some s, ⟨k1, k2, k3, k4, k5⟩, was, idle⟩ cap)))) :
    (∃ fn, Tryz.prog.funcs[16]? = some fn ∧ fn.body.isSome = true) ∧ CSpec Tryz.prog 16 [.c (.ptr p0 0)] H K := by
  have e : evF Tryz.prog ownK5 10 20 16 [.c (.ptr 0 0)] ⟨cat [(true, .comp ⟨pc, some seen, at_, pos, w, now, some m, some a, some s, ⟨k1, k2, k3, k4, k5⟩, was, idle⟩ cap)] 0, []⟩ (fun v H₁ => match lowV v with
    | true => (shComp2 H₁ 0 fun x' c => match chkAll [(true, .comp ⟨pc, some seen, at_, pos, w, now, some m, some a, some s, ⟨k1, k2, k3, k4, k5⟩, was, idle⟩ cap)] [c] [] with
        | true => K v (H.put p0 (.obj (.comp x'.1 x'.2)))
        | false => False)
    | false => False) := cast (by kernel_rfl) (show (seen.len = seen.len ∧ cap = cap) ∧ K (.agg [cI k1, cI k2, cI k3, cI k4, cI k5]) (H.put p0 (.obj (.comp ⟨pc, some seen, at_, pos, w, now, some m, some a, some s, ⟨k1, k2, k3, k4, k5⟩, was, idle⟩ cap))) from ⟨⟨rfl, rfl⟩, h⟩)
  exact ask_ok ownK5_ok (mk := fun r : PComp × Nat => .comp r.1 r.2) (x := (⟨pc, some seen, at_, pos, w, now, some m, some a, some s, ⟨k1, k2, k3, k4, k5⟩, was, idle⟩, cap)) (fun _ _ _ => shComp2_ok) (rest := []) rfl hp e

theorem h_compWork_ok : HOK 16 h_compWork := by
  intro args H K h
  unfold h_compWork at h
  split at h
  · rename_i p0
    split at h
    · rename_i x cap hp
      obtain ⟨pc, seen, at_, pos, w, now, m, a, s, ⟨k1, k2, k3, k4, k5⟩, was, idle⟩ := x
      cases seen <;> cases m <;> cases a <;> cases s
      · exact compWork0000 hp h
      · exact compWork0001 hp h
      · exact compWork0010 hp h
      · exact compWork0011 hp h
      · exact compWork0100 hp h
      · exact compWork0101 hp h
      · exact compWork0110 hp h
      · exact compWork0111 hp h
      · exact compWork1000 hp h
      · exact compWork1001 hp h
      · exact compWork1010 hp h
      · exact compWork1011 hp h
      · exact compWork1100 hp h
      · exact compWork1101 hp h
      · exact compWork1110 hp h
      · exact compWork1111 hp h
    · exact h.elim
  · exact h.elim

def h_compIdle : Hd := fun args H K => match args with
  | [.c (.ptr p0 0)] => match H.get p0 with
    | some (.obj (.comp x cap)) => K (.c (cI x.idle)) (H.put p0 (.obj (.comp x (capOf x cap))))
    | _ => False
  | _ => False

theorem compIdle0000 {H : LH} {K : LV → LH → Prop} {p0 cap : Nat} {pc at_ pos w now k1 k2 k3 k4 k5 idle : Int} {was : PWk} (hp : H.get p0 = some (.obj (.comp ⟨pc, none, at_, pos, w, now, none, none, none, ⟨k1, k2, k3, k4, k5⟩, was, idle⟩ cap))) (h : K (.c (cI idle)) (H.put p0 (.obj (.comp ⟨pc, none, at_, pos, w, now, none, none, none, ⟨k1, k2, k3, k4, k5⟩, was, idle⟩ 0)))) :
    (∃ fn, Tryz.prog.funcs[26]? = some fn ∧ fn.body.isSome = true) ∧ CSpec Tryz.prog 26 [.c (.ptr p0 0)] H K := by
  have e : evF Tryz.prog ownK5 10 20 26 [.c (.ptr 0 0)] ⟨cat [(true, .comp ⟨pc, none, at_, pos, w, now, none, none, none, ⟨k1, k2, k3, k4, k5⟩, was, idle⟩ cap)] 0, []⟩ (fun v H₁ => match lowV v with
    | true => (shComp2 H₁ 0 fun x' c => match chkAll [(true, .comp ⟨pc, none, at_, pos, w, now, none, none, none, ⟨k1, k2, k3, k4, k5⟩, was, idle⟩ cap)] [c] [] with
        | true => K v (H.put p0 (.obj (.comp x'.1 x'.2)))
        | false => False)
    | false => False) := cast (by kernel_rfl) h
  exact ask_ok ownK5_ok (mk := fun r : PComp × Nat => .comp r.1 r.2) (x := (⟨pc, none, at_, pos, w, now, none, none, none, ⟨k1, k2, k3, k4, k5⟩, was, idle⟩, cap)) (fun _ _ _ => shComp2_ok) (rest := []) rfl hp e

theorem compIdle1000 {H : LH} {K : LV → LH → Prop} {p0 cap : Nat} {pc at_ pos w now k1 k2 k3 k4 k5 idle : Int} {was : PWk} {seen : PSeenL} (hp : H.get p0 = some (.obj (.comp ⟨pc, some seen, at_, pos, w, now, none, none, none, ⟨k1, k2, k3, k4, k5⟩, was, idle⟩ cap))) (h : K (.c (cI idle)) (H.put p0 (.obj (.comp ⟨pc, some seen, at_, pos, w, now, none, none, none, ⟨k1, k2, k3, k4, k5⟩, was, idle⟩ cap)))) :
    (∃ fn, Tryz.prog.funcs[26]? = some fn ∧ fn.body.isSome = true) ∧ CSpec Tryz.prog 26 [.c (.ptr p0 0)] H K := by
  have e : evF Tryz.prog ownK5 10 20 26 [.c (.ptr 0 0)] ⟨cat [(true, .comp ⟨pc, some seen, at_, pos, w, now, none, none, none, ⟨k1, k2, k3, k4, k5⟩, was, idle⟩ cap)] 0, []⟩ (fun v H₁ => match lowV v with
    | true => (shComp2 H₁ 0 fun x' c => match chkAll [(true, .comp ⟨pc, some seen, at_, pos, w, now, none, none, none, ⟨k1, k2, k3, k4, k5⟩, was, idle⟩ cap)] [c] [] with
        | true => K v (H.put p0 (.obj (.comp x'.1 x'.2)))
        | false => False)
    | false => False) := cast (by kernel_rfl) (show (seen.len = seen.len ∧ cap = cap) ∧ K (.c (cI idle)) (H.put p0 (.obj (.comp ⟨pc, some seen, at_, pos, w, now, none, none, none, ⟨k1, k2, k3, k4, k5⟩, was, idle⟩ cap))) from ⟨⟨rfl, rfl⟩, h⟩)
  exact ask_ok ownK5_ok (mk := fun r : PComp × Nat => .comp r.1 r.2) (x := (⟨pc, some seen, at_, pos, w, now, none, none, none, ⟨k1, k2, k3, k4, k5⟩, was, idle⟩, cap)) (fun _ _ _ => shComp2_ok) (rest := []) rfl hp e

theorem compIdle0100 {H : LH} {K : LV → LH → Prop} {p0 cap : Nat} {pc at_ pos w now k1 k2 k3 k4 k5 idle : Int} {was : PWk} {m : PMove} (hp : H.get p0 = some (.obj (.comp ⟨pc, none, at_, pos, w, now, some m, none, none, ⟨k1, k2, k3, k4, k5⟩, was, idle⟩ cap))) (h : K (.c (cI idle)) (H.put p0 (.obj (.comp ⟨pc, none, at_, pos, w, now, some m, none, none, ⟨k1, k2, k3, k4, k5⟩, was, idle⟩ 0)))) :
    (∃ fn, Tryz.prog.funcs[26]? = some fn ∧ fn.body.isSome = true) ∧ CSpec Tryz.prog 26 [.c (.ptr p0 0)] H K := by
  have e : evF Tryz.prog ownK5 10 20 26 [.c (.ptr 0 0)] ⟨cat [(true, .comp ⟨pc, none, at_, pos, w, now, some m, none, none, ⟨k1, k2, k3, k4, k5⟩, was, idle⟩ cap)] 0, []⟩ (fun v H₁ => match lowV v with
    | true => (shComp2 H₁ 0 fun x' c => match chkAll [(true, .comp ⟨pc, none, at_, pos, w, now, some m, none, none, ⟨k1, k2, k3, k4, k5⟩, was, idle⟩ cap)] [c] [] with
        | true => K v (H.put p0 (.obj (.comp x'.1 x'.2)))
        | false => False)
    | false => False) := cast (by kernel_rfl) h
  exact ask_ok ownK5_ok (mk := fun r : PComp × Nat => .comp r.1 r.2) (x := (⟨pc, none, at_, pos, w, now, some m, none, none, ⟨k1, k2, k3, k4, k5⟩, was, idle⟩, cap)) (fun _ _ _ => shComp2_ok) (rest := []) rfl hp e

theorem compIdle1100 {H : LH} {K : LV → LH → Prop} {p0 cap : Nat} {pc at_ pos w now k1 k2 k3 k4 k5 idle : Int} {was : PWk} {seen : PSeenL} {m : PMove} (hp : H.get p0 = some (.obj (.comp ⟨pc, some seen, at_, pos, w, now, some m, none, none, ⟨k1, k2, k3, k4, k5⟩, was, idle⟩ cap))) (h : K (.c (cI idle)) (H.put p0 (.obj (.comp ⟨pc, some seen, at_, pos, w, now, some m, none, none, ⟨k1, k2, k3, k4, k5⟩, was, idle⟩ cap)))) :
    (∃ fn, Tryz.prog.funcs[26]? = some fn ∧ fn.body.isSome = true) ∧ CSpec Tryz.prog 26 [.c (.ptr p0 0)] H K := by
  have e : evF Tryz.prog ownK5 10 20 26 [.c (.ptr 0 0)] ⟨cat [(true, .comp ⟨pc, some seen, at_, pos, w, now, some m, none, none, ⟨k1, k2, k3, k4, k5⟩, was, idle⟩ cap)] 0, []⟩ (fun v H₁ => match lowV v with
    | true => (shComp2 H₁ 0 fun x' c => match chkAll [(true, .comp ⟨pc, some seen, at_, pos, w, now, some m, none, none, ⟨k1, k2, k3, k4, k5⟩, was, idle⟩ cap)] [c] [] with
        | true => K v (H.put p0 (.obj (.comp x'.1 x'.2)))
        | false => False)
    | false => False) := cast (by kernel_rfl) (show (seen.len = seen.len ∧ cap = cap) ∧ K (.c (cI idle)) (H.put p0 (.obj (.comp ⟨pc, some seen, at_, pos, w, now, some m, none, none, ⟨k1, k2, k3, k4, k5⟩, was, idle⟩ cap))) from ⟨⟨rfl, rfl⟩, h⟩)
  exact ask_ok ownK5_ok (mk := fun r : PComp × Nat => .comp r.1 r.2) (x := (⟨pc, some seen, at_, pos, w, now, some m, none, none, ⟨k1, k2, k3, k4, k5⟩, was, idle⟩, cap)) (fun _ _ _ => shComp2_ok) (rest := []) rfl hp e

theorem compIdle0010 {H : LH} {K : LV → LH → Prop} {p0 cap : Nat} {pc at_ pos w now k1 k2 k3 k4 k5 idle : Int} {was : PWk} {a : PAdv} (hp : H.get p0 = some (.obj (.comp ⟨pc, none, at_, pos, w, now, none, some a, none, ⟨k1, k2, k3, k4, k5⟩, was, idle⟩ cap))) (h : K (.c (cI idle)) (H.put p0 (.obj (.comp ⟨pc, none, at_, pos, w, now, none, some a, none, ⟨k1, k2, k3, k4, k5⟩, was, idle⟩ 0)))) :
    (∃ fn, Tryz.prog.funcs[26]? = some fn ∧ fn.body.isSome = true) ∧ CSpec Tryz.prog 26 [.c (.ptr p0 0)] H K := by
  have e : evF Tryz.prog ownK5 10 20 26 [.c (.ptr 0 0)] ⟨cat [(true, .comp ⟨pc, none, at_, pos, w, now, none, some a, none, ⟨k1, k2, k3, k4, k5⟩, was, idle⟩ cap)] 0, []⟩ (fun v H₁ => match lowV v with
    | true => (shComp2 H₁ 0 fun x' c => match chkAll [(true, .comp ⟨pc, none, at_, pos, w, now, none, some a, none, ⟨k1, k2, k3, k4, k5⟩, was, idle⟩ cap)] [c] [] with
        | true => K v (H.put p0 (.obj (.comp x'.1 x'.2)))
        | false => False)
    | false => False) := cast (by kernel_rfl) h
  exact ask_ok ownK5_ok (mk := fun r : PComp × Nat => .comp r.1 r.2) (x := (⟨pc, none, at_, pos, w, now, none, some a, none, ⟨k1, k2, k3, k4, k5⟩, was, idle⟩, cap)) (fun _ _ _ => shComp2_ok) (rest := []) rfl hp e

theorem compIdle1010 {H : LH} {K : LV → LH → Prop} {p0 cap : Nat} {pc at_ pos w now k1 k2 k3 k4 k5 idle : Int} {was : PWk} {seen : PSeenL} {a : PAdv} (hp : H.get p0 = some (.obj (.comp ⟨pc, some seen, at_, pos, w, now, none, some a, none, ⟨k1, k2, k3, k4, k5⟩, was, idle⟩ cap))) (h : K (.c (cI idle)) (H.put p0 (.obj (.comp ⟨pc, some seen, at_, pos, w, now, none, some a, none, ⟨k1, k2, k3, k4, k5⟩, was, idle⟩ cap)))) :
    (∃ fn, Tryz.prog.funcs[26]? = some fn ∧ fn.body.isSome = true) ∧ CSpec Tryz.prog 26 [.c (.ptr p0 0)] H K := by
  have e : evF Tryz.prog ownK5 10 20 26 [.c (.ptr 0 0)] ⟨cat [(true, .comp ⟨pc, some seen, at_, pos, w, now, none, some a, none, ⟨k1, k2, k3, k4, k5⟩, was, idle⟩ cap)] 0, []⟩ (fun v H₁ => match lowV v with
    | true => (shComp2 H₁ 0 fun x' c => match chkAll [(true, .comp ⟨pc, some seen, at_, pos, w, now, none, some a, none, ⟨k1, k2, k3, k4, k5⟩, was, idle⟩ cap)] [c] [] with
        | true => K v (H.put p0 (.obj (.comp x'.1 x'.2)))
        | false => False)
    | false => False) := cast (by kernel_rfl) (show (seen.len = seen.len ∧ cap = cap) ∧ K (.c (cI idle)) (H.put p0 (.obj (.comp ⟨pc, some seen, at_, pos, w, now, none, some a, none, ⟨k1, k2, k3, k4, k5⟩, was, idle⟩ cap))) from ⟨⟨rfl, rfl⟩, h⟩)
  exact ask_ok ownK5_ok (mk := fun r : PComp × Nat => .comp r.1 r.2) (x := (⟨pc, some seen, at_, pos, w, now, none, some a, none, ⟨k1, k2, k3, k4, k5⟩, was, idle⟩, cap)) (fun _ _ _ => shComp2_ok) (rest := []) rfl hp e

theorem compIdle0110 {H : LH} {K : LV → LH → Prop} {p0 cap : Nat} {pc at_ pos w now k1 k2 k3 k4 k5 idle : Int} {was : PWk} {m : PMove} {a : PAdv} (hp : H.get p0 = some (.obj (.comp ⟨pc, none, at_, pos, w, now, some m, some a, none, ⟨k1, k2, k3, k4, k5⟩, was, idle⟩ cap))) (h : K (.c (cI idle)) (H.put p0 (.obj (.comp ⟨pc, none, at_, pos, w, now, some m, some a, none, ⟨k1, k2, k3, k4, k5⟩, was, idle⟩ 0)))) :
    (∃ fn, Tryz.prog.funcs[26]? = some fn ∧ fn.body.isSome = true) ∧ CSpec Tryz.prog 26 [.c (.ptr p0 0)] H K := by
  have e : evF Tryz.prog ownK5 10 20 26 [.c (.ptr 0 0)] ⟨cat [(true, .comp ⟨pc, none, at_, pos, w, now, some m, some a, none, ⟨k1, k2, k3, k4, k5⟩, was, idle⟩ cap)] 0, []⟩ (fun v H₁ => match lowV v with
    | true => (shComp2 H₁ 0 fun x' c => match chkAll [(true, .comp ⟨pc, none, at_, pos, w, now, some m, some a, none, ⟨k1, k2, k3, k4, k5⟩, was, idle⟩ cap)] [c] [] with
        | true => K v (H.put p0 (.obj (.comp x'.1 x'.2)))
        | false => False)
    | false => False) := cast (by kernel_rfl) h
  exact ask_ok ownK5_ok (mk := fun r : PComp × Nat => .comp r.1 r.2) (x := (⟨pc, none, at_, pos, w, now, some m, some a, none, ⟨k1, k2, k3, k4, k5⟩, was, idle⟩, cap)) (fun _ _ _ => shComp2_ok) (rest := []) rfl hp e

theorem compIdle1110 {H : LH} {K : LV → LH → Prop} {p0 cap : Nat} {pc at_ pos w now k1 k2 k3 k4 k5 idle : Int} {was : PWk} {seen : PSeenL} {m : PMove} {a : PAdv} (hp : H.get p0 = some (.obj (.comp ⟨pc, some seen, at_, pos, w, now, some m, some a, none, ⟨k1, k2, k3, k4, k5⟩, was, idle⟩ cap))) (h : K (.c (cI idle)) (H.put p0 (.obj (.comp ⟨pc, some seen, at_, pos, w, now, some m, some a, none, ⟨k1, k2, k3, k4, k5⟩, was, idle⟩ cap)))) :
    (∃ fn, Tryz.prog.funcs[26]? = some fn ∧ fn.body.isSome = true) ∧ CSpec Tryz.prog 26 [.c (.ptr p0 0)] H K := by
  have e : evF Tryz.prog ownK5 10 20 26 [.c (.ptr 0 0)] ⟨cat [(true, .comp ⟨pc, some seen, at_, pos, w, now, some m, some a, none, ⟨k1, k2, k3, k4, k5⟩, was, idle⟩ cap)] 0, []⟩ (fun v H₁ => match lowV v with
    | true => (shComp2 H₁ 0 fun x' c => match chkAll [(true, .comp ⟨pc, some seen, at_, pos, w, now, some m, some a, none, ⟨k1, k2, k3, k4, k5⟩, was, idle⟩ cap)] [c] [] with
        | true => K v (H.put p0 (.obj (.comp x'.1 x'.2)))
        | false => False)
    | false => False) := cast (by kernel_rfl) (show (seen.len = seen.len ∧ cap = cap) ∧ K (.c (cI idle)) (H.put p0 (.obj (.comp ⟨pc, some seen, at_, pos, w, now, some m, some a, none, ⟨k1, k2, k3, k4, k5⟩, was, idle⟩ cap))) from ⟨⟨rfl, rfl⟩, h⟩)
  exact ask_ok ownK5_ok (mk := fun r : PComp × Nat => .comp r.1 r.2) (x := (⟨pc, some seen, at_, pos, w, now, some m, some a, none, ⟨k1, k2, k3, k4, k5⟩, was, idle⟩, cap)) (fun _ _ _ => shComp2_ok) (rest := []) rfl hp e

theorem compIdle0001 {H : LH} {K : LV → LH → Prop} {p0 cap : Nat} {pc at_ pos w now k1 k2 k3 k4 k5 idle : Int} {was : PWk} {s : PSettle} (hp : H.get p0 = some (.obj (.comp ⟨pc, none, at_, pos, w, now, none, none, some s, ⟨k1, k2, k3, k4, k5⟩, was, idle⟩ cap))) (h : K (.c (cI idle)) (H.put p0 (.obj (.comp ⟨pc, none, at_, pos, w, now, none, none, some s, ⟨k1, k2, k3, k4, k5⟩, was, idle⟩ 0)))) :
    (∃ fn, Tryz.prog.funcs[26]? = some fn ∧ fn.body.isSome = true) ∧ CSpec Tryz.prog 26 [.c (.ptr p0 0)] H K := by
  have e : evF Tryz.prog ownK5 10 20 26 [.c (.ptr 0 0)] ⟨cat [(true, .comp ⟨pc, none, at_, pos, w, now, none, none, some s, ⟨k1, k2, k3, k4, k5⟩, was, idle⟩ cap)] 0, []⟩ (fun v H₁ => match lowV v with
    | true => (shComp2 H₁ 0 fun x' c => match chkAll [(true, .comp ⟨pc, none, at_, pos, w, now, none, none, some s, ⟨k1, k2, k3, k4, k5⟩, was, idle⟩ cap)] [c] [] with
        | true => K v (H.put p0 (.obj (.comp x'.1 x'.2)))
        | false => False)
    | false => False) := cast (by kernel_rfl) h
  exact ask_ok ownK5_ok (mk := fun r : PComp × Nat => .comp r.1 r.2) (x := (⟨pc, none, at_, pos, w, now, none, none, some s, ⟨k1, k2, k3, k4, k5⟩, was, idle⟩, cap)) (fun _ _ _ => shComp2_ok) (rest := []) rfl hp e

theorem compIdle1001 {H : LH} {K : LV → LH → Prop} {p0 cap : Nat} {pc at_ pos w now k1 k2 k3 k4 k5 idle : Int} {was : PWk} {seen : PSeenL} {s : PSettle} (hp : H.get p0 = some (.obj (.comp ⟨pc, some seen, at_, pos, w, now, none, none, some s, ⟨k1, k2, k3, k4, k5⟩, was, idle⟩ cap))) (h : K (.c (cI idle)) (H.put p0 (.obj (.comp ⟨pc, some seen, at_, pos, w, now, none, none, some s, ⟨k1, k2, k3, k4, k5⟩, was, idle⟩ cap)))) :
    (∃ fn, Tryz.prog.funcs[26]? = some fn ∧ fn.body.isSome = true) ∧ CSpec Tryz.prog 26 [.c (.ptr p0 0)] H K := by
  have e : evF Tryz.prog ownK5 10 20 26 [.c (.ptr 0 0)] ⟨cat [(true, .comp ⟨pc, some seen, at_, pos, w, now, none, none, some s, ⟨k1, k2, k3, k4, k5⟩, was, idle⟩ cap)] 0, []⟩ (fun v H₁ => match lowV v with
    | true => (shComp2 H₁ 0 fun x' c => match chkAll [(true, .comp ⟨pc, some seen, at_, pos, w, now, none, none, some s, ⟨k1, k2, k3, k4, k5⟩, was, idle⟩ cap)] [c] [] with
        | true => K v (H.put p0 (.obj (.comp x'.1 x'.2)))
        | false => False)
    | false => False) := cast (by kernel_rfl) (show (seen.len = seen.len ∧ cap = cap) ∧ K (.c (cI idle)) (H.put p0 (.obj (.comp ⟨pc, some seen, at_, pos, w, now, none, none, some s, ⟨k1, k2, k3, k4, k5⟩, was, idle⟩ cap))) from ⟨⟨rfl, rfl⟩, h⟩)
  exact ask_ok ownK5_ok (mk := fun r : PComp × Nat => .comp r.1 r.2) (x := (⟨pc, some seen, at_, pos, w, now, none, none, some s, ⟨k1, k2, k3, k4, k5⟩, was, idle⟩, cap)) (fun _ _ _ => shComp2_ok) (rest := []) rfl hp e

theorem compIdle0101 {H : LH} {K : LV → LH → Prop} {p0 cap : Nat} {pc at_ pos w now k1 k2 k3 k4 k5 idle : Int} {was : PWk} {m : PMove} {s : PSettle} (hp : H.get p0 = some (.obj (.comp ⟨pc, none, at_, pos, w, now, some m, none, some s, ⟨k1, k2, k3, k4, k5⟩, was, idle⟩ cap))) (h : K (.c (cI idle)) (H.put p0 (.obj (.comp ⟨pc, none, at_, pos, w, now, some m, none, some s, ⟨k1, k2, k3, k4, k5⟩, was, idle⟩ 0)))) :
    (∃ fn, Tryz.prog.funcs[26]? = some fn ∧ fn.body.isSome = true) ∧ CSpec Tryz.prog 26 [.c (.ptr p0 0)] H K := by
  have e : evF Tryz.prog ownK5 10 20 26 [.c (.ptr 0 0)] ⟨cat [(true, .comp ⟨pc, none, at_, pos, w, now, some m, none, some s, ⟨k1, k2, k3, k4, k5⟩, was, idle⟩ cap)] 0, []⟩ (fun v H₁ => match lowV v with
    | true => (shComp2 H₁ 0 fun x' c => match chkAll [(true, .comp ⟨pc, none, at_, pos, w, now, some m, none, some s, ⟨k1, k2, k3, k4, k5⟩, was, idle⟩ cap)] [c] [] with
        | true => K v (H.put p0 (.obj (.comp x'.1 x'.2)))
        | false => False)
    | false => False) := cast (by kernel_rfl) h
  exact ask_ok ownK5_ok (mk := fun r : PComp × Nat => .comp r.1 r.2) (x := (⟨pc, none, at_, pos, w, now, some m, none, some s, ⟨k1, k2, k3, k4, k5⟩, was, idle⟩, cap)) (fun _ _ _ => shComp2_ok) (rest := []) rfl hp e

theorem compIdle1101 {H : LH} {K : LV → LH → Prop} {p0 cap : Nat} {pc at_ pos w now k1 k2 k3 k4 k5 idle : Int} {was : PWk} {seen : PSeenL} {m : PMove} {s : PSettle} (hp : H.get p0 = some (.obj (.comp ⟨pc, some seen, at_, pos, w, now, some m, none, some s, ⟨k1, k2, k3, k4, k5⟩, was, idle⟩ cap))) (h : K (.c (cI idle)) (H.put p0 (.obj (.comp ⟨pc, some seen, at_, pos, w, now, some m, none, some s, ⟨k1, k2, k3, k4, k5⟩, was, idle⟩ cap)))) :
    (∃ fn, Tryz.prog.funcs[26]? = some fn ∧ fn.body.isSome = true) ∧ CSpec Tryz.prog 26 [.c (.ptr p0 0)] H K := by
  have e : evF Tryz.prog ownK5 10 20 26 [.c (.ptr 0 0)] ⟨cat [(true, .comp ⟨pc, some seen, at_, pos, w, now, some m, none, some s, ⟨k1, k2, k3, k4, k5⟩, was, idle⟩ cap)] 0, []⟩ (fun v H₁ => match lowV v with
    | true => (shComp2 H₁ 0 fun x' c => match chkAll [(true, .comp ⟨pc, some seen, at_, pos, w, now, some m, none, some s, ⟨k1, k2, k3, k4, k5⟩, was, idle⟩ cap)] [c] [] with
        | true => K v (H.put p0 (.obj (.comp x'.1 x'.2)))
        | false => False)
    | false => False) := cast (by kernel_rfl) (show (seen.len = seen.len ∧ cap = cap) ∧ K (.c (cI idle)) (H.put p0 (.obj (.comp ⟨pc, some seen, at_, pos, w, now, some m, none, some s, ⟨k1, k2, k3, k4, k5⟩, was, idle⟩ cap))) from ⟨⟨rfl, rfl⟩, h⟩)
  exact ask_ok ownK5_ok (mk := fun r : PComp × Nat => .comp r.1 r.2) (x := (⟨pc, some seen, at_, pos, w, now, some m, none, some s, ⟨k1, k2, k3, k4, k5⟩, was, idle⟩, cap)) (fun _ _ _ => shComp2_ok) (rest := []) rfl hp e

theorem compIdle0011 {H : LH} {K : LV → LH → Prop} {p0 cap : Nat} {pc at_ pos w now k1 k2 k3 k4 k5 idle : Int} {was : PWk} {a : PAdv} {s : PSettle} (hp : H.get p0 = some (.obj (.comp ⟨pc, none, at_, pos, w, now, none, some a, some s, ⟨k1, k2, k3, k4, k5⟩, was, idle⟩ cap))) (h : K (.c (cI idle)) (H.put p0 (.obj (.comp ⟨pc, none, at_, pos, w, now, none, some a, some s, ⟨k1, k2, k3, k4, k5⟩, was, idle⟩ 0)))) :
    (∃ fn, Tryz.prog.funcs[26]? = some fn ∧ fn.body.isSome = true) ∧ CSpec Tryz.prog 26 [.c (.ptr p0 0)] H K := by
  have e : evF Tryz.prog ownK5 10 20 26 [.c (.ptr 0 0)] ⟨cat [(true, .comp ⟨pc, none, at_, pos, w, now, none, some a, some s, ⟨k1, k2, k3, k4, k5⟩, was, idle⟩ cap)] 0, []⟩ (fun v H₁ => match lowV v with
    | true => (shComp2 H₁ 0 fun x' c => match chkAll [(true, .comp ⟨pc, none, at_, pos, w, now, none, some a, some s, ⟨k1, k2, k3, k4, k5⟩, was, idle⟩ cap)] [c] [] with
        | true => K v (H.put p0 (.obj (.comp x'.1 x'.2)))
        | false => False)
    | false => False) := cast (by kernel_rfl) h
  exact ask_ok ownK5_ok (mk := fun r : PComp × Nat => .comp r.1 r.2) (x := (⟨pc, none, at_, pos, w, now, none, some a, some s, ⟨k1, k2, k3, k4, k5⟩, was, idle⟩, cap)) (fun _ _ _ => shComp2_ok) (rest := []) rfl hp e

theorem compIdle1011 {H : LH} {K : LV → LH → Prop} {p0 cap : Nat} {pc at_ pos w now k1 k2 k3 k4 k5 idle : Int} {was : PWk} {seen : PSeenL} {a : PAdv} {s : PSettle} (hp : H.get p0 = some (.obj (.comp ⟨pc, some seen, at_, pos, w, now, none, some a, some s, ⟨k1, k2, k3, k4, k5⟩, was, idle⟩ cap))) (h : K (.c (cI idle)) (H.put p0 (.obj (.comp ⟨pc, some seen, at_, pos, w, now, none, some a, some s, ⟨k1, k2, k3, k4, k5⟩, was, idle⟩ cap)))) :
    (∃ fn, Tryz.prog.funcs[26]? = some fn ∧ fn.body.isSome = true) ∧ CSpec Tryz.prog 26 [.c (.ptr p0 0)] H K := by
  have e : evF Tryz.prog ownK5 10 20 26 [.c (.ptr 0 0)] ⟨cat [(true, .comp ⟨pc, some seen, at_, pos, w, now, none, some a, some s, ⟨k1, k2, k3, k4, k5⟩, was, idle⟩ cap)] 0, []⟩ (fun v H₁ => match lowV v with
    | true => (shComp2 H₁ 0 fun x' c => match chkAll [(true, .comp ⟨pc, some seen, at_, pos, w, now, none, some a, some s, ⟨k1, k2, k3, k4, k5⟩, was, idle⟩ cap)] [c] [] with
        | true => K v (H.put p0 (.obj (.comp x'.1 x'.2)))
        | false => False)
    | false => False) := cast (by kernel_rfl) (show (seen.len = seen.len ∧ cap = cap) ∧ K (.c (cI idle)) (H.put p0 (.obj (.comp ⟨pc, some seen, at_, pos, w, now, none, some a, some s, ⟨k1, k2, k3, k4, k5⟩, was, idle⟩ cap))) from ⟨⟨rfl, rfl⟩, h⟩)
  exact ask_ok ownK5_ok (mk := fun r : PComp × Nat => .comp r.1 r.2) (x := (⟨pc, some seen, at_, pos, w, now, none, some a, some s, ⟨k1, k2, k3, k4, k5⟩, was, idle⟩, cap)) (fun _ _ _ => shComp2_ok) (rest := []) rfl hp e

theorem compIdle0111 {H : LH} {K : LV → LH → Prop} {p0 cap : Nat} {pc at_ pos w now k1 k2 k3 k4 k5 idle : Int} {was : PWk} {m : PMove} {a : PAdv} {s : PSettle} (hp : H.get p0 = some (.obj (.comp ⟨pc, none, at_, pos, w, now, some m, some a, some s, ⟨k1, k2, k3, k4, k5⟩, was, idle⟩ cap))) (h : K (.c (cI idle)) (H.put p0 (.obj (.comp ⟨pc, none, at_, pos, w, now, some m, some a, some s, ⟨k1, k2, k3, k4, k5⟩, was, idle⟩ 0)))) :
    (∃ fn, Tryz.prog.funcs[26]? = some fn ∧ fn.body.isSome = true) ∧ CSpec Tryz.prog 26 [.c (.ptr p0 0)] H K := by
  have e : evF Tryz.prog ownK5 10 20 26 [.c (.ptr 0 0)] ⟨cat [(true, .comp ⟨pc, none, at_, pos, w, now, some m, some a, some s, ⟨k1, k2, k3, k4, k5⟩, was, idle⟩ cap)] 0, []⟩ (fun v H₁ => match lowV v with
    | true => (shComp2 H₁ 0 fun x' c => match chkAll [(true, .comp ⟨pc, none, at_, pos, w, now, some m, some a, some s, ⟨k1, k2, k3, k4, k5⟩, was, idle⟩ cap)] [c] [] with
        | true => K v (H.put p0 (.obj (.comp x'.1 x'.2)))
        | false => False)
    | false => False) := cast (by kernel_rfl) h
  exact ask_ok ownK5_ok (mk := fun r : PComp × Nat => .comp r.1 r.2) (x := (⟨pc, none, at_, pos, w, now, some m, some a, some s, ⟨k1, k2, k3, k4, k5⟩, was, idle⟩, cap)) (fun _ _ _ => shComp2_ok) (rest := []) rfl hp e

theorem compIdle1111 {H : LH} {K : LV → LH → Prop} {p0 cap : Nat} {pc at_ pos w now k1 k2 k3 k4 k5 idle : Int} {was : PWk} {seen : PSeenL} {m : PMove} {a : PAdv} {s : PSettle} (hp : H.get p0 = some (.obj (.comp ⟨pc, some seen, at_, pos, w, now, some m, some a, some s, ⟨k1, k2, k3, k4, k5⟩, was, idle⟩ cap))) (h : K (.c (cI idle)) (H.put p0 (.obj (.comp ⟨pc, some seen, at_, pos, w, now, some m, some a, some s, ⟨k1, k2, k3, k4, k5⟩, was, idle⟩ cap)))) :
    (∃ fn, Tryz.prog.funcs[26]? = some fn ∧ fn.body.isSome = true) ∧ CSpec Tryz.prog 26 [.c (.ptr p0 0)] H K := by
  have e : evF Tryz.prog ownK5 10 20 26 [.c (.ptr 0 0)] ⟨cat [(true, .comp ⟨pc, some seen, at_, pos, w, now, some m, some a, some s, ⟨k1, k2, k3, k4, k5⟩, was, idle⟩ cap)] 0, []⟩ (fun v H₁ => match lowV v with
    | true => (shComp2 H₁ 0 fun x' c => match chkAll [(true, .comp ⟨pc, some seen, at_, pos, w, now, some m, some a, some s, ⟨k1, k2, k3, k4, k5⟩, was, idle⟩ cap)] [c] [] with
        | true => K v (H.put p0 (.obj (.comp x'.1 x'.2)))
        | false => False)
    | false => False) := cast (by kernel_rfl) (show (seen.len = seen.len ∧ cap = cap) ∧ K (.c (cI idle)) (H.put p0 (.obj (.comp ⟨pc, some seen, at_, pos, w, now, some m, some a, some s, ⟨k1, k2, k3, k4, k5⟩, was, idle⟩ cap))) from ⟨⟨rfl, rfl⟩, h⟩)
  exact ask_ok ownK5_ok (mk := fun r : PComp × Nat => .comp r.1 r.2) (x := (⟨pc, some seen, at_, pos, w, now, some m, some a, some s, ⟨k1, k2, k3, k4, k5⟩, was, idle⟩, cap)) (fun _ _ _ => shComp2_ok) (rest := []) rfl hp e

theorem h_compIdle_ok : HOK 26 h_compIdle := by
  intro args H K h
  unfold h_compIdle at h
  split at h
  · rename_i p0
    split at h
    · rename_i x cap hp
      obtain ⟨pc, seen, at_, pos, w, now, m, a, s, ⟨k1, k2, k3, k4, k5⟩, was, idle⟩ := x
      cases seen <;> cases m <;> cases a <;> cases s
      · exact compIdle0000 hp h
      · exact compIdle0001 hp h
      · exact compIdle0010 hp h
      · exact compIdle0011 hp h
      · exact compIdle0100 hp h
      · exact compIdle0101 hp h
      · exact compIdle0110 hp h
      · exact compIdle0111 hp h
      · exact compIdle1000 hp h
      · exact compIdle1001 hp h
      · exact compIdle1010 hp h
      · exact compIdle1011 hp h
      · exact compIdle1100 hp h
      · exact compIdle1101 hp h
      · exact compIdle1110 hp h
      · exact compIdle1111 hp h
    · exact h.elim
  · exact h.elim

def tabK6 : List (FuncId × Hd) := [(14, h_compNew), (16, h_compWork), (26, h_compIdle)] ++ tabK5
def ownK6 : FuncId → Option Hd := look tabK6
theorem allK6 : AllOK tabK6 := ⟨h_compNew_ok, h_compWork_ok, h_compIdle_ok, allK5⟩
theorem ownK6_ok : OwnOK Tryz.prog ownK6 := look_ok allK6

end Go.Proofs.YtfjnkneoddankaaGreat
