/-
  The contracts of the program's functions of plain words.
-/
import Derived.Test.YtfjnkneoddankaaGreatEvClose
import Derived.Test.YtfjnkneoddankaaGreatModP
import Derived.Test.YtfjnkneoddankaaGreatProg
import Derived.KernelRfl
set_option linter.unusedVariables false
set_option linter.unusedSimpArgs false
set_option maxRecDepth 100000
namespace Go.Proofs.YtfjnkneoddankaaGreat
open Go Go.FL Go.Proofs

abbrev Hd := List LV → LH → (LV → LH → Prop) → Prop

def own0 : FuncId → Option Hd := fun _ => none

def namesOK : List Func → Bool
  | [] => true
  | fn :: r => match fn.body.isNone || !(fn.name == "runtime.NumGoroutine") with
    | true => namesOK r
    | false => false

theorem fnOK_of {P : Program} (h : namesOK P.funcs.toList = true) : FnOK P := by
  have key : ∀ (l : List Func), namesOK l = true → ∀ fn ∈ l, fn.body.isSome = true → (fn.name == "runtime.NumGoroutine") = false := by
    intro l
    induction l with
    | nil => intro _ fn hf; simp at hf
    | cons g r ih =>
      intro h fn hf hb
      simp only [namesOK] at h
      split at h
      · rename_i hg
        rcases List.mem_cons.1 hf with rfl | hf
        · cases hx : fn.body with
          | none => rw [hx] at hb; cases hb
          | some c => rw [hx] at hg; simpa using hg
        · exact ih h fn hf hb
      · cases h
  intro f fn hf hb args w
  have hn := key _ h fn (by simpa using Array.mem_of_getElem? hf) hb
  have hb' : fn.body.isNone = false := by cases hx : fn.body <;> simp_all
  unfold callFunc
  simp only [Sem.run_bind, run_program, Result.andThen_ok, hf, hn, hb', Bool.false_eq_true, if_false, Sem.run_pure]

theorem fnOK : FnOK Tryz.prog := fnOK_of (by kernel_rfl)
theorem mixed : Tryz.prog.follows .mixedOrders = true := by kernel_rfl

def HOK (f : FuncId) (h : Hd) : Prop := ∀ args H K, h args H K → (∃ fn, Tryz.prog.funcs[f]? = some fn ∧ fn.body.isSome = true) ∧ CSpec Tryz.prog f args H K

def lowV : LV → Bool
  | .un => true
  | .c x => x.low 0
  | .agg l => lowL 0 l
  | .tup l => lowPs l
where lowPs : List LP → Bool
  | [] => true
  | .c x :: r => match x.low 0 with
    | true => lowPs r
    | false => false
  | .agg l :: r => match lowL 0 l with
    | true => lowPs r
    | false => false

def lowVs : List LV → Bool
  | [] => true
  | v :: r => match lowV v with
    | true => lowVs r
    | false => false

theorem LC.ren_id : ∀ x : LC, x.ren id = x := by
  intro x
  induction x with
  | iface t x ih => simp [LC.ren, ih]
  | _ => rfl

theorem RelC.low {s s' : Mp} {x : LC} {v : Value} (hx : x.low 0 = true) (h : RelC s x v) : RelC s' x v :=
  RelC.unren (g := id) (k := 0) (fun n r hn => absurd hn (Nat.not_lt_zero n)) hx (by rw [LC.ren_id]; exact h)

theorem RelL.low {s s' : Mp} : ∀ {l : List LC} {vs : List Value}, lowL 0 l = true → RelL s l vs → RelL s' l vs
  | [], [], _, _ => trivial
  | x :: l, _ :: _, hx, h => by
    simp only [lowL] at hx
    split at hx
    · rename_i h1; exact ⟨RelC.low h1 h.1, RelL.low hx h.2⟩
    · cases hx
  | [], _ :: _, _, h => h.elim
  | _ :: _, [], _, h => h.elim

theorem RelPs.low {s s' : Mp} : ∀ {l : List LP} {vs : List Value}, lowV.lowPs l = true → RelPs s l vs → RelPs s' l vs
  | [], [], _, _ => trivial
  | .c x :: l, _ :: _, hx, h => by
    simp only [lowV.lowPs] at hx
    split at hx
    · rename_i h1; exact ⟨RelC.low h1 h.1, RelPs.low hx h.2⟩
    · cases hx
  | .agg x :: l, _ :: _, hx, h => by
    simp only [lowV.lowPs] at hx
    split at hx
    · rename_i h1
      obtain ⟨cs, hv, hr⟩ := h.1
      exact ⟨⟨cs, hv, RelL.low h1 hr⟩, RelPs.low hx h.2⟩
    · cases hx
  | [], _ :: _, _, h => h.elim
  | _ :: _, [], _, h => h.elim

theorem RelV.low {s s' : Mp} {x : LV} {v : Value} (hx : lowV x = true) (h : RelV s x v) : RelV s' x v := by
  cases x with
  | un => trivial
  | c x => exact RelC.low hx h
  | agg l => obtain ⟨cs, hv, hr⟩ := h; exact ⟨cs, hv, RelL.low hx hr⟩
  | tup l => obtain ⟨cs, hv, hr⟩ := h; exact ⟨cs, hv, RelPs.low hx hr⟩

theorem RelVs.low {s s' : Mp} : ∀ {l : List LV} {vs : List Value}, lowVs l = true → RelVs s l vs → RelVs s' l vs
  | [], [], _, _ => trivial
  | x :: l, _ :: _, hx, h => by
    simp only [lowVs] at hx
    split at hx
    · rename_i h1; exact ⟨RelV.low h1 h.1, RelVs.low hx h.2⟩
    · cases hx
  | [], _ :: _, _, h => h.elim
  | _ :: _, [], _, h => h.elim

/-- A function that touches no object. -/
theorem pure_ok {own : FuncId → Option Hd} (hown : OwnOK Tryz.prog own) {fuel d : Nat} {f : FuncId} {args : List LV} {H : LH} {K K₁ : LV → LH → Prop} (hlow : lowVs args = true)
    (hev : evF Tryz.prog own fuel d f args ⟨[], []⟩ K₁) (hK : ∀ v H₁, K₁ v H₁ → lowV v = true ∧ K v H) :
    (∃ fn, Tryz.prog.funcs[f]? = some fn ∧ fn.body.isSome = true) ∧ CSpec Tryz.prog f args H K := by
  obtain ⟨h1, h2⟩ := evF_ok fnOK mixed hown fuel d f args ⟨[], []⟩ K₁ hev
  refine ⟨h1, ?_⟩
  refine CSpec.objs (ns := []) (xs := []) rfl (by simp) List.nodup_nil (args₁ := args) (K₁ := K₁) (fun s s₁ vs _ h => RelVs.low hlow h) h2 ?_
  intro v₁ H₁ hk
  obtain ⟨h3, h4⟩ := hK v₁ H₁ hk
  refine ⟨[], [], [], [], v₁, ⟨rfl, rfl, rfl, by simp, by simp, by simp, by simp, by simp, by simp, by simp⟩, fun s₁ s' v' _ _ h => RelV.low h3 h, h4⟩

theorem own0_ok : OwnOK Tryz.prog own0 := fun f h hf => by cases hf

theorem fit_ev (a b : Int) (K : Int → Prop) : evF Tryz.prog own0 10 20 66 [.c (.int .i64 a), .c (.int .i64 b)] ⟨[], []⟩ (fun v _ => match v with | .c (.int .u64 x) => K x | _ => False) = fitK False a b K := by kernel_rfl

def h_fit : Hd := fun args H K => match args with
  | [.c (.int .i64 a), .c (.int .i64 b)] => K (.c (.int .u64 ((fit a b)))) H
  | _ => False

theorem h_fit_ok : HOK 66 h_fit := by
  intro args H K h
  unfold h_fit at h
  split at h
  · rename_i a b
    have e := fit_ev a b (fun x => K (.c (.int .u64 x)) H)
    rw [fitK_eq False a b] at e
    have e := e.mpr h
    refine pure_ok (fuel := 10) (d := 20) own0_ok rfl e ?_
    intro v H₁ hv
    split at hv
    · exact ⟨rfl, hv⟩
    · exact hv.elim
  · exact h.elim

theorem putHandle_ev (a b : Int) (K : Int → Prop) : evF Tryz.prog own0 10 20 82 [.agg [.int .i64 a, .int .i64 b]] ⟨[], []⟩ (fun v _ => match v with | .c (.int .u64 x) => K x | _ => False) = putHandleK False a b K := by kernel_rfl

def h_putHandle : Hd := fun args H K => match args with
  | [.agg [.int .i64 a, .int .i64 b]] => K (.c (.int .u64 ((putHandle a b)))) H
  | _ => False

theorem h_putHandle_ok : HOK 82 h_putHandle := by
  intro args H K h
  unfold h_putHandle at h
  split at h
  · rename_i a b
    have e := putHandle_ev a b (fun x => K (.c (.int .u64 x)) H)
    rw [putHandleK_eq False a b] at e
    have e := e.mpr h
    refine pure_ok (fuel := 10) (d := 20) own0_ok rfl e ?_
    intro v H₁ hv
    split at hv
    · exact ⟨rfl, hv⟩
    · exact hv.elim
  · exact h.elim

theorem handle_ev (a : Int) (K : Int → Int → Bool → Prop) : evF Tryz.prog own0 10 20 61 [.c (.int .u64 a)] ⟨[], []⟩ (fun v _ => match v with | .tup [.agg [.int .i64 x, .int .i64 y], .c (.bool z)] => K x y z | _ => False) = handleK False a K := by kernel_rfl

def h_handle : Hd := fun args H K => match args with
  | [.c (.int .u64 a)] => K (.tup [.agg [.int .i64 ((handle a).1), .int .i64 ((handle a).2.1)], .c (.bool ((handle a).2.2))]) H
  | _ => False

theorem h_handle_ok : HOK 61 h_handle := by
  intro args H K h
  unfold h_handle at h
  split at h
  · rename_i a
    have e := handle_ev a (fun x y z => K (.tup [.agg [.int .i64 x, .int .i64 y], .c (.bool z)]) H)
    rw [handleK_eq False a] at e
    have e := e.mpr h
    refine pure_ok (fuel := 10) (d := 20) own0_ok rfl e ?_
    intro v H₁ hv
    split at hv
    · exact ⟨rfl, hv⟩
    · exact hv.elim
  · exact h.elim

theorem putSlot_ev (a b c d : Int) (K : Int → Prop) : evF Tryz.prog own0 10 20 69 [.agg [.int .i64 a, .int .i64 b, .int .i64 c, .int .i64 d]] ⟨[], []⟩ (fun v _ => match v with | .c (.int .u64 x) => K x | _ => False) = putSlotK False a b c d K := by kernel_rfl

def h_putSlot : Hd := fun args H K => match args with
  | [.agg [.int .i64 a, .int .i64 b, .int .i64 c, .int .i64 d]] => K (.c (.int .u64 ((putSlot a b c d)))) H
  | _ => False

theorem h_putSlot_ok : HOK 69 h_putSlot := by
  intro args H K h
  unfold h_putSlot at h
  split at h
  · rename_i a b c d
    have e := putSlot_ev a b c d (fun x => K (.c (.int .u64 x)) H)
    rw [putSlotK_eq False a b c d] at e
    have e := e.mpr h
    refine pure_ok (fuel := 10) (d := 20) own0_ok rfl e ?_
    intro v H₁ hv
    split at hv
    · exact ⟨rfl, hv⟩
    · exact hv.elim
  · exact h.elim

theorem slotOf_ev (a : Int) (K : Int → Int → Int → Int → Prop) : evF Tryz.prog own0 10 20 62 [.c (.int .u64 a)] ⟨[], []⟩ (fun v _ => match v with | .agg [.int .i64 x, .int .i64 y, .int .i64 z, .int .i64 t] => K x y z t | _ => False) = slotOfK False a K := by kernel_rfl

def h_slotOf : Hd := fun args H K => match args with
  | [.c (.int .u64 a)] => K (.agg [.int .i64 ((slotOf a).1), .int .i64 ((slotOf a).2.1), .int .i64 ((slotOf a).2.2.1), .int .i64 ((slotOf a).2.2.2)]) H
  | _ => False

theorem h_slotOf_ok : HOK 62 h_slotOf := by
  intro args H K h
  unfold h_slotOf at h
  split at h
  · rename_i a
    have e := slotOf_ev a (fun x y z t => K (.agg [.int .i64 x, .int .i64 y, .int .i64 z, .int .i64 t]) H)
    rw [slotOfK_eq False a] at e
    have e := e.mpr h
    refine pure_ok (fuel := 10) (d := 20) own0_ok rfl e ?_
    intro v H₁ hv
    split at hv
    · exact ⟨rfl, hv⟩
    · exact hv.elim
  · exact h.elim

theorem putChunk_ev (a b c d : Int) (K : Int → Prop) : evF Tryz.prog own0 10 20 91 [.agg [.int .i64 a, .int .i64 b, .int .i64 c, .int .i64 d]] ⟨[], []⟩ (fun v _ => match v with | .c (.int .u64 x) => K x | _ => False) = putChunkK False a b c d K := by kernel_rfl

def h_putChunk : Hd := fun args H K => match args with
  | [.agg [.int .i64 a, .int .i64 b, .int .i64 c, .int .i64 d]] => K (.c (.int .u64 ((putChunk a b c d)))) H
  | _ => False

theorem h_putChunk_ok : HOK 91 h_putChunk := by
  intro args H K h
  unfold h_putChunk at h
  split at h
  · rename_i a b c d
    have e := putChunk_ev a b c d (fun x => K (.c (.int .u64 x)) H)
    rw [putChunkK_eq False a b c d] at e
    have e := e.mpr h
    refine pure_ok (fuel := 10) (d := 20) own0_ok rfl e ?_
    intro v H₁ hv
    split at hv
    · exact ⟨rfl, hv⟩
    · exact hv.elim
  · exact h.elim

theorem chunkOf_ev (a : Int) (K : Int → Int → Int → Int → Prop) : evF Tryz.prog own0 10 20 22 [.c (.int .u64 a)] ⟨[], []⟩ (fun v _ => match v with | .agg [.int .i64 x, .int .i64 y, .int .i64 z, .int .i64 t] => K x y z t | _ => False) = chunkOfK False a K := by kernel_rfl

def h_chunkOf : Hd := fun args H K => match args with
  | [.c (.int .u64 a)] => K (.agg [.int .i64 ((chunkOf a).1), .int .i64 ((chunkOf a).2.1), .int .i64 ((chunkOf a).2.2.1), .int .i64 ((chunkOf a).2.2.2)]) H
  | _ => False

theorem h_chunkOf_ok : HOK 22 h_chunkOf := by
  intro args H K h
  unfold h_chunkOf at h
  split at h
  · rename_i a
    have e := chunkOf_ev a (fun x y z t => K (.agg [.int .i64 x, .int .i64 y, .int .i64 z, .int .i64 t]) H)
    rw [chunkOfK_eq False a] at e
    have e := e.mpr h
    refine pure_ok (fuel := 10) (d := 20) own0_ok rfl e ?_
    intro v H₁ hv
    split at hv
    · exact ⟨rfl, hv⟩
    · exact hv.elim
  · exact h.elim

theorem putHead_ev (a b c d : Int) (o : Bool) (K : Int → Prop) : evF Tryz.prog own0 10 20 34 [.agg [.int .i64 a, .int .i64 b, .int .i64 c, .int .i64 d, .bool o]] ⟨[], []⟩ (fun v _ => match v with | .c (.int .u64 x) => K x | _ => False) = putHeadK False a b c d o K := by kernel_rfl

def h_putHead : Hd := fun args H K => match args with
  | [.agg [.int .i64 a, .int .i64 b, .int .i64 c, .int .i64 d, .bool o]] => K (.c (.int .u64 ((putHead a b c d o)))) H
  | _ => False

theorem h_putHead_ok : HOK 34 h_putHead := by
  intro args H K h
  unfold h_putHead at h
  split at h
  · rename_i a b c d o
    have e := putHead_ev a b c d o (fun x => K (.c (.int .u64 x)) H)
    rw [putHeadK_eq False a b c d o] at e
    have e := e.mpr h
    refine pure_ok (fuel := 10) (d := 20) own0_ok rfl e ?_
    intro v H₁ hv
    split at hv
    · exact ⟨rfl, hv⟩
    · exact hv.elim
  · exact h.elim

theorem headOf_ev (a : Int) (K : Int → Int → Int → Int → Bool → Prop) : evF Tryz.prog own0 10 20 31 [.c (.int .u64 a)] ⟨[], []⟩ (fun v _ => match v with | .agg [.int .i64 x, .int .i64 y, .int .i64 z, .int .i64 t, .bool s] => K x y z t s | _ => False) = headOfK False a K := by kernel_rfl

def h_headOf : Hd := fun args H K => match args with
  | [.c (.int .u64 a)] => K (.agg [.int .i64 ((headOf a).1), .int .i64 ((headOf a).2.1), .int .i64 ((headOf a).2.2.1), .int .i64 ((headOf a).2.2.2.1), .bool ((headOf a).2.2.2.2)]) H
  | _ => False

theorem h_headOf_ok : HOK 31 h_headOf := by
  intro args H K h
  unfold h_headOf at h
  split at h
  · rename_i a
    have e := headOf_ev a (fun x y z t s => K (.agg [.int .i64 x, .int .i64 y, .int .i64 z, .int .i64 t, .bool s]) H)
    rw [headOfK_eq False a] at e
    have e := e.mpr h
    refine pure_ok (fuel := 10) (d := 20) own0_ok rfl e ?_
    intro v H₁ hv
    split at hv
    · exact ⟨rfl, hv⟩
    · exact hv.elim
  · exact h.elim

theorem putCell_ev (a : Int) (o : Bool) (c : Int) (K : Int → Prop) : evF Tryz.prog own0 10 20 102 [.agg [.int .i64 a, .bool o, .int .i64 c]] ⟨[], []⟩ (fun v _ => match v with | .c (.int .u64 x) => K x | _ => False) = putCellK False a o c K := by kernel_rfl

def h_putCell : Hd := fun args H K => match args with
  | [.agg [.int .i64 a, .bool o, .int .i64 c]] => K (.c (.int .u64 ((putCell a o c)))) H
  | _ => False

theorem h_putCell_ok : HOK 102 h_putCell := by
  intro args H K h
  unfold h_putCell at h
  split at h
  · rename_i a o c
    have e := putCell_ev a o c (fun x => K (.c (.int .u64 x)) H)
    rw [putCellK_eq False a o c] at e
    have e := e.mpr h
    refine pure_ok (fuel := 10) (d := 20) own0_ok rfl e ?_
    intro v H₁ hv
    split at hv
    · exact ⟨rfl, hv⟩
    · exact hv.elim
  · exact h.elim

theorem cellOf_ev (a : Int) (K : Int → Bool → Int → Prop) : evF Tryz.prog own0 10 20 101 [.c (.int .u64 a)] ⟨[], []⟩ (fun v _ => match v with | .agg [.int .i64 x, .bool y, .int .i64 z] => K x y z | _ => False) = cellOfK False a K := by kernel_rfl

def h_cellOf : Hd := fun args H K => match args with
  | [.c (.int .u64 a)] => K (.agg [.int .i64 ((cellOf a).1), .bool ((cellOf a).2.1), .int .i64 ((cellOf a).2.2)]) H
  | _ => False

theorem h_cellOf_ok : HOK 101 h_cellOf := by
  intro args H K h
  unfold h_cellOf at h
  split at h
  · rename_i a
    have e := cellOf_ev a (fun x y z => K (.agg [.int .i64 x, .bool y, .int .i64 z]) H)
    rw [cellOfK_eq False a] at e
    have e := e.mpr h
    refine pure_ok (fuel := 10) (d := 20) own0_ok rfl e ?_
    intro v H₁ hv
    split at hv
    · exact ⟨rfl, hv⟩
    · exact hv.elim
  · exact h.elim

theorem putTop_ev (a b : Int) (K : Int → Prop) : evF Tryz.prog own0 10 20 70 [.c (.int .i64 a), .c (.int .i64 b)] ⟨[], []⟩ (fun v _ => match v with | .c (.int .u64 x) => K x | _ => False) = putTopK False a b K := by kernel_rfl

def h_putTop : Hd := fun args H K => match args with
  | [.c (.int .i64 a), .c (.int .i64 b)] => K (.c (.int .u64 ((putTop a b)))) H
  | _ => False

theorem h_putTop_ok : HOK 70 h_putTop := by
  intro args H K h
  unfold h_putTop at h
  split at h
  · rename_i a b
    have e := putTop_ev a b (fun x => K (.c (.int .u64 x)) H)
    rw [putTopK_eq False a b] at e
    have e := e.mpr h
    refine pure_ok (fuel := 10) (d := 20) own0_ok rfl e ?_
    intro v H₁ hv
    split at hv
    · exact ⟨rfl, hv⟩
    · exact hv.elim
  · exact h.elim

theorem topOf_ev (a : Int) (K : Int → Int → Prop) : evF Tryz.prog own0 10 20 116 [.c (.int .u64 a)] ⟨[], []⟩ (fun v _ => match v with | .tup [.c (.int .i64 x), .c (.int .i64 y)] => K x y | _ => False) = topOfK False a K := by kernel_rfl

def h_topOf : Hd := fun args H K => match args with
  | [.c (.int .u64 a)] => K (.tup [.c (.int .i64 ((topOf a).1)), .c (.int .i64 ((topOf a).2))]) H
  | _ => False

theorem h_topOf_ok : HOK 116 h_topOf := by
  intro args H K h
  unfold h_topOf at h
  split at h
  · rename_i a
    have e := topOf_ev a (fun x y => K (.tup [.c (.int .i64 x), .c (.int .i64 y)]) H)
    rw [topOfK_eq False a] at e
    have e := e.mpr h
    refine pure_ok (fuel := 10) (d := 20) own0_ok rfl e ?_
    intro v H₁ hv
    split at hv
    · exact ⟨rfl, hv⟩
    · exact hv.elim
  · exact h.elim

theorem lOpen_ev (a : Int) (K : Int → Prop) : evF Tryz.prog own0 10 20 35 [.c (.int .i64 a)] ⟨[], []⟩ (fun v _ => match v with | .c (.int .i64 x) => K x | _ => False) = lOpenK False a K := by kernel_rfl

def h_lOpen : Hd := fun args H K => match args with
  | [.c (.int .i64 a)] => K (.c (.int .i64 ((lOpen a)))) H
  | _ => False

theorem h_lOpen_ok : HOK 35 h_lOpen := by
  intro args H K h
  unfold h_lOpen at h
  split at h
  · rename_i a
    have e := lOpen_ev a (fun x => K (.c (.int .i64 x)) H)
    rw [lOpenK_eq False a] at e
    have e := e.mpr h
    refine pure_ok (fuel := 10) (d := 20) own0_ok rfl e ?_
    intro v H₁ hv
    split at hv
    · exact ⟨rfl, hv⟩
    · exact hv.elim
  · exact h.elim

theorem lPin_ev (a : Int) (K : Int → Prop) : evF Tryz.prog own0 10 20 59 [.c (.int .i64 a)] ⟨[], []⟩ (fun v _ => match v with | .c (.int .i64 x) => K x | _ => False) = lPinK False a K := by kernel_rfl

def h_lPin : Hd := fun args H K => match args with
  | [.c (.int .i64 a)] => K (.c (.int .i64 ((lPin a)))) H
  | _ => False

theorem h_lPin_ok : HOK 59 h_lPin := by
  intro args H K h
  unfold h_lPin at h
  split at h
  · rename_i a
    have e := lPin_ev a (fun x => K (.c (.int .i64 x)) H)
    rw [lPinK_eq False a] at e
    have e := e.mpr h
    refine pure_ok (fuel := 10) (d := 20) own0_ok rfl e ?_
    intro v H₁ hv
    split at hv
    · exact ⟨rfl, hv⟩
    · exact hv.elim
  · exact h.elim

theorem lSlot_ev (c1 c2 c3 c4 c5 c6 c7 : Int) (a : Int) (K : Int → Prop) : evF Tryz.prog own0 10 20 63 [.agg [.int .i64 c1, .int .i64 c2, .int .i64 c3, .int .i64 c4, .int .i64 c5, .int .i64 c6, .int .i64 c7], .c (.int .i64 a)] ⟨[], []⟩ (fun v _ => match v with | .c (.int .i64 x) => K x | _ => False) = lSlotK False c1 c2 c3 c4 c5 c6 c7 a K := by kernel_rfl

def h_lSlot : Hd := fun args H K => match args with
  | [.agg [.int .i64 c1, .int .i64 c2, .int .i64 c3, .int .i64 c4, .int .i64 c5, .int .i64 c6, .int .i64 c7], .c (.int .i64 a)] => K (.c (.int .i64 ((lSlot c1 c2 c3 c4 c5 c6 c7 a)))) H
  | _ => False

theorem h_lSlot_ok : HOK 63 h_lSlot := by
  intro args H K h
  unfold h_lSlot at h
  split at h
  · rename_i c1 c2 c3 c4 c5 c6 c7 a
    have e := lSlot_ev c1 c2 c3 c4 c5 c6 c7 a (fun x => K (.c (.int .i64 x)) H)
    rw [lSlotK_eq False c1 c2 c3 c4 c5 c6 c7 a] at e
    have e := e.mpr h
    refine pure_ok (fuel := 10) (d := 20) own0_ok rfl e ?_
    intro v H₁ hv
    split at hv
    · exact ⟨rfl, hv⟩
    · exact hv.elim
  · exact h.elim

theorem lChunk_ev (c1 c2 c3 c4 c5 c6 c7 : Int) (a : Int) (K : Int → Prop) : evF Tryz.prog own0 10 20 23 [.agg [.int .i64 c1, .int .i64 c2, .int .i64 c3, .int .i64 c4, .int .i64 c5, .int .i64 c6, .int .i64 c7], .c (.int .i64 a)] ⟨[], []⟩ (fun v _ => match v with | .c (.int .i64 x) => K x | _ => False) = lChunkK False c1 c2 c3 c4 c5 c6 c7 a K := by kernel_rfl

def h_lChunk : Hd := fun args H K => match args with
  | [.agg [.int .i64 c1, .int .i64 c2, .int .i64 c3, .int .i64 c4, .int .i64 c5, .int .i64 c6, .int .i64 c7], .c (.int .i64 a)] => K (.c (.int .i64 ((lChunk c1 c2 c3 c4 c5 c6 c7 a)))) H
  | _ => False

theorem h_lChunk_ok : HOK 23 h_lChunk := by
  intro args H K h
  unfold h_lChunk at h
  split at h
  · rename_i c1 c2 c3 c4 c5 c6 c7 a
    have e := lChunk_ev c1 c2 c3 c4 c5 c6 c7 a (fun x => K (.c (.int .i64 x)) H)
    rw [lChunkK_eq False c1 c2 c3 c4 c5 c6 c7 a] at e
    have e := e.mpr h
    refine pure_ok (fuel := 10) (d := 20) own0_ok rfl e ?_
    intro v H₁ hv
    split at hv
    · exact ⟨rfl, hv⟩
    · exact hv.elim
  · exact h.elim

theorem lBase_ev (c1 c2 c3 c4 c5 c6 c7 : Int) (a : Int) (K : Int → Prop) : evF Tryz.prog own0 10 20 24 [.agg [.int .i64 c1, .int .i64 c2, .int .i64 c3, .int .i64 c4, .int .i64 c5, .int .i64 c6, .int .i64 c7], .c (.int .i64 a)] ⟨[], []⟩ (fun v _ => match v with | .c (.int .i64 x) => K x | _ => False) = lBaseK False c1 c2 c3 c4 c5 c6 c7 a K := by kernel_rfl

def h_lBase : Hd := fun args H K => match args with
  | [.agg [.int .i64 c1, .int .i64 c2, .int .i64 c3, .int .i64 c4, .int .i64 c5, .int .i64 c6, .int .i64 c7], .c (.int .i64 a)] => K (.c (.int .i64 ((lBase c1 c2 c3 c4 c5 c6 c7 a)))) H
  | _ => False

theorem h_lBase_ok : HOK 24 h_lBase := by
  intro args H K h
  unfold h_lBase at h
  split at h
  · rename_i c1 c2 c3 c4 c5 c6 c7 a
    have e := lBase_ev c1 c2 c3 c4 c5 c6 c7 a (fun x => K (.c (.int .i64 x)) H)
    rw [lBaseK_eq False c1 c2 c3 c4 c5 c6 c7 a] at e
    have e := e.mpr h
    refine pure_ok (fuel := 10) (d := 20) own0_ok rfl e ?_
    intro v H₁ hv
    split at hv
    · exact ⟨rfl, hv⟩
    · exact hv.elim
  · exact h.elim

theorem lLen_ev (c1 c2 c3 c4 c5 c6 c7 : Int) (K : Int → Prop) : evF Tryz.prog own0 10 20 58 [.agg [.int .i64 c1, .int .i64 c2, .int .i64 c3, .int .i64 c4, .int .i64 c5, .int .i64 c6, .int .i64 c7]] ⟨[], []⟩ (fun v _ => match v with | .c (.int .i64 x) => K x | _ => False) = lLenK False c1 c2 c3 c4 c5 c6 c7 K := by kernel_rfl

def h_lLen : Hd := fun args H K => match args with
  | [.agg [.int .i64 c1, .int .i64 c2, .int .i64 c3, .int .i64 c4, .int .i64 c5, .int .i64 c6, .int .i64 c7]] => K (.c (.int .i64 ((lLen c1 c2 c3 c4 c5 c6 c7)))) H
  | _ => False

theorem h_lLen_ok : HOK 58 h_lLen := by
  intro args H K h
  unfold h_lLen at h
  split at h
  · rename_i c1 c2 c3 c4 c5 c6 c7
    have e := lLen_ev c1 c2 c3 c4 c5 c6 c7 (fun x => K (.c (.int .i64 x)) H)
    rw [lLenK_eq False c1 c2 c3 c4 c5 c6 c7] at e
    have e := e.mpr h
    refine pure_ok (fuel := 10) (d := 20) own0_ok rfl e ?_
    intro v H₁ hv
    split at hv
    · exact ⟨rfl, hv⟩
    · exact hv.elim
  · exact h.elim

theorem lOf_ev (c1 c2 c3 c4 c5 c6 c7 : Int) (a : Int) (K : Int → Prop) : evF Tryz.prog own0 10 20 21 [.agg [.int .i64 c1, .int .i64 c2, .int .i64 c3, .int .i64 c4, .int .i64 c5, .int .i64 c6, .int .i64 c7], .c (.int .i64 a)] ⟨[], []⟩ (fun v _ => match v with | .c (.int .i64 x) => K x | _ => False) = lOfK False c1 c2 c3 c4 c5 c6 c7 a K := by kernel_rfl

def h_lOf : Hd := fun args H K => match args with
  | [.agg [.int .i64 c1, .int .i64 c2, .int .i64 c3, .int .i64 c4, .int .i64 c5, .int .i64 c6, .int .i64 c7], .c (.int .i64 a)] => match decide (c4 = 0) with | true => False | false => K (.c (.int .i64 ((lOf c1 c2 c3 c4 c5 c6 c7 a)))) H
  | _ => False

theorem h_lOf_ok : HOK 21 h_lOf := by
  intro args H K h
  unfold h_lOf at h
  split at h
  · rename_i c1 c2 c3 c4 c5 c6 c7 a
    split at h
    · exact h.elim
    rename_i hc
    have hc : c4 ≠ 0 := of_decide_eq_false hc
    have e := lOf_ev c1 c2 c3 c4 c5 c6 c7 a (fun x => K (.c (.int .i64 x)) H)
    rw [lOfK_eq False c1 c2 c3 c4 c5 c6 c7 a hc] at e
    have e := e.mpr h
    refine pure_ok (fuel := 10) (d := 20) own0_ok rfl e ?_
    intro v H₁ hv
    split at hv
    · exact ⟨rfl, hv⟩
    · exact hv.elim
  · exact h.elim

theorem lClass_ev (a : Int) (K : Int → Prop) : evF Tryz.prog own0 10 20 36 [.c (.int .i64 a)] ⟨[], []⟩ (fun v _ => match v with | .c (.int .i64 x) => K x | _ => False) = lClassK False a K := by kernel_rfl

def h_lClass : Hd := fun args H K => match args with
  | [.c (.int .i64 a)] => K (.c (.int .i64 ((lClass a)))) H
  | _ => False

theorem h_lClass_ok : HOK 36 h_lClass := by
  intro args H K h
  unfold h_lClass at h
  split at h
  · rename_i a
    have e := lClass_ev a (fun x => K (.c (.int .i64 x)) H)
    rw [lClassK_eq False a] at e
    have e := e.mpr h
    refine pure_ok (fuel := 10) (d := 20) own0_ok rfl e ?_
    intro v H₁ hv
    split at hv
    · exact ⟨rfl, hv⟩
    · exact hv.elim
  · exact h.elim

theorem lRoom_ev (a : Int) (K : Int → Prop) : evF Tryz.prog own0 10 20 80 [.c (.int .i64 a)] ⟨[], []⟩ (fun v _ => match v with | .c (.int .i64 x) => K x | _ => False) = lRoomK False a K := by kernel_rfl

def h_lRoom : Hd := fun args H K => match args with
  | [.c (.int .i64 a)] => K (.c (.int .i64 ((lRoom a)))) H
  | _ => False

theorem h_lRoom_ok : HOK 80 h_lRoom := by
  intro args H K h
  unfold h_lRoom at h
  split at h
  · rename_i a
    have e := lRoom_ev a (fun x => K (.c (.int .i64 x)) H)
    rw [lRoomK_eq False a] at e
    have e := e.mpr h
    refine pure_ok (fuel := 10) (d := 20) own0_ok rfl e ?_
    intro v H₁ hv
    split at hv
    · exact ⟨rfl, hv⟩
    · exact hv.elim
  · exact h.elim

theorem live_ev (a b c d p q : Int) (K : Bool → Prop) : evF Tryz.prog own0 10 20 112 [.agg [.int .i64 a, .int .i64 b, .int .i64 c, .int .i64 d], .agg [.int .i64 p, .int .i64 q]] ⟨[], []⟩ (fun v _ => match v with | .c (.bool x) => K x | _ => False) = liveK False a b c d p q K := by kernel_rfl

def h_live : Hd := fun args H K => match args with
  | [.agg [.int .i64 a, .int .i64 b, .int .i64 c, .int .i64 d], .agg [.int .i64 p, .int .i64 q]] => K (.c (.bool ((live a b c d p q)))) H
  | _ => False

theorem h_live_ok : HOK 112 h_live := by
  intro args H K h
  unfold h_live at h
  split at h
  · rename_i a b c d p q
    have e := live_ev a b c d p q (fun x => K (.c (.bool x)) H)
    rw [liveK_eq False a b c d p q] at e
    have e := e.mpr h
    refine pure_ok (fuel := 10) (d := 20) own0_ok rfl e ?_
    intro v H₁ hv
    split at hv
    · exact ⟨rfl, hv⟩
    · exact hv.elim
  · exact h.elim

end Go.Proofs.YtfjnkneoddankaaGreat
