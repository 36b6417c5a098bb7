/-
  A tree of choices, read as a proposition and as a value.
-/
import Derived.Test.YtfjnkneoddankaaGreatOb
set_option linter.unusedVariables false
namespace Go.FL

/-- The orders of a drawn region: each has to go well. -/
def twP (f : Prop → Prop) (p : Prop) : Prop := f p

/-- They all yield the same. -/
def twV {R : Type} (f : Prop → Prop) (r : R) : R := r

def app3 {A B C : Type} (K : A → B → C → Prop) (t : A × B × C) : Prop := K t.1 t.2.1 t.2.2

theorem cond3 {A B C : Type} {K : A → B → C → Prop} {b : Bool} {p q : Prop} {u v : A × B × C} (h1 : p = app3 K u) (h2 : q = app3 K v) : cond b p q = app3 K (cond b u v) := by
  cases b
  · exact h2
  · exact h1

theorem condH {A B C : Type} {K : A → B → C → Prop} {b : Bool} {q : Prop} {u v : A × B × C} (hb : b = false) (h2 : q = app3 K v) : cond b False q = app3 K (cond b u v) := by
  subst hb
  exact h2

theorem tw3 {A B C : Type} {K : A → B → C → Prop} {f : Prop → Prop} {p : Prop} {u : A × B × C} (hf : ∀ p, f p = p) (h : p = app3 K u) : twP f p = app3 K (twV f u) :=
  (hf p).trans h

end Go.FL
