/-
  The memory's operations, as the evaluator has them and in short.
-/
import Derived.Test.YtfjnkneoddankaaGreatWr
import Derived.Test.YtfjnkneoddankaaGreatOb
import GoSem.Core.Code
import GoSem.Core.Next
set_option linter.unusedVariables false
set_option linter.unusedSimpArgs false
namespace Go.FL

def upd (f : Nat → Int) (i : Nat) (v : Int) : Nat → Int := fun j => bif Nat.beq j (i) then v else f j

def PMem.by_ (m : PMem) (who : Int) : PMem := { m with who := who }

def PMem.touch (m : PMem) (who a : Int) : PMem := { m with steps := wrI (m.steps + 1), who := who, la := a, lw := who, lc := false }

def PMem.lay (m : PMem) (who a x : Int) : PMem :=
  { m with w := upd m.w a.toNat x, t := if m.w a.toNat = x then m.t else upd m.t a.toNat (wrI (m.steps + 1)), steps := wrI (m.steps + 1), who := who, la := a, lw := who, lc := !decide (m.w a.toNat = x) }

def PMem.eLoad (m : PMem) (who a : Int) : Int × PMem :=
  if a < 0 then (0, m.by_ who) else if (m.n : Int) ≤ a then (0, m.by_ who) else (m.w a.toNat, m.touch who a)

def PMem.eStore (m : PMem) (who a b : Int) : PMem :=
  if a < 0 then m.by_ who else if (m.n : Int) ≤ a then m.by_ who else m.lay who a b

def PMem.eCas (m : PMem) (who a b d : Int) : Bool × PMem :=
  if a < 0 then (false, m.by_ who) else if (m.n : Int) ≤ a then (false, m.by_ who) else if m.w a.toNat = b then (true, m.lay who a d) else (false, m.touch who a)

def PMem.eAdd (m : PMem) (who a b : Int) : PMem :=
  if a < 0 then m.by_ who else if (m.n : Int) ≤ a then m.by_ who else m.lay who a (wrU (m.w a.toNat + wrU b))

def PMem.peek (m : PMem) (a : Int) : Int :=
  if a < 0 then 0 else if (m.n : Int) ≤ a then 0 else m.w a.toNat

def PMem.when_ (m : PMem) (a : Int) : Int :=
  if a < 0 then 0 else if (m.n : Int) ≤ a then 0 else m.t a.toNat

def eLoadT (m : PMem) (who a b d : Int) (bot : Prop) (K : Int → PMem → Prop) : Prop :=
  bif decide (a < 0) then
   (m.n = m.n ∧ m.n = m.n ∧ m.n = m.n ∧ m.n = m.n ∧ m.n = m.n) ∧
   K 0 ⟨(m.n), (m.w), (m.t), (m.steps), (who), (m.la), (m.lw), (m.lc)⟩
  else
   bif decide (↑m.n ≤ a) then
    (m.n = m.n ∧ m.n = m.n ∧ m.n = m.n ∧ m.n = m.n ∧ m.n = m.n) ∧
    K 0 ⟨(m.n), (m.w), (m.t), (m.steps), (who), (m.la), (m.lw), (m.lc)⟩
   else
    bif decide (0 ≤ a ∧ a < ↑m.n) then
     (Int.toNat a < m.n) ∧
     (m.n = m.n ∧ m.n = m.n ∧ m.n = m.n ∧ m.n = m.n ∧ m.n = m.n) ∧
     K (m.w (Int.toNat a)) ⟨(m.n), (m.w), (m.t), (wrI (m.steps + 1)), (who), (a), (who), false⟩
    else
     bot

theorem eLoadT_of (m : PMem) (who a b d : Int) {K : Int → PMem → Prop} (h : K (m.eLoad who a).1 (m.eLoad who a).2) : eLoadT m who a b d False K := by
  unfold eLoadT
  by_cases h1 : a < 0
  · simp [PMem.eLoad, h1] at h ⊢
    exact h
  · by_cases h2 : (m.n : Int) ≤ a
    · simp [PMem.eLoad, h1, h2] at h ⊢
      exact h
    · have h3 : 0 ≤ a ∧ a < (m.n : Int) := by omega
      have h4 : a.toNat < m.n := by omega
      simp [PMem.eLoad, h1, h2, h3, h4] at h ⊢
      exact h

def eStoreT (m : PMem) (who a b d : Int) (bot : Prop) (K : PMem → Prop) : Prop :=
  bif decide (a < 0) then
   (m.n = m.n ∧ m.n = m.n ∧ m.n = m.n ∧ m.n = m.n ∧ m.n = m.n) ∧
   K ⟨(m.n), (m.w), (m.t), (m.steps), (who), (m.la), (m.lw), (m.lc)⟩
  else
   bif decide (↑m.n ≤ a) then
    (m.n = m.n ∧ m.n = m.n ∧ m.n = m.n ∧ m.n = m.n ∧ m.n = m.n) ∧
    K ⟨(m.n), (m.w), (m.t), (m.steps), (who), (m.la), (m.lw), (m.lc)⟩
   else
    bif decide (0 ≤ a ∧ a < ↑m.n) then
     (Int.toNat a < m.n) ∧
     bif !decide (m.w (Int.toNat a) = b) then
      bif decide (0 ≤ a ∧ a < ↑m.n) then
       (Int.toNat a < m.n) ∧
       bif decide (0 ≤ a ∧ a < ↑m.n) then
        (Int.toNat a < m.n) ∧
        (m.n = m.n ∧ m.n = m.n ∧ m.n = m.n ∧ m.n = m.n ∧ m.n = m.n) ∧
        K ⟨(m.n), (fun j => bif Nat.beq j (Int.toNat a) then b else m.w j), (fun j => bif Nat.beq j (Int.toNat a) then wrI (m.steps + 1) else m.t j), (wrI (m.steps + 1)), (who), (a), (who), (!decide (m.w (Int.toNat a) = b))⟩
       else
        bot
      else
       bot
     else
      bif decide (0 ≤ a ∧ a < ↑m.n) then
       (Int.toNat a < m.n) ∧
       (m.n = m.n ∧ m.n = m.n ∧ m.n = m.n ∧ m.n = m.n ∧ m.n = m.n) ∧
       K ⟨(m.n), (fun j => bif Nat.beq j (Int.toNat a) then b else m.w j), (m.t), (wrI (m.steps + 1)), (who), (a), (who), (!decide (m.w (Int.toNat a) = b))⟩
      else
       bot
    else
     bot

theorem eStoreT_of (m : PMem) (who a b d : Int) {K : PMem → Prop} (h : K (m.eStore who a b)) : eStoreT m who a b d False K := by
  unfold eStoreT
  by_cases h1 : a < 0
  · simp [PMem.eStore, h1] at h ⊢
    exact h
  · by_cases h2 : (m.n : Int) ≤ a
    · simp [PMem.eStore, h1, h2] at h ⊢
      exact h
    · have h3 : 0 ≤ a ∧ a < (m.n : Int) := by omega
      have h4 : a.toNat < m.n := by omega
      by_cases h5 : m.w a.toNat = b
      · simp [PMem.eStore, PMem.lay, upd, h1, h2, h3, h4, h5] at h ⊢
        exact h
      · simp [PMem.eStore, PMem.lay, upd, h1, h2, h3, h4, h5] at h ⊢
        exact h

def eCasT (m : PMem) (who a b d : Int) (bot : Prop) (K : Bool → PMem → Prop) : Prop :=
  bif decide (a < 0) then
   (m.n = m.n ∧ m.n = m.n ∧ m.n = m.n ∧ m.n = m.n ∧ m.n = m.n) ∧
   K false ⟨(m.n), (m.w), (m.t), (m.steps), (who), (m.la), (m.lw), (m.lc)⟩
  else
   bif decide (↑m.n ≤ a) then
    (m.n = m.n ∧ m.n = m.n ∧ m.n = m.n ∧ m.n = m.n ∧ m.n = m.n) ∧
    K false ⟨(m.n), (m.w), (m.t), (m.steps), (who), (m.la), (m.lw), (m.lc)⟩
   else
    bif decide (0 ≤ a ∧ a < ↑m.n) then
     (Int.toNat a < m.n) ∧
     bif !decide (m.w (Int.toNat a) = b) then
      (m.n = m.n ∧ m.n = m.n ∧ m.n = m.n ∧ m.n = m.n ∧ m.n = m.n) ∧
      K false ⟨(m.n), (m.w), (m.t), (wrI (m.steps + 1)), (who), (a), (who), false⟩
     else
      bif decide (0 ≤ a ∧ a < ↑m.n) then
       (Int.toNat a < m.n) ∧
       bif !decide (m.w (Int.toNat a) = d) then
        bif decide (0 ≤ a ∧ a < ↑m.n) then
         (Int.toNat a < m.n) ∧
         bif decide (0 ≤ a ∧ a < ↑m.n) then
          (Int.toNat a < m.n) ∧
          (m.n = m.n ∧ m.n = m.n ∧ m.n = m.n ∧ m.n = m.n ∧ m.n = m.n) ∧
          K true ⟨(m.n), (fun j => bif Nat.beq j (Int.toNat a) then d else m.w j), (fun j => bif Nat.beq j (Int.toNat a) then wrI (m.steps + 1) else m.t j), (wrI (m.steps + 1)), (who), (a), (who), (!decide (m.w (Int.toNat a) = d))⟩
         else
          bot
        else
         bot
       else
        bif decide (0 ≤ a ∧ a < ↑m.n) then
         (Int.toNat a < m.n) ∧
         (m.n = m.n ∧ m.n = m.n ∧ m.n = m.n ∧ m.n = m.n ∧ m.n = m.n) ∧
         K true ⟨(m.n), (fun j => bif Nat.beq j (Int.toNat a) then d else m.w j), (m.t), (wrI (m.steps + 1)), (who), (a), (who), (!decide (m.w (Int.toNat a) = d))⟩
        else
         bot
      else
       bot
    else
     bot

theorem eCasT_of (m : PMem) (who a b d : Int) {K : Bool → PMem → Prop} (h : K (m.eCas who a b d).1 (m.eCas who a b d).2) : eCasT m who a b d False K := by
  unfold eCasT
  by_cases h1 : a < 0
  · simp [PMem.eCas, h1] at h ⊢
    exact h
  · by_cases h2 : (m.n : Int) ≤ a
    · simp [PMem.eCas, h1, h2] at h ⊢
      exact h
    · have h3 : 0 ≤ a ∧ a < (m.n : Int) := by omega
      have h4 : a.toNat < m.n := by omega
      by_cases h5 : m.w a.toNat = b
      · by_cases h6 : m.w a.toNat = d
        · have h7 : b = d := by rw [← h5, h6]
          subst h7
          simp only [PMem.eCas, PMem.lay, upd, h1, h2, h3, h4, h5, if_true, if_false, decide_true, decide_false, Bool.not_true, Bool.not_false, cond_true, cond_false, and_self, true_and] at h ⊢
          exact h
        · have h7 : ¬ b = d := by rw [← h5]; exact h6
          simp only [PMem.eCas, PMem.lay, upd, h1, h2, h3, h4, h5, h7, if_true, if_false, decide_true, decide_false, Bool.not_true, Bool.not_false, cond_true, cond_false, and_self, true_and] at h ⊢
          exact h
      · simp [PMem.eCas, PMem.touch, h1, h2, h3, h4, h5] at h ⊢
        exact h

def eAddT (m : PMem) (who a b d : Int) (bot : Prop) (K : PMem → Prop) : Prop :=
  bif decide (a < 0) then
   (m.n = m.n ∧ m.n = m.n ∧ m.n = m.n ∧ m.n = m.n ∧ m.n = m.n) ∧
   K ⟨(m.n), (m.w), (m.t), (m.steps), (who), (m.la), (m.lw), (m.lc)⟩
  else
   bif decide (↑m.n ≤ a) then
    (m.n = m.n ∧ m.n = m.n ∧ m.n = m.n ∧ m.n = m.n ∧ m.n = m.n) ∧
    K ⟨(m.n), (m.w), (m.t), (m.steps), (who), (m.la), (m.lw), (m.lc)⟩
   else
    bif decide (0 ≤ a ∧ a < ↑m.n) then
     (Int.toNat a < m.n) ∧
     bif decide (0 ≤ a ∧ a < ↑m.n) then
      (Int.toNat a < m.n) ∧
      bif !decide (m.w (Int.toNat a) = wrU (m.w (Int.toNat a) + wrU b)) then
       bif decide (0 ≤ a ∧ a < ↑m.n) then
        (Int.toNat a < m.n) ∧
        bif decide (0 ≤ a ∧ a < ↑m.n) then
         (Int.toNat a < m.n) ∧
         (m.n = m.n ∧ m.n = m.n ∧ m.n = m.n ∧ m.n = m.n ∧ m.n = m.n) ∧
         K ⟨(m.n), (fun j => bif Nat.beq j (Int.toNat a) then wrU (m.w (Int.toNat a) + wrU b) else m.w j), (fun j => bif Nat.beq j (Int.toNat a) then wrI (m.steps + 1) else m.t j), (wrI (m.steps + 1)), (who), (a), (who), (!decide (m.w (Int.toNat a) = wrU (m.w (Int.toNat a) + wrU b)))⟩
        else
         bot
       else
        bot
      else
       bif decide (0 ≤ a ∧ a < ↑m.n) then
        (Int.toNat a < m.n) ∧
        (m.n = m.n ∧ m.n = m.n ∧ m.n = m.n ∧ m.n = m.n ∧ m.n = m.n) ∧
        K ⟨(m.n), (fun j => bif Nat.beq j (Int.toNat a) then wrU (m.w (Int.toNat a) + wrU b) else m.w j), (m.t), (wrI (m.steps + 1)), (who), (a), (who), (!decide (m.w (Int.toNat a) = wrU (m.w (Int.toNat a) + wrU b)))⟩
       else
        bot
     else
      bot
    else
     bot

theorem eAddT_of (m : PMem) (who a b d : Int) {K : PMem → Prop} (h : K (m.eAdd who a b)) : eAddT m who a b d False K := by
  unfold eAddT
  by_cases h1 : a < 0
  · simp [PMem.eAdd, h1] at h ⊢
    exact h
  · by_cases h2 : (m.n : Int) ≤ a
    · simp [PMem.eAdd, h1, h2] at h ⊢
      exact h
    · have h3 : 0 ≤ a ∧ a < (m.n : Int) := by omega
      have h4 : a.toNat < m.n := by omega
      by_cases h5 : m.w a.toNat = wrU (m.w a.toNat + wrU b)
      · simp only [PMem.eAdd, PMem.lay, upd, h1, h2, h3, h4, ← h5, if_true, if_false, decide_true, decide_false, Bool.not_true, Bool.not_false, cond_true, cond_false, and_self, true_and] at h ⊢
        exact h
      · simp only [PMem.eAdd, PMem.lay, upd, h1, h2, h3, h4, h5, if_true, if_false, decide_true, decide_false, Bool.not_true, Bool.not_false, cond_true, cond_false, and_self, true_and] at h ⊢
        exact h

def eNowT (m : PMem) (who a b d : Int) (bot : Prop) (K : Int → PMem → Prop) : Prop :=
  (m.n = m.n ∧ m.n = m.n ∧ m.n = m.n ∧ m.n = m.n ∧ m.n = m.n) ∧
  K (m.steps) ⟨(m.n), (m.w), (m.t), (m.steps), (m.who), (m.la), (m.lw), (m.lc)⟩

theorem eNowT_of (m : PMem) (who a b d : Int) {K : Int → PMem → Prop} (h : K m.steps m) : eNowT m who a b d False K := by
  unfold eNowT
  exact ⟨⟨rfl, rfl, rfl, rfl, rfl⟩, h⟩

def mPeekT (m : PMem) (who a b d : Int) (bot : Prop) (K : Int → PMem → Prop) : Prop :=
  bif decide (a < 0) then
   (m.n = m.n ∧ m.n = m.n ∧ m.n = m.n ∧ m.n = m.n ∧ m.n = m.n) ∧
   K 0 ⟨(m.n), (m.w), (m.t), (m.steps), (m.who), (m.la), (m.lw), (m.lc)⟩
  else
   bif decide (↑m.n ≤ a) then
    (m.n = m.n ∧ m.n = m.n ∧ m.n = m.n ∧ m.n = m.n ∧ m.n = m.n) ∧
    K 0 ⟨(m.n), (m.w), (m.t), (m.steps), (m.who), (m.la), (m.lw), (m.lc)⟩
   else
    bif decide (0 ≤ a ∧ a < ↑m.n) then
     (Int.toNat a < m.n) ∧
     (m.n = m.n ∧ m.n = m.n ∧ m.n = m.n ∧ m.n = m.n ∧ m.n = m.n) ∧
     K (m.w (Int.toNat a)) ⟨(m.n), (m.w), (m.t), (m.steps), (m.who), (m.la), (m.lw), (m.lc)⟩
    else
     bot

theorem mPeekT_of (m : PMem) (who a b d : Int) {K : Int → PMem → Prop} (h : K (m.peek a) m) : mPeekT m who a b d False K := by
  unfold mPeekT
  by_cases h1 : a < 0
  · simp [PMem.peek, h1] at h ⊢
    exact h
  · by_cases h2 : (m.n : Int) ≤ a
    · simp [PMem.peek, h1, h2] at h ⊢
      exact h
    · have h3 : 0 ≤ a ∧ a < (m.n : Int) := by omega
      have h4 : a.toNat < m.n := by omega
      simp [PMem.peek, h1, h2, h3, h4] at h ⊢
      exact h

def mWhenT (m : PMem) (who a b d : Int) (bot : Prop) (K : Int → PMem → Prop) : Prop :=
  bif decide (a < 0) then
   (m.n = m.n ∧ m.n = m.n ∧ m.n = m.n ∧ m.n = m.n ∧ m.n = m.n) ∧
   K 0 ⟨(m.n), (m.w), (m.t), (m.steps), (m.who), (m.la), (m.lw), (m.lc)⟩
  else
   bif decide (↑m.n ≤ a) then
    (m.n = m.n ∧ m.n = m.n ∧ m.n = m.n ∧ m.n = m.n ∧ m.n = m.n) ∧
    K 0 ⟨(m.n), (m.w), (m.t), (m.steps), (m.who), (m.la), (m.lw), (m.lc)⟩
   else
    bif decide (0 ≤ a ∧ a < ↑m.n) then
     (Int.toNat a < m.n) ∧
     (m.n = m.n ∧ m.n = m.n ∧ m.n = m.n ∧ m.n = m.n ∧ m.n = m.n) ∧
     K (m.t (Int.toNat a)) ⟨(m.n), (m.w), (m.t), (m.steps), (m.who), (m.la), (m.lw), (m.lc)⟩
    else
     bot

theorem mWhenT_of (m : PMem) (who a b d : Int) {K : Int → PMem → Prop} (h : K (m.when_ a) m) : mWhenT m who a b d False K := by
  unfold mWhenT
  by_cases h1 : a < 0
  · simp [PMem.when_, h1] at h ⊢
    exact h
  · by_cases h2 : (m.n : Int) ≤ a
    · simp [PMem.when_, h1, h2] at h ⊢
      exact h
    · have h3 : 0 ≤ a ∧ a < (m.n : Int) := by omega
      have h4 : a.toNat < m.n := by omega
      simp [PMem.when_, h1, h2, h3, h4] at h ⊢
      exact h

end Go.FL
