/-
  A memory laid down as a tree, so that it is read fast; what is computed on it is the same.
-/
import Derived.Test.YtfjnkneoddankaaGreatPin14
set_option linter.unusedVariables false
set_option linter.unusedSimpArgs false
set_option maxRecDepth 100000
namespace Go.FL

inductive Tb where
  | leaf (v : Int)
  | node (l r : Tb)

/-- Goes on with a number that is worked out. -/
def forceN {α : Type} (n : Nat) (k : Nat → α) : α := Nat.rec (k 0) (fun p _ => k (p + 1)) n

theorem forceN_eq {α : Type} (n : Nat) (k : Nat → α) : forceN n k = k n := by cases n <;> rfl

def forceI {α : Type} (v : Int) (k : Int → α) : α := match v with
  | .ofNat n => forceN n fun n => k (.ofNat n)
  | .negSucc n => forceN n fun n => k (.negSucc n)

theorem forceI_eq {α : Type} (v : Int) (k : Int → α) : forceI v k = k v := by
  cases v with
  | ofNat n => exact forceN_eq n fun n => k (.ofNat n)
  | negSucc n => exact forceN_eq n fun n => k (.negSucc n)

def tbMk {α : Type} (f : Nat → Int) : Nat → Nat → (Tb → α) → α
  | 0, b, k => forceI (f b) fun v => k (.leaf v)
  | d + 1, b, k => tbMk f d b fun l => tbMk f d (b + 2 ^ d) fun r => k (.node l r)

def tbOf (f : Nat → Int) : Nat → Nat → Tb
  | 0, b => .leaf (f b)
  | d + 1, b => .node (tbOf f d b) (tbOf f d (b + 2 ^ d))

theorem tbMk_eq {α : Type} (f : Nat → Int) : ∀ (d b : Nat) (k : Tb → α), tbMk f d b k = k (tbOf f d b)
  | 0, b, k => forceI_eq _ _
  | d + 1, b, k => by simp only [tbMk, tbOf, tbMk_eq f d]

def tbGet : Tb → Nat → Nat → Nat → Int
  | .leaf v, _, _, _ => v
  | .node l r, d, b, i => match d with
    | 0 => 0
    | d + 1 => match Nat.ble (b + 2 ^ d) i with
      | true => tbGet r d (b + 2 ^ d) i
      | false => tbGet l d b i

theorem tbGet_of (f : Nat → Int) : ∀ (d b i : Nat), b ≤ i → i < b + 2 ^ d → tbGet (tbOf f d b) d b i = f i
  | 0, b, i, h1, h2 => by
    have : i = b := by simp at h2; omega
    subst this; rfl
  | d + 1, b, i, h1, h2 => by
    simp only [tbOf, tbGet]
    have hp : 2 ^ (d + 1) = 2 ^ d + 2 ^ d := by rw [Nat.pow_succ]; omega
    split
    · rename_i h
      have h := Nat.le_of_ble_eq_true h
      exact tbGet_of f d _ i h (by omega)
    · rename_i h
      have h : ¬ (b + 2 ^ d ≤ i) := fun hc => by rw [Nat.ble_eq_true_of_le hc] at h; cases h
      exact tbGet_of f d b i h1 (by omega)

/-- The memory with its first words in a tree. -/
def normK {α : Type} (d : Nat) (m : PMem) (k : PMem → α) : α := forceI m.steps fun s => tbMk m.w d 0 fun t =>
  k { m with steps := s, w := fun j => match Nat.blt j (2 ^ d) with
    | true => tbGet t d 0 j
    | false => m.w j }

theorem normK_eq {α : Type} (d : Nat) (m : PMem) (k : PMem → α) : normK d m k = k m := by
  unfold normK
  rw [forceI_eq, tbMk_eq]
  congr 1
  have : (fun j => match Nat.blt j (2 ^ d) with | true => tbGet (tbOf m.w d 0) d 0 j | false => m.w j) = m.w := by
    funext j
    split
    · rename_i h
      have h : j + 1 ≤ 2 ^ d := by simpa [Nat.blt] using h
      exact tbGet_of m.w d 0 j (Nat.zero_le _) (by omega)
    · rfl
  rw [this]

def bldN (d : Nat) (c : PCfg) (who sz : Int) (cond : Bool) : Nat → Nat → (Nat → Int) → PMem → Nat × (Nat → Int) × PMem
  | 0, n, f, m => (n, f, m)
  | k + 1, n, f, m => normK d m fun m => match makeM c who m sz false with
    | (e, m') => forceI e.h fun h => bif cond && !decide (e.e = 0) then bldN d c who sz cond k n f m' else bldN d c who sz cond k (n + 1) (pushF n f h) m'

theorem bldN_eq (d : Nat) (c : PCfg) (who sz : Int) (cond : Bool) : ∀ (k n : Nat) (f : Nat → Int) (m : PMem), bldN d c who sz cond k n f m = bldRun c who sz cond k n f m
  | 0, n, f, m => by rw [bldRun_zero]; rfl
  | k + 1, n, f, m => by
    rw [bldRun_succ]
    simp only [bldN, normK_eq, forceI_eq, bldN_eq d c who sz cond k]

def dropN (d : Nat) (c : PCfg) (who : Int) (f : Nat → Int) : Nat → Nat → PMem → PMem
  | 0, _, m => m
  | k + 1, i, m => normK d m fun m => dropN d c who f k (i + 1) (dropdM c who m (f i) false).2

theorem dropN_eq (d : Nat) (c : PCfg) (who : Int) (f : Nat → Int) : ∀ (k i : Nat) (m : PMem), dropN d c who f k i m = dropRun2 c who f k i m
  | 0, i, m => by rw [dropRun2_zero]; rfl
  | k + 1, i, m => by
    rw [dropRun2_succ]
    simp only [dropN, normK_eq, dropN_eq d c who f k]

/-- At a round's beginning. -/
def roundsN (d : Nat) (c : PCfg) (want : Int) : Nat → PComp → PMem → Option (PComp × PMem)
  | 0, x, m => some (x, m)
  | n + 1, x, m => bif decide (x.work.rd < want) then
      (bif decide (x.pc = 0) && decide (x.at_ = 0) then normK d m fun m => match compStep c (-1) x m with
        | none => none
        | some r => roundsN d c want n r.1 r.2
      else match compStep c (-1) x m with
        | none => none
        | some r => roundsN d c want n r.1 r.2) else some (x, m)

theorem roundsN_eq (d : Nat) (c : PCfg) (want : Int) : ∀ (n : Nat) (x : PComp) (m : PMem), roundsN d c want n x m = roundsRun c want n x m
  | 0, x, m => by rw [roundsRun_zero]; rfl
  | n + 1, x, m => by
    rw [roundsRun_succ]
    simp only [roundsN, normK_eq, roundsN_eq d c want n]
    cases decide (x.pc = 0) && decide (x.at_ = 0) <;> rfl

end Go.FL
