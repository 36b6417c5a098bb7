/-
  The pins: the plain law.
-/
import Derived.Test.YtmhakaeahefmbaaPin2
import Derived.KernelRfl
import Derived.IntWalk
set_option linter.unusedVariables false
set_option linter.unusedSimpArgs false
set_option maxRecDepth 100000
namespace Go.FL
open Go

theorem pinsGood_step {c : PCfg} {who : Int} {n : Nat} {i : Int} {a a' : PAct} {m m' : PMem} (h : actStep c who a m = (false, a', m')) (hs : decide (IntKind.wrap .i64 (m.steps + 1) < m'.steps) = false)
    (hp : (!decide (3 ≤ i) || decide (m.peek (IntKind.wrap .i64 (6 + who)) = 1)) = true) (hx : (decide (0 < i) && (decide (m'.peek (IntKind.wrap .i64 (6 + who)) = 0) && decide (m.peek (IntKind.wrap .i64 (6 + who)) = 1))) = false) :
    pinsGood c who (n + 1) i a m = pinsGood c who n (i + 1) a' m' := by
  rw [pinsGood_succ, h]
  simp only [hs, hp, hx, Bool.not_false, Bool.true_and, Bool.false_or]
  rfl

theorem pinsGood_last {c : PCfg} {who : Int} {n : Nat} {i : Int} {a a' : PAct} {m m' : PMem} (h : actStep c who a m = (true, a', m')) (hs : decide (IntKind.wrap .i64 (m.steps + 1) < m'.steps) = false)
    (hi : 3 ≤ i) (hp : m.peek (IntKind.wrap .i64 (6 + who)) = 1) (hx : m'.peek (IntKind.wrap .i64 (6 + who)) = 0) :
    pinsGood c who (n + 1) i a m = true := by
  rw [pinsGood_succ, h]
  have h0 : decide (0 < i) = true := by simp; omega
  simp only [hs, hp, hx, h0, Bool.not_false, Bool.true_and, Bool.true_or, decide_true, Bool.or_true, Bool.and_true, Bool.and_self, beq_self_eq_true]

theorem act_in0 (c : PCfg) (who ep : Int) (w : PWork) (o : PDone) (m : PMem) : actStep c who ⟨⟨0, ep⟩, 0, w, o⟩ m = (false, ⟨⟨1, (m.eLoad who 0).1⟩, 0, w, o⟩, (m.eLoad who 0).2) := by
  cases w <;> rfl

theorem act_in1 (c : PCfg) (who ep : Int) (w : PWork) (o : PDone) (m : PMem) : actStep c who ⟨⟨1, ep⟩, 0, w, o⟩ m =
    (false, ⟨⟨2, ep⟩, 0, w, o⟩, m.eStore who (IntKind.wrap .i64 (6 + who)) (IntKind.wrap .u64 (ep + 1))) := by
  cases w <;> rfl

theorem act_in2 (c : PCfg) (who ep : Int) (w : PWork) (o : PDone) (m : PMem) (h : (m.eLoad who 0).1 = ep) : actStep c who ⟨⟨2, ep⟩, 0, w, o⟩ m = (false, ⟨⟨2, ep⟩, 1, w, o⟩, (m.eLoad who 0).2) := by
  have hd : decide ((m.eLoad who 0).1 = ep) = true := by simpa using h
  cases w <;> (simp only [actStep, actStep_alloc, actStep_allocK, actStep_drop, actStep_dropK, actStep_access, actStep_accessK]; rw [hd]; rfl)

theorem act_out (c : PCfg) (who : Int) (i : PIn) (w : PWork) (o : PDone) (m : PMem) : actStep c who ⟨i, 2, w, o⟩ m = (true, ⟨i, 2, w, o⟩, m.eStore who (IntKind.wrap .i64 (6 + who)) 0) := by
  cases w <;> rfl

theorem eLoad_or (m : PMem) (who a : Int) : (m.eLoad who a).2.w = m.w ∧ (m.eLoad who a).2.n = m.n ∧ ((m.eLoad who a).2.steps = m.steps ∨ (m.eLoad who a).2.steps = IntKind.wrap .i64 (m.steps + 1)) := by
  unfold PMem.eLoad
  split
  · exact ⟨rfl, rfl, .inl rfl⟩
  · split
    · exact ⟨rfl, rfl, .inl rfl⟩
    · exact ⟨rfl, rfl, .inr rfl⟩

theorem peek_same {m m' : PMem} (hw : m'.w = m.w) (hn : m'.n = m.n) (a : Int) : m'.peek a = m.peek a := by
  unfold PMem.peek
  rw [hw, hn]

/-- Behind the work: it is let go of the pin. -/
theorem out_good {c : PCfg} {who : Int} {n : Nat} {i : Int} {p : PIn} {w : PWork} {o : PDone} {m : PMem} (hi : 3 ≤ i) (h0 : 0 ≤ IntKind.wrap .i64 (6 + who)) (h1 : IntKind.wrap .i64 (6 + who) < m.n)
    (hp : m.peek (IntKind.wrap .i64 (6 + who)) = 1) : pinsGood c who (n + 1) i ⟨p, 2, w, o⟩ m = true := by
  have he : m.eStore who (IntKind.wrap .i64 (6 + who)) 0 = m.lay who (IntKind.wrap .i64 (6 + who)) 0 := by
    unfold PMem.eStore
    rw [if_neg (by omega), if_neg (by omega)]
  refine pinsGood_last (act_out c who p w o m) ?_ hi hp ?_
  · rw [he]
    simp [PMem.lay]
  · rw [he]
    unfold PMem.peek
    rw [if_neg (by omega), if_neg (by simp only [PMem.lay]; omega)]
    simp [PMem.lay, upd]

/-- A work that ends at once. -/
theorem work_good {c : PCfg} {who : Int} {n : Nat} {p : PIn} {w w' : PWork} {o o' : PDone} {m m' : PMem} (h : actStep c who ⟨p, 1, w, o⟩ m = (false, ⟨p, 2, w', o'⟩, m')) (hm : m' = m ∨ ∃ a, m' = (m.eLoad who a).2)
    (h0 : 0 ≤ IntKind.wrap .i64 (6 + who)) (h1 : IntKind.wrap .i64 (6 + who) < m.n) (hp : m.peek (IntKind.wrap .i64 (6 + who)) = 1) (hst : m.steps < IntKind.wrap .i64 (m.steps + 1)) : pinsGood c who (n + 2) 3 ⟨p, 1, w, o⟩ m = true := by
  have hw : m'.w = m.w ∧ m'.n = m.n ∧ (m'.steps = m.steps ∨ m'.steps = IntKind.wrap .i64 (m.steps + 1)) := by
    rcases hm with rfl | ⟨a, rfl⟩
    · exact ⟨rfl, rfl, .inl rfl⟩
    · exact eLoad_or m who a
  have hp' : m'.peek (IntKind.wrap .i64 (6 + who)) = 1 := by rw [peek_same hw.1 hw.2.1]; exact hp
  rw [pinsGood_step h ?_ ?_ ?_]
  · exact out_good (by omega) h0 (by rw [hw.2.1]; exact h1) hp'
  · rcases hw.2.2 with e | e <;> rw [e] <;> simp <;> omega
  · simp [hp]
  · simp [hp']

theorem lClass_cases (a : Int) : lClass a < 0 ∨ (1 ≤ a ∧ a ≤ 16) := by
  by_cases h : 1 ≤ a ∧ a ≤ 16
  · exact .inr h
  · left
    unfold lClass lClassK
    by_cases h1 : 1 ≤ a
    · have hi : ∀ C : Int, C ≤ 16 → decide (a ≤ C) = false := by intro C hC; simp; omega
      simp (disch := decide) only [hi, decide_eq_true h1, cond_true, cond_false]
      decide
    · simp only [decide_eq_false h1, cond_false]
      decide

theorem handle_nonneg (a : Int) : 0 ≤ (handle a).1 := by
  unfold handle handleK
  cases !decide (Int.fdiv a (2 ^ min (Int.toNat 32) (IntKind.bits IntKind.u64)) = 0) with
  | true => exact Int.le_refl _
  | false =>
    simp only [cond_false]
    cases decide (Int.fdiv a (2 ^ min (Int.toNat 16) (IntKind.bits IntKind.u64)) = 0) with
    | true => exact Int.le_refl _
    | false =>
      simp only [cond_false]
      have h : (BitVec.ofInt (IntKind.bits IntKind.u64) a &&& BitVec.ofInt (IntKind.bits IntKind.u64) 65535).toNat ≤ 65535 := by
        rw [BitVec.toNat_and]
        exact Nat.le_trans Nat.and_le_right (by decide)
      generalize (BitVec.ofInt (IntKind.bits IntKind.u64) a &&& BitVec.ofInt (IntKind.bits IntKind.u64) 65535).toNat = t at h
      rw [IntWalk.u64_in _ (by omega), IntWalk.i64_in _ (by omega)]
      omega

abbrev pc0 : PCfg := ⟨4, 6, 4, 40, 100, 600, 3⟩

def pm0 : PMem := arM 4 6 4 40
def pm1 (who : Int) : PMem := (pm0.eLoad who 0).2
def pm2 (who : Int) : PMem := (pm1 who).eStore who (IntKind.wrap .i64 (6 + who)) (IntKind.wrap .u64 ((pm0.eLoad who 0).1 + 1))
def pm3 (who : Int) : PMem := ((pm2 who).eLoad who 0).2

/-- What is so at the beginning. -/
def pinChk (who : Int) : Bool :=
  !decide (IntKind.wrap .i64 (pm0.steps + 1) < (pm1 who).steps) && (!decide (IntKind.wrap .i64 ((pm1 who).steps + 1) < (pm2 who).steps) && (!decide (IntKind.wrap .i64 ((pm2 who).steps + 1) < (pm3 who).steps) &&
  (!decide ((pm1 who).peek (IntKind.wrap .i64 (6 + who)) = 1) && (!decide ((pm3 who).peek (IntKind.wrap .i64 (6 + who)) = 0) && (decide (((pm2 who).eLoad who 0).1 = (pm0.eLoad who 0).1) &&
  (decide ((pm3 who).peek (IntKind.wrap .i64 (6 + who)) = 1) && (decide (0 ≤ IntKind.wrap .i64 (6 + who)) && (decide (IntKind.wrap .i64 (6 + who) < (pm3 who).n) && (decide ((pm3 who).steps < IntKind.wrap .i64 ((pm3 who).steps + 1)) &&
  (decide (pm0.peek (IntKind.wrap .i64 (6 + who)) = 0) && (List.range 6).all fun s => decide ((slotOf ((pm3 who).eLoad who (lSlot 4 6 4 40 100 600 3 (s : Nat))).1).1 = 0)))))))))))

def whos : List Int := [0, 1, 2, 3]

theorem pinChk_all : whos.all pinChk = true := by kernel_rfl

/-- Whoever makes something of a size that may be. -/
def pinAlloc (who : Int) (s : Nat) (own : Bool) : Bool :=
  pinsGood pc0 who 297 3 ⟨⟨2, (pm0.eLoad who 0).1⟩, 1, .alloc ⟨(s : Int), own, 0, ⟨0, 0, 0, 0, false⟩, 0, 0, none, 0, 0, none, ⟨0, 0, 0, 0⟩⟩, ⟨0, 0, 0, 0⟩⟩ (pm3 who)

theorem pinAlloc_all : (whos.all fun who => (List.range 17).all fun s => Nat.beq s 0 || (pinAlloc who s true && pinAlloc who s false)) = true := by kernel_rfl

theorem pinAlloc_of {who : Int} (hw : who ∈ whos) {s : Nat} (h1 : 1 ≤ s) (h2 : s ≤ 16) (own : Bool) : pinAlloc who s own = true := by
  have h := List.all_eq_true.1 (List.all_eq_true.1 pinAlloc_all who hw) s (List.mem_range.2 (by omega))
  have h0 : Nat.beq s 0 = false := by
    cases s with
    | zero => omega
    | succ s => rfl
  rw [h0, Bool.false_or, Bool.and_eq_true] at h
  cases own
  · exact h.2
  · exact h.1

theorem live_dead {b c d p q : Int} : live 0 b c d p q = false := rfl

/-- Whatever act: alone, at the beginning. -/
theorem pins_all {who : Int} (hw : who ∈ whos) (k x2 x3 x4 x5 x6 : Int) (x7 : Bool) : pinsGood pc0 who 300 0 (actMk k x2 x3 x4 x5 x6 x7) pm0 = true := by
  have hc := List.all_eq_true.1 pinChk_all who hw
  unfold pinChk at hc
  simp only [Bool.and_eq_true, Bool.not_eq_true', decide_eq_true_eq] at hc
  obtain ⟨f1, f2, f3, f4, f5, f6, f7, f8, f9, f10, f11, f12⟩ := hc
  have hpre : ∀ w : PWork, pinsGood pc0 who 300 0 ⟨⟨0, 0⟩, 0, w, ⟨0, 0, 0, 0⟩⟩ pm0 = pinsGood pc0 who 297 3 ⟨⟨2, (pm0.eLoad who 0).1⟩, 1, w, ⟨0, 0, 0, 0⟩⟩ (pm3 who) := by
    intro w
    have e1 : pinsGood pc0 who 300 0 ⟨⟨0, 0⟩, 0, w, ⟨0, 0, 0, 0⟩⟩ pm0 = pinsGood pc0 who 299 (0 + 1) ⟨⟨1, (pm0.eLoad who 0).1⟩, 0, w, ⟨0, 0, 0, 0⟩⟩ (pm1 who) :=
      pinsGood_step (n := 299) (act_in0 pc0 who 0 w _ pm0) f1 rfl rfl
    have e2 : pinsGood pc0 who 299 (0 + 1) ⟨⟨1, (pm0.eLoad who 0).1⟩, 0, w, ⟨0, 0, 0, 0⟩⟩ (pm1 who) = pinsGood pc0 who 298 (0 + 1 + 1) ⟨⟨2, (pm0.eLoad who 0).1⟩, 0, w, ⟨0, 0, 0, 0⟩⟩ (pm2 who) :=
      pinsGood_step (n := 298) (act_in1 pc0 who _ w _ (pm1 who)) f2 rfl (by rw [f4, Bool.and_false, Bool.and_false])
    have e3 : pinsGood pc0 who 298 (0 + 1 + 1) ⟨⟨2, (pm0.eLoad who 0).1⟩, 0, w, ⟨0, 0, 0, 0⟩⟩ (pm2 who) = pinsGood pc0 who 297 (0 + 1 + 1 + 1) ⟨⟨2, (pm0.eLoad who 0).1⟩, 1, w, ⟨0, 0, 0, 0⟩⟩ (pm3 who) :=
      pinsGood_step (n := 297) (act_in2 pc0 who _ w _ (pm2 who) f6) f3 rfl (by
        show (_ && (decide ((pm3 who).peek _ = 0) && _)) = false
        rw [f5, Bool.false_and, Bool.and_false])
    exact e1.trans (e2.trans e3)
  have hdead : ∀ s : Int, 0 ≤ s → ¬ pc0.slots ≤ s → (slotOf ((pm3 who).eLoad who (lSlot 4 6 4 40 100 600 3 s)).1).1 = 0 := by
    intro s h0 h6
    have h6 : s < 6 := by
      have : pc0.slots = 6 := rfl
      omega
    have := List.all_eq_true.1 f12 s.toNat (List.mem_range.2 (by omega))
    rw [Int.toNat_of_nonneg h0] at this
    exact of_decide_eq_true this
  unfold actMk
  rw [hpre]
  unfold workMk
  cases hk : decide (k = 1) with
  | true =>
    simp only [cond_true]
    rcases lClass_cases x2 with hl | ⟨h1, h2⟩
    · refine work_good (w' := .alloc ⟨x2, x7, 0, ⟨0, 0, 0, 0, false⟩, 0, 0, none, 0, 0, none, ⟨5, 0, 0, (pm3 who).steps⟩⟩) (o' := ⟨5, 0, 0, (pm3 who).steps⟩) (m' := pm3 who) ?_ (.inl rfl) f8 f9 f7 f10
      show actStep_alloc pc0 who _ _ _ = _
      unfold actStep_alloc actStep_allocK
      have hs : allocStep pc0 who ⟨x2, x7, 0, ⟨0, 0, 0, 0, false⟩, 0, 0, none, 0, 0, none, ⟨0, 0, 0, 0⟩⟩ (pm3 who) = (true, ⟨x2, x7, 0, ⟨0, 0, 0, 0, false⟩, 0, 0, none, 0, 0, none, ⟨5, 0, 0, (pm3 who).steps⟩⟩, pm3 who) := by
        show allocStep00 _ _ _ _ = _
        unfold allocStep00 allocStep00K
        simp only [decide_true, cond_true, decide_eq_true hl]
      rw [hs]
      rfl
    · have := pinAlloc_of hw (s := x2.toNat) (by omega) (by omega) x7
      unfold pinAlloc at this
      rw [Int.toNat_of_nonneg (by omega)] at this
      exact this
  | false =>
    simp only [cond_false]
    cases hk2 : decide (k = 2) with
    | true =>
      simp only [cond_true]
      obtain ⟨d', m', hs, hm⟩ : ∃ d' m', dropStep pc0 who ⟨x3, x7, 0, 0, 0, 0, 0, none, none, ⟨0, 0, 0, 0⟩⟩ (pm3 who) = (true, d', m') ∧ (m' = pm3 who ∨ ∃ a, m' = ((pm3 who).eLoad who a).2) := by
        show ∃ d' m', dropStep00 _ _ _ _ = _ ∧ _
        unfold dropStep00 dropStep00K
        simp only [decide_true, cond_true]
        cases h1 : (handle x3).2.2 with
        | false => exact ⟨_, _, rfl, .inl rfl⟩
        | true =>
          simp only [Bool.not_true, cond_false]
          by_cases h2 : pc0.slots ≤ (handle x3).1
          · rw [decide_eq_true h2]
            exact ⟨_, _, rfl, .inl rfl⟩
          · rw [decide_eq_false h2]
            simp only [cond_false, hdead _ (handle_nonneg x3) h2, live_dead, Bool.not_false, cond_true]
            exact ⟨_, _, rfl, .inr ⟨_, rfl⟩⟩
      refine work_good (w' := .drop d') (o' := d'.out) (m' := m') ?_ hm f8 f9 f7 f10
      show actStep_drop pc0 who _ _ _ = _
      unfold actStep_drop actStep_dropK
      rw [hs]
      rfl
    | false =>
      simp only [cond_false]
      obtain ⟨d', m', hs, hm⟩ : ∃ d' m', accessStep pc0 who ⟨⟨IntKind.wrap IntKind.i64 (IntKind.wrap IntKind.i64 (k - 3) + 1), x3, x4, x5, x6⟩, x7, 0, 0, 0, 0, 0, 0, 0, 0, none, ⟨0, 0, 0, 0⟩⟩ (pm3 who) = (true, d', m') ∧
          (m' = pm3 who ∨ ∃ a, m' = ((pm3 who).eLoad who a).2) := by
        show ∃ d' m', accessStep0 _ _ _ _ = _ ∧ _
        unfold accessStep0 accessStep0K
        simp only [decide_true, cond_true]
        cases h1 : (handle x3).2.2 with
        | false => exact ⟨_, _, rfl, .inl rfl⟩
        | true =>
          simp only [Bool.not_true, cond_false]
          by_cases h2 : pc0.slots ≤ (handle x3).1
          · rw [decide_eq_true h2]
            exact ⟨_, _, rfl, .inl rfl⟩
          · rw [decide_eq_false h2]
            simp only [cond_false, hdead _ (handle_nonneg x3) h2, live_dead, Bool.not_false, cond_true]
            exact ⟨_, _, rfl, .inr ⟨_, rfl⟩⟩
      refine work_good (w' := .access d') (o' := d'.out) (m' := m') ?_ hm f8 f9 f7 f10
      show actStep_access pc0 who _ _ _ = _
      unfold actStep_access actStep_accessK
      rw [hs]
      rfl

end Go.FL
