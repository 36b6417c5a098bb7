/-
  A region whose order is drawn.
-/
import Derived.Test.YtfjnkneoddankaaGreatEvQuiet
import Derived.OrdersHeld
set_option linter.unusedVariables false
set_option linter.unusedSimpArgs false
set_option linter.unusedSectionVars false
namespace Go.FL

section
variable {P : Program} {ops : Array Oper} {Q : Exit → Act → World → Prop}

abbrev md : Region.Mode := .any

/-- What is listed is listed with all that it waits for. -/
def Closed (ops : Array Oper) (L : Array Bool) : Prop :=
  L.size = ops.size ∧ ∀ (i : Nat) (o : Oper), ops[i]? = some o → L.getD i false = true → ∀ e ∈ o.after, Region.binds md e = true → L.getD e.on false = true

theorem Closed.set {L : Array Bool} (h : Closed ops L) {i : Nat} (hi : i ∈ Region.ready md ops L) : Closed ops (L.setIfInBounds i true) := by
  refine ⟨by simpa using h.1, fun k o hk hl e he hb => ?_⟩
  obtain ⟨h0, oi, hoi, hall⟩ := mem_ready.1 hi
  by_cases hki : k = i
  · subst hki
    rw [hoi] at hk; cases hk
    exact getD_set_true (hall e he hb)
  · rw [getD_set_ne false (Ne.symm hki)] at hl
    exact getD_set_true (h.2 k o hk hl e he hb)

def wpAnyS (P : Program) (ops : Array Oper) (Q : Exit → Act → World → Prop) (S : Array Bool → World → Prop) : Nat → Array Bool → Act → World → Prop
  | 0, L, a, w => Region.ready md ops L = [] ∧ Q .normal a w
  | f + 1, L, a, w => (Region.ready md ops L = [] → Q .normal a w) ∧
    ∀ i ∈ Region.ready md ops L, wpOp P ops Q i (fun a' w' => S (L.setIfInBounds i true) w' ∧ wpAnyS P ops Q S f (L.setIfInBounds i true) a' w') a w

theorem wpAnyS_any {S : Array Bool → World → Prop} : ∀ (f : Nat) (L : Array Bool) (a : Act) (w : World), wpAnyS P ops Q S f L a w → wpAny P md ops Q f L a w
  | 0, _, _, _, h => h
  | f + 1, _, _, _, h => ⟨h.1, fun i hi => wpOp_mono (fun a' w' h' => wpAnyS_any f _ a' w' h'.2) (h.2 i hi)⟩

theorem wpAnyS_mono {S S' : Array Bool → World → Prop} (hs : ∀ L w, S L w → S' L w) : ∀ (f : Nat) (L : Array Bool) (a : Act) (w : World), wpAnyS P ops Q S f L a w → wpAnyS P ops Q S' f L a w
  | 0, _, _, _, h => h
  | f + 1, _, _, _, h => ⟨h.1, fun i hi => wpOp_mono (fun a' w' h' => ⟨hs _ _ h'.1, wpAnyS_mono hs f _ a' w' h'.2⟩) (h.2 i hi)⟩

theorem wpAnyS_done {S : Array Bool → World → Prop} {L : Array Bool} {a : Act} {w : World} (hr : Region.ready md ops L = []) (h : Q .normal a w) : ∀ f, wpAnyS P ops Q S f L a w
  | 0 => ⟨hr, h⟩
  | _ + 1 => ⟨fun _ => h, by rw [hr]; simp⟩

/-- A quiet operation may be taken first. -/
theorem wpAnyS_first {S : Array Bool → World → Prop} {i : Nat} {oi : Oper} {v : Value} (hi : ops[i]? = some oi) (hsel : ∀ (j : Nat) (o : Oper) cs b, ops[j]? = some o → o.op ≠ .select cs b)
    (hQ : ∀ c a w, Q (.panic c) (a.put oi.dst v) w → Q (.panic c) a w) (hmono : ∀ L w k, S L w → S (L.setIfInBounds k true) w) (hSi : ∀ L w, S (L.setIfInBounds i true) w → S L w) :
    ∀ (fuel : Nat) (L : Array Bool) (a : Act) (w : World), Closed ops L →
      (∀ j oj, ops[j]? = some oj → j ≠ i → L.getD j true = false → (∀ e ∈ oj.after, Region.binds md e = true → e.on ≠ i) → oi.apart ops oj = true) →
      i ∈ Region.ready md ops L → YieldsIf P ops (fun w => ∃ L', Closed ops L' ∧ L'.getD i true = false ∧ S L' w) oi v a → S L w →
      wpAnyS P ops Q S fuel (L.setIfInBounds i true) (a.put oi.dst v) w → wpAnyS P ops Q S (fuel + 1) L a w := by
  intro fuel
  induction fuel with
  | zero =>
    intro L a w hcl _ hr hy hS H
    have hun := (mem_ready.1 hr).1
    refine ⟨fun h => (by rw [h] at hr; cases hr), fun j hj => ?_⟩
    by_cases hji : j = i
    · subst hji; exact hy.wpOp hi ⟨L, hcl, hun, hS⟩ ⟨hmono _ _ _ hS, H⟩
    · have := ready_mono hj hji
      rw [H.1] at this
      cases this
  | succ fuel ih =>
    intro L a w hcl hfree hr hy hS H
    have hun := (mem_ready.1 hr).1
    refine ⟨fun h => (by rw [h] at hr; cases hr), fun j hj => ?_⟩
    by_cases hji : j = i
    · subst hji; exact hy.wpOp hi ⟨L, hcl, hun, hS⟩ ⟨hmono _ _ _ hS, H⟩
    · have h1 := H.2 j (ready_mono hj hji)
      obtain ⟨hjun, oj, hoj, hall⟩ := mem_ready.1 hj
      have hnot : ∀ e ∈ oj.after, Region.binds md e = true → e.on ≠ i := fun e he hb heq => by
        have h1 := hall e he hb
        rw [heq] at h1
        rcases Nat.lt_or_ge i L.size with h' | h'
        · simp [h'] at hun h1; rw [hun] at h1; cases h1
        · simp [Array.getElem?_eq_none h'] at h1
      have h2 := wpOp_putIf hoj (hfree j oj hoj hji hjun hnot) (fun cs b => hsel i oi cs b hi) (fun cs b => hsel j oj cs b hoj) hQ hy h1
      have hfree' : ∀ k ok, ops[k]? = some ok → k ≠ i → (L.setIfInBounds j true).getD k true = false →
          (∀ e ∈ ok.after, Region.binds md e = true → e.on ≠ i) → oi.apart ops ok = true := fun k ok hk hki hun hno => by
        refine hfree k ok hk hki ?_ hno
        by_cases hjk : j = k
        · subst hjk; exact hjun
        · rw [getD_set_ne true hjk] at hun; exact hun
      refine wpOp_mono (fun a' w' h3 => ?_) h2
      have hS' : S (L.setIfInBounds j true) w' := hSi _ _ (by rw [Array.setIfInBounds_comm _ _ hji]; exact h3.2.1)
      refine ⟨hS', ih (L.setIfInBounds j true) a' w' (hcl.set hj) hfree' (ready_mono hr (Ne.symm hji)) h3.1 hS' ?_⟩
      rw [Array.setIfInBounds_comm _ _ hji]
      exact h3.2.2

/-! ### The evaluator's words and the kit's -/

theorem testBit_depMask (es : List Edge) (j : Nat) : (depMask es).testBit j = true ↔ ∃ e ∈ es, Region.binds md e = true ∧ e.on = j := by
  induction es with
  | nil => simp [depMask]
  | cons e r ih =>
    simp only [depMask]
    split
    · rename_i hb
      rw [show Nat.lor (Nat.shiftLeft 1 e.on) (depMask r) = (1 <<< e.on) ||| depMask r from rfl, Nat.testBit_or, Bool.or_eq_true, ih, Nat.testBit_shiftLeft]
      constructor
      · rintro (h | ⟨e', he, hb', hj⟩)
        · refine ⟨e, by simp, hb, ?_⟩
          simp at h
          have := h.2
          rw [show (1 : Nat) = 2 ^ 0 from rfl, Nat.testBit_two_pow] at this
          simp at this
          omega
        · exact ⟨e', by simp [he], hb', hj⟩
      · rintro ⟨e', he, hb', hj⟩
        rcases List.mem_cons.1 he with rfl | he
        · left; subst hj; simp
        · exact .inr ⟨e', he, hb', hj⟩
    · rename_i hb
      rw [ih]
      constructor
      · rintro ⟨e', he, hb', hj⟩; exact ⟨e', by simp [he], hb', hj⟩
      · rintro ⟨e', he, hb', hj⟩
        rcases List.mem_cons.1 he with rfl | he
        · rw [hb] at hb'; cases hb'
        · exact ⟨e', he, hb', hj⟩

/-- The mask of what is listed. -/
def MaskOf (m : Nat) (L : Array Bool) : Prop := ∀ i, L.getD i false = m.testBit i

theorem MaskOf.set {m : Nat} {L : Array Bool} (h : MaskOf m L) {i : Nat} (hi : i < L.size) : MaskOf (Nat.lor m (Nat.shiftLeft 1 i)) (L.setIfInBounds i true) := by
  intro j
  rw [show Nat.lor m (Nat.shiftLeft 1 i) = m ||| (1 <<< i) from rfl, Nat.testBit_or, Nat.testBit_shiftLeft]
  by_cases hij : i = j
  · subst hij
    simp [Array.getD_eq_getD_getElem?, Array.getElem?_setIfInBounds_self_of_lt hi]
  · rw [getD_set_ne false hij, h j]
    have : (decide (i ≤ j) && (1 : Nat).testBit (j - i)) = false := by
      rw [Bool.and_eq_false_iff]
      by_cases hle : i ≤ j
      · right
        rw [show (1 : Nat) = 2 ^ 0 from rfl, Nat.testBit_two_pow]
        simp; omega
      · left; simp [hle]
    rw [show (decide (j ≥ i) && (1 : Nat).testBit (j - i)) = false from this]
    simp

theorem mask_all {m : Nat} {L : Array Bool} (h : MaskOf m L) (es : List Edge) : Nat.beq (Nat.land (depMask es) m) (depMask es) = true ↔ ∀ e ∈ es, Region.binds md e = true → L.getD e.on false = true := by
  rw [Nat.beq_eq, show Nat.land (depMask es) m = depMask es &&& m from rfl]
  constructor
  · intro heq e he hb
    rw [h]
    have h1 : (depMask es).testBit e.on = true := (testBit_depMask es e.on).2 ⟨e, he, hb, rfl⟩
    have h2 : (depMask es &&& m).testBit e.on = true := by rw [heq]; exact h1
    rw [Nat.testBit_and] at h2
    simp at h2
    exact h2.2
  · intro hall
    apply Nat.eq_of_testBit_eq
    intro j
    rw [Nat.testBit_and]
    cases hj : (depMask es).testBit j with
    | false => rfl
    | true =>
      obtain ⟨e, he, hb, rfl⟩ := (testBit_depMask es j).1 hj
      have := hall e he hb
      rw [h] at this
      simp [this]

theorem readyA_mem {m : Nat} {L : Array Bool} (h : MaskOf m L) (hsz : L.size = ops.size) : ∀ (l : List Oper) (k : Nat), (∀ j, l[j]? = ops[k + j]?) → ∀ i, i ∈ readyA m l k ↔ (k ≤ i ∧ i ∈ Region.ready md ops L)
  | [], k, hl, i => by
    simp only [readyA, List.not_mem_nil, false_iff]
    rintro ⟨hki, hi⟩
    obtain ⟨_, o, ho, _⟩ := mem_ready.1 hi
    have := hl (i - k)
    rw [show k + (i - k) = i by omega, ho] at this
    simp at this
  | o :: l, k, hl, i => by
    have h0 : ops[k]? = some o := by simpa using (hl 0).symm
    have hk : k < ops.size := (Array.getElem?_eq_some_iff.1 h0).1
    have ih := readyA_mem h hsz l (k + 1) (fun j => by have := hl (j + 1); simpa [Nat.add_assoc, Nat.add_comm 1 j] using this) i
    have hbit : L.getD k true = m.testBit k := by
      rw [← h k]
      simp [Array.getD_eq_getD_getElem?, Array.getElem?_eq_getElem (show k < L.size by omega)]
    have hrk : k ∈ Region.ready md ops L ↔ (m.testBit k = false ∧ Nat.beq (Nat.land (depMask o.after.toList) m) (depMask o.after.toList) = true) := by
      rw [mem_ready, hbit, mask_all h]
      constructor
      · rintro ⟨h1, o', h2, h3⟩
        rw [h0] at h2; cases h2
        exact ⟨h1, fun e he => h3 e (by simpa using he)⟩
      · rintro ⟨h1, h2⟩
        exact ⟨h1, o, h0, fun e he => h2 e (by simpa using he)⟩
    have split1 : (k ≤ i ∧ i ∈ Region.ready md ops L) ↔ ((i = k ∧ k ∈ Region.ready md ops L) ∨ (k + 1 ≤ i ∧ i ∈ Region.ready md ops L)) := by
      constructor
      · rintro ⟨h1, h2⟩
        rcases Nat.eq_or_lt_of_le h1 with rfl | h3
        · exact .inl ⟨rfl, h2⟩
        · exact .inr ⟨h3, h2⟩
      · rintro (⟨rfl, h2⟩ | ⟨h1, h2⟩)
        · exact ⟨Nat.le_refl _, h2⟩
        · exact ⟨by omega, h2⟩
    rw [split1, ← ih, hrk]
    simp only [readyA]
    cases hb : m.testBit k with
    | true => simp
    | false =>
      cases hm : Nat.beq (Nat.land (depMask o.after.toList) m) (depMask o.after.toList) with
      | true => simp
      | false => simp

theorem pickQuiet_spec {l : List Oper} : ∀ {is : List Nat} {q : Nat}, pickQuiet l is = some q → q ∈ is ∧ ∃ o, l[q]? = some o ∧ quietOp o.op = true
  | [], q, h => by simp [pickQuiet] at h
  | i :: r, q, h => by
    simp only [pickQuiet] at h
    split at h
    · rename_i o ho
      split at h
      · rename_i hq
        cases h
        rw [lget_eq] at ho
        exact ⟨by simp, o, ho, hq⟩
      · obtain ⟨h1, h2⟩ := pickQuiet_spec h
        exact ⟨by simp [h1], h2⟩
    · cases h

theorem pickQuiet_none {l : List Oper} : ∀ {is : List Nat}, pickQuiet l is = none → (∀ i ∈ is, i < l.length) → ∀ i ∈ is, ∃ o, l[i]? = some o ∧ quietOp o.op = false
  | [], h, hl, i, hi => by simp at hi
  | i :: r, h, hl, k, hk => by
    have hi := hl i (by simp)
    simp only [pickQuiet, lget_eq, List.getElem?_eq_getElem hi] at h
    split at h
    · cases h
    · rename_i hq
      rcases List.mem_cons.1 hk with rfl | hk
      · exact ⟨_, List.getElem?_eq_getElem hi, hq⟩
      · exact pickQuiet_none h (fun j hj => hl j (by simp [hj])) k hk

theorem freeA_spec {m i : Nat} {oi : Oper} {L : Array Bool} (h : MaskOf m L) (hsz : L.size = ops.size) : ∀ (l : List Oper) (k : Nat), (∀ j, l[j]? = ops[k + j]?) → freeA ops m i oi l k = true →
    ∀ (j : Nat) (oj : Oper), k ≤ j → ops[j]? = some oj → j ≠ i → L.getD j true = false → (∀ e ∈ oj.after, Region.binds md e = true → e.on ≠ i) → oi.apart ops oj = true
  | [], k, hl, _, j, oj, hkj, hj, _, _, _ => by
    have := hl (j - k)
    rw [show k + (j - k) = j by omega, hj] at this
    simp at this
  | o :: l, k, hl, hf, j, oj, hkj, hj, hne, hun, hno => by
    have h0 : ops[k]? = some o := by simpa using (hl 0).symm
    have hrec := fun (hf' : freeA ops m i oi l (k + 1) = true) (hkj' : k + 1 ≤ j) => freeA_spec h hsz l (k + 1) (fun j => by have := hl (j + 1); simpa [Nat.add_assoc, Nat.add_comm 1 j] using this) hf' j oj hkj' hj hne hun hno
    simp only [freeA] at hf
    by_cases hjk : j = k
    · subst hjk
      rw [h0] at hj; cases hj
      split at hf
      · rename_i hc
        exfalso
        simp only [Bool.or_eq_true] at hc
        have hlt : j < L.size := by rw [hsz]; exact (Array.getElem?_eq_some_iff.1 h0).1
        rcases hc with (hc | hc) | hc
        · have := Nat.eq_of_beq_eq_true hc; omega
        · rw [← h j] at hc
          simp [Array.getD_eq_getD_getElem?, Array.getElem?_eq_getElem hlt] at hc hun
          rw [hc] at hun; cases hun
        · obtain ⟨e, he, hb, heq⟩ := (testBit_depMask _ _).1 hc
          exact hno e (by simpa using he) hb heq
      · split at hf
        · rename_i hap; exact hap
        · cases hf
    · split at hf
      · exact hrec hf (by omega)
      · split at hf
        · exact hrec hf (by omega)
        · cases hf

theorem nextA_done {m : Nat} {L : Array Bool} (h : MaskOf m L) (hsz : L.size = ops.size) (hn : nextA ops m = .done) : Region.ready md ops L = [] := by
  unfold nextA at hn
  split at hn
  · rename_i h0
    have := readyA_mem h hsz ops.toList 0 (by simp)
    rw [h0] at this
    rw [List.eq_nil_iff_forall_not_mem]
    intro i hi
    exact absurd ((this i).2 ⟨Nat.zero_le _, hi⟩) (by simp)
  · split at hn
    · split at hn
      · split at hn <;> cases hn
      · cases hn
    · cases hn

theorem nextA_quiet {m : Nat} {L : Array Bool} (h : MaskOf m L) (hsz : L.size = ops.size) {i : Nat} (hn : nextA ops m = .quiet i) : i ∈ Region.ready md ops L ∧ ∃ o, ops[i]? = some o ∧ quietOp o.op = true ∧
    ∀ j oj, ops[j]? = some oj → j ≠ i → L.getD j true = false → (∀ e ∈ oj.after, Region.binds md e = true → e.on ≠ i) → o.apart ops oj = true := by
  unfold nextA at hn
  split at hn
  · cases hn
  · rename_i k r hr
    split at hn
    · rename_i q hq
      obtain ⟨h1, o, h2, h3⟩ := pickQuiet_spec hq
      rw [lget_eq, h2] at hn
      simp only at hn
      split at hn
      · rename_i hf
        have hqi : q = i := by cases hn; rfl
        subst hqi
        have := (readyA_mem h hsz ops.toList 0 (by simp) q).1 (by rw [hr]; exact h1)
        refine ⟨this.2, o, by simpa using h2, h3, fun j oj hj hne hun hno => freeA_spec h hsz ops.toList 0 (by simp) hf j oj (Nat.zero_le _) hj hne hun hno⟩
      · cases hn
    · cases hn

theorem nextA_any {m : Nat} {L : Array Bool} (h : MaskOf m L) (hsz : L.size = ops.size) {l : List Nat} (hn : nextA ops m = .any l) : l ≠ [] ∧ ∀ j, j ∈ l ↔ j ∈ Region.ready md ops L := by
  unfold nextA at hn
  split at hn
  · cases hn
  · rename_i k r hr
    split at hn
    · split at hn
      · split at hn <;> cases hn
      · cases hn
    · cases hn
      have hm := readyA_mem h hsz ops.toList 0 (by simp)
      rw [hr] at hm
      exact ⟨by simp, fun j => by rw [hm j]; simp⟩

theorem nextA_loud {m : Nat} {L : Array Bool} (h : MaskOf m L) (hsz : L.size = ops.size) {l : List Nat} (hn : nextA ops m = .any l) : ∀ j ∈ l, ∃ o, ops[j]? = some o ∧ quietOp o.op = false := by
  unfold nextA at hn
  split at hn
  · cases hn
  · rename_i k r hr
    split at hn
    · split at hn
      · split at hn <;> cases hn
      · cases hn
    · rename_i hq
      cases hn
      have hm := readyA_mem h hsz ops.toList 0 (by simp)
      rw [hr] at hm
      intro j hj
      obtain ⟨o, h1, h2⟩ := pickQuiet_none hq (by
        intro i hi
        obtain ⟨_, o, ho, _⟩ := mem_ready.1 ((hm i).1 hi).2
        have := (Array.getElem?_eq_some_iff.1 ho).1
        simpa using this) j hj
      exact ⟨o, by simpa using h1, h2⟩

theorem andA_spec {f : Nat → Prop} : ∀ {l : List Nat}, andA l f → ∀ i ∈ l, f i
  | [], _, i, hi => by simp at hi
  | [j], h, i, hi => by simp at hi; subst hi; exact h
  | j :: k :: r, h, i, hi => by
    rcases List.mem_cons.1 hi with rfl | hi
    · exact h.1
    · exact andA_spec (l := k :: r) h.2 i hi

def cnt (L : Array Bool) : Nat := L.toList.countP (fun b => !b)

theorem countP_set : ∀ (l : List Bool) (i : Nat), l[i]? = some false → (l.set i true).countP (fun b => !b) + 1 = l.countP (fun b => !b)
  | [], i, h => by simp at h
  | x :: l, 0, h => by simp at h; subst h; simp
  | x :: l, i + 1, h => by
    have := countP_set l i (by simpa using h)
    simp only [List.set_cons_succ, List.countP_cons]
    omega

theorem cnt_set {L : Array Bool} {i : Nat} (h : L.getD i true = false) : i < L.size ∧ cnt (L.setIfInBounds i true) + 1 = cnt L := by
  have hi : L[i]? = some false := by
    rw [Array.getD_eq_getD_getElem?] at h
    cases hx : L[i]? with
    | none => rw [hx] at h; simp at h
    | some b => rw [hx] at h; simp at h; rw [h]
  refine ⟨(Array.getElem?_eq_some_iff.1 hi).1, ?_⟩
  unfold cnt
  rw [Array.toList_setIfInBounds]
  exact countP_set _ _ (by simpa using hi)

/-- What an operation waits for, at once or in the end. -/
inductive Reach (ops : Array Oper) : Nat → Nat → Prop where
  | one {i : Nat} {o : Oper} {e : Edge} : ops[i]? = some o → e ∈ o.after → Region.binds md e = true → Reach ops i e.on
  | more {i k j : Nat} : Reach ops i k → Reach ops k j → Reach ops i j

theorem Closed.reach {L : Array Bool} (h : Closed ops L) {i j : Nat} (hr : Reach ops i j) : L.getD i false = true → L.getD j false = true := by
  induction hr with
  | one ho he hb => exact fun hl => h.2 _ _ ho hl _ he hb
  | more _ _ ih1 ih2 => exact fun hl => ih2 (ih1 hl)

theorem closeM_spec {i : Nat} : ∀ (k m : Nat), (∀ j, m.testBit j = true → Reach ops i j) → ∀ j, (closeM ops.toList k m).testBit j = true → Reach ops i j
  | 0, m, h, j, hj => h j hj
  | k + 1, m, h, j, hj => by
    simp only [closeM] at hj
    split at hj
    · rename_i hb
      split at hj
      · rename_i o ho
        rw [lget_eq, Array.getElem?_toList] at ho
        refine closeM_spec k _ ?_ j hj
        intro j' hj'
        rw [show Nat.lor m (depMask o.after.toList) = m ||| depMask o.after.toList from rfl, Nat.testBit_or, Bool.or_eq_true] at hj'
        rcases hj' with hj' | hj'
        · exact h j' hj'
        · obtain ⟨e, he, hb', rfl⟩ := (testBit_depMask _ _).1 hj'
          exact .more (h k hb) (.one ho (by simpa using he) hb')
      · exact closeM_spec k m h j hj
    · exact closeM_spec k m h j hj

/-- The blocks that were loaded of are as they were, unless an operation that is not quiet, and stands behind the load, was carried out. -/
def SL (ops : Array Oper) (ls : List (Nat × Nat × Obj)) (L : Array Bool) (w : World) : Prop :=
  ∀ x ∈ ls, (∃ (i : Nat) (o : Oper), ops[i]? = some o ∧ L.getD i false = true ∧ quietOp o.op = false ∧ Reach ops i x.1) ∨ w.heap[x.2.1]? = some x.2.2

theorem SL.mono {ls : List (Nat × Nat × Obj)} {L : Array Bool} {w : World} {k : Nat} (h : SL ops ls L w) : SL ops ls (L.setIfInBounds k true) w := fun x hx => by
  rcases h x hx with ⟨i, o, h1, h2, h3⟩ | h
  · exact .inl ⟨i, o, h1, getD_set_true h2, h3⟩
  · exact .inr h

theorem SL.back {ls : List (Nat × Nat × Obj)} {i : Nat} {oi : Oper} (hi : ops[i]? = some oi) (hq : quietOp oi.op = true) (L : Array Bool) (w : World) (h : SL ops ls (L.setIfInBounds i true) w) : SL ops ls L w := fun x hx => by
  rcases h x hx with ⟨k, o, h1, h2, h3, h4⟩ | h
  · have hki : i ≠ k := by rintro rfl; rw [hi] at h1; cases h1; rw [hq] at h3; cases h3
    rw [getD_set_ne false hki] at h2
    exact .inl ⟨k, o, h1, h2, h3, h4⟩
  · exact .inr h

theorem clashA_spec {mk : Nat} {wr : List Nat} : ∀ {lds : List (Nat × Nat)}, clashA mk wr lds = false → ∀ j n, (j, n) ∈ lds → mk.testBit j = true ∨ n ∉ wr
  | [], _, j, n, h => by simp at h
  | (j', n') :: r, hc, j, n, h => by
    simp only [clashA] at hc
    rcases List.mem_cons.1 h with heq | h
    · cases heq
      split at hc
      · rename_i hb
        exact .inl hb
      · split at hc
        · cases hc
        · rename_i hn
          right
          intro hm
          have : wr.contains _ = true := List.contains_iff_mem.2 hm
          rw [this] at hn; cases hn
    · split at hc
      · exact clashA_spec hc j n h
      · split at hc
        · cases hc
        · exact clashA_spec hc j n h

theorem Rel.bl {s : Mp} {H H' : LH} {w : World} (h : Rel s H w) (hb : H'.bl = H.bl) : Rel s H' w := ⟨by rw [hb]; exact h.len, by rw [hb]; exact h.blk, h.dis, h.bnd⟩

variable {call : FuncId → List LV → LH → (LV → LH → Prop) → Prop}

theorem drawA_ok (hP : FnOK P) (hcall : CallOK P call) (hsel : ∀ (j : Nat) (o : Oper) cs b, ops[j]? = some o → o.op ≠ .select cs b) (hQ : ∀ c a w, ¬ Q (.panic c) a w) {nt : Nat} {K : Tm → LH → Prop} :
    ∀ (f : Nat) {m : Nat} {lds : List (Nat × Nat)} {T : Tm} {H : LH} {s : Mp} {a : Act} {w : World} {ls : List (Nat × Nat × Obj)} {L : Array Bool} (fuel : Nat),
    drawA P call nt ops f m lds T H K → MaskOf m L → Closed ops L → cnt L ≤ fuel → (∀ x ∈ ls, ∃ n, (x.1, n) ∈ lds ∧ hd s n = some x.2.1) → SL ops ls L w → RelT s nt T a → Rel s H w →
    (∀ s' T' H' a' w', K T' H' → RelT s' nt T' a' → Rel s' H' w' → Post s H w s' H' w' → Q .normal a' w') → wpAnyS P ops Q (SL ops ls) fuel L a w := by
  intro f
  induction f with
  | zero => intro m lds T H s a w ls L fuel h; exact h.elim
  | succ f ih =>
    intro m lds T H s a w ls L fuel h hm hcl hcnt hlds hS hT hH hn
    simp only [drawA] at h
    split at h
    · rename_i hnx
      exact wpAnyS_done (nextA_done hm hcl.1 hnx) (hn s T H a w h hT hH Post.rfl') fuel
    · exact h.elim
    · rename_i i hnx
      obtain ⟨hr, o, ho, hq, hfree⟩ := nextA_quiet hm hcl.1 hnx
      rw [lget_eq, Array.getElem?_toList, ho] at h
      simp only at h
      obtain ⟨hlt, hc1⟩ := cnt_set (mem_ready.1 hr).1
      obtain ⟨fuel, rfl⟩ : ∃ k, fuel = k + 1 := ⟨fuel - 1, by omega⟩
      obtain ⟨b, T1, h, hT1, hw⟩ := guardA_ok h hT
      have hw := hw o rfl
      cases b with
      | true =>
        obtain ⟨y, v, hK, hv, hcase⟩ := quietA_ok hq h hT1 hH
        obtain ⟨T', hK, hT'⟩ := putA_ok hK hT1 hv
        rcases hcase with ⟨hnl, hrun⟩ | ⟨hnl, n, r, ob, h1, h2, h3, hrun⟩
        · rw [hnl] at hK
          refine wpAnyS_first ho hsel (fun c a w h => absurd h (fun h => hQ _ _ _ h)) (fun L w k h => h.mono) (SL.back ho hq) fuel L a w hcl hfree hr (.inl ⟨hw, fun w' _ => hrun w'⟩) hS ?_
          exact ih fuel hK (hm.set hlt) (hcl.set hr) (by omega) hlds hS.mono hT' hH hn
        · rw [hnl, h1] at hK
          have hS' : SL ops ((i, r, ob) :: ls) L w := fun x hx => by
            rcases List.mem_cons.1 hx with rfl | hx
            · exact .inr h3
            · exact hS x hx
          refine wpAnyS_mono (S := SL ops ((i, r, ob) :: ls)) (fun L w h x hx => h x (by simp [hx])) _ _ _ _ ?_
          refine wpAnyS_first (v := v) ho hsel (fun c a w h => absurd h (fun h => hQ _ _ _ h)) (fun L w k h => h.mono) (SL.back ho hq) fuel L a w hcl hfree hr (.inl ⟨hw, ?_⟩) hS' ?_
          · rintro w' ⟨L', hcl', hun', hSL⟩
            rcases hSL (i, r, ob) (by simp) with ⟨k, ok, hk, hlk, hqk, hre⟩ | hob
            · exfalso
              have := hcl'.reach hre hlk
              simp only [Array.getD_eq_getD_getElem?] at this hun'
              cases hx : L'[i]? with
              | none => rw [hx] at this; simp at this
              | some b => rw [hx] at this hun'; simp at this hun'; rw [this] at hun'; cases hun'
            · exact hrun w' hob
          · refine ih fuel hK (hm.set hlt) (hcl.set hr) (by omega) ?_ hS'.mono hT' hH hn
            intro x hx
            rcases List.mem_cons.1 hx with rfl | hx
            · exact ⟨n, by simp, h2⟩
            · obtain ⟨n', h4, h5⟩ := hlds x hx
              exact ⟨n', by simp [h4], h5⟩
      | false =>
        obtain ⟨T', hK, hT'⟩ := putA_ok (v' := undef) h hT1 ⟨#[], rfl, trivial⟩
        refine wpAnyS_first ho hsel (fun c a w h => absurd h (fun h => hQ _ _ _ h)) (fun L w k h => h.mono) (SL.back ho hq) fuel L a w hcl hfree hr (.inr ⟨hw, rfl⟩) hS ?_
        exact ih fuel hK (hm.set hlt) (hcl.set hr) (by omega) hlds hS.mono hT' hH hn
    · rename_i l hnx
      obtain ⟨hne, hiff⟩ := nextA_any hm hcl.1 hnx
      have hloud := nextA_loud hm hcl.1 hnx
      obtain ⟨i0, hi0⟩ : ∃ i, i ∈ l := List.exists_mem_of_ne_nil l hne
      have hr0 := (hiff i0).1 hi0
      obtain ⟨hlt0, hc0⟩ := cnt_set (mem_ready.1 hr0).1
      obtain ⟨fuel, rfl⟩ : ∃ k, fuel = k + 1 := ⟨fuel - 1, by omega⟩
      refine ⟨fun h => (by rw [h] at hr0; cases hr0), fun j hj => ?_⟩
      have h := andA_spec h j ((hiff j).2 hj)
      have hr := hj
      obtain ⟨o, ho, hq⟩ := hloud j ((hiff j).2 hj)
      rw [lget_eq, Array.getElem?_toList, ho] at h
      simp only [execA] at h
      obtain ⟨hlt, hc1⟩ := cnt_set (mem_ready.1 hr).1
      obtain ⟨b, T1, h, hT1, hw⟩ := guardA_ok h hT
      have hw := hw o rfl
      unfold wpOp
      simp only [ho]
      have hH0 : Rel s ⟨H.bl, []⟩ w := hH.bl rfl
      cases b with
      | true =>
        rw [if_pos hw]
        refine .inl (opA_ok hP hcall h hT1 hH0 ?_)
        intro s' v v' H' w' hK hv hH' hp
        obtain ⟨T', hK, hT'⟩ := putA_ok hK (hT1.mono hp.hext) hv
        split at hK
        · exact hK.elim
        · rename_i hcl2
          have hsp := clashA_spec hcl2
          have hp' : Post s H w s' ⟨H'.bl, H'.wr ++ H.wr⟩ w' :=
            ⟨hp.hext, hp.len, hp.fresh, fun n hn hw => hp.keep n hn (fun h => hw (by simp [h])), fun n hn => by simp [hn], hp.size, fun y hy hno => hp.frame y hy fun n hn => hno n (by simp [hn]), hp.tape, hp.os, hp.output⟩
          have hS' : SL ops ls (L.setIfInBounds j true) w' := fun x hx => by
            rcases SL.mono (k := j) hS x hx with h | h
            · exact .inl h
            · obtain ⟨n, h1, h2⟩ := hlds x hx
              rcases hsp x.1 n h1 with hb | hnw
              · refine .inl ⟨j, o, ho, ?_, hq, closeM_spec (i := j) _ _ (fun j' hj' => by
                  obtain ⟨e, he, hb', rfl⟩ := (testBit_depMask _ _).1 hj'
                  exact .one ho (by simpa using he) hb') _ hb⟩
                simp [Array.getD_eq_getD_getElem?, Array.getElem?_setIfInBounds_self_of_lt hlt]
              · right
                rw [hp.frame x.2.1 (hH.len_heap n _ h2) ?_]
                · exact h
                · intro n' hn' hs'
                  obtain ⟨f, hf⟩ := hd_some h2
                  have := hH.dis n n' _ ⟨_, f, hf, .inl rfl⟩ hs'
                  subst this
                  exact hnw hn'
          refine ⟨hS', ih fuel hK (hm.set hlt) (hcl.set hr) (by omega) ?_ hS' hT' (hH'.bl rfl) ?_⟩
          · intro x hx
            obtain ⟨n, h1, h2⟩ := hlds x hx
            exact ⟨n, h1, hp.hext _ _ h2⟩
          · intro s'' T'' H'' a'' w'' h1 h2 h3 h4
            exact hn s'' T'' H'' a'' w'' h1 h2 h3 (hp'.trans h4)
      | false =>
        rw [if_neg (by simp [hw])]
        obtain ⟨T', hK, hT'⟩ := putA_ok (v' := undef) h hT1 ⟨#[], rfl, trivial⟩
        split at hK
        · exact hK.elim
        · exact ⟨hS.mono, ih fuel hK (hm.set hlt) (hcl.set hr) (by omega) hlds hS.mono hT' (hH.bl rfl) hn⟩

end
end Go.FL
