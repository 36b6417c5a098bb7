/-
  Where no chunk is sparse the compactor moves nothing: its rounds.
-/
import Derived.Test.YtfjnkneoddankaaGreatPkCompactStill5
import Derived.ChangeSlices
import Derived.Deep.Slices
set_option linter.unusedVariables false
set_option linter.unusedSimpArgs false
set_option maxRecDepth 20000
namespace Go.FL
open Go

theorem bcond' {α : Type} (j i : Nat) (a b : α) : (bif Nat.beq j i then a else b) = if j = i then a else b := by
  by_cases h : j = i
  · subst h; rw [Nat.beq_refl, if_pos rfl]; rfl
  · have : Nat.beq j i = false := Bool.eq_false_iff.2 fun hc => h (Nat.eq_of_beq_eq_true hc)
    rw [this, if_neg h]; rfl

/-! ### Steps of the compactor within a round -/

inductive CG (c : PCfg) (r : Int) : PComp → PMem → Nat → PComp → PMem → Prop
  | here {x : PComp} {m : PMem} : CG c r x m 0 x m
  | more {x x1 x' : PComp} {m m1 m' : PMem} {k : Nat} (hr : x.work.rd = r) (h : compStep c (-1) x m = some (x1, m1)) (t : CG c r x1 m1 k x' m') : CG c r x m (k + 1) x' m'

theorem CG.trans {c : PCfg} {r : Int} {x x1 x' : PComp} {m m1 m' : PMem} {k j : Nat} (h : CG c r x m k x1 m1) (t : CG c r x1 m1 j x' m') : CG c r x m (k + j) x' m' := by
  induction h with
  | here => rw [Nat.zero_add]; exact t
  | more hr h _ ih => rw [Nat.succ_add]; exact .more hr h (ih t)

theorem CG.rounds {c : PCfg} {r want : Int} {x x' : PComp} {m m' : PMem} {k : Nat} (h : CG c r x m k x' m') (hw : r < want) (n : Nat) : roundsRun c want (k + n) x m = roundsRun c want n x' m' := by
  induction h with
  | here => rw [Nat.zero_add]
  | more hr h _ ih =>
    rw [Nat.succ_add, roundsRun_succ, hr, h]
    have d : decide (r < want) = true := by simpa using hw
    rw [d]
    exact ih

/-- The memory, but for the epoch. -/
structure QM (g : Nat → Int) (E : Int) (m : PMem) : Prop where
  n : m.n = 363
  w : m.w = upd g 0 E

section
variable {g : Nat → Int} {E : Int} {m : PMem} {who : Int}

theorem QM.touch (h : QM g E m) {b : Int} : QM g E (m.touch who b) := ⟨h.n, h.w⟩

theorem QM.ld (h : QM g E m) {a : Nat} (ha : a < 363) (h0 : a ≠ 0) : m.eLoad who (a : Int) = (g a, m.touch who (a : Int)) := by
  have := h.n
  rw [PMem.eLoad_in (by omega) (by omega), Int.toNat_natCast, h.w, upd_other _ _ h0]

theorem QM.ld0 (h : QM g E m) : m.eLoad who 0 = (E, m.touch who 0) := by
  have := h.n
  rw [PMem.eLoad_in (by omega) (by omega), h.w]
  rfl

theorem QM.cas0 (h : QM g E m) {d : Int} : m.eCas who 0 E d = (true, m.lay who 0 d) ∧ QM g d (m.lay who 0 d) := by
  have := h.n
  refine ⟨by rw [PMem.eCas_in (by omega) (by omega) (by rw [h.w]; rfl)], h.n, ?_⟩
  rw [PMem.lay_w, h.w]
  funext a
  show upd (upd g 0 E) 0 d a = upd g 0 d a
  rw [upd_eq, upd_eq, upd_eq]
  split <;> rfl
end

theorem cho_none (may : Nat → Bool) (lv : Nat → Int) : ∀ (n i : Nat), (∀ j, i ≤ j → j < i + n → may j = false) → chRun may lv n i (-1) = -1
  | 0, _, _ => rfl
  | n + 1, i, h => by
    rw [chRun_succ]
    have : chStep may lv i (-1) = -1 := by unfold chStep; rw [h i (by omega) (by omega)]; rfl
    rw [this]
    exact cho_none may lv n (i + 1) fun j h1 h2 => h j (by omega) (by omega)

/-- What was seen of the first chunks. -/
structure Sn (g : Nat → Int) (k l : Nat) (sn : PSeenL) : Prop where
  len : sn.len = k
  us : ∀ j, j < k → sn.us j = qU g j
  lv : ∀ j, j < l → sn.lv j = g (68 + 3 * j)

section
variable {g : Nat → Int} {E : Int} {m : PMem} {pos w now idle : Int} {wk ws : PWk}

theorem chAe (k : Nat) (hk : k < 8) : chA (cfB 0) (k : Int) = ((67 + 3 * k : Nat) : Int) := chB_eq 0 k hk

theorem chAe1 (k : Nat) (hk : k < 8) : wrI (chA (cfB 0) (k : Int) + 1) = ((68 + 3 * k : Nat) : Int) := by
  rw [chAe k hk, wrI_id (by omega) (by omega)]; omega

/-- A chunk's word, and how many of its words live. -/
theorem st_look (hg : MI 0 0 g) (h : QM g E m) {k : Nat} (hk : k < 8) (so : Option PSeenL) (hso : (k = 0 ∧ ∀ sn, so = some sn → sn.len ≤ 8) ∨ ∃ sn, so = some sn ∧ Sn g k k sn) :
    ∃ sn' m', QM g E m' ∧ Sn g (k + 1) (k + 1) sn' ∧ CG (cfB 0) wk.rd ⟨0, so, (k : Int), pos, w, now, none, none, none, wk, ws, idle⟩ m 2
      (if k + 1 < 8 then ⟨0, some sn', ((k + 1 : Nat) : Int), pos, w, now, none, none, none, wk, ws, idle⟩ else ⟨2, some sn', 0, pos, w, now, none, none, none, wk, ws, idle⟩) m' := by
  have hw0 := hg.wd (67 + 3 * k) (by omega)
  have hw1 := hg.wd (68 + 3 * k) (by omega)
  have hcn := hg.cnt k hk
  have hch := hg.chs k hk
  simp only [ite_self, Int.add_zero] at hcn
  have l1 := h.ld (who := -1) (a := 67 + 3 * k) (by omega) (by omega)
  have hu : (chunkOf (g (67 + 3 * k))).2.2.1 = qU g k := by rw [chunkOf_eq hw0.1 hw0.2]; rfl
  -- the first step
  obtain ⟨sn1, h1, hlen1, hus1, hlv1⟩ : ∃ sn1, compStep (cfB 0) (-1) ⟨0, so, (k : Int), pos, w, now, none, none, none, wk, ws, idle⟩ m =
      some (⟨1, some sn1, (k : Int), pos, w, now, none, none, none, wk, ws, idle⟩, m.touch (-1) ((67 + 3 * k : Nat) : Int)) ∧ sn1.len = k + 1 ∧ (∀ j, j < k + 1 → sn1.us j = qU g j) ∧ (∀ j, j < k → sn1.lv j = g (68 + 3 * j)) := by
    rcases hso with ⟨rfl, hso⟩ | ⟨sn, rfl, hs⟩
    · refine ⟨seen1 (g 67), ?_, rfl, fun j hj => ?_, fun j hj => by omega⟩
      · cases so with
        | none =>
          have e := cp_0n (cfB 0) (-1) pos w now wk ws idle m
          rw [show chA (cfB 0) 0 = ((67 : Nat) : Int) from chAe 0 (by omega), l1] at e
          exact e
        | some sn =>
          have e := cp_0z (cfB 0) (-1) pos w now sn none wk ws idle m
          have d : decide (sn.len ≤ 1048576) = true := by have := hso sn rfl; simp; omega
          rw [d, show chA (cfB 0) 0 = ((67 : Nat) : Int) from chAe 0 (by omega), l1] at e
          exact e
      · have : j = 0 := by omega
        subst this
        exact hu
    · by_cases hk0 : k = 0
      · subst hk0
        refine ⟨seen1 (g 67), ?_, rfl, fun j hj => ?_, fun j hj => by omega⟩
        · have e := cp_0z (cfB 0) (-1) pos w now sn none wk ws idle m
          have d : decide (sn.len ≤ 1048576) = true := by have := hs.len; simp; omega
          rw [d, show chA (cfB 0) 0 = ((67 : Nat) : Int) from chAe 0 (by omega), l1] at e
          exact e
        · have : j = 0 := by omega
          subst this
          exact hu
      · refine ⟨sn.add (g (67 + 3 * k)), ?_, by show sn.len + 1 = _; rw [hs.len], fun j hj => ?_, fun j hj => ?_⟩
        · have e := cp_0s (cfB 0) (-1) k pos w now sn none wk ws idle m
          have d : decide (sn.len ≤ 1048576) = true := by have := hs.len; simp; omega
          have d2 : decide ((k : Int) = 0) = false := by simp; omega
          rw [d, d2, chAe k hk, l1] at e
          exact e
        · show (bif Nat.beq j sn.len then _ else _) = _
          rw [bcond', hs.len]
          split
          · rename_i hc; subst hc; exact hu
          · exact hs.us j (by omega)
        · show (bif Nat.beq j sn.len then _ else _) = _
          rw [bcond', hs.len, if_neg (by omega)]
          exact hs.lv j hj
  have ht := h.touch (who := -1) (b := ((67 + 3 * k : Nat) : Int))
  have l2 := ht.ld (who := -1) (a := 68 + 3 * k) (by omega) (by omega)
  have e := cp_1 (cfB 0) (-1) k pos w now sn1 none wk ws idle (m.touch (-1) ((67 + 3 * k : Nat) : Int))
  have d : decide (sn1.len ≤ 1048576) = true := by rw [hlen1]; simp; omega
  have d2 : decide ((0 : Int) ≤ (k : Int) ∧ (k : Int) < (sn1.len : Int)) = true := by rw [hlen1]; simp; omega
  have e1 : wrI (g (68 + 3 * k)) = g (68 + 3 * k) := wrI_id hw1.1 (by omega)
  rw [d, d2, chAe1 k hk, l2, Int.toNat_natCast, show wrI ((k : Int) + 1) = ((k + 1 : Nat) : Int) by rw [wrI_id (by omega) (by omega)]; omega] at e
  simp only [cond_true, e1] at e
  refine ⟨sn1.live k (g (68 + 3 * k)), _, ht.touch (who := -1) (b := ((68 + 3 * k : Nat) : Int)), ⟨hlen1, hus1, fun j hj => ?_⟩, .more rfl h1 (.more rfl ?_ .here)⟩
  · show (bif Nat.beq j k then _ else _) = _
    rw [bcond']
    split
    · rename_i hc; rw [hc]
    · exact hlv1 j (by omega)
  · by_cases hl : k + 1 < 8
    · rw [if_pos hl]
      have d3 : decide ((cfB 0).chunks ≤ ((k + 1 : Nat) : Int)) = false := by
        show decide ((8 : Int) ≤ ((k + 1 : Nat) : Int)) = false
        simp; omega
      rw [d3] at e
      exact e
    · rw [if_neg hl]
      have d3 : decide ((cfB 0).chunks ≤ ((k + 1 : Nat) : Int)) = true := by
        show decide ((8 : Int) ≤ ((k + 1 : Nat) : Int)) = true
        simp; omega
      rw [d3] at e
      exact e

theorem st_looks (hg : MI 0 0 g) : ∀ (d k : Nat) (so : Option PSeenL) (m : PMem), k + d + 1 = 8 → QM g E m → ((k = 0 ∧ ∀ sn, so = some sn → sn.len ≤ 8) ∨ ∃ sn, so = some sn ∧ Sn g k k sn) →
    ∃ sn' m', QM g E m' ∧ Sn g 8 8 sn' ∧ CG (cfB 0) wk.rd ⟨0, so, (k : Int), pos, w, now, none, none, none, wk, ws, idle⟩ m (2 * (d + 1)) ⟨2, some sn', 0, pos, w, now, none, none, none, wk, ws, idle⟩ m' := by
  intro d
  induction d with
  | zero =>
    intro k so m hk h hso
    obtain ⟨sn', m', h1, h2, h3⟩ := st_look (pos := pos) (w := w) (now := now) (idle := idle) (wk := wk) (ws := ws) hg h (show k < 8 by omega) so hso
    rw [if_neg (by omega)] at h3
    have : k + 1 = 8 := by omega
    rw [this] at h2
    exact ⟨sn', m', h1, h2, h3⟩
  | succ d ih =>
    intro k so m hk h hso
    obtain ⟨sn', m', h1, h2, h3⟩ := st_look (pos := pos) (w := w) (now := now) (idle := idle) (wk := wk) (ws := ws) hg h (show k < 8 by omega) so hso
    rw [if_pos (by omega)] at h3
    obtain ⟨sn2, m2, h4, h5, h6⟩ := ih (k + 1) (some sn') m' (by omega) h1 (.inr ⟨sn', rfl, h2⟩)
    exact ⟨sn2, m2, h4, h5, by rw [show 2 * (d + 1 + 1) = 2 + 2 * (d + 1) by omega]; exact h3.trans h6⟩

theorem pick_none (hg : MI 0 0 g) {sn : PSeenL} (hs : Sn g 8 8 sn) : sn.choice 0 = -1 := by
  unfold PSeenL.choice chooseM
  rw [hs.len]
  refine cho_none _ _ 8 0 fun j _ hj => ?_
  have hj : j < 8 := by omega
  have h1 := hs.us j hj
  have h2 := hs.lv j hj
  have hc := hg.cnt j hj
  have hch := hg.chs j hj
  have hw := hg.wd (68 + 3 * j) (by omega)
  simp only [ite_self, Int.add_zero] at hc
  show mayM 0 (sn.st j) (sn.us j) (sn.lv j) (sn.op j) = false
  unfold mayM
  rw [h1, h2, hc]
  cases decide (sn.st j = 1) <;> cases sn.op j <;> simp only [cond_true, cond_false, Bool.not_true, Bool.not_false]
  by_cases hz : 0 < qU g j
  · have d1 : decide (0 < qU g j) = true := by simpa using hz
    have d2 : decide (qU g j ≤ 0) = false := by simp; omega
    have w1 : IntKind.wrap IntKind.i64 (1000 * qU g j) = 1000 * qU g j := wrI_id (by omega) (by omega)
    have w2 : IntKind.wrap IntKind.i64 (0 * qU g j) = 0 := by rw [Int.zero_mul]; exact wrI_id (by omega) (by omega)
    have d3 : decide (1000 * qU g j < 0) = false := by simp; omega
    rw [d1, d2, w1, w2, d3]
    rfl
  · have d1 : decide (0 < qU g j) = false := by simpa using hz
    rw [d1]
    rfl

theorem st_ask (hg : MI 0 0 g) (h : QM g E m) {j : Nat} (hj : j < 4) {sn : PSeenL} (hs : Sn g 8 8 sn) :
    ∃ sn' m', QM g E m' ∧ Sn g 8 8 sn' ∧ CG (cfB 0) wk.rd ⟨2, some sn, (j : Int), pos, w, now, none, none, none, wk, ws, idle⟩ m 1
      (if j + 1 < 4 then ⟨2, some sn', ((j + 1 : Nat) : Int), pos, w, now, none, none, none, wk, ws, idle⟩ else ⟨10, some sn', -1, pos, w, now, none, none, none, wk, ws, idle⟩) m' := by
  have ho := hg.opn j hj
  have hw := hg.wd (2 + j) (by omega)
  have l1 := h.ld (who := -1) (a := 2 + j) (by omega) (by omega)
  have d : decide (sn.len ≤ 1048576) = true := by rw [hs.len]; rfl
  have ea : wrI (2 + (j : Int)) = ((2 + j : Nat) : Int) := by rw [wrI_id (by omega) (by omega)]; omega
  have ej : wrI ((j : Int) + 1) = ((j + 1 : Nat) : Int) := by rw [wrI_id (by omega) (by omega)]; omega
  have e1 : wrI (g (2 + j)) = g (2 + j) := wrI_id hw.1 (by omega)
  have e := cp_2 (cfB 0) (-1) j pos w now sn none wk ws idle m
  rw [d, ea, l1] at e
  simp only [cond_true, e1] at e
  have key : ∀ sn' : PSeenL, Sn g 8 8 sn' → ∀ m', cpPick (cfB 0) sn' j pos w now none wk ws idle m' =
      some (if j + 1 < 4 then ⟨2, some sn', ((j + 1 : Nat) : Int), pos, w, now, none, none, none, wk, ws, idle⟩ else ⟨10, some sn', -1, pos, w, now, none, none, none, wk, ws, idle⟩, m') := by
    intro sn' hs' m'
    unfold cpPick
    rw [ej, show (cfB 0).sparse = 0 from rfl, pick_none hg hs']
    by_cases hl : j + 1 < 4
    · have d2 : decide (((j + 1 : Nat) : Int) < 4) = true := by simp; omega
      rw [d2, if_pos hl]; rfl
    · have d2 : decide (((j + 1 : Nat) : Int) < 4) = false := by simp; omega
      rw [d2, if_neg hl]; rfl
  by_cases hz : 0 < g (2 + j)
  · have d2 : decide (0 < g (2 + j)) = true := by simpa using hz
    have e2 : wrI (g (2 + j) - 1) = g (2 + j) - 1 := wrI_id (by omega) (by omega)
    have d3 : decide (0 ≤ g (2 + j) - 1 ∧ g (2 + j) - 1 < (sn.len : Int)) = true := by rw [hs.len]; simp; omega
    rw [d2] at e
    simp only [cond_true, e2] at e
    rw [d3] at e
    simp only [cond_true] at e
    have hs' : Sn g 8 8 (sn.opens (g (2 + j) - 1).toNat) := ⟨hs.len, hs.us, hs.lv⟩
    rw [key _ hs'] at e
    exact ⟨_, _, h.touch (who := -1) (b := ((2 + j : Nat) : Int)), hs', .more rfl e .here⟩
  · have d2 : decide (0 < g (2 + j)) = false := by simpa using hz
    rw [d2] at e
    simp only [cond_false] at e
    rw [key _ hs] at e
    exact ⟨_, _, h.touch (who := -1) (b := ((2 + j : Nat) : Int)), hs, .more rfl e .here⟩

theorem st_asks (hg : MI 0 0 g) : ∀ (d j : Nat) (sn : PSeenL) (m : PMem), j + d + 1 = 4 → QM g E m → Sn g 8 8 sn →
    ∃ sn' m', QM g E m' ∧ Sn g 8 8 sn' ∧ CG (cfB 0) wk.rd ⟨2, some sn, (j : Int), pos, w, now, none, none, none, wk, ws, idle⟩ m (d + 1) ⟨10, some sn', -1, pos, w, now, none, none, none, wk, ws, idle⟩ m' := by
  intro d
  induction d with
  | zero =>
    intro j sn m hj h hs
    obtain ⟨sn', m', h1, h2, h3⟩ := st_ask (pos := pos) (w := w) (now := now) (idle := idle) (wk := wk) (ws := ws) hg h (show j < 4 by omega) hs
    rw [if_neg (by omega)] at h3
    exact ⟨sn', m', h1, h2, h3⟩
  | succ d ih =>
    intro j sn m hj h hs
    obtain ⟨sn', m', h1, h2, h3⟩ := st_ask (pos := pos) (w := w) (now := now) (idle := idle) (wk := wk) (ws := ws) hg h (show j < 4 by omega) hs
    rw [if_pos (by omega)] at h3
    obtain ⟨sn2, m2, h4, h5, h6⟩ := ih (j + 1) sn' m' (by omega) h1 h2
    exact ⟨sn2, m2, h4, h5, by rw [show d + 1 + 1 = 1 + (d + 1) by omega]; exact h3.trans h6⟩

/-- The epoch goes on. -/
theorem st_adv (hg : MI 0 0 g) (h : QM g E m) (hE : 0 ≤ E ∧ E ≤ 100000) {sn : PSeenL} (hs : Sn g 8 8 sn) {at_ : Int} :
    ∃ m', QM g (E + 1) m' ∧ CG (cfB 0) wk.rd ⟨10, some sn, at_, pos, w, now, none, none, none, wk, ws, idle⟩ m 3 ⟨11, some sn, 0, pos, w, now, none, none, none, wk, ws, idle⟩ m' := by
  have d : decide (sn.len ≤ 1048576) = true := by rw [hs.len]; rfl
  have e1 := cp_10 (cfB 0) (-1) at_ pos w now sn none wk ws idle m
  rw [d, h.ld0] at e1
  have h1 := h.touch (who := -1) (b := 0)
  have l1 := h1.ld (who := -1) (a := 6) (by omega) (by omega)
  have ea := ad_1 (cfB 0) (-1) (m.touch (-1) 0) E 0
  rw [show wrI (6 + 0) = ((6 : Nat) : Int) by decide, l1, hg.pin] at ea
  have ea : advStep (cfB 0) (-1) ⟨1, E, 0, false⟩ (m.touch (-1) 0) = (false, ⟨2, E, 1, false⟩, (m.touch (-1) 0).touch (-1) ((6 : Nat) : Int)) := ea
  have e2 := cp_A1 (cfB 0) (-1) at_ pos w now sn none wk ws idle (m.touch (-1) 0) E 0
  rw [d, ea] at e2
  have h2 := h1.touch (who := -1) (b := ((6 : Nat) : Int))
  have e3 := cp_A2 (cfB 0) (-1) at_ pos w now sn none wk ws idle ((m.touch (-1) 0).touch (-1) ((6 : Nat) : Int)) E 1
  rw [d, (h2.cas0 (d := wrU (E + 1))).1] at e3
  have hq := (h2.cas0 (who := -1) (d := wrU (E + 1))).2
  have eu : wrU (E + 1) = E + 1 := wrU_id (by omega) (by omega)
  rw [eu] at hq e3
  exact ⟨_, hq, .more rfl e1 (.more rfl e2 (.more rfl e3 .here))⟩

theorem st_settle (hg : MI 0 0 g) (h : QM g E m) {k : Nat} (hk : k < 8) {sn : PSeenL} (hs : Sn g 8 8 sn) :
    ∃ m' ws' idle', QM g E m' ∧ CG (cfB 0) wk.rd ⟨11, some sn, (k : Int), pos, w, now, none, none, none, wk, ws, idle⟩ m 1
      (if k + 1 < 8 then ⟨11, some sn, ((k + 1 : Nat) : Int), pos, w, now, none, none, none, wk, ws, idle⟩ else ⟨0, some sn, 0, pos, w, now, none, none, none, ⟨wk.ev, wk.lf, wk.fr, wk.mv, wrI (wk.rd + 1)⟩, ws', idle'⟩) m' := by
  have hw0 := hg.wd (67 + 3 * k) (by omega)
  have hch := hg.chs k hk
  have d : decide (sn.len ≤ 1048576) = true := by rw [hs.len]; rfl
  have e := cp_11 (cfB 0) (-1) k pos w now sn none wk ws idle m
  rw [d, chAe k hk, h.ld (by omega) (by omega)] at e
  simp only [cond_true, chunkOf_eq hw0.1 hw0.2] at e
  have d2 : decide (g (67 + 3 * k) % 4 = 3) = false := by have := hch.1; unfold qS at this; simp; omega
  rw [d2] at e
  simp only [Bool.not_false, Bool.not_true, cond_false] at e
  unfold cpNext at e
  rw [show wrI ((k : Int) + 1) = ((k + 1 : Nat) : Int) by rw [wrI_id (by omega) (by omega)]; omega] at e
  by_cases hl : k + 1 < 8
  · have d3 : decide ((cfB 0).chunks ≤ ((k + 1 : Nat) : Int)) = false := by
      show decide ((8 : Int) ≤ ((k + 1 : Nat) : Int)) = false
      simp; omega
    rw [d3] at e
    simp only [cond_false] at e
    refine ⟨_, ws, idle, h.touch (who := -1) (b := ((67 + 3 * k : Nat) : Int)), .more rfl ?_ .here⟩
    rw [if_pos hl]
    exact e
  · have d3 : decide ((cfB 0).chunks ≤ ((k + 1 : Nat) : Int)) = true := by
      show decide ((8 : Int) ≤ ((k + 1 : Nat) : Int)) = true
      simp; omega
    rw [d3] at e
    simp only [cond_true] at e
    simp only [if_neg hl]
    cases d4 : decide (wk.ev = ws.ev) <;> rw [d4] at e <;> simp only [Bool.not_true, Bool.not_false, cond_true, cond_false] at e
    · exact ⟨_, _, _, h.touch (who := -1) (b := ((67 + 3 * k : Nat) : Int)), .more rfl e .here⟩
    · cases d5 : decide (wk.mv = ws.mv) <;> rw [d5] at e <;> simp only [Bool.not_true, Bool.not_false, cond_true, cond_false] at e
      · exact ⟨_, _, _, h.touch (who := -1) (b := ((67 + 3 * k : Nat) : Int)), .more rfl e .here⟩
      · cases d6 : decide (wk.fr = ws.fr) <;> rw [d6] at e <;> simp only [Bool.not_true, Bool.not_false, cond_true, cond_false] at e
        · exact ⟨_, _, _, h.touch (who := -1) (b := ((67 + 3 * k : Nat) : Int)), .more rfl e .here⟩
        · exact ⟨_, _, _, h.touch (who := -1) (b := ((67 + 3 * k : Nat) : Int)), .more rfl e .here⟩

theorem st_settles (hg : MI 0 0 g) {sn : PSeenL} (hs : Sn g 8 8 sn) : ∀ (d k : Nat) (m : PMem), k + d + 1 = 8 → QM g E m →
    ∃ m' ws' idle', QM g E m' ∧ CG (cfB 0) wk.rd ⟨11, some sn, (k : Int), pos, w, now, none, none, none, wk, ws, idle⟩ m (d + 1) ⟨0, some sn, 0, pos, w, now, none, none, none, ⟨wk.ev, wk.lf, wk.fr, wk.mv, wrI (wk.rd + 1)⟩, ws', idle'⟩ m' := by
  intro d
  induction d with
  | zero =>
    intro k m hk h
    obtain ⟨m', ws', idle', h1, h3⟩ := st_settle (pos := pos) (w := w) (now := now) (idle := idle) (wk := wk) (ws := ws) hg h (show k < 8 by omega) hs
    rw [if_neg (by omega)] at h3
    exact ⟨m', ws', idle', h1, h3⟩
  | succ d ih =>
    intro k m hk h
    obtain ⟨m', ws', idle', h1, h3⟩ := st_settle (pos := pos) (w := w) (now := now) (idle := idle) (wk := wk) (ws := ws) hg h (show k < 8 by omega) hs
    rw [if_pos (by omega)] at h3
    obtain ⟨m2, ws2, id2, h4, h6⟩ := ih (k + 1) m' (by omega) h1
    exact ⟨m2, ws2, id2, h4, by rw [show d + 1 + 1 = 1 + (d + 1) by omega]; exact h3.trans h6⟩

/-- A round. -/
theorem st_round (hg : MI 0 0 g) (h : QM g E m) (hE : 0 ≤ E ∧ E ≤ 100000) {so : Option PSeenL} (hso : ∀ sn, so = some sn → sn.len ≤ 8) :
    ∃ sn' m' ws' idle', QM g (E + 1) m' ∧ sn'.len ≤ 8 ∧ CG (cfB 0) wk.rd ⟨0, so, 0, pos, w, now, none, none, none, wk, ws, idle⟩ m 31 ⟨0, some sn', 0, pos, w, now, none, none, none, ⟨wk.ev, wk.lf, wk.fr, wk.mv, wrI (wk.rd + 1)⟩, ws', idle'⟩ m' := by
  obtain ⟨s1, m1, a1, a2, a3⟩ := st_looks (pos := pos) (w := w) (now := now) (idle := idle) (wk := wk) (ws := ws) hg 7 0 so m rfl h (.inl ⟨rfl, hso⟩)
  obtain ⟨s2, m2, b1, b2, b3⟩ := st_asks (pos := pos) (w := w) (now := now) (idle := idle) (wk := wk) (ws := ws) hg 3 0 s1 m1 rfl a1 a2
  obtain ⟨m3, c1, c2⟩ := st_adv (pos := pos) (w := w) (now := now) (idle := idle) (wk := wk) (ws := ws) hg b1 hE b2 (at_ := -1)
  obtain ⟨m4, ws', idle', d1, d2⟩ := st_settles (pos := pos) (w := w) (now := now) (idle := idle) (wk := wk) (ws := ws) hg b2 7 0 m3 rfl c1
  exact ⟨s2, m4, ws', idle', d1, by rw [b2.len]; omega, ((a3.trans b3).trans c2).trans d2⟩

/-- So many rounds. -/
theorem st_rounds (hg : MI 0 0 g) (pos w now : Int) : ∀ (t : Nat) (E : Int) (so : Option PSeenL) (wk ws : PWk) (idle want : Int) (m : PMem) (n : Nat), QM g E m → 0 ≤ E ∧ E + t ≤ 100000 → (∀ sn, so = some sn → sn.len ≤ 8) →
    0 ≤ wk.rd ∧ wk.rd + t = want ∧ want ≤ 100000 → 31 * t ≤ n →
    ∃ x' m', roundsRun (cfB 0) want n ⟨0, so, 0, pos, w, now, none, none, none, wk, ws, idle⟩ m = some (x', m') ∧ QM g (E + t) m' ∧ x'.work.rd = want ∧ x'.work.ev = wk.ev ∧ x'.work.mv = wk.mv ∧ x'.work.lf = wk.lf := by
  intro t
  induction t with
  | zero =>
    intro E so wk ws idle want m n h hE hso hw hn
    refine ⟨⟨0, so, 0, pos, w, now, none, none, none, wk, ws, idle⟩, m, ?_, by simpa using h, by show wk.rd = want; omega, rfl, rfl, rfl⟩
    cases n with
    | zero => exact roundsRun_zero ..
    | succ n =>
      rw [roundsRun_succ]
      have d : decide (wk.rd < want) = false := by simp; omega
      show (bif decide (wk.rd < want) then _ else _) = _
      rw [d]; rfl
  | succ t ih =>
    intro E so wk ws idle want m n h hE hso hw hn
    obtain ⟨sn', m1, ws', idle', h1, h2, h3⟩ := st_round (pos := pos) (w := w) (now := now) (idle := idle) (wk := wk) (ws := ws) hg h (by omega) hso
    obtain ⟨q, rfl⟩ : ∃ q, n = 31 + q := ⟨n - 31, by omega⟩
    rw [h3.rounds (by omega)]
    have er : wrI (wk.rd + 1) = wk.rd + 1 := wrI_id (by omega) (by omega)
    obtain ⟨x', m', e1, e2, e3, e4, e5, e6⟩ := ih (E + 1) (some sn') ⟨wk.ev, wk.lf, wk.fr, wk.mv, wrI (wk.rd + 1)⟩ ws' idle' want m1 q h1 (by omega) (fun sn hs => by cases hs; exact h2) (by
      show 0 ≤ wrI (wk.rd + 1) ∧ wrI (wk.rd + 1) + (t : Int) = want ∧ _
      rw [er]; omega) (by omega)
    refine ⟨x', m', e1, ?_, e3, e4, e5, e6⟩
    rw [show E + ((t + 1 : Nat) : Int) = E + 1 + (t : Int) by omega]
    exact e2

end
end Go.FL

/-
  Slices that are handed in, as rows that are known.
-/
set_option linter.unusedVariables false
set_option linter.unusedSimpArgs false
set_option maxRecDepth 100000
namespace Go.FL
open Go Go.ChangeShapes Go.WideShapes Go.ChangeAt Go.RowKit Go.Deep

/-- All that stood in memory when the law was called. -/
@[reducible] def fzOf (W : World) : Fz := ⟨fun q o => W.heap[q]? = some o⟩

/-- A slice whose rows are known. -/
theorem view_rel {W : World} {a : Addr} {len cap w : Nat} {cs : List LCol} (hw : 0 < w) (hcs : cs.length = w) (s : Mp)
    (hrow : ∀ i, i < len → ∃ vs : List Value, W.cells? 0 (a.add (i * w)) w = some vs ∧ ∀ (j : Nat) (x : LCol), cs[j]? = some x → ∃ v, vs[j]? = some v ∧ (match x with
      | .int k f => v = .int k (f i)
      | .bool f => v = .bool (f i))) : @RelC (fzOf W) s (.vsl (some a) len cap w cs) (.slice (some a) len cap) := by
  refine ⟨rfl, fun hl => ?_⟩
  have cellAt : ∀ i, i < len → ∀ j, j < w → ∃ (c : Array Value) (e : TypeId) (fz : Nat × Nat) (v : Value), W.heap[a.block]? = some (.cells c e fz) ∧ W.cell? (a.add (i * w + j)) = some v := by
    intro i hi j hj
    obtain ⟨vs, h1, _⟩ := hrow i hi
    obtain ⟨_, h2, h3⟩ := World.cells?_some h1
    have h4 := h3 j hj
    rw [add_add, List.getElem?_eq_getElem (by omega)] at h4
    have h5 := h4
    unfold World.cell? at h5
    rw [block_add] at h5
    split at h5
    · rename_i c e fz hb
      exact ⟨c, e, fz, _, hb, h4⟩
    · cases h5
  obtain ⟨c, e, fz, v0, hb, hv0⟩ := cellAt 0 hl 0 hw
  have hspot : a.spot = none := by
    have : a.add (0 * w + 0) = a := by simp [Addr.add]
    rw [this] at hv0
    unfold World.cell? at hv0
    rw [hb] at hv0
    simp only at hv0
    cases hs : a.spot with
    | none => rfl
    | some x => rw [hs] at hv0; simp at hv0
  obtain ⟨q, off, sp⟩ := a
  simp only at hspot hb
  subst hspot
  refine ⟨q, off, _, rfl, hb, c, e, ⟨fz, rfl⟩, hcs, fun i hi => ?_⟩
  obtain ⟨vs, h1, h2⟩ := hrow i hi
  obtain ⟨_, h3, h4⟩ := World.cells?_some h1
  refine ⟨vs, h3, fun j v hj => ?_, h2⟩
  have hjl : j < w := by rw [← h3]; exact (List.getElem?_eq_some_iff.1 hj).1
  have h5 := h4 j hjl
  rw [add_add, hj] at h5
  rw [add_plain] at h5
  unfold World.cell? at h5
  simp only [hb, Option.isSome_none, Bool.false_eq_true, if_false] at h5
  rw [Nat.add_assoc]; exact h5
where
  add_plain (r o n : Nat) : (⟨r, o, none⟩ : Addr).add n = ⟨r, o + n, none⟩ := by
    unfold Addr.add; split <;> simp_all

variable {H : Type} {enc : TypeId × Value → H} {P : Program} {W : World} {spare : Nat → Bool} {held : Bool}

/-- A slice's value is one cell. -/
theorem slice_one {t e : TypeId} {v : Value} {r : _root_.Go.Reach} (ht : P.underlying t = some (.slice e)) {b0 : Nat} (h : Value.okWide P W r b0 t v) : ∃ r, v.cells.toList = [r] ∧ v = r := by
  unfold Value.okWide at h
  rw [ht] at h
  simp only at h
  unfold Cell.okWide at h
  rw [ht] at h
  cases v <;> simp only [Cell.ok, ht] at h <;> first | exact ⟨_, rfl, rfl⟩ | exact h.elim | skip
  all_goals simp at h

/-- A slice of integers that is handed in. -/
theorem open_vints {t e : TypeId} {k : IntKind} {v : Value} {d : DataW H} {p : List MemPlace} (ht : P.underlying t = some (.slice e)) (he : P.underlying e = some (.int k)) (hc : P.cellsOf e = 1)
    (hv : ∃ r, v.cells.toList = [r] ∧ v = r) (h : DataW.Trod enc P W 0 spare held t v d p) :
    ∃ (q : Option Addr) (len cap : Nat) (f : Nat → Int), v = .slice q len cap ∧ cap ≤ maxLen ∧ len ≤ cap ∧ (∀ s, @RelC (fzOf W) s (.vsl q len cap 1 [.int k f]) v) ∧ ∀ i, i < len → (Lit.int k (f i)).wf = true := by
  obtain ⟨r, hr, rfl⟩ := hv
  obtain ⟨fuel, hf⟩ := h
  rw [hr] at hf
  rcases open_ints ht he hc hf with ⟨h0, _⟩ | ⟨a, len, cap, zs, h0, _, hl, hm, hz, _, hcell, hwf⟩
  · cases h0
    exact ⟨none, 0, 0, fun _ => 0, rfl, by decide, Nat.le_refl _, fun s => ⟨rfl, fun h => by omega⟩, fun i hi => by omega⟩
  · cases h0
    have hlz : len ≤ zs.length := by rw [hz]; split <;> omega
    refine ⟨some a, len, cap, fun i => zs.getD i 0, rfl, hm, hl, fun s => view_rel (w := 1) Nat.one_pos rfl s fun i hi => ?_, fun i hi => ?_⟩
    · refine ⟨[.int k (zs.getD i 0)], ?_, fun j x hj => ?_⟩
      · rw [Nat.mul_one]
        exact cells?_one (Nat.zero_le _) (hcell i (by omega))
      · cases j with
        | zero => simp at hj; subst hj; exact ⟨_, rfl, rfl⟩
        | succ j => simp at hj
    · refine hwf _ ?_
      show zs.getD i 0 ∈ zs
      have hi' : i < zs.length := by omega
      have : zs.getD i 0 = zs[i] := by simp [List.getD, hi']
      rw [this]
      exact List.getElem_mem hi'

/-- A slice of bools that is handed in. -/
theorem open_vbools {t e : TypeId} {v : Value} {d : DataW H} {p : List MemPlace} (ht : P.underlying t = some (.slice e)) (he : P.underlying e = some .bool) (hc : P.cellsOf e = 1)
    (hv : ∃ r, v.cells.toList = [r] ∧ v = r) (h : DataW.Trod enc P W 0 spare held t v d p) :
    ∃ (q : Option Addr) (len cap : Nat) (f : Nat → Bool), v = .slice q len cap ∧ cap ≤ maxLen ∧ len ≤ cap ∧ (∀ s, @RelC (fzOf W) s (.vsl q len cap 1 [.bool f]) v) := by
  obtain ⟨r, hr, rfl⟩ := hv
  obtain ⟨fuel, hf⟩ := h
  rw [hr] at hf
  rcases open_slice1 ht hc hf with ⟨h0, _⟩ | ⟨a, len, cap, m, n, V, D, Pl, h0, _, hl, hm, hmm, _, hcell⟩
  · cases h0
    exact ⟨none, 0, 0, fun _ => false, rfl, by decide, Nat.le_refl _, fun s => ⟨rfl, fun h => by omega⟩⟩
  · cases h0
    have hlm : len ≤ m := by rw [hmm]; split <;> omega
    obtain ⟨f, hf⟩ := choose_lt (n := len) (α := Bool) (p := fun i b => V i = .bool b) (fun i hi => by
      obtain ⟨b, e1, _⟩ := DataW.trod_bool he (hcell i (by omega)).2
      simp only [List.cons.injEq, and_true] at e1
      exact ⟨b, e1⟩)
    refine ⟨some a, len, cap, f, rfl, hm, hl, fun s => view_rel (w := 1) Nat.one_pos rfl s fun i hi => ?_⟩
    refine ⟨[.bool (f i)], ?_, fun j x hj => ?_⟩
    · rw [Nat.mul_one]
      have := (hcell i (by omega)).1
      rw [hf i hi] at this
      exact cells?_one (Nat.zero_le _) this
    · cases j with
      | zero => simp at hj; subst hj; exact ⟨_, rfl, rfl⟩
      | succ j => simp at hj

end Go.FL
