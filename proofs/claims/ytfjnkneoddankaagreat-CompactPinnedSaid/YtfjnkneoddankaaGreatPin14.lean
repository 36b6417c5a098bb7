/-
  A chunk that was evacuated while a thread is pinned: the law's walk.
-/
import Derived.Test.YtfjnkneoddankaaGreatCan9
set_option linter.unusedVariables false
set_option linter.unusedSimpArgs false
set_option maxRecDepth 100000
namespace Go.FL

def pinRun (c : PCfg) (who : Int) : Nat → PIn → PMem → PIn × PMem
  | 0, x, m => (x, m)
  | k + 1, x, m => bif !(inStep c who x m).1 then pinRun c who k (inStep c who x m).2.1 (inStep c who x m).2.2 else ((inStep c who x m).2.1, (inStep c who x m).2.2)

theorem pinRun_succ (c : PCfg) (who : Int) (k : Nat) (x : PIn) (m : PMem) : pinRun c who (k + 1) x m =
    bif !(inStep c who x m).1 then pinRun c who k (inStep c who x m).2.1 (inStep c who x m).2.2 else ((inStep c who x m).2.1, (inStep c who x m).2.2) := rfl
theorem pinRun_zero (c : PCfg) (who : Int) (x : PIn) (m : PMem) : pinRun c who 0 x m = (x, m) := rfl

attribute [irreducible] pinRun

end Go.FL

namespace Go.Proofs.YtfjnkneoddankaaGreat
open Go Go.FL Go.Proofs

abbrev piT (b : Int) (n cap : Nat) (i : Int) : Tm := [(1, .c (cI b)), (5, .c (.ptr 1 0)), (8, .c (.slice 3 0 n cap)), (11, .c (.ptr 4 0)), (12, .c (cI i))]
abbrev inRawB (x : PIn) : LB := .cells 59 [cI x.pc, cU x.epoch]

theorem piR_ev (c1 c2 c3 c4 c5 c6 c7 who b i : Int) (n cap : Nat) (f : Nat → Int) (x : PIn) (m : PMem) (wr : List Nat) (k : X → Tm → LH → Prop) :
    evC Tryz.prog (evF Tryz.prog ownK11 10 20) (tmpsF Tryz.prog pbF) noLo 10 (loopF Tryz.prog pbF 1) (piT b n cap i) ⟨[.obj (.mem m), lawEnv c1 c2 c3 c4 c5 c6 c7 who, litB, usB n cap f, inRawB x], wr⟩ (fun x T H => k x (Tm.norm [1,5,8,11,12] T) H) =
    (bif decide (i < 9) then bif !(inStep ⟨c1, c2, c3, c4, c5, c6, c7⟩ who x m).1 then
      k .normal (piT b n cap (IntKind.wrap .i64 (i + 1))) ⟨[.obj (.mem (inStep ⟨c1, c2, c3, c4, c5, c6, c7⟩ who x m).2.2), lawEnv c1 c2 c3 c4 c5 c6 c7 who, litB, usB n cap f, .obj (.in_ (inStep ⟨c1, c2, c3, c4, c5, c6, c7⟩ who x m).2.1)], 0 :: 4 :: wr⟩
      else k (.exit 2) (piT b n cap i) ⟨[.obj (.mem (inStep ⟨c1, c2, c3, c4, c5, c6, c7⟩ who x m).2.2), lawEnv c1 c2 c3 c4 c5 c6 c7 who, litB, usB n cap f, .obj (.in_ (inStep ⟨c1, c2, c3, c4, c5, c6, c7⟩ who x m).2.1)], 0 :: 4 :: wr⟩
    else k (.exit 2) (piT b n cap i) ⟨[.obj (.mem m), lawEnv c1 c2 c3 c4 c5 c6 c7 who, litB, usB n cap f, inRawB x], wr⟩) := by kernel_rfl

theorem piO_ev (c1 c2 c3 c4 c5 c6 c7 who b i : Int) (n cap : Nat) (f : Nat → Int) (x : PIn) (m : PMem) (wr : List Nat) (k : X → Tm → LH → Prop) :
    evC Tryz.prog (evF Tryz.prog ownK11 10 20) (tmpsF Tryz.prog pbF) noLo 10 (loopF Tryz.prog pbF 1) (piT b n cap i) ⟨[.obj (.mem m), lawEnv c1 c2 c3 c4 c5 c6 c7 who, litB, usB n cap f, .obj (.in_ x)], wr⟩ (fun x T H => k x (Tm.norm [1,5,8,11,12] T) H) =
    (bif decide (i < 9) then bif !(inStep ⟨c1, c2, c3, c4, c5, c6, c7⟩ who x m).1 then
      k .normal (piT b n cap (IntKind.wrap .i64 (i + 1))) ⟨[.obj (.mem (inStep ⟨c1, c2, c3, c4, c5, c6, c7⟩ who x m).2.2), lawEnv c1 c2 c3 c4 c5 c6 c7 who, litB, usB n cap f, .obj (.in_ (inStep ⟨c1, c2, c3, c4, c5, c6, c7⟩ who x m).2.1)], 0 :: 4 :: wr⟩
      else k (.exit 2) (piT b n cap i) ⟨[.obj (.mem (inStep ⟨c1, c2, c3, c4, c5, c6, c7⟩ who x m).2.2), lawEnv c1 c2 c3 c4 c5 c6 c7 who, litB, usB n cap f, .obj (.in_ (inStep ⟨c1, c2, c3, c4, c5, c6, c7⟩ who x m).2.1)], 0 :: 4 :: wr⟩
    else k (.exit 2) (piT b n cap i) ⟨[.obj (.mem m), lawEnv c1 c2 c3 c4 c5 c6 c7 who, litB, usB n cap f, .obj (.in_ x)], wr⟩) := by kernel_rfl

def inB : Nat → PIn → LB
  | 0, x => inRawB x
  | _ + 1, x => .obj (.in_ x)

def lh_pi : LHd := fun T H K => match Tm.norm [1,5,8,11,12] T with
  | [(1, .c (.int .i64 b)), (5, .c (.ptr 1 0)), (8, .c (.slice 3 0 n cap)), (11, .c (.ptr 4 0)), (12, .c (.int .i64 i))] => match H.bl with
    | [.obj (.mem m), .cells t [.int .i64 c1, .int .i64 c2, .int .i64 c3, .int .i64 c4, .int .i64 c5, .int .i64 c6, .int .i64 c7, .ptr 0 0, .int .i64 who], .cells t2 [], .rows t3 1 n2 cap2 [.int .u64 f], .cells t4 [.int .i64 pc, .int .u64 ep]] =>
      ((t = 27 ∧ t2 = 32 ∧ t3 = 32 ∧ t4 = 59 ∧ i = 0 ∧ n2 = n ∧ cap2 = cap)) ∧
      K (.exit 2) [(1, .c (cI b)), (5, .c (.ptr 1 0)), (8, .c (.slice 3 0 n cap))] ⟨[.obj (.mem (pinRun ⟨c1, c2, c3, c4, c5, c6, c7⟩ who 9 ⟨pc, ep⟩ m).2), lawEnv c1 c2 c3 c4 c5 c6 c7 who, litB, usB n cap f, .obj (.in_ (pinRun ⟨c1, c2, c3, c4, c5, c6, c7⟩ who 9 ⟨pc, ep⟩ m).1)], 0 :: 4 :: H.wr⟩
    | _ => False
  | _ => False

theorem lh_pi_ok : BodyOK Tryz.prog (tmpsF Tryz.prog pbF) (.loop (loopF Tryz.prog pbF 1)) lh_pi := by
  refine loopN_ok (evC_ok fnOK mixed (evF_ok fnOK mixed ownK11_ok 10 20) _ (lo := noLo) 10 _ LoOK.no) ?_
  intro T H K h
  unfold lh_pi at h
  split at h
  case h_2 => exact h.elim
  rename_i x0 b n cap i hT
  split at h
  case h_2 => exact h.elim
  rename_i x' m t c1 c2 c3 c4 c5 c6 c7 who t2 t3 n2 cap2 f t4 pc ep hH
  obtain ⟨⟨rfl, rfl, rfl, rfl, rfl, rfl, rfl⟩, h⟩ := h
  generalize hr : pinRun ⟨c1, c2, c3, c4, c5, c6, c7⟩ who 9 ⟨pc, ep⟩ m = r at h
  refine ⟨[1,5,8,11,12], [1,5,8], fun k T' H' => ∃ (j : Nat) (x : PIn) (m' : PMem), k = 9 - j ∧ j ≤ 9 ∧ T' = piT b n2 cap2 (j : Int) ∧
    H'.bl = [.obj (.mem m'), lawEnv c1 c2 c3 c4 c5 c6 c7 who, litB, usB n2 cap2 f, inB j x] ∧ (∀ k ∈ H'.wr, k ∈ 0 :: 4 :: H.wr) ∧
    pinRun ⟨c1, c2, c3, c4, c5, c6, c7⟩ who (9 - j) x m' = r, ⟨9, 0, ⟨pc, ep⟩, m, rfl, by omega, hT, hH, fun k hk => by simp [hk], hr⟩, ?_⟩
  rintro k T' ⟨bl, wr⟩ ⟨j, x, m', rfl, hj, rfl, hbl, hwr, hrun⟩
  simp only at hbl hwr
  subst hbl
  have hi : IntKind.i64.wrap ((j : Int) + 1) = ((j + 1 : Nat) : Int) := by rw [IntKind.wrap_i64]; omega
  have hw2 : ∀ k ∈ 0 :: 4 :: wr, k ∈ 0 :: 4 :: H.wr := by
    intro k hk
    simp only [List.mem_cons] at hk ⊢
    rcases hk with h | h | h
    · exact .inl h
    · exact .inr (.inl h)
    · simpa using hwr k h
  cases j with
  | zero =>
    simp only [inB]
    rw [piR_ev]
    have h1 : decide (((0 : Nat) : Int) < 9) = true := by decide
    rw [show 9 - 0 = 8 + 1 from rfl, pinRun_succ] at hrun
    rw [h1]
    simp only [cond_true]
    cases hs : (inStep ⟨c1, c2, c3, c4, c5, c6, c7⟩ who x m').1 with
    | true =>
      rw [hs] at hrun
      simp only [Bool.not_true, cond_false] at hrun ⊢
      subst hrun
      exact ⟨0 :: 4 :: H.wr, hw2, h⟩
    | false =>
      rw [hs] at hrun
      simp only [Bool.not_false, cond_true] at hrun ⊢
      exact ⟨8, by omega, 1, _, _, rfl, by omega, by rw [hi], rfl, hw2, hrun⟩
  | succ j =>
    simp only [inB]
    rw [piO_ev]
    by_cases hlt : j + 1 < 9
    · have h1 : decide (((j + 1 : Nat) : Int) < 9) = true := by simp; omega
      obtain ⟨q, hq⟩ : ∃ q, 9 - (j + 1) = q + 1 := ⟨9 - (j + 2), by omega⟩
      have hq' : q = 9 - (j + 2) := by omega
      rw [hq, pinRun_succ] at hrun
      rw [h1]
      simp only [cond_true]
      cases hs : (inStep ⟨c1, c2, c3, c4, c5, c6, c7⟩ who x m').1 with
      | true =>
        rw [hs] at hrun
        simp only [Bool.not_true, cond_false] at hrun ⊢
        subst hrun
        exact ⟨0 :: 4 :: H.wr, hw2, h⟩
      | false =>
        rw [hs] at hrun
        simp only [Bool.not_false, cond_true] at hrun ⊢
        exact ⟨9 - (j + 2), by omega, j + 2, _, _, rfl, by omega, by rw [hi], rfl, hw2, by rw [← hq']; exact hrun⟩
    · have h1 : decide (((j + 1 : Nat) : Int) < 9) = false := by simp; omega
      rw [h1]
      simp only [cond_false]
      have hz : 9 - (j + 1) = 0 := by omega
      rw [hz, pinRun_zero] at hrun
      subst hrun
      exact ⟨0 :: 4 :: H.wr, hwr, h⟩

abbrev pnC : PCfg := ⟨2, 30, 6, 34, 100, 600, 3⟩
def pnB (sz : Int) : Nat × (Nat → Int) × PMem := bldRun pnC 0 sz true 30 0 (fun _ => 0) (arM 2 30 6 34)
def pnD (sz : Int) : PMem := dropRun2 pnC 1 (pnB sz).2.1 (pnB sz).1 0 (pinRun pnC 1 9 ⟨0, 0⟩ (pnB sz).2.2).2
def pnX (sz t : Int) : PComp × PMem := roundsX pnC t comp0 (pnD sz)
def pnM (sz t : Int) : PMem := PMem.eStore (pnX sz t).2 1 (IntKind.wrap .i64 (6 + 1)) 0
def pnY (sz t : Int) : PComp × PMem := roundsX pnC 30 (pnX sz t).1 (pnM sz t)

def pnLo : Nat → Option LHd := fun k => match Nat.beq k 7 with
  | true => some lh_pb
  | false => match Nat.beq k 15 with
    | true => some lh_pi
    | false => some lh_pd

theorem pnLoOK : LoOK Tryz.prog (tmpsF Tryz.prog pbF) pnLo (loopsF Tryz.prog pbF) := by
  have h : loopsF Tryz.prog pbF = [loopF Tryz.prog pbF 0, loopF Tryz.prog pbF 1, loopF Tryz.prog pbF 2] := by kernel_rfl
  have h0 : pnLo (keyC (loopF Tryz.prog pbF 0)) = some lh_pb := by kernel_rfl
  have h1 : pnLo (keyC (loopF Tryz.prog pbF 1)) = some lh_pi := by kernel_rfl
  have h2 : pnLo (keyC (loopF Tryz.prog pbF 2)) = some lh_pd := by kernel_rfl
  rw [h]
  intro c hc hd he
  rcases List.mem_cons.1 hc with rfl | hc
  · rw [h0] at he; cases he; exact lh_pb_ok
  · rcases List.mem_cons.1 hc with rfl | hc
    · rw [h1] at he; cases he; exact lh_pi_ok
    · have hc : c = loopF Tryz.prog pbF 2 := by simpa using hc
      subst hc
      rw [h2] at he; cases he; exact lh_pd_ok

/-- An argument cut to few values. -/
def cutA (k a n : Int) : Int := IntKind.wrap .i64 (k + IntKind.wrap .i64 (BitVec.ofInt (IntKind.bits .i64) a &&& BitVec.ofInt (IntKind.bits .i64) n).toNat)

theorem pinned_ev (a b : Int) (K : Bool → Prop) : evL Tryz.prog ownK11 pnLo 10 20 pbF [.c (.int .i64 a), .c (.int .i64 b)] ⟨[], []⟩ (fun v _ => match v with | .c (.bool x) => K x | _ => False) =
    (((27 = 27 ∧ 32 = 32 ∧ (0 : Int) = 0) ∧ Nat.beq (pnB (cutA 1 a 15)).1 0 = false) ∧ ∀ cap : Nat,
      (27 = 27 ∧ 32 = 32 ∧ 32 = 32 ∧ 59 = 59 ∧ (0 : Int) = 0 ∧ (pnB (cutA 1 a 15)).1 = (pnB (cutA 1 a 15)).1 ∧ cap = cap) ∧
      ((27 = 27 ∧ 32 = 32 ∧ 32 = 32 ∧ (0 : Int) = 0 ∧ (pnB (cutA 1 a 15)).1 = (pnB (cutA 1 a 15)).1 ∧ cap = cap) ∧ (pnB (cutA 1 a 15)).1 ≤ 1048576) ∧
      ((0 ≤ cutA 2 b 7 ∧ cutA 2 b 7 ≤ 1000) ∧ roundsOk pnC (cutA 2 b 7) comp0 (pnD (cutA 1 a 15)) = true) ∧ ∀ cap' : Nat,
      bif !decide (roundsWant (cutA 2 b 7) comp0 ≤ (pnX (cutA 1 a 15) (cutA 2 b 7)).1.work.rd) then K false else bif !decide ((pnX (cutA 1 a 15) (cutA 2 b 7)).1.work.fr = 0) then K false else
      bif decide (manyM pnC 3 (pnX (cutA 1 a 15) (cutA 2 b 7)).2 = (pnX (cutA 1 a 15) (cutA 2 b 7)).1.work.ev) then bif decide (0 < manyM pnC 3 (pnX (cutA 1 a 15) (cutA 2 b 7)).2) then
        (((0 : Int) ≤ 30 ∧ (30 : Int) ≤ 1000) ∧ roundsOk pnC 30 (pnX (cutA 1 a 15) (cutA 2 b 7)).1 (pnM (cutA 1 a 15) (cutA 2 b 7)) = true) ∧ ∀ cap'' : Nat,
        bif decide (roundsWant 30 (pnX (cutA 1 a 15) (cutA 2 b 7)).1 ≤ (pnY (cutA 1 a 15) (cutA 2 b 7)).1.work.rd) then
          bif decide (manyM pnC 3 (pnX (cutA 1 a 15) (cutA 2 b 7)).2 ≤ (pnY (cutA 1 a 15) (cutA 2 b 7)).1.work.fr) then K (decide (0 < (pnY (cutA 1 a 15) (cutA 2 b 7)).1.idle)) else K false else K false
        else K false else K false) := by kernel_rfl

end Go.Proofs.YtfjnkneoddankaaGreat
