/-
  The compactor works for so many rounds; how many chunks are in a state; where an object stands.
-/
import Derived.Test.YtfjnkneoddankaaGreatAr1
set_option linter.unusedVariables false
set_option linter.unusedSimpArgs false
set_option maxRecDepth 100000
namespace Go.FL

def roundsRun (c : PCfg) (want : Int) : Nat → PComp → PMem → Option (PComp × PMem)
  | 0, x, m => some (x, m)
  | n + 1, x, m => bif decide (x.work.rd < want) then (match compStep c (-1) x m with
    | none => none
    | some r => roundsRun c want n r.1 r.2) else some (x, m)

theorem roundsRun_zero (c : PCfg) (want : Int) (x : PComp) (m : PMem) : roundsRun c want 0 x m = some (x, m) := rfl

theorem roundsRun_succ (c : PCfg) (want : Int) (n : Nat) (x : PComp) (m : PMem) : roundsRun c want (n + 1) x m = bif decide (x.work.rd < want) then (match compStep c (-1) x m with
    | none => none
    | some r => roundsRun c want n r.1 r.2) else some (x, m) := rfl

attribute [irreducible] roundsRun

def roundsWant (n : Int) (x : PComp) : Int := IntKind.wrap .i64 (x.work.rd + n)

/-- So many rounds alone. -/
def roundsO (c : PCfg) (n : Int) (x : PComp) (m : PMem) : Option (PComp × PMem) := roundsRun c (roundsWant n x) (3000 * n).toNat x m

def roundsOk (c : PCfg) (n : Int) (x : PComp) (m : PMem) : Bool := (roundsO c n x m).isSome

def roundsX (c : PCfg) (n : Int) (x : PComp) (m : PMem) : PComp × PMem := (roundsO c n x m).getD (x, m)

def manyRun (c : PCfg) (s : Int) (m : PMem) : Nat → Int → Int → Int
  | 0, _, r => r
  | n + 1, i, r => manyRun c s m n (i + 1) (bif decide ((chunkOf (m.peek (lChunk c.threads c.slots c.chunks c.words c.gens c.sparse c.tries i))).1 = s) then r + 1 else r)

theorem manyRun_succ (c : PCfg) (s : Int) (m : PMem) (n : Nat) (i r : Int) : manyRun c s m (n + 1) i r =
    manyRun c s m n (i + 1) (bif decide ((chunkOf (m.peek (lChunk c.threads c.slots c.chunks c.words c.gens c.sparse c.tries i))).1 = s) then r + 1 else r) := rfl

attribute [irreducible] manyRun

def manyM (c : PCfg) (s : Int) (m : PMem) : Int := manyRun c s m c.chunks.toNat 0 0

def placeM (c : PCfg) (m : PMem) (h : Int) : Int := (slotOf (m.peek (lSlot c.threads c.slots c.chunks c.words c.gens c.sparse c.tries (handle h).1))).2.1

end Go.FL

namespace Go.Proofs.YtfjnkneoddankaaGreat
open Go Go.FL Go.Proofs

abbrev rdF : FuncId := 15
abbrev rdEnv (c1 c2 c3 c4 c5 c6 c7 : Int) : LB := .cells 27 [cI c1, cI c2, cI c3, cI c4, cI c5, cI c6, cI c7, .ptr 1 0, cI (-1)]
abbrev rdT (n want i : Int) : Tm := [(1, .c (.ptr 0 0)), (2, .c (cI n)), (3, .c (.ptr 2 0)), (7, .c (cI want)), (8, .c (cI i))]

theorem rdBody_ev (c1 c2 c3 c4 c5 c6 c7 : Int) (n want i : Int) (x : PComp) (cap : Nat) (m : PMem) (wr : List Nat) (k : X → Tm → LH → Prop) :
    evC Tryz.prog (evF Tryz.prog own9 10 20) (tmpsF Tryz.prog rdF) noLo 10 (loopF Tryz.prog rdF 0) (rdT n want i) ⟨[.obj (.comp x cap), .obj (.mem m), rdEnv c1 c2 c3 c4 c5 c6 c7], wr⟩ (fun x T H => k x (Tm.norm [1,2,3,7,8] T) H) =
    (bif decide (i < IntKind.wrap IntKind.i64 (3000 * n)) then bif decide (x.work.rd < want) then
      (compOk ⟨c1, c2, c3, c4, c5, c6, c7⟩ (-1) x m = true) ∧ ∀ cap' : Nat, k .normal (rdT n want (IntKind.wrap .i64 (i + 1))) ⟨[.obj (.comp (compX ⟨c1, c2, c3, c4, c5, c6, c7⟩ (-1) x m).1 cap'), .obj (.mem (compX ⟨c1, c2, c3, c4, c5, c6, c7⟩ (-1) x m).2), rdEnv c1 c2 c3 c4 c5 c6 c7], 1 :: 0 :: 0 :: wr⟩
      else k (.exit 0) (rdT n want i) ⟨[.obj (.comp x (capOf x cap)), .obj (.mem m), rdEnv c1 c2 c3 c4 c5 c6 c7], 0 :: wr⟩
    else k (.exit 0) (rdT n want i) ⟨[.obj (.comp x cap), .obj (.mem m), rdEnv c1 c2 c3 c4 c5 c6 c7], wr⟩) := by kernel_rfl

def lhRd : LHd := fun T H K => match Tm.norm [1,2,3,7,8] T with
  | [(1, .c (.ptr 0 0)), (2, .c (.int .i64 n)), (3, .c (.ptr 2 0)), (7, .c (.int .i64 want)), (8, .c (.int .i64 i))] => match H.bl with
    | [.obj (.comp x cap), .obj (.mem m), .cells t [.int .i64 c1, .int .i64 c2, .int .i64 c3, .int .i64 c4, .int .i64 c5, .int .i64 c6, .int .i64 c7, .ptr 1 0, .int .i64 w]] =>
      ((t = 27 ∧ i = 0 ∧ w = -1) ∧ (0 ≤ n ∧ n ≤ 1000) ∧ want = roundsWant n x) ∧ roundsOk ⟨c1, c2, c3, c4, c5, c6, c7⟩ n x m = true ∧
      ∀ cap' : Nat, K (.exit 0) [(1, .c (.ptr 0 0)), (7, .c (cI want))] ⟨[.obj (.comp (roundsX ⟨c1, c2, c3, c4, c5, c6, c7⟩ n x m).1 cap'), .obj (.mem (roundsX ⟨c1, c2, c3, c4, c5, c6, c7⟩ n x m).2), rdEnv c1 c2 c3 c4 c5 c6 c7], 1 :: 0 :: H.wr⟩
    | _ => False
  | _ => False

theorem lhRd_ok : BodyOK Tryz.prog (tmpsF Tryz.prog rdF) (.loop (loopF Tryz.prog rdF 0)) lhRd := by
  refine loopN_ok (evC_ok fnOK mixed (evF_ok fnOK mixed own9_ok 10 20) _ (lo := noLo) 10 _ LoOK.no) ?_
  intro T H K h
  unfold lhRd at h
  split at h
  case h_2 => exact h.elim
  rename_i x0 n want i hT
  split at h
  case h_2 => exact h.elim
  rename_i x' x cap m t c1 c2 c3 c4 c5 c6 c7 w hH
  obtain ⟨⟨⟨rfl, rfl, rfl⟩, ⟨hn0, hn1⟩, rfl⟩, hok, h⟩ := h
  unfold roundsOk at hok
  unfold roundsX at h
  unfold roundsO at hok h
  generalize hr : roundsRun ⟨c1, c2, c3, c4, c5, c6, c7⟩ (roundsWant n x) (3000 * n).toNat x m = r at h hok
  cases r with
  | none => cases hok
  | some r =>
    simp only [Option.getD_some] at h
    generalize hwt : roundsWant n x = want at h hr hT
    refine ⟨[1,2,3,7,8], [1,7], fun k T' H' => ∃ (j : Nat) (x' : PComp) (cap' : Nat) (m' : PMem), (j : Int) ≤ 3000 * n ∧ k = (3000 * n).toNat - j ∧ T' = rdT n want (j : Int) ∧ H'.bl = [.obj (.comp x' cap'), .obj (.mem m'), rdEnv c1 c2 c3 c4 c5 c6 c7] ∧ (∀ n ∈ H'.wr, n ∈ 1 :: 0 :: H.wr) ∧
      roundsRun ⟨c1, c2, c3, c4, c5, c6, c7⟩ want ((3000 * n).toNat - j) x' m' = some r, ⟨(3000 * n).toNat, 0, x, cap, m, by omega, rfl, hT, hH, fun n hn => by simp [hn], hr⟩, ?_⟩
    rintro k T' ⟨bl, wr⟩ ⟨j, x', cap', m', hj, rfl, rfl, hbl, hwr, hrun⟩
    simp only at hbl hwr
    subst hbl
    rw [rdBody_ev]
    have h3 : IntKind.wrap IntKind.i64 (3000 * n) = 3000 * n := by rw [IntKind.wrap_i64]; omega
    rw [h3]
    by_cases hlt : (j : Int) < 3000 * n
    · have h1 : decide ((j : Int) < 3000 * n) = true := by simpa using hlt
      obtain ⟨q, hq⟩ : ∃ q, (3000 * n).toNat - j = q + 1 := ⟨(3000 * n).toNat - (j + 1), by omega⟩
      have hq' : q = (3000 * n).toNat - (j + 1) := by omega
      rw [hq, roundsRun_succ] at hrun
      rw [h1]
      simp only [cond_true]
      cases hb : decide (x'.work.rd < want) with
      | false =>
        rw [hb] at hrun
        simp only [cond_false] at hrun ⊢
        cases hrun
        exact ⟨1 :: 0 :: H.wr, fun k hk => by
          rcases List.mem_cons.1 hk with rfl | hk
          · simp
          · exact hwr k hk, h _⟩
      | true =>
        rw [hb] at hrun
        simp only [cond_true] at hrun ⊢
        cases hs : compStep ⟨c1, c2, c3, c4, c5, c6, c7⟩ (-1) x' m' with
        | none => rw [hs] at hrun; cases hrun
        | some z =>
          rw [hs] at hrun
          have hX : compX ⟨c1, c2, c3, c4, c5, c6, c7⟩ (-1) x' m' = z := by unfold compX; rw [hs]; rfl
          refine ⟨by unfold compOk; rw [hs]; rfl, fun cap2 => ?_⟩
          rw [hX]
          have hi : IntKind.i64.wrap ((j : Int) + 1) = ((j + 1 : Nat) : Int) := by rw [IntKind.wrap_i64]; omega
          refine ⟨(3000 * n).toNat - (j + 1), by omega, j + 1, z.1, cap2, z.2, by omega, rfl, by rw [hi], rfl, ?_, by rw [← hq']; exact hrun⟩
          intro k hk
          simp only [List.mem_cons] at hk ⊢
          rcases hk with h | h | h | h
          · exact .inl h
          · exact .inr (.inl h)
          · exact .inr (.inl h)
          · simpa using hwr k h
    · have h1 : decide ((j : Int) < 3000 * n) = false := by simpa using hlt
      rw [h1]
      simp only [cond_false]
      have hz : (3000 * n).toNat - j = 0 := by omega
      rw [hz, roundsRun_zero] at hrun
      cases hrun
      exact ⟨1 :: 0 :: H.wr, hwr, h _⟩

theorem rdLo : LoOK Tryz.prog (tmpsF Tryz.prog rdF) (fun _ => some lhRd) (loopsF Tryz.prog rdF) := by
  have h : loopsF Tryz.prog rdF = [loopF Tryz.prog rdF 0] := by kernel_rfl
  rw [h]
  intro c hc hd he
  have hc : c = loopF Tryz.prog rdF 0 := by simpa using hc
  subst hc
  cases he
  exact lhRd_ok

theorem rounds_ev (c : PCfg) (who n : Int) (x : PComp) (cap : Nat) (m : PMem) (K : Bool → PComp → Nat → PMem → Prop) :
    evL Tryz.prog own9 (fun _ => some lhRd) 10 20 rdF [envV c 1 who, .c (.ptr 0 0), .c (cI n)] ⟨cat [(false, .comp x cap), (false, .mem m)] 0, []⟩ (fun v H₁ => match v with
      | .c (.bool r) => shF H₁ 0 fun o c1 => match o with
        | .comp x' cap' => shF H₁ 1 fun o c2 => match o with
          | .mem m' => match chkAll [(false, .comp x cap), (false, .mem m)] [c1, c2] [] with
            | true => K r x' cap' m'
            | false => False
          | _ => False
        | _ => False
      | _ => False) =
    (((27 = 27 ∧ (0 : Int) = 0 ∧ (-1 : Int) = -1) ∧ (0 ≤ n ∧ n ≤ 1000) ∧ roundsWant n x = roundsWant n x) ∧ roundsOk c n x m = true ∧
      ∀ cap' : Nat, K (decide (roundsWant n x ≤ (roundsX c n x m).1.work.rd)) (roundsX c n x m).1 (capOf (roundsX c n x m).1 cap') (roundsX c n x m).2) := by kernel_rfl

def h_rounds : Hd := fun args H K => match args with
  | [.agg [.int .i64 c1, .int .i64 c2, .int .i64 c3, .int .i64 c4, .int .i64 c5, .int .i64 c6, .int .i64 c7, .ptr m 0, .int .i64 who], .c (.ptr p 0), .c (.int .i64 n)] => match H.get p, H.get m with
    | some (.obj (.comp x cap)), some (.obj (.mem pm)) => ((0 ≤ n ∧ n ≤ 1000) ∧ roundsOk ⟨c1, c2, c3, c4, c5, c6, c7⟩ n x pm = true) ∧ ∀ cap' : Nat,
        K (.c (.bool (decide (roundsWant n x ≤ (roundsX ⟨c1, c2, c3, c4, c5, c6, c7⟩ n x pm).1.work.rd)))) ((H.put p (.obj (.comp (roundsX ⟨c1, c2, c3, c4, c5, c6, c7⟩ n x pm).1 cap'))).put m (.obj (.mem (roundsX ⟨c1, c2, c3, c4, c5, c6, c7⟩ n x pm).2)))
    | _, _ => False
  | _ => False

theorem h_rounds_ok : HOK rdF h_rounds := by
  intro args H K h
  unfold h_rounds at h
  split at h
  case h_2 => exact h.elim
  rename_i c1 c2 c3 c4 c5 c6 c7 m who p n
  split at h
  case h_2 => exact h.elim
  rename_i x cap pm hp hm
  obtain ⟨⟨hn, hok⟩, h⟩ := h
  have hpm : p ≠ m := by
    rintro rfl
    rw [hp] at hm
    injection hm with hm; injection hm with hm; cases hm
  have e := (rounds_ev ⟨c1, c2, c3, c4, c5, c6, c7⟩ who n x cap pm (fun r x' cap' m' => K (.c (.bool r)) ((H.put p (.obj (.comp x' cap'))).put m (.obj (.mem m'))))).mpr ⟨⟨⟨rfl, rfl, rfl⟩, hn, rfl⟩, hok, fun cap' => h _⟩
  refine objs_of (ns := [p, m]) (xs := [(false, .comp x cap), (false, .mem pm)]) rfl ?_ (by simpa using hpm) ?_ (evL_ok fnOK mixed own9_ok rdLo e) ?_
  · intro i n x' hi hx
    match i, hi, hx with
    | 0, hi, hx => simp at hi hx; subst hi; subst hx; exact get_obj hp
    | 1, hi, hx => simp at hi hx; subst hi; subst hx; exact get_obj hm
    | i + 2, hi, hx => simp at hi
  · intro s s₁ vs hh hr
    match vs, hr with
    | [u, v, z], ⟨h1, h2, h3, _⟩ =>
      have e0 := hh 0 p rfl
      have e1 := hh 1 m rfl
      simp only [base, Nat.zero_add] at e0 e1
      exact ⟨rel_env (c := ⟨c1, c2, c3, c4, c5, c6, c7⟩) e1 h1, rel_ptr e0 h2, RelV.low rfl h3, trivial⟩
    | [], h => exact h.elim
    | [_], h => exact h.2.elim
    | [_, _], h => exact h.2.2.elim
    | _ :: _ :: _ :: _ :: _, h => exact h.2.2.2.elim
  · intro v₁ H₁ hk
    split at hk
    · obtain ⟨o, c1', hk, hc1⟩ := shF_ok hk
      split at hk
      · obtain ⟨o, c2, hk, hc2⟩ := shF_ok hk
        split at hk
        · split at hk
          · rename_i hchk
            exact ⟨[_, _], [(false, .comp _ _), (false, .mem _)], [], [], _, hchk, ⟨hc1, hc2, trivial⟩, trivial, fun _ _ _ _ _ h => RelV.low rfl h, hk⟩
          · exact hk.elim
        · exact hk.elim
      · exact hk.elim
    · exact hk.elim

abbrev mnF : FuncId := 28
abbrev mnEnv (c1 c2 c3 c4 c5 c6 c7 who : Int) : LB := .cells 27 [cI c1, cI c2, cI c3, cI c4, cI c5, cI c6, cI c7, .ptr 0 0, cI who]
abbrev mnT (n r i : Int) : Tm := [(1, .c (cI n)), (2, .c (.ptr 1 0)), (5, .c (cI r)), (6, .c (cI i))]

theorem mnBody_ev (c1 c2 c3 c4 c5 c6 c7 who n r i : Int) (m : PMem) (wr : List Nat) (k : X → Tm → LH → Prop) :
    evC Tryz.prog (evF Tryz.prog own9 10 20) (tmpsF Tryz.prog mnF) noLo 10 (loopF Tryz.prog mnF 0) (mnT n r i) ⟨[.obj (.mem m), mnEnv c1 c2 c3 c4 c5 c6 c7 who], wr⟩ (fun x T H => k x (Tm.norm [1,2,5,6] T) H) =
    (bif decide (i < c3) then bif decide ((chunkOf (m.peek (lChunk c1 c2 c3 c4 c5 c6 c7 i))).1 = n) then
      k .normal (mnT n (IntKind.wrap .i64 (r + 1)) (IntKind.wrap .i64 (i + 1))) ⟨[.obj (.mem m), mnEnv c1 c2 c3 c4 c5 c6 c7 who], 0 :: wr⟩
      else k .normal (mnT n r (IntKind.wrap .i64 (i + 1))) ⟨[.obj (.mem m), mnEnv c1 c2 c3 c4 c5 c6 c7 who], 0 :: wr⟩
    else k (.exit 0) (mnT n r i) ⟨[.obj (.mem m), mnEnv c1 c2 c3 c4 c5 c6 c7 who], wr⟩) := by kernel_rfl

def lhMn : LHd := fun T H K => match Tm.norm [1,2,5,6] T with
  | [(1, .c (.int .i64 n)), (2, .c (.ptr 1 0)), (5, .c (.int .i64 r)), (6, .c (.int .i64 i))] => match H.bl with
    | [.obj (.mem m), .cells t [.int .i64 c1, .int .i64 c2, .int .i64 c3, .int .i64 c4, .int .i64 c5, .int .i64 c6, .int .i64 c7, .ptr 0 0, .int .i64 who]] =>
      ((t = 27 ∧ i = 0 ∧ r = 0) ∧ c3 ≤ 1000000) ∧ K (.exit 0) [(5, .c (cI (manyM ⟨c1, c2, c3, c4, c5, c6, c7⟩ n m)))] ⟨[.obj (.mem m), mnEnv c1 c2 c3 c4 c5 c6 c7 who], 0 :: H.wr⟩
    | _ => False
  | _ => False

theorem lhMn_ok : BodyOK Tryz.prog (tmpsF Tryz.prog mnF) (.loop (loopF Tryz.prog mnF 0)) lhMn := by
  refine loopN_ok (evC_ok fnOK mixed (evF_ok fnOK mixed own9_ok 10 20) _ (lo := noLo) 10 _ LoOK.no) ?_
  intro T H K h
  unfold lhMn at h
  split at h
  case h_2 => exact h.elim
  rename_i x0 n r i hT
  split at h
  case h_2 => exact h.elim
  rename_i x' m t c1 c2 c3 c4 c5 c6 c7 who hH
  obtain ⟨⟨⟨rfl, rfl, rfl⟩, hc⟩, h⟩ := h
  unfold manyM at h
  generalize hr : manyRun ⟨c1, c2, c3, c4, c5, c6, c7⟩ n m c3.toNat 0 0 = r at h
  refine ⟨[1,2,5,6], [5], fun k T' H' => ∃ (j : Nat) (q : Int), k = c3.toNat - j ∧ (0 ≤ q ∧ q ≤ j) ∧ j ≤ 1000000 ∧ T' = mnT n q (j : Int) ∧ H'.bl = [.obj (.mem m), mnEnv c1 c2 c3 c4 c5 c6 c7 who] ∧ (∀ n ∈ H'.wr, n ∈ 0 :: H.wr) ∧
    manyRun ⟨c1, c2, c3, c4, c5, c6, c7⟩ n m (c3.toNat - j) (j : Int) q = r, ⟨c3.toNat, 0, 0, rfl, by omega, by omega, hT, hH, fun n hn => by simp [hn], hr⟩, ?_⟩
  rintro k T' ⟨bl, wr⟩ ⟨j, q, rfl, hq, hj, rfl, hbl, hwr, hrun⟩
  simp only at hbl hwr
  subst hbl
  rw [mnBody_ev]
  by_cases hlt : (j : Int) < c3
  · have h1 : decide ((j : Int) < c3) = true := by simpa using hlt
    obtain ⟨z, hz⟩ : ∃ z, c3.toNat - j = z + 1 := ⟨c3.toNat - (j + 1), by omega⟩
    have hz' : z = c3.toNat - (j + 1) := by omega
    rw [hz, manyRun_succ] at hrun
    rw [h1]
    simp only [cond_true]
    have hi : IntKind.i64.wrap ((j : Int) + 1) = ((j + 1 : Nat) : Int) := by rw [IntKind.wrap_i64]; omega
    have hq1 : IntKind.i64.wrap (q + 1) = q + 1 := by rw [IntKind.wrap_i64]; omega
    have hw2 : ∀ k ∈ 0 :: wr, k ∈ 0 :: H.wr := by
      intro k hk
      rcases List.mem_cons.1 hk with rfl | hk
      · simp
      · exact hwr k hk
    cases hb : decide ((chunkOf (m.peek (lChunk c1 c2 c3 c4 c5 c6 c7 (j : Int)))).1 = n) with
    | true =>
      rw [hb] at hrun
      simp only [cond_true] at hrun ⊢
      exact ⟨c3.toNat - (j + 1), by omega, j + 1, q + 1, rfl, by omega, by omega, by rw [hi, hq1], rfl, hw2, by rw [← hz']; exact hrun⟩
    | false =>
      rw [hb] at hrun
      simp only [cond_false] at hrun ⊢
      exact ⟨c3.toNat - (j + 1), by omega, j + 1, q, rfl, by omega, by omega, by rw [hi], rfl, hw2, by rw [← hz']; exact hrun⟩
  · have h1 : decide ((j : Int) < c3) = false := by simpa using hlt
    rw [h1]
    simp only [cond_false]
    have hz : c3.toNat - j = 0 := by omega
    rw [hz] at hrun
    unfold manyRun at hrun
    subst hrun
    exact ⟨0 :: H.wr, hwr, h⟩

theorem mnLo : LoOK Tryz.prog (tmpsF Tryz.prog mnF) (fun _ => some lhMn) (loopsF Tryz.prog mnF) := by
  have h : loopsF Tryz.prog mnF = [loopF Tryz.prog mnF 0] := by kernel_rfl
  rw [h]
  intro c hc hd he
  have hc : c = loopF Tryz.prog mnF 0 := by simpa using hc
  subst hc
  cases he
  exact lhMn_ok

theorem many_ev (c : PCfg) (who n : Int) (m : PMem) (K : Int → PMem → Prop) :
    evL Tryz.prog own9 (fun _ => some lhMn) 10 20 mnF [envV c 0 who, .c (cI n)] ⟨cat [(false, .mem m)] 0, []⟩ (fun v H₁ => match v with
      | .c (.int .i64 r) => shF H₁ 0 fun o c2 => match o with
        | .mem m' => match chkAll [(false, .mem m)] [c2] [] with
          | true => K r m'
          | false => False
        | _ => False
      | _ => False) =
    (((27 = 27 ∧ (0 : Int) = 0 ∧ (0 : Int) = 0) ∧ c.chunks ≤ 1000000) ∧ K (manyM c n m) m) := by kernel_rfl

def h_many : Hd := fun args H K => match args with
  | [.agg [.int .i64 c1, .int .i64 c2, .int .i64 c3, .int .i64 c4, .int .i64 c5, .int .i64 c6, .int .i64 c7, .ptr m 0, .int .i64 who], .c (.int .i64 n)] => match H.get m with
    | some (.obj (.mem pm)) => match decide (c3 ≤ 1000000) with
      | true => K (.c (cI (manyM ⟨c1, c2, c3, c4, c5, c6, c7⟩ n pm))) (H.put m (.obj (.mem pm)))
      | false => False
    | _ => False
  | _ => False

/-- A question of the arena: the memory stays an object. -/
theorem envAsk_ok {f : FuncId} {c : PCfg} {who : Int} {m : Nat} {pm : PMem} {rest : List LV} {H : LH} {K : LV → LH → Prop} {K₁ : LV → LH → Prop} (hm : H.get m = some (.obj (.mem pm))) (hlow : lowVs rest = true)
    (hev : (∃ fn, Tryz.prog.funcs[f]? = some fn ∧ fn.body.isSome = true) ∧ CSpec Tryz.prog f (envV c 0 who :: rest) ⟨cat [(false, .mem pm)] 0, []⟩ K₁)
    (hK : ∀ v H₁, K₁ v H₁ → lowV v = true ∧ shF H₁ 0 fun o c2 => match o with
      | .mem m' => match chkAll [(false, .mem pm)] [c2] [] with
        | true => K v (H.put m (.obj (.mem m')))
        | false => False
      | _ => False) : (∃ fn, Tryz.prog.funcs[f]? = some fn ∧ fn.body.isSome = true) ∧ CSpec Tryz.prog f (envV c m who :: rest) H K := by
  refine objs_of (ns := [m]) (xs := [(false, .mem pm)]) rfl ?_ (by simp) ?_ hev ?_
  · intro i n x' hi hx
    match i, hi, hx with
    | 0, hi, hx => simp at hi hx; subst hi; subst hx; exact get_obj hm
    | i + 1, hi, hx => simp at hi
  · intro s s₁ vs hh hr
    match vs, hr with
    | u :: vs, ⟨h1, h2⟩ =>
      have e0 := hh 0 m rfl
      simp only [base, Nat.zero_add] at e0
      exact ⟨rel_env (c := c) e0 h1, RelVs.low hlow h2⟩
  · intro v₁ H₁ hk
    obtain ⟨hl, hk⟩ := hK v₁ H₁ hk
    obtain ⟨o, c2, hk, hc2⟩ := shF_ok hk
    split at hk
    · split at hk
      · rename_i hchk
        exact ⟨[_], [(false, .mem _)], [], [], v₁, hchk, ⟨hc2, trivial⟩, trivial, fun _ _ _ _ _ h => RelV.low hl h, hk⟩
      · exact hk.elim
    · exact hk.elim

theorem h_many_ok : HOK mnF h_many := by
  intro args H K h
  unfold h_many at h
  split at h
  case h_2 => exact h.elim
  rename_i c1 c2 c3 c4 c5 c6 c7 m who n
  split at h
  case h_2 => exact h.elim
  rename_i pm hm
  split at h
  case h_2 => exact h.elim
  rename_i hc
  have e := (many_ev ⟨c1, c2, c3, c4, c5, c6, c7⟩ who n pm (fun r m' => K (.c (cI r)) (H.put m (.obj (.mem m'))))).mpr ⟨⟨⟨rfl, rfl, rfl⟩, of_decide_eq_true hc⟩, h⟩
  refine envAsk_ok (c := ⟨c1, c2, c3, c4, c5, c6, c7⟩) hm rfl (evL_ok fnOK mixed own9_ok mnLo e) ?_
  intro v H₁ hk
  split at hk
  · exact ⟨rfl, hk⟩
  · exact hk.elim

theorem place_ev (c : PCfg) (who h : Int) (m : PMem) (K : Int → PMem → Prop) :
    evF Tryz.prog own9 10 20 32 [envV c 0 who, .c (cU h)] ⟨cat [(false, .mem m)] 0, []⟩ (fun v H₁ => match v with
      | .c (.int .i64 r) => shF H₁ 0 fun o c2 => match o with
        | .mem m' => match chkAll [(false, .mem m)] [c2] [] with
          | true => K r m'
          | false => False
        | _ => False
      | _ => False) = K (placeM c m h) m := by kernel_rfl

def h_placeM : Hd := fun args H K => match args with
  | [.agg [.int .i64 c1, .int .i64 c2, .int .i64 c3, .int .i64 c4, .int .i64 c5, .int .i64 c6, .int .i64 c7, .ptr m 0, .int .i64 who], .c (.int .u64 h)] => match H.get m with
    | some (.obj (.mem pm)) => K (.c (cI (placeM ⟨c1, c2, c3, c4, c5, c6, c7⟩ pm h))) (H.put m (.obj (.mem pm)))
    | _ => False
  | _ => False

theorem h_placeM_ok : HOK 32 h_placeM := by
  intro args H K h
  unfold h_placeM at h
  split at h
  case h_2 => exact h.elim
  rename_i c1 c2 c3 c4 c5 c6 c7 m who n
  split at h
  case h_2 => exact h.elim
  rename_i pm hm
  have e := (place_ev ⟨c1, c2, c3, c4, c5, c6, c7⟩ who n pm (fun r m' => K (.c (cI r)) (H.put m (.obj (.mem m'))))).mpr h
  refine envAsk_ok (c := ⟨c1, c2, c3, c4, c5, c6, c7⟩) hm rfl (evF_ok fnOK mixed own9_ok 10 20 _ _ _ _ e) ?_
  intro v H₁ hk
  split at hk
  · exact ⟨rfl, hk⟩
  · exact hk.elim

def tabK8 : List (FuncId × Hd) := [(rdF, h_rounds), (mnF, h_many), (32, h_placeM)] ++ tab9
def ownK8 : FuncId → Option Hd := look tabK8
theorem allK8 : AllOK tabK8 := ⟨h_rounds_ok, h_many_ok, h_placeM_ok, all9⟩
theorem ownK8_ok : OwnOK Tryz.prog ownK8 := look_ok allK8

end Go.Proofs.YtfjnkneoddankaaGreat
