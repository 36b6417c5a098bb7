/-
  The laws' loops: objects are made, and kept in a list; they are let go.
-/
import Derived.Test.YtfjnkneoddankaaGreatRun2
set_option linter.unusedVariables false
set_option linter.unusedSimpArgs false
set_option maxRecDepth 100000
namespace Go.FL

def pushF (n : Nat) (f : Nat → Int) (v : Int) : Nat → Int := match n with
  | 0 => fun _ => v
  | n + 1 => fun j => bif Nat.beq j (n + 1) then v else f j

/-- So many objects are made; 'cond': those that came to nothing are not listed. -/
def bldRun (c : PCfg) (who sz : Int) (cond : Bool) : Nat → Nat → (Nat → Int) → PMem → Nat × (Nat → Int) × PMem
  | 0, n, f, m => (n, f, m)
  | k + 1, n, f, m => match makeM c who m sz false with
    | (d, m') => bif cond && !decide (d.e = 0) then bldRun c who sz cond k n f m' else bldRun c who sz cond k (n + 1) (pushF n f d.h) m'

theorem bldRun_succ (c : PCfg) (who sz : Int) (cond : Bool) (k n : Nat) (f : Nat → Int) (m : PMem) : bldRun c who sz cond (k + 1) n f m =
    (bif cond && !decide ((makeM c who m sz false).1.e = 0) then bldRun c who sz cond k n f (makeM c who m sz false).2 else bldRun c who sz cond k (n + 1) (pushF n f (makeM c who m sz false).1.h) (makeM c who m sz false).2) := rfl

theorem bldRun_zero (c : PCfg) (who sz : Int) (cond : Bool) (n : Nat) (f : Nat → Int) (m : PMem) : bldRun c who sz cond 0 n f m = (n, f, m) := rfl

attribute [irreducible] bldRun

/-- So many objects of a list are let go, from that one on. -/
def dropRun2 (c : PCfg) (who : Int) (f : Nat → Int) : Nat → Nat → PMem → PMem
  | 0, _, m => m
  | k + 1, i, m => dropRun2 c who f k (i + 1) (dropdM c who m (f i) false).2

theorem dropRun2_succ (c : PCfg) (who : Int) (f : Nat → Int) (k i : Nat) (m : PMem) : dropRun2 c who f (k + 1) i m = dropRun2 c who f k (i + 1) (dropdM c who m (f i) false).2 := rfl
theorem dropRun2_zero (c : PCfg) (who : Int) (f : Nat → Int) (i : Nat) (m : PMem) : dropRun2 c who f 0 i m = m := rfl

attribute [irreducible] dropRun2

end Go.FL

namespace Go.Proofs.YtfjnkneoddankaaGreat
open Go Go.FL Go.Proofs

abbrev lawEnv (c1 c2 c3 c4 c5 c6 c7 who : Int) : LB := .cells 27 [cI c1, cI c2, cI c3, cI c4, cI c5, cI c6, cI c7, .ptr 0 0, cI who]
abbrev litB : LB := .cells 32 []
abbrev usB (n cap : Nat) (f : Nat → Int) : LB := .rows 32 1 n cap [.int .u64 f]

abbrev pbF : FuncId := 5
abbrev pbTA (sz : Int) (b : Int) (i : Int) : Tm := [(1, .c (.int .i64 b)), (5, .c (.ptr 1 0)), (7, .c (.int .i64 sz)), (8, .c (.slice 2 0 0 0)), (9, .c (cI i))]
abbrev pbTB (sz : Int) (b : Int) (k n cap : Nat) (i : Int) : Tm := [(1, .c (.int .i64 b)), (5, .c (.ptr 1 0)), (7, .c (.int .i64 sz)), (8, .c (.slice k 0 n cap)), (9, .c (cI i))]

theorem pbA_ev (c1 c2 c3 c4 c5 c6 c7 who : Int) (sz : Int) (b : Int) (i : Int) (m : PMem) (wr : List Nat) (k : X → Tm → LH → Prop) :
    evC Tryz.prog (evF Tryz.prog ownK8 10 20) (tmpsF Tryz.prog pbF) noLo 10 (loopF Tryz.prog pbF 0) (pbTA sz b i) ⟨[.obj (.mem m), lawEnv c1 c2 c3 c4 c5 c6 c7 who, litB], wr⟩ (fun x T H => k x (Tm.norm [1, 5, 7, 8, 9] T) H) =
    (bif decide (i < 30) then bif decide ((makeM ⟨c1, c2, c3, c4, c5, c6, c7⟩ who m sz false).1.e = 0) then (((0 : Nat) = 0 ∧ (0 : Nat) = 0) ∧ ∀ more : Nat, k .normal (pbTB sz b 5 1 (1 + more) (IntKind.wrap .i64 (i + 1))) ⟨[.obj (.mem (makeM ⟨c1, c2, c3, c4, c5, c6, c7⟩ who m sz false).2), lawEnv c1 c2 c3 c4 c5 c6 c7 who, litB, .cells 34 [cI (makeM ⟨c1, c2, c3, c4, c5, c6, c7⟩ who m sz false).1.e, cU (makeM ⟨c1, c2, c3, c4, c5, c6, c7⟩ who m sz false).1.h, cI (makeM ⟨c1, c2, c3, c4, c5, c6, c7⟩ who m sz false).1.v, cI (makeM ⟨c1, c2, c3, c4, c5, c6, c7⟩ who m sz false).1.st], .cells 32 [cU (makeM ⟨c1, c2, c3, c4, c5, c6, c7⟩ who m sz false).1.h], usB 1 (1 + more) (fun _ => (makeM ⟨c1, c2, c3, c4, c5, c6, c7⟩ who m sz false).1.h)], 3 :: 0 :: wr⟩)
      else k .normal (pbTA sz b (IntKind.wrap .i64 (i + 1))) ⟨[.obj (.mem (makeM ⟨c1, c2, c3, c4, c5, c6, c7⟩ who m sz false).2), lawEnv c1 c2 c3 c4 c5 c6 c7 who, litB, .cells 34 [cI (makeM ⟨c1, c2, c3, c4, c5, c6, c7⟩ who m sz false).1.e, cU (makeM ⟨c1, c2, c3, c4, c5, c6, c7⟩ who m sz false).1.h, cI (makeM ⟨c1, c2, c3, c4, c5, c6, c7⟩ who m sz false).1.v, cI (makeM ⟨c1, c2, c3, c4, c5, c6, c7⟩ who m sz false).1.st]], 3 :: 0 :: wr⟩
    else k (.exit 0) (pbTA sz b i) ⟨[.obj (.mem m), lawEnv c1 c2 c3 c4 c5 c6 c7 who, litB], wr⟩) := by kernel_rfl

theorem pbB_ev (c1 c2 c3 c4 c5 c6 c7 who : Int) (sz : Int) (b : Int) (i : Int) (n cap : Nat) (f : Nat → Int) (m : PMem) (wr : List Nat) (k : X → Tm → LH → Prop) :
    evC Tryz.prog (evF Tryz.prog ownK8 10 20) (tmpsF Tryz.prog pbF) noLo 10 (loopF Tryz.prog pbF 0) (pbTB sz b 3 n cap i) ⟨[.obj (.mem m), lawEnv c1 c2 c3 c4 c5 c6 c7 who, litB, usB n cap f], wr⟩ (fun x T H => k x (Tm.norm [1, 5, 7, 8, 9] T) H) =
    (bif decide (i < 30) then bif decide ((makeM ⟨c1, c2, c3, c4, c5, c6, c7⟩ who m sz false).1.e = 0) then (((n = n ∧ cap = cap) ∧ n ≤ 1048576) ∧ bif decide (n + 1 ≤ cap) then
        k .normal (pbTB sz b 3 (n + 1) cap (IntKind.wrap .i64 (i + 1))) ⟨[.obj (.mem (makeM ⟨c1, c2, c3, c4, c5, c6, c7⟩ who m sz false).2), lawEnv c1 c2 c3 c4 c5 c6 c7 who, litB, usB (n + 1) cap (fun j => bif Nat.beq j (n) then (makeM ⟨c1, c2, c3, c4, c5, c6, c7⟩ who m sz false).1.h else f j), .cells 34 [cI (makeM ⟨c1, c2, c3, c4, c5, c6, c7⟩ who m sz false).1.e, cU (makeM ⟨c1, c2, c3, c4, c5, c6, c7⟩ who m sz false).1.h, cI (makeM ⟨c1, c2, c3, c4, c5, c6, c7⟩ who m sz false).1.v, cI (makeM ⟨c1, c2, c3, c4, c5, c6, c7⟩ who m sz false).1.st], .cells 32 [cU (makeM ⟨c1, c2, c3, c4, c5, c6, c7⟩ who m sz false).1.h]], 3 :: 4 :: 0 :: wr⟩
        else ∀ more : Nat, k .normal (pbTB sz b 6 (n + 1) (n + 1 + more) (IntKind.wrap .i64 (i + 1))) ⟨[.obj (.mem (makeM ⟨c1, c2, c3, c4, c5, c6, c7⟩ who m sz false).2), lawEnv c1 c2 c3 c4 c5 c6 c7 who, litB, usB n cap f, .cells 34 [cI (makeM ⟨c1, c2, c3, c4, c5, c6, c7⟩ who m sz false).1.e, cU (makeM ⟨c1, c2, c3, c4, c5, c6, c7⟩ who m sz false).1.h, cI (makeM ⟨c1, c2, c3, c4, c5, c6, c7⟩ who m sz false).1.v, cI (makeM ⟨c1, c2, c3, c4, c5, c6, c7⟩ who m sz false).1.st], .cells 32 [cU (makeM ⟨c1, c2, c3, c4, c5, c6, c7⟩ who m sz false).1.h], usB (n + 1) (n + 1 + more) (fun j => bif Nat.beq j (n) then (makeM ⟨c1, c2, c3, c4, c5, c6, c7⟩ who m sz false).1.h else f j)], 4 :: 0 :: wr⟩)
      else k .normal (pbTB sz b 3 n cap (IntKind.wrap .i64 (i + 1))) ⟨[.obj (.mem (makeM ⟨c1, c2, c3, c4, c5, c6, c7⟩ who m sz false).2), lawEnv c1 c2 c3 c4 c5 c6 c7 who, litB, usB n cap f, .cells 34 [cI (makeM ⟨c1, c2, c3, c4, c5, c6, c7⟩ who m sz false).1.e, cU (makeM ⟨c1, c2, c3, c4, c5, c6, c7⟩ who m sz false).1.h, cI (makeM ⟨c1, c2, c3, c4, c5, c6, c7⟩ who m sz false).1.v, cI (makeM ⟨c1, c2, c3, c4, c5, c6, c7⟩ who m sz false).1.st]], 4 :: 0 :: wr⟩
    else k (.exit 0) (pbTB sz b 3 n cap i) ⟨[.obj (.mem m), lawEnv c1 c2 c3 c4 c5 c6 c7 who, litB, usB n cap f], wr⟩) := by kernel_rfl

def lh_pb : LHd := fun T H K => match Tm.norm [1, 5, 7, 8, 9] T with
  | [(1, .c (.int .i64 b)), (5, .c (.ptr 1 0)), (7, .c (.int .i64 sz)), (8, .c (.slice 2 0 0 0)), (9, .c (.int .i64 i))] => match H.bl with
    | [.obj (.mem m), .cells t [.int .i64 c1, .int .i64 c2, .int .i64 c3, .int .i64 c4, .int .i64 c5, .int .i64 c6, .int .i64 c7, .ptr 0 0, .int .i64 who], .cells t2 []] =>
      ((t = 27 ∧ t2 = 32 ∧ i = 0) ∧ Nat.beq (bldRun ⟨c1, c2, c3, c4, c5, c6, c7⟩ who sz true 30 0 (fun _ => 0) m).1 0 = false) ∧
      ∀ cap : Nat, K (.exit 0) [(1, .c (.int .i64 b)), (5, .c (.ptr 1 0)), (7, .c (.int .i64 sz)), (8, .c (.slice 3 0 (bldRun ⟨c1, c2, c3, c4, c5, c6, c7⟩ who sz true 30 0 (fun _ => 0) m).1 cap))]
        ⟨[.obj (.mem (bldRun ⟨c1, c2, c3, c4, c5, c6, c7⟩ who sz true 30 0 (fun _ => 0) m).2.2), lawEnv c1 c2 c3 c4 c5 c6 c7 who, litB, usB (bldRun ⟨c1, c2, c3, c4, c5, c6, c7⟩ who sz true 30 0 (fun _ => 0) m).1 cap (bldRun ⟨c1, c2, c3, c4, c5, c6, c7⟩ who sz true 30 0 (fun _ => 0) m).2.1], 0 :: 3 :: 4 :: H.wr⟩
    | _ => False
  | _ => False

abbrev pbSt (c1 c2 c3 c4 c5 c6 c7 who : Int) (sz : Int) (b : Int) : Nat → Nat → (Nat → Int) → PMem → Int → Tm → List LB → Prop
  | 0, _, _, m, i, T, bl => T = pbTA sz b i ∧ bl = [.obj (.mem m), lawEnv c1 c2 c3 c4 c5 c6 c7 who, litB]
  | n + 1, cap, f, m, i, T, bl => T = pbTB sz b 3 (n + 1) cap i ∧ bl = [.obj (.mem m), lawEnv c1 c2 c3 c4 c5 c6 c7 who, litB, usB (n + 1) cap f]

theorem lh_pb_ok : BodyOK Tryz.prog (tmpsF Tryz.prog pbF) (.loop (loopF Tryz.prog pbF 0)) lh_pb := by
  refine loopR_ok (evC_ok fnOK mixed (evF_ok fnOK mixed ownK8_ok 10 20) _ (lo := noLo) 10 _ LoOK.no) ?_
  intro T H K h
  unfold lh_pb at h
  split at h
  case h_2 => exact h.elim
  rename_i x0 b sz i hT
  split at h
  case h_2 => exact h.elim
  rename_i x' m t c1 c2 c3 c4 c5 c6 c7 who t2 hH
  obtain ⟨⟨⟨rfl, rfl, rfl⟩, hne⟩, h⟩ := h
  have hl3 : H.bl.length = 3 := by rw [hH]; rfl
  rw [hl3]
  generalize hr : bldRun ⟨c1, c2, c3, c4, c5, c6, c7⟩ who sz true 30 0 (fun _ => 0) m = r at h hne
  refine ⟨[1, 5, 7, 8, 9], fun k T' H' => ∃ (j n cap : Nat) (f : Nat → Int) (m' : PMem), k = 30 - j ∧ j ≤ 30 ∧ n ≤ j ∧ pbSt c1 c2 c3 c4 c5 c6 c7 who sz b n cap f m' (j : Int) T' H'.bl ∧ (∀ k ∈ H'.wr, k ∈ 0 :: 3 :: 4 :: H.wr) ∧
    bldRun ⟨c1, c2, c3, c4, c5, c6, c7⟩ who sz true (30 - j) n f m' = r, ⟨30, 0, 0, 0, fun _ => 0, m, rfl, by omega, by omega, ⟨hT, hH⟩, fun k hk => by simp [hk], hr⟩, ?_⟩
  rintro k T' ⟨bl, wr⟩ ⟨j, n, cap, f, m, rfl, hj, hnj, hst, hwr, hrun⟩
  simp only at hwr
  have hi : IntKind.i64.wrap ((j : Int) + 1) = ((j + 1 : Nat) : Int) := by rw [IntKind.wrap_i64]; omega
  have sub : ∀ l : List Nat, (∀ k ∈ l, k = 0 ∨ k = 3 ∨ k = 4) → ∀ k ∈ l ++ wr, k ∈ 0 :: 3 :: 4 :: H.wr := by
    intro l hl k hk
    rcases List.mem_append.1 hk with hk | hk
    · rcases hl k hk with rfl | rfl | rfl <;> simp
    · exact hwr k hk
  by_cases hlt : j < 30
  · have h1 : decide ((j : Int) < 30) = true := by simp; omega
    obtain ⟨q, hq⟩ : ∃ q, 30 - j = q + 1 := ⟨30 - (j + 1), by omega⟩
    have hq' : q = 30 - (j + 1) := by omega
    rw [hq, bldRun_succ] at hrun
    cases n with
    | zero =>
      obtain ⟨rfl, hbl⟩ := hst
      simp only at hbl
      subst hbl
      rw [pbA_ev, h1]
      simp only [cond_true]
      cases hd : decide ((makeM ⟨c1, c2, c3, c4, c5, c6, c7⟩ who m sz false).1.e = 0) with
      | true =>
        rw [hd] at hrun
        simp only [Bool.not_true, Bool.and_false, cond_false] at hrun
        simp only [cond_true]
        refine ⟨⟨trivial, trivial⟩, fun more => ?_⟩
        refine ⟨30 - (j + 1), by omega, [0, 1, 2, 5], pbTB sz b 3 (0 + 1) (1 + more) ((j + 1 : Nat) : Int), ⟨[.obj (.mem (makeM ⟨c1, c2, c3, c4, c5, c6, c7⟩ who m sz false).2), lawEnv c1 c2 c3 c4 c5 c6 c7 who, litB, usB (0 + 1) (1 + more) (pushF 0 f (makeM ⟨c1, c2, c3, c4, c5, c6, c7⟩ who m sz false).1.h)], [3, 0] ++ wr⟩, ⟨rfl, ⟨⟨rfl, rfl⟩, ⟨rfl, rfl⟩, ⟨rfl, rfl⟩, ⟨rfl, rfl⟩, trivial⟩, ?_, fun _ hk => hk⟩, j + 1, 0 + 1, (1 + more), pushF 0 f (makeM ⟨c1, c2, c3, c4, c5, c6, c7⟩ who m sz false).1.h, (makeM ⟨c1, c2, c3, c4, c5, c6, c7⟩ who m sz false).2, rfl, by omega, by omega, ⟨rfl, rfl⟩, sub [3, 0] (by simp), by rw [← hq']; exact hrun⟩
        rw [hi]
        exact ⟨⟨rfl, rfl⟩, ⟨rfl, rfl⟩, ⟨rfl, rfl⟩, ⟨rfl, rfl⟩, ⟨rfl, rfl⟩, trivial⟩
      | false =>
        rw [hd] at hrun
        simp only [Bool.not_false, Bool.and_true, Bool.true_and, cond_true] at hrun
        simp only [cond_false]
        refine ⟨30 - (j + 1), by omega, [0, 1, 2], pbTA sz b ((j + 1 : Nat) : Int), ⟨[.obj (.mem (makeM ⟨c1, c2, c3, c4, c5, c6, c7⟩ who m sz false).2), lawEnv c1 c2 c3 c4 c5 c6 c7 who, litB], [3, 0] ++ wr⟩, ⟨rfl, ⟨⟨rfl, rfl⟩, ⟨rfl, rfl⟩, ⟨rfl, rfl⟩, trivial⟩, ?_, fun _ hk => hk⟩, j + 1, 0, 0, f, (makeM ⟨c1, c2, c3, c4, c5, c6, c7⟩ who m sz false).2, rfl, by omega, by omega, ⟨rfl, rfl⟩, sub [3, 0] (by simp), by rw [← hq']; exact hrun⟩
        rw [hi]
        exact ⟨⟨rfl, rfl⟩, ⟨rfl, rfl⟩, ⟨rfl, rfl⟩, ⟨rfl, rfl⟩, ⟨rfl, rfl⟩, trivial⟩
    | succ n =>
      obtain ⟨rfl, hbl⟩ := hst
      simp only at hbl
      subst hbl
      rw [pbB_ev, h1]
      simp only [cond_true]
      cases hd : decide ((makeM ⟨c1, c2, c3, c4, c5, c6, c7⟩ who m sz false).1.e = 0) with
      | true =>
        rw [hd] at hrun
        simp only [Bool.not_true, Bool.and_false, cond_false] at hrun
        simp only [cond_true]
        refine ⟨⟨⟨trivial, trivial⟩, by omega⟩, ?_⟩
        cases hc : decide (n + 1 + 1 ≤ cap) with
        | true =>
          simp only [cond_true]
          refine ⟨30 - (j + 1), by omega, [0, 1, 2, 3], pbTB sz b 3 ((n + 1) + 1) cap ((j + 1 : Nat) : Int), ⟨[.obj (.mem (makeM ⟨c1, c2, c3, c4, c5, c6, c7⟩ who m sz false).2), lawEnv c1 c2 c3 c4 c5 c6 c7 who, litB, usB ((n + 1) + 1) cap (pushF (n + 1) f (makeM ⟨c1, c2, c3, c4, c5, c6, c7⟩ who m sz false).1.h)], [3, 4, 0] ++ wr⟩, ⟨rfl, ⟨⟨rfl, rfl⟩, ⟨rfl, rfl⟩, ⟨rfl, rfl⟩, ⟨rfl, rfl⟩, trivial⟩, ?_, fun _ hk => hk⟩, j + 1, (n + 1) + 1, cap, pushF (n + 1) f (makeM ⟨c1, c2, c3, c4, c5, c6, c7⟩ who m sz false).1.h, (makeM ⟨c1, c2, c3, c4, c5, c6, c7⟩ who m sz false).2, rfl, by omega, by omega, ⟨rfl, rfl⟩, sub [3, 4, 0] (by simp), by rw [← hq']; exact hrun⟩
          rw [hi]
          exact ⟨⟨rfl, rfl⟩, ⟨rfl, rfl⟩, ⟨rfl, rfl⟩, ⟨rfl, rfl⟩, ⟨rfl, rfl⟩, trivial⟩
        | false =>
          simp only [cond_false]
          intro more
          refine ⟨30 - (j + 1), by omega, [0, 1, 2, 6], pbTB sz b 3 ((n + 1) + 1) (n + 1 + 1 + more) ((j + 1 : Nat) : Int), ⟨[.obj (.mem (makeM ⟨c1, c2, c3, c4, c5, c6, c7⟩ who m sz false).2), lawEnv c1 c2 c3 c4 c5 c6 c7 who, litB, usB ((n + 1) + 1) (n + 1 + 1 + more) (pushF (n + 1) f (makeM ⟨c1, c2, c3, c4, c5, c6, c7⟩ who m sz false).1.h)], [4, 0] ++ wr⟩, ⟨rfl, ⟨⟨rfl, rfl⟩, ⟨rfl, rfl⟩, ⟨rfl, rfl⟩, ⟨rfl, rfl⟩, trivial⟩, ?_, fun _ hk => hk⟩, j + 1, (n + 1) + 1, (n + 1 + 1 + more), pushF (n + 1) f (makeM ⟨c1, c2, c3, c4, c5, c6, c7⟩ who m sz false).1.h, (makeM ⟨c1, c2, c3, c4, c5, c6, c7⟩ who m sz false).2, rfl, by omega, by omega, ⟨rfl, rfl⟩, sub [4, 0] (by simp), by rw [← hq']; exact hrun⟩
          rw [hi]
          exact ⟨⟨rfl, rfl⟩, ⟨rfl, rfl⟩, ⟨rfl, rfl⟩, ⟨rfl, rfl⟩, ⟨rfl, rfl⟩, trivial⟩
      | false =>
        rw [hd] at hrun
        simp only [Bool.not_false, Bool.and_true, Bool.true_and, cond_true] at hrun
        simp only [cond_false]
        refine ⟨30 - (j + 1), by omega, [0, 1, 2, 3], pbTB sz b 3 (n + 1) cap ((j + 1 : Nat) : Int), ⟨[.obj (.mem (makeM ⟨c1, c2, c3, c4, c5, c6, c7⟩ who m sz false).2), lawEnv c1 c2 c3 c4 c5 c6 c7 who, litB, usB (n + 1) cap f], [4, 0] ++ wr⟩, ⟨rfl, ⟨⟨rfl, rfl⟩, ⟨rfl, rfl⟩, ⟨rfl, rfl⟩, ⟨rfl, rfl⟩, trivial⟩, ?_, fun _ hk => hk⟩, j + 1, n + 1, cap, f, (makeM ⟨c1, c2, c3, c4, c5, c6, c7⟩ who m sz false).2, rfl, by omega, by omega, ⟨rfl, rfl⟩, sub [4, 0] (by simp), by rw [← hq']; exact hrun⟩
        rw [hi]
        exact ⟨⟨rfl, rfl⟩, ⟨rfl, rfl⟩, ⟨rfl, rfl⟩, ⟨rfl, rfl⟩, ⟨rfl, rfl⟩, trivial⟩
  · have h1 : decide ((j : Int) < 30) = false := by simp; omega
    have hz : 30 - j = 0 := by omega
    rw [hz, bldRun_zero] at hrun
    subst hrun
    cases n with
    | zero => cases hne
    | succ n =>
      obtain ⟨rfl, hbl⟩ := hst
      simp only at hbl
      subst hbl
      rw [pbB_ev, h1]
      simp only [cond_false]
      exact ⟨[0, 1, 2, 3], [(1, .c (.int .i64 b)), (5, .c (.ptr 1 0)), (7, .c (.int .i64 sz)), (8, .c (.slice 3 0 (n + 1) cap))], ⟨[.obj (.mem m), lawEnv c1 c2 c3 c4 c5 c6 c7 who, litB, usB (n + 1) cap f], 0 :: 3 :: 4 :: H.wr⟩, ⟨rfl, ⟨⟨rfl, rfl⟩, ⟨rfl, rfl⟩, ⟨rfl, rfl⟩, ⟨rfl, rfl⟩, trivial⟩, ⟨⟨rfl, rfl⟩, ⟨rfl, rfl⟩, ⟨rfl, rfl⟩, ⟨rfl, rfl⟩, trivial⟩, hwr⟩, h cap⟩

abbrev abF : FuncId := 10
abbrev abTA (i : Int) : Tm := [(1, .c (.ptr 1 0)), (3, .c (.slice 2 0 0 0)), (4, .c (cI i))]
abbrev abTB (k n cap : Nat) (i : Int) : Tm := [(1, .c (.ptr 1 0)), (3, .c (.slice k 0 n cap)), (4, .c (cI i))]

theorem abA_ev (c1 c2 c3 c4 c5 c6 c7 who : Int) (i : Int) (m : PMem) (wr : List Nat) (k : X → Tm → LH → Prop) :
    evC Tryz.prog (evF Tryz.prog ownK8 10 20) (tmpsF Tryz.prog abF) noLo 10 (loopF Tryz.prog abF 0) (abTA i) ⟨[.obj (.mem m), lawEnv c1 c2 c3 c4 c5 c6 c7 who, litB], wr⟩ (fun x T H => k x (Tm.norm [1, 3, 4] T) H) =
    (bif decide (i < 7) then (((0 : Nat) = 0 ∧ (0 : Nat) = 0) ∧ ∀ more : Nat, k .normal (abTB 4 1 (1 + more) (IntKind.wrap .i64 (i + 1))) ⟨[.obj (.mem (makeM ⟨c1, c2, c3, c4, c5, c6, c7⟩ who m 2 false).2), lawEnv c1 c2 c3 c4 c5 c6 c7 who, litB, .cells 32 [cU (makeM ⟨c1, c2, c3, c4, c5, c6, c7⟩ who m 2 false).1.h], usB 1 (1 + more) (fun _ => (makeM ⟨c1, c2, c3, c4, c5, c6, c7⟩ who m 2 false).1.h)], 0 :: wr⟩)
      
    else k (.exit 0) (abTA i) ⟨[.obj (.mem m), lawEnv c1 c2 c3 c4 c5 c6 c7 who, litB], wr⟩) := by kernel_rfl

theorem abB_ev (c1 c2 c3 c4 c5 c6 c7 who : Int) (i : Int) (n cap : Nat) (f : Nat → Int) (m : PMem) (wr : List Nat) (k : X → Tm → LH → Prop) :
    evC Tryz.prog (evF Tryz.prog ownK8 10 20) (tmpsF Tryz.prog abF) noLo 10 (loopF Tryz.prog abF 0) (abTB 3 n cap i) ⟨[.obj (.mem m), lawEnv c1 c2 c3 c4 c5 c6 c7 who, litB, usB n cap f], wr⟩ (fun x T H => k x (Tm.norm [1, 3, 4] T) H) =
    (bif decide (i < 7) then (((n = n ∧ cap = cap) ∧ n ≤ 1048576) ∧ bif decide (n + 1 ≤ cap) then
        k .normal (abTB 3 (n + 1) cap (IntKind.wrap .i64 (i + 1))) ⟨[.obj (.mem (makeM ⟨c1, c2, c3, c4, c5, c6, c7⟩ who m 2 false).2), lawEnv c1 c2 c3 c4 c5 c6 c7 who, litB, usB (n + 1) cap (fun j => bif Nat.beq j (n) then (makeM ⟨c1, c2, c3, c4, c5, c6, c7⟩ who m 2 false).1.h else f j), .cells 32 [cU (makeM ⟨c1, c2, c3, c4, c5, c6, c7⟩ who m 2 false).1.h]], 3 :: 0 :: wr⟩
        else ∀ more : Nat, k .normal (abTB 5 (n + 1) (n + 1 + more) (IntKind.wrap .i64 (i + 1))) ⟨[.obj (.mem (makeM ⟨c1, c2, c3, c4, c5, c6, c7⟩ who m 2 false).2), lawEnv c1 c2 c3 c4 c5 c6 c7 who, litB, usB n cap f, .cells 32 [cU (makeM ⟨c1, c2, c3, c4, c5, c6, c7⟩ who m 2 false).1.h], usB (n + 1) (n + 1 + more) (fun j => bif Nat.beq j (n) then (makeM ⟨c1, c2, c3, c4, c5, c6, c7⟩ who m 2 false).1.h else f j)], 0 :: wr⟩)
      
    else k (.exit 0) (abTB 3 n cap i) ⟨[.obj (.mem m), lawEnv c1 c2 c3 c4 c5 c6 c7 who, litB, usB n cap f], wr⟩) := by kernel_rfl

def lh_ab : LHd := fun T H K => match Tm.norm [1, 3, 4] T with
  | [(1, .c (.ptr 1 0)), (3, .c (.slice 2 0 0 0)), (4, .c (.int .i64 i))] => match H.bl with
    | [.obj (.mem m), .cells t [.int .i64 c1, .int .i64 c2, .int .i64 c3, .int .i64 c4, .int .i64 c5, .int .i64 c6, .int .i64 c7, .ptr 0 0, .int .i64 who], .cells t2 []] =>
      ((t = 27 ∧ t2 = 32 ∧ i = 0) ∧ Nat.beq (bldRun ⟨c1, c2, c3, c4, c5, c6, c7⟩ who 2 false 7 0 (fun _ => 0) m).1 0 = false) ∧
      ∀ cap : Nat, K (.exit 0) [(1, .c (.ptr 1 0)), (3, .c (.slice 3 0 (bldRun ⟨c1, c2, c3, c4, c5, c6, c7⟩ who 2 false 7 0 (fun _ => 0) m).1 cap))]
        ⟨[.obj (.mem (bldRun ⟨c1, c2, c3, c4, c5, c6, c7⟩ who 2 false 7 0 (fun _ => 0) m).2.2), lawEnv c1 c2 c3 c4 c5 c6 c7 who, litB, usB (bldRun ⟨c1, c2, c3, c4, c5, c6, c7⟩ who 2 false 7 0 (fun _ => 0) m).1 cap (bldRun ⟨c1, c2, c3, c4, c5, c6, c7⟩ who 2 false 7 0 (fun _ => 0) m).2.1], 0 :: 3 :: 4 :: H.wr⟩
    | _ => False
  | _ => False

abbrev abSt (c1 c2 c3 c4 c5 c6 c7 who : Int) : Nat → Nat → (Nat → Int) → PMem → Int → Tm → List LB → Prop
  | 0, _, _, m, i, T, bl => T = abTA i ∧ bl = [.obj (.mem m), lawEnv c1 c2 c3 c4 c5 c6 c7 who, litB]
  | n + 1, cap, f, m, i, T, bl => T = abTB 3 (n + 1) cap i ∧ bl = [.obj (.mem m), lawEnv c1 c2 c3 c4 c5 c6 c7 who, litB, usB (n + 1) cap f]

theorem lh_ab_ok : BodyOK Tryz.prog (tmpsF Tryz.prog abF) (.loop (loopF Tryz.prog abF 0)) lh_ab := by
  refine loopR_ok (evC_ok fnOK mixed (evF_ok fnOK mixed ownK8_ok 10 20) _ (lo := noLo) 10 _ LoOK.no) ?_
  intro T H K h
  unfold lh_ab at h
  split at h
  case h_2 => exact h.elim
  rename_i x0 i hT
  split at h
  case h_2 => exact h.elim
  rename_i x' m t c1 c2 c3 c4 c5 c6 c7 who t2 hH
  obtain ⟨⟨⟨rfl, rfl, rfl⟩, hne⟩, h⟩ := h
  have hl3 : H.bl.length = 3 := by rw [hH]; rfl
  rw [hl3]
  generalize hr : bldRun ⟨c1, c2, c3, c4, c5, c6, c7⟩ who 2 false 7 0 (fun _ => 0) m = r at h hne
  refine ⟨[1, 3, 4], fun k T' H' => ∃ (j n cap : Nat) (f : Nat → Int) (m' : PMem), k = 7 - j ∧ j ≤ 7 ∧ n ≤ j ∧ abSt c1 c2 c3 c4 c5 c6 c7 who n cap f m' (j : Int) T' H'.bl ∧ (∀ k ∈ H'.wr, k ∈ 0 :: 3 :: 4 :: H.wr) ∧
    bldRun ⟨c1, c2, c3, c4, c5, c6, c7⟩ who 2 false (7 - j) n f m' = r, ⟨7, 0, 0, 0, fun _ => 0, m, rfl, by omega, by omega, ⟨hT, hH⟩, fun k hk => by simp [hk], hr⟩, ?_⟩
  rintro k T' ⟨bl, wr⟩ ⟨j, n, cap, f, m, rfl, hj, hnj, hst, hwr, hrun⟩
  simp only at hwr
  have hi : IntKind.i64.wrap ((j : Int) + 1) = ((j + 1 : Nat) : Int) := by rw [IntKind.wrap_i64]; omega
  have sub : ∀ l : List Nat, (∀ k ∈ l, k = 0 ∨ k = 3 ∨ k = 4) → ∀ k ∈ l ++ wr, k ∈ 0 :: 3 :: 4 :: H.wr := by
    intro l hl k hk
    rcases List.mem_append.1 hk with hk | hk
    · rcases hl k hk with rfl | rfl | rfl <;> simp
    · exact hwr k hk
  by_cases hlt : j < 7
  · have h1 : decide ((j : Int) < 7) = true := by simp; omega
    obtain ⟨q, hq⟩ : ∃ q, 7 - j = q + 1 := ⟨7 - (j + 1), by omega⟩
    have hq' : q = 7 - (j + 1) := by omega
    rw [hq, bldRun_succ] at hrun
    cases n with
    | zero =>
      obtain ⟨rfl, hbl⟩ := hst
      simp only at hbl
      subst hbl
      rw [abA_ev, h1]
      simp only [cond_true]
      simp only [Bool.false_and, cond_false] at hrun
      refine ⟨⟨trivial, trivial⟩, fun more => ?_⟩
      refine ⟨7 - (j + 1), by omega, [0, 1, 2, 4], abTB 3 (0 + 1) (1 + more) ((j + 1 : Nat) : Int), ⟨[.obj (.mem (makeM ⟨c1, c2, c3, c4, c5, c6, c7⟩ who m 2 false).2), lawEnv c1 c2 c3 c4 c5 c6 c7 who, litB, usB (0 + 1) (1 + more) (pushF 0 f (makeM ⟨c1, c2, c3, c4, c5, c6, c7⟩ who m 2 false).1.h)], [0] ++ wr⟩, ⟨rfl, ⟨⟨rfl, rfl⟩, ⟨rfl, rfl⟩, ⟨rfl, rfl⟩, ⟨rfl, rfl⟩, trivial⟩, ?_, fun _ hk => hk⟩, j + 1, 0 + 1, (1 + more), pushF 0 f (makeM ⟨c1, c2, c3, c4, c5, c6, c7⟩ who m 2 false).1.h, (makeM ⟨c1, c2, c3, c4, c5, c6, c7⟩ who m 2 false).2, rfl, by omega, by omega, ⟨rfl, rfl⟩, sub [0] (by simp), by rw [← hq']; exact hrun⟩
      rw [hi]
      exact ⟨⟨rfl, rfl⟩, ⟨rfl, rfl⟩, ⟨rfl, rfl⟩, trivial⟩
    | succ n =>
      obtain ⟨rfl, hbl⟩ := hst
      simp only at hbl
      subst hbl
      rw [abB_ev, h1]
      simp only [cond_true]
      simp only [Bool.false_and, cond_false] at hrun
      refine ⟨⟨⟨trivial, trivial⟩, by omega⟩, ?_⟩
      cases hc : decide (n + 1 + 1 ≤ cap) with
      | true =>
        simp only [cond_true]
        refine ⟨7 - (j + 1), by omega, [0, 1, 2, 3], abTB 3 ((n + 1) + 1) cap ((j + 1 : Nat) : Int), ⟨[.obj (.mem (makeM ⟨c1, c2, c3, c4, c5, c6, c7⟩ who m 2 false).2), lawEnv c1 c2 c3 c4 c5 c6 c7 who, litB, usB ((n + 1) + 1) cap (pushF (n + 1) f (makeM ⟨c1, c2, c3, c4, c5, c6, c7⟩ who m 2 false).1.h)], [3, 0] ++ wr⟩, ⟨rfl, ⟨⟨rfl, rfl⟩, ⟨rfl, rfl⟩, ⟨rfl, rfl⟩, ⟨rfl, rfl⟩, trivial⟩, ?_, fun _ hk => hk⟩, j + 1, (n + 1) + 1, cap, pushF (n + 1) f (makeM ⟨c1, c2, c3, c4, c5, c6, c7⟩ who m 2 false).1.h, (makeM ⟨c1, c2, c3, c4, c5, c6, c7⟩ who m 2 false).2, rfl, by omega, by omega, ⟨rfl, rfl⟩, sub [3, 0] (by simp), by rw [← hq']; exact hrun⟩
        rw [hi]
        exact ⟨⟨rfl, rfl⟩, ⟨rfl, rfl⟩, ⟨rfl, rfl⟩, trivial⟩
      | false =>
        simp only [cond_false]
        intro more
        refine ⟨7 - (j + 1), by omega, [0, 1, 2, 5], abTB 3 ((n + 1) + 1) (n + 1 + 1 + more) ((j + 1 : Nat) : Int), ⟨[.obj (.mem (makeM ⟨c1, c2, c3, c4, c5, c6, c7⟩ who m 2 false).2), lawEnv c1 c2 c3 c4 c5 c6 c7 who, litB, usB ((n + 1) + 1) (n + 1 + 1 + more) (pushF (n + 1) f (makeM ⟨c1, c2, c3, c4, c5, c6, c7⟩ who m 2 false).1.h)], [0] ++ wr⟩, ⟨rfl, ⟨⟨rfl, rfl⟩, ⟨rfl, rfl⟩, ⟨rfl, rfl⟩, ⟨rfl, rfl⟩, trivial⟩, ?_, fun _ hk => hk⟩, j + 1, (n + 1) + 1, (n + 1 + 1 + more), pushF (n + 1) f (makeM ⟨c1, c2, c3, c4, c5, c6, c7⟩ who m 2 false).1.h, (makeM ⟨c1, c2, c3, c4, c5, c6, c7⟩ who m 2 false).2, rfl, by omega, by omega, ⟨rfl, rfl⟩, sub [0] (by simp), by rw [← hq']; exact hrun⟩
        rw [hi]
        exact ⟨⟨rfl, rfl⟩, ⟨rfl, rfl⟩, ⟨rfl, rfl⟩, trivial⟩
  · have h1 : decide ((j : Int) < 7) = false := by simp; omega
    have hz : 7 - j = 0 := by omega
    rw [hz, bldRun_zero] at hrun
    subst hrun
    cases n with
    | zero => cases hne
    | succ n =>
      obtain ⟨rfl, hbl⟩ := hst
      simp only at hbl
      subst hbl
      rw [abB_ev, h1]
      simp only [cond_false]
      exact ⟨[0, 1, 2, 3], [(1, .c (.ptr 1 0)), (3, .c (.slice 3 0 (n + 1) cap))], ⟨[.obj (.mem m), lawEnv c1 c2 c3 c4 c5 c6 c7 who, litB, usB (n + 1) cap f], 0 :: 3 :: 4 :: H.wr⟩, ⟨rfl, ⟨⟨rfl, rfl⟩, ⟨rfl, rfl⟩, ⟨rfl, rfl⟩, ⟨rfl, rfl⟩, trivial⟩, ⟨⟨rfl, rfl⟩, ⟨rfl, rfl⟩, trivial⟩, hwr⟩, h cap⟩

abbrev adF : FuncId := 10
abbrev adT (n cap : Nat) (i : Int) : Tm := [(1, .c (.ptr 1 0)), (3, .c (.slice 3 0 n cap)), (5, .c (cI i))]

theorem ad_ev (c1 c2 c3 c4 c5 c6 c7 who : Int) (i : Int) (n cap : Nat) (f : Nat → Int) (m : PMem) (wr : List Nat) (k : X → Tm → LH → Prop) :
    evC Tryz.prog (evF Tryz.prog ownK8 10 20) (tmpsF Tryz.prog adF) noLo 10 (loopF Tryz.prog adF 1) (adT n cap i) ⟨[.obj (.mem m), lawEnv c1 c2 c3 c4 c5 c6 c7 who, litB, usB n cap f], wr⟩ (fun x T H => k x (Tm.norm [1, 3, 5] T) H) =
    (bif decide (i < 6) then bif decide (0 ≤ i ∧ i < (n : Int)) then (i.toNat < n) ∧ bif decide (c4 = 0) then False else
        k .normal (adT n cap (IntKind.wrap .i64 (i + 1))) ⟨[.obj (.mem (dropdM ⟨c1, c2, c3, c4, c5, c6, c7⟩ who m (f i.toNat) false).2), lawEnv c1 c2 c3 c4 c5 c6 c7 who, litB, usB n cap f], 0 :: wr⟩ else False
    else k (.exit 2) (adT n cap i) ⟨[.obj (.mem m), lawEnv c1 c2 c3 c4 c5 c6 c7 who, litB, usB n cap f], wr⟩) := by kernel_rfl

def lh_ad : LHd := fun T H K => match Tm.norm [1, 3, 5] T with
  | [(1, .c (.ptr 1 0)), (3, .c (.slice 3 0 n cap)), (5, .c (.int .i64 i))] => match H.bl with
    | [.obj (.mem m), .cells t [.int .i64 c1, .int .i64 c2, .int .i64 c3, .int .i64 c4, .int .i64 c5, .int .i64 c6, .int .i64 c7, .ptr 0 0, .int .i64 who], .cells t2 [], .rows t3 1 n2 cap2 [.int .u64 f]] =>
      ((t = 27 ∧ t2 = 32 ∧ t3 = 32 ∧ i = 0 ∧ n2 = n ∧ cap2 = cap) ∧ Nat.ble 6 n = true ∧ n ≤ 1048576) ∧ (match decide (c4 = 0) with
      | true => False
      | false => K (.exit 2) [(1, .c (.ptr 1 0)), (3, .c (.slice 3 0 n cap))] ⟨[.obj (.mem (dropRun2 ⟨c1, c2, c3, c4, c5, c6, c7⟩ who f (6 - 0) 0 m)), lawEnv c1 c2 c3 c4 c5 c6 c7 who, litB, usB n cap f], 0 :: H.wr⟩)
    | _ => False
  | _ => False

theorem lh_ad_ok : BodyOK Tryz.prog (tmpsF Tryz.prog adF) (.loop (loopF Tryz.prog adF 1)) lh_ad := by
  refine loopN_ok (evC_ok fnOK mixed (evF_ok fnOK mixed ownK8_ok 10 20) _ (lo := noLo) 10 _ LoOK.no) ?_
  intro T H K h
  unfold lh_ad at h
  split at h
  case h_2 => exact h.elim
  rename_i x0 n cap i hT
  split at h
  case h_2 => exact h.elim
  rename_i x' m t c1 c2 c3 c4 c5 c6 c7 who t2 t3 n2 cap2 f hH
  obtain ⟨⟨⟨rfl, rfl, rfl, rfl, rfl, rfl⟩, hbn, hn⟩, h⟩ := h
  split at h
  · exact h.elim
  rename_i hc4
  have hbn := Nat.le_of_ble_eq_true hbn
  generalize hr : dropRun2 ⟨c1, c2, c3, c4, c5, c6, c7⟩ who f (6 - 0) 0 m = r at h
  refine ⟨[1, 3, 5], [1, 3], fun k T' H' => ∃ (j : Nat) (m' : PMem), k = 6 - j ∧ 0 ≤ j ∧ (j ≤ 6 ∨ j = 0) ∧ T' = adT n2 cap2 (j : Int) ∧ H'.bl = [.obj (.mem m'), lawEnv c1 c2 c3 c4 c5 c6 c7 who, litB, usB n2 cap2 f] ∧ (∀ k ∈ H'.wr, k ∈ 0 :: H.wr) ∧
    dropRun2 ⟨c1, c2, c3, c4, c5, c6, c7⟩ who f (6 - j) j m' = r, ⟨6 - 0, 0, m, rfl, by omega, by omega, hT, hH, fun k hk => by simp [hk], hr⟩, ?_⟩
  rintro k T' ⟨bl, wr⟩ ⟨j, m', rfl, hj0, hj, rfl, hbl, hwr, hrun⟩
  simp only at hbl hwr
  subst hbl
  rw [ad_ev]
  have hi : IntKind.i64.wrap ((j : Int) + 1) = ((j + 1 : Nat) : Int) := by rw [IntKind.wrap_i64]; omega
  by_cases hlt : j < 6
  · have h1 : decide ((j : Int) < 6) = true := by simp; omega
    have h2 : decide (0 ≤ (j : Int) ∧ (j : Int) < (n2 : Int)) = true := by simp; omega
    obtain ⟨q, hq⟩ : ∃ q, 6 - j = q + 1 := ⟨6 - (j + 1), by omega⟩
    have hq' : q = 6 - (j + 1) := by omega
    rw [hq, dropRun2_succ] at hrun
    rw [h1, h2, hc4]
    simp only [cond_true, cond_false, Int.toNat_natCast]
    refine ⟨by omega, 6 - (j + 1), by omega, j + 1, _, rfl, by omega, by omega, by rw [hi], rfl, ?_, by rw [← hq']; exact hrun⟩
    intro k hk
    rcases List.mem_cons.1 hk with rfl | hk
    · simp
    · exact hwr k hk
  · have h1 : decide ((j : Int) < 6) = false := by simp; omega
    rw [h1]
    simp only [cond_false]
    have hz : 6 - j = 0 := by omega
    rw [hz, dropRun2_zero] at hrun
    subst hrun
    exact ⟨0 :: H.wr, hwr, h⟩

abbrev pdF : FuncId := 5
abbrev pdT (b : Int) (n cap : Nat) (i : Int) : Tm := [(1, .c (.int .i64 b)), (5, .c (.ptr 1 0)), (8, .c (.slice 3 0 n cap)), (13, .c (cI i))]

theorem pd_ev (c1 c2 c3 c4 c5 c6 c7 who : Int) (b : Int) (bi : LB) (i : Int) (n cap : Nat) (f : Nat → Int) (m : PMem) (wr : List Nat) (k : X → Tm → LH → Prop) :
    evC Tryz.prog (evF Tryz.prog ownK8 10 20) (tmpsF Tryz.prog pdF) noLo 10 (loopF Tryz.prog pdF 2) (pdT b n cap i) ⟨[.obj (.mem m), lawEnv c1 c2 c3 c4 c5 c6 c7 who, litB, usB n cap f, bi], wr⟩ (fun x T H => k x (Tm.norm [1, 5, 8, 13] T) H) =
    (bif decide (i < (n : Int)) then bif decide (0 ≤ i ∧ i < (n : Int)) then (i.toNat < n) ∧ bif decide (c4 = 0) then False else
        k .normal (pdT b n cap (IntKind.wrap .i64 (i + 1))) ⟨[.obj (.mem (dropdM ⟨c1, c2, c3, c4, c5, c6, c7⟩ who m (f i.toNat) false).2), lawEnv c1 c2 c3 c4 c5 c6 c7 who, litB, usB n cap f, bi], 0 :: wr⟩ else False
    else k (.exit 4) (pdT b n cap i) ⟨[.obj (.mem m), lawEnv c1 c2 c3 c4 c5 c6 c7 who, litB, usB n cap f, bi], wr⟩) := by kernel_rfl

def lh_pd : LHd := fun T H K => match Tm.norm [1, 5, 8, 13] T with
  | [(1, .c (.int .i64 b)), (5, .c (.ptr 1 0)), (8, .c (.slice 3 0 n cap)), (13, .c (.int .i64 i))] => match H.bl with
    | [.obj (.mem m), .cells t [.int .i64 c1, .int .i64 c2, .int .i64 c3, .int .i64 c4, .int .i64 c5, .int .i64 c6, .int .i64 c7, .ptr 0 0, .int .i64 who], .cells t2 [], .rows t3 1 n2 cap2 [.int .u64 f], bi] =>
      ((t = 27 ∧ t2 = 32 ∧ t3 = 32 ∧ i = 0 ∧ n2 = n ∧ cap2 = cap) ∧ n ≤ 1048576) ∧ (match decide (c4 = 0) with
      | true => False
      | false => K (.exit 4) [(1, .c (.int .i64 b)), (5, .c (.ptr 1 0)), (8, .c (.slice 3 0 n cap))] ⟨[.obj (.mem (dropRun2 ⟨c1, c2, c3, c4, c5, c6, c7⟩ who f (n - 0) 0 m)), lawEnv c1 c2 c3 c4 c5 c6 c7 who, litB, usB n cap f, bi], 0 :: H.wr⟩)
    | _ => False
  | _ => False

theorem lh_pd_ok : BodyOK Tryz.prog (tmpsF Tryz.prog pdF) (.loop (loopF Tryz.prog pdF 2)) lh_pd := by
  refine loopN_ok (evC_ok fnOK mixed (evF_ok fnOK mixed ownK8_ok 10 20) _ (lo := noLo) 10 _ LoOK.no) ?_
  intro T H K h
  unfold lh_pd at h
  split at h
  case h_2 => exact h.elim
  rename_i x0 b n cap i hT
  split at h
  case h_2 => exact h.elim
  rename_i x' m t c1 c2 c3 c4 c5 c6 c7 who t2 t3 n2 cap2 f bi hH
  obtain ⟨⟨⟨rfl, rfl, rfl, rfl, rfl, rfl⟩, hn⟩, h⟩ := h
  split at h
  · exact h.elim
  rename_i hc4
  skip
  generalize hr : dropRun2 ⟨c1, c2, c3, c4, c5, c6, c7⟩ who f (n2 - 0) 0 m = r at h
  refine ⟨[1, 5, 8, 13], [1, 5, 8], fun k T' H' => ∃ (j : Nat) (m' : PMem), k = n2 - j ∧ 0 ≤ j ∧ (j ≤ n2 ∨ j = 0) ∧ T' = pdT b n2 cap2 (j : Int) ∧ H'.bl = [.obj (.mem m'), lawEnv c1 c2 c3 c4 c5 c6 c7 who, litB, usB n2 cap2 f, bi] ∧ (∀ k ∈ H'.wr, k ∈ 0 :: H.wr) ∧
    dropRun2 ⟨c1, c2, c3, c4, c5, c6, c7⟩ who f (n2 - j) j m' = r, ⟨n2 - 0, 0, m, rfl, by omega, by omega, hT, hH, fun k hk => by simp [hk], hr⟩, ?_⟩
  rintro k T' ⟨bl, wr⟩ ⟨j, m', rfl, hj0, hj, rfl, hbl, hwr, hrun⟩
  simp only at hbl hwr
  subst hbl
  rw [pd_ev]
  have hi : IntKind.i64.wrap ((j : Int) + 1) = ((j + 1 : Nat) : Int) := by rw [IntKind.wrap_i64]; omega
  by_cases hlt : j < n2
  · have h1 : decide ((j : Int) < (n2 : Int)) = true := by simp; omega
    have h2 : decide (0 ≤ (j : Int) ∧ (j : Int) < (n2 : Int)) = true := by simp; omega
    obtain ⟨q, hq⟩ : ∃ q, n2 - j = q + 1 := ⟨n2 - (j + 1), by omega⟩
    have hq' : q = n2 - (j + 1) := by omega
    rw [hq, dropRun2_succ] at hrun
    rw [h1, h2, hc4]
    simp only [cond_true, cond_false, Int.toNat_natCast]
    refine ⟨by omega, n2 - (j + 1), by omega, j + 1, _, rfl, by omega, by omega, by rw [hi], rfl, ?_, by rw [← hq']; exact hrun⟩
    intro k hk
    rcases List.mem_cons.1 hk with rfl | hk
    · simp
    · exact hwr k hk
  · have h1 : decide ((j : Int) < (n2 : Int)) = false := by simp; omega
    rw [h1]
    simp only [cond_false]
    have hz : n2 - j = 0 := by omega
    rw [hz, dropRun2_zero] at hrun
    subst hrun
    exact ⟨0 :: H.wr, hwr, h⟩

end Go.Proofs.YtfjnkneoddankaaGreat
