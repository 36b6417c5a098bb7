/-
  An arena's memory at the beginning.
-/
import Derived.Test.YtmhakaeahefmbaaPkActStamps3
import Derived.IntWalk
import Derived.Test.YtmhakaeahefmbaaRows
import Derived.Test.YtmhakaeahefmbaaPkActStamps2
import Derived.ProofKit
import Derived.ChangeSlices
import Derived.Deep.Slices
import Derived.Lib.SmallJoins
import Derived.KernelRfl
set_option linter.unusedVariables false
set_option linter.unusedSimpArgs false
set_option maxRecDepth 100000
set_option linter.unusedSectionVars false
namespace Go.FL

def slotInit (c1 c2 c3 c4 c5 c6 c7 i : Int) (m : PMem) : PMem :=
  (PMem.store (PMem.store m (lSlot c1 c2 c3 c4 c5 c6 c7 i) (putSlot 0 0 1 0)).2 (IntKind.wrap IntKind.i64 (lSlot c1 c2 c3 c4 c5 c6 c7 i + 1)) (putTop (IntKind.wrap IntKind.i64 (i + 1)) 0)).2

/-- So many slots from that one on. -/
def freshRun (c1 c2 c3 c4 c5 c6 c7 : Int) : Nat → Int → PMem → PMem
  | 0, _, m => m
  | k + 1, i, m => freshRun c1 c2 c3 c4 c5 c6 c7 k (i + 1) (slotInit c1 c2 c3 c4 c5 c6 c7 i m)

theorem freshRun_zero (c1 c2 c3 c4 c5 c6 c7 i : Int) (m : PMem) : freshRun c1 c2 c3 c4 c5 c6 c7 0 i m = m := rfl

theorem freshRun_succ (c1 c2 c3 c4 c5 c6 c7 i : Int) (k : Nat) (m : PMem) : freshRun c1 c2 c3 c4 c5 c6 c7 (k + 1) i m = freshRun c1 c2 c3 c4 c5 c6 c7 k (i + 1) (slotInit c1 c2 c3 c4 c5 c6 c7 i m) := rfl

def freshEnd (c1 c2 c3 c4 c5 c6 c7 : Int) (m : PMem) : PMem :=
  (PMem.store (PMem.store m (IntKind.wrap IntKind.i64 (lSlot c1 c2 c3 c4 c5 c6 c7 (IntKind.wrap IntKind.i64 (c2 - 1)) + 1)) (putTop (-1) 0)).2 1 (putTop 0 0)).2

/-- An arena's memory at the beginning. -/
def freshM (c1 c2 c3 c4 c5 c6 c7 : Int) : PMem := freshEnd c1 c2 c3 c4 c5 c6 c7 (freshRun c1 c2 c3 c4 c5 c6 c7 c2.toNat 0 (newMem (lLen c1 c2 c3 c4 c5 c6 c7)))

attribute [irreducible] freshRun

def shMemF (H : LH) (n : Nat) (k : PMem → List Nat → Prop) : Prop := shF H n fun o c => match o with
  | .mem x => k x c
  | _ => False

theorem shMemF_ok [Fz] {H : LH} {n : Nat} {k : PMem → List Nat → Prop} (h : shMemF H n k) : ∃ x c, k x c ∧ Clus H c (false, .mem x) := by
  obtain ⟨o, c, hk, hc⟩ := shF_ok h
  split at hk
  · exact ⟨_, c, hk, hc⟩
  · exact hk.elim

end Go.FL

namespace Go.Proofs.Ytmhakaeahefmbaa
open Go Go.FL Go.Proofs
variable [Go.FL.Fz]

abbrev frF : FuncId := 21

abbrev frT (c2 i : Int) : Tm := [(1, .c (.ptr 0 0)), (4, .c (.ptr 1 0)), (20, .c (cI c2)), (21, .c (cI i))]

abbrev frH (c1 c2 c3 c4 c5 c6 c7 : Int) (m : PMem) : List LB := [.cells 24 [.int .i64 c1, .int .i64 c2, .int .i64 c3, .int .i64 c4, .int .i64 c5, .int .i64 c6, .int .i64 c7], .obj (.mem m)]

theorem frBody_ev (c1 c2 c3 c4 c5 c6 c7 i : Int) (m : PMem) (wr : List Nat) (k : X → Tm → LH → Prop) :
    evC Try.prog (evF Try.prog own7 10 20) (tmpsF Try.prog frF) noLo 10 (loopF Try.prog frF 0) (frT c2 i) ⟨frH c1 c2 c3 c4 c5 c6 c7 m, wr⟩ (fun x T H => k x (Tm.norm [1, 4, 20, 21] T) H) =
    (bif decide (i < c2) then k .normal (frT c2 (IntKind.wrap .i64 (i + 1))) ⟨frH c1 c2 c3 c4 c5 c6 c7 (slotInit c1 c2 c3 c4 c5 c6 c7 i m), 1 :: 1 :: wr⟩
    else k (.exit 0) (frT c2 i) ⟨frH c1 c2 c3 c4 c5 c6 c7 m, wr⟩) := by kernel_rfl

def lhFr : LHd := fun T H K => match Tm.norm [1, 4, 20, 21] T with
  | [(1, .c (.ptr 0 0)), (4, .c (.ptr 1 0)), (20, .c (.int .i64 n)), (21, .c (.int .i64 i))] => match H.bl with
    | [.cells t [.int .i64 c1, .int .i64 c2, .int .i64 c3, .int .i64 c4, .int .i64 c5, .int .i64 c6, .int .i64 c7], .obj (.mem m)] =>
      match Nat.beq t 24 && decide (i = 0) with
      | false => False
      | true => match decide (n ≤ 65536) with
      | false => False
      | true => n = c2 ∧ K (.exit 0) [(1, .c (.ptr 0 0)), (4, .c (.ptr 1 0))] ⟨frH c1 c2 c3 c4 c5 c6 c7 (freshRun c1 c2 c3 c4 c5 c6 c7 c2.toNat 0 m), 1 :: H.wr⟩
    | _ => False
  | _ => False

theorem lhFr_ok : BodyOK Try.prog (tmpsF Try.prog frF) (.loop (loopF Try.prog frF 0)) lhFr := by
  refine loopN_ok (evC_ok fnOK mixed (evF_ok fnOK mixed own7_ok 10 20) _ (lo := noLo) 10 _ LoOK.no) ?_
  intro T H K h
  unfold lhFr at h
  split at h
  case h_2 => exact h.elim
  rename_i x n i hT
  split at h
  case h_2 => exact h.elim
  rename_i x' t c1 c2 c3 c4 c5 c6 c7 m hH
  split at h
  · exact h.elim
  rename_i hti
  split at h
  · exact h.elim
  rename_i hc
  obtain ⟨rfl, h⟩ := h
  simp only [Bool.and_eq_true] at hti
  have ht := Nat.eq_of_beq_eq_true hti.1
  have hi : i = 0 := of_decide_eq_true hti.2
  have hc : n ≤ 65536 := of_decide_eq_true hc
  subst ht
  subst hi
  generalize hr : freshRun c1 n c3 c4 c5 c6 c7 n.toNat 0 m = r at h
  refine ⟨[1, 4, 20, 21], [1, 4], fun k T' H' => ∃ (j : Nat) (m' : PMem), k = n.toNat - j ∧ T' = frT n (j : Int) ∧ H'.bl = frH c1 n c3 c4 c5 c6 c7 m' ∧ (∀ n ∈ H'.wr, n ∈ 1 :: H.wr) ∧
    (j : Int) ≤ 65536 ∧ freshRun c1 n c3 c4 c5 c6 c7 (n.toNat - j) (j : Int) m' = r, ⟨n.toNat, 0, m, rfl, hT, hH, fun n hn => by simp [hn], by omega, hr⟩, ?_⟩
  rintro k T' ⟨bl, wr⟩ ⟨j, m', rfl, rfl, hbl, hwr, hj, hrun⟩
  simp only at hbl hwr
  subst hbl
  rw [frBody_ev]
  by_cases hlt : (j : Int) < n
  · have h1 : decide ((j : Int) < n) = true := by simpa using hlt
    obtain ⟨q, hq⟩ : ∃ q, n.toNat - j = q + 1 := ⟨n.toNat - (j + 1), by omega⟩
    have hq' : q = n.toNat - (j + 1) := by omega
    rw [hq, freshRun_succ] at hrun
    rw [h1]
    simp only [cond_true]
    have hw2 : ∀ n ∈ 1 :: 1 :: wr, n ∈ 1 :: H.wr := by
      intro n hn
      simp only [List.mem_cons] at hn ⊢
      rcases hn with h | h | h
      · exact .inl h
      · exact .inl h
      · simpa using hwr n h
    have hi : IntKind.i64.wrap ((j : Int) + 1) = ((j + 1 : Nat) : Int) := by rw [IntKind.wrap_i64]; omega
    refine ⟨n.toNat - (j + 1), by omega, j + 1, _, rfl, by rw [hi], rfl, hw2, by omega, ?_⟩
    rw [← hq']
    exact hrun
  · have h1 : decide ((j : Int) < n) = false := by simpa using hlt
    rw [h1]
    simp only [cond_false]
    have hz : n.toNat - j = 0 := by omega
    rw [hz, freshRun_zero] at hrun
    subst hrun
    exact ⟨1 :: H.wr, hwr, h⟩

theorem frLo : LoOK Try.prog (tmpsF Try.prog frF) (fun _ => some lhFr) (loopsF Try.prog frF) := by
  have h : loopsF Try.prog frF = [loopF Try.prog frF 0] := by kernel_rfl
  rw [h]
  intro c hc hd he
  have hc : c = loopF Try.prog frF 0 := by simpa using hc
  subst hc
  cases he
  exact lhFr_ok

theorem fresh_ev (c1 c2 c3 c4 c5 c6 c7 : Int) (K : Option PMem → Int → Prop) :
    evL Try.prog own7 (fun _ => some lhFr) 10 20 frF [.agg [.int .i64 c1, .int .i64 c2, .int .i64 c3, .int .i64 c4, .int .i64 c5, .int .i64 c6, .int .i64 c7]] ⟨[], []⟩ (fun v H₁ => match v with
      | .tup [.c .nilp, .c (.int .i64 e)] => K none e
      | .tup [.c (.ptr i 0), .c (.int .i64 e)] => (shMemF H₁ i fun x c => match chkAll [] [] [c] && headOK i c with
        | true => K (some x) e
        | false => False)
      | _ => False) =
    (bif !lCheck c1 c2 c3 c4 c5 c6 c7 then K none 1 else bif decide (lLen c1 c2 c3 c4 c5 c6 c7 < 1) || decide (1048576 < lLen c1 c2 c3 c4 c5 c6 c7) then K none 1 else
      bif decide (c2 ≤ 65536) then c2 = c2 ∧ K (some (freshM c1 c2 c3 c4 c5 c6 c7)) 0 else False) := by kernel_rfl

def h_fresh : Hd := fun args H K => match args with
  | [.agg [.int .i64 c1, .int .i64 c2, .int .i64 c3, .int .i64 c4, .int .i64 c5, .int .i64 c6, .int .i64 c7]] => match lCheck c1 c2 c3 c4 c5 c6 c7 with
    | false => K (.tup [.c .nilp, .c (cI 1)]) H
    | true => match decide (lLen c1 c2 c3 c4 c5 c6 c7 < 1) || decide (1048576 < lLen c1 c2 c3 c4 c5 c6 c7) with
      | true => K (.tup [.c .nilp, .c (cI 1)]) H
      | false => K (.tup [.c (.ptr H.len 0), .c (cI 0)]) (H.new (.obj (.mem (freshM c1 c2 c3 c4 c5 c6 c7))))
  | _ => False

theorem h_fresh_ok : HOK frF h_fresh := by
  intro args H K h
  unfold h_fresh at h
  split at h
  · rename_i c1 c2 c3 c4 c5 c6 c7
    refine new2_ok (own := own7) (b := false) (mk := .mem) (fun _ _ _ => shMemF_ok) rfl (evL_ok fnOK mixed own7_ok frLo ((fresh_ev c1 c2 c3 c4 c5 c6 c7 (fun o e => match o with
      | some x => K (.tup [.c (.ptr H.len 0), .c (cI e)]) (H.new (.obj (.mem x)))
      | none => K (.tup [.c .nilp, .c (cI e)]) H)).mpr ?_))
    split at h
    · rename_i hb
      simp only [hb, Bool.not_false, cond_true]
      exact h
    · rename_i hb
      simp only [hb, Bool.not_true, cond_false]
      have hle : c2 ≤ 65536 := by
        unfold lCheck at hb
        simp only [Bool.and_eq_true, decide_eq_true_eq] at hb
        exact hb.2.2.2.2.2.2.2.2.2.2.2.1
      split at h
      · rename_i hb2
        simp only [hb2, cond_true]
        exact h
      · rename_i hb2
        simp only [hb2, cond_false, hle, decide_true, cond_true, true_and]
        exact h
  · exact h.elim

def tab8 : List (FuncId × Hd) := (frF, h_fresh) :: tab7

def own8 : FuncId → Option Hd := look tab8

theorem all8 : AllOK tab8 := ⟨h_fresh_ok, all7⟩

theorem own8_ok : OwnOK Try.prog own8 := look_ok all8

end Go.Proofs.Ytmhakaeahefmbaa

/-
  An arena is made.
-/
set_option linter.unusedVariables false
set_option linter.unusedSimpArgs false
set_option maxRecDepth 100000
set_option linter.unusedSectionVars false
namespace Go.FL

def arOk (a b c d : Int) : Bool := lCheck a b c d 100 600 3 && !(decide (lLen a b c d 100 600 3 < 1) || decide (1048576 < lLen a b c d 100 600 3))

def arM (a b c d : Int) : PMem := freshM a b c d 100 600 3

end Go.FL

namespace Go.Proofs.Ytmhakaeahefmbaa
open Go Go.FL Go.Proofs
variable [Go.FL.Fz]

theorem arena_ev (a b c d : Int) (K : Option PMem → Prop) : evF Try.prog own8 10 20 9 [.c (.int .i64 a), .c (.int .i64 b), .c (.int .i64 c), .c (.int .i64 d)] ⟨[], []⟩ (fun v H₁ => match v with
    | .tup [.agg [.int .i64 a', .int .i64 b', .int .i64 c', .int .i64 d', .int .i64 e', .int .i64 f', .int .i64 g', .nilp, .int .i64 w], .c (.bool false)] =>
      (a' = a ∧ b' = b ∧ c' = c ∧ d' = d ∧ e' = 100 ∧ f' = 600 ∧ g' = 3 ∧ w = 0) ∧ K none
    | .tup [.agg [.int .i64 a', .int .i64 b', .int .i64 c', .int .i64 d', .int .i64 e', .int .i64 f', .int .i64 g', .ptr i 0, .int .i64 w], .c (.bool true)] =>
      (a' = a ∧ b' = b ∧ c' = c ∧ d' = d ∧ e' = 100 ∧ f' = 600 ∧ g' = 3 ∧ w = 0) ∧ (shMemF H₁ i fun x c => match chkAll [] [] [c] && headOK i c with
        | true => K (some x)
        | false => False)
    | _ => False) =
    (bif lCheck a b c d 100 600 3 then bif decide (lLen a b c d 100 600 3 < 1) || decide (1048576 < lLen a b c d 100 600 3) then (a = a ∧ b = b ∧ c = c ∧ d = d ∧ (100 : Int) = 100 ∧ (600 : Int) = 600 ∧ (3 : Int) = 3 ∧ (0 : Int) = 0) ∧ K none
      else (a = a ∧ b = b ∧ c = c ∧ d = d ∧ (100 : Int) = 100 ∧ (600 : Int) = 600 ∧ (3 : Int) = 3 ∧ (0 : Int) = 0) ∧ K (some (arM a b c d))
    else (a = a ∧ b = b ∧ c = c ∧ d = d ∧ (100 : Int) = 100 ∧ (600 : Int) = 600 ∧ (3 : Int) = 3 ∧ (0 : Int) = 0) ∧ K none) := by kernel_rfl

def h_arena : Hd := fun args H K => match args with
  | [.c (.int .i64 a), .c (.int .i64 b), .c (.int .i64 c), .c (.int .i64 d)] => match arOk a b c d with
    | false => K (.tup [.agg [cI a, cI b, cI c, cI d, cI 100, cI 600, cI 3, .nilp, cI 0], .c (.bool false)]) H
    | true => K (.tup [.agg [cI a, cI b, cI c, cI d, cI 100, cI 600, cI 3, .ptr H.len 0, cI 0], .c (.bool true)]) (H.new (.obj (.mem (arM a b c d))))
  | _ => False

theorem h_arena_ok : HOK 9 h_arena := by
  intro args H K h
  unfold h_arena at h
  split at h
  case h_2 => exact h.elim
  rename_i a b c d
  have e := (arena_ev a b c d (fun o => match o with
    | some x => K (.tup [.agg [cI a, cI b, cI c, cI d, cI 100, cI 600, cI 3, .ptr H.len 0, cI 0], .c (.bool true)]) (H.new (.obj (.mem x)))
    | none => K (.tup [.agg [cI a, cI b, cI c, cI d, cI 100, cI 600, cI 3, .nilp, cI 0], .c (.bool false)]) H)).mpr (by
      unfold arOk at h
      cases h1 : lCheck a b c d 100 600 3 with
      | false =>
        simp only [h1, Bool.false_and] at h
        simp only [cond_false, true_and, and_self]
        exact h
      | true =>
        cases h2 : decide (lLen a b c d 100 600 3 < 1) || decide (1048576 < lLen a b c d 100 600 3) with
        | true =>
          simp only [h1, h2, Bool.not_true, Bool.and_false] at h
          simp only [cond_true, true_and, and_self]
          exact h
        | false =>
          simp only [h1, h2, Bool.not_false, Bool.and_true] at h
          simp only [cond_true, cond_false, true_and, and_self]
          exact h)
  refine objs_ok own8_ok (ns := []) (xs := []) rfl (by simp) List.nodup_nil (fun s s₁ vs _ h => RelVs.low rfl h) e ?_
  intro v₁ H₁ hk
  split at hk
  · rename_i a' b' c' d' e' f' g' w
    obtain ⟨⟨rfl, rfl, rfl, rfl, rfl, rfl, rfl, rfl⟩, hk⟩ := hk
    exact ⟨[], [], [], [], _, rfl, trivial, trivial, fun s₁ s' v' _ _ hr => RelV.low rfl hr, hk⟩
  · rename_i a' b' c' d' e' f' g' i w
    obtain ⟨⟨rfl, rfl, rfl, rfl, rfl, rfl, rfl, rfl⟩, hk⟩ := hk
    obtain ⟨x, c, hk, hc⟩ := shMemF_ok hk
    split at hk
    · rename_i hchk
      simp only [Bool.and_eq_true] at hchk
      obtain ⟨h1, h2⟩ := hchk
      refine ⟨[], [], [c], [(false, .mem x)], _, h1, trivial, ⟨hc, trivial⟩, ?_, hk⟩
      intro s₁ s' v' _ hd' hr
      have h0 : c[0]? = some i := by
        unfold headOK at h2
        split at h2
        · have := Nat.eq_of_beq_eq_true h2; simp [this]
        · cases h2
      have := hd' 0 c i rfl h0
      simp only [Nat.add_zero] at this
      obtain ⟨vs, rfl, hr⟩ := hr
      refine ⟨vs, rfl, ?_⟩
      generalize vs.toList = us at hr ⊢
      match us, hr with
      | [u, v], ⟨h3, h4, _⟩ =>
        refine ⟨?_, h4, trivial⟩
        obtain ⟨cs, rfl, h3⟩ := h3
        refine ⟨cs, rfl, ?_⟩
        generalize cs.toList = us at h3 ⊢
        match us, h3 with
        | [a, b, c, d, e, f, g, p, q], ⟨h1, h2, h3, h4, h5, h6, h7, ⟨r, h8, h9⟩, h10, _⟩ => exact ⟨h1, h2, h3, h4, h5, h6, h7, ⟨r, by rw [this]; exact h8, h9⟩, h10, trivial⟩
    · exact hk.elim
  · exact hk.elim

def tab9 : List (FuncId × Hd) := (9, h_arena) :: tab8

def own9 : FuncId → Option Hd := look tab9

theorem all9 : AllOK tab9 := ⟨h_arena_ok, all8⟩

theorem own9_ok : OwnOK Try.prog own9 := look_ok all9

end Go.Proofs.Ytmhakaeahefmbaa

/-
  What awakes.
-/
set_option linter.unusedVariables false
set_option linter.unusedSimpArgs false
set_option maxRecDepth 100000
set_option linter.unusedSectionVars false
namespace Go.Proofs.Ytmhakaeahefmbaa
open Go Go.FL Go.Proofs
variable [Go.FL.Fz]

theorem awake_ev (K : Bool → Prop) : evF Try.prog own9 10 20 10 [] ⟨[], []⟩ (fun v H₁ => match v with
    | .c (.bool b) => K b
    | _ => False) = K true := by kernel_rfl

def h_awake : Hd := fun args H K => match args with
  | [] => K (.c (.bool true)) H
  | _ => False

theorem h_awake_ok : HOK 10 h_awake := by
  intro args H K h
  unfold h_awake at h
  split at h
  · have e := awake_ev (fun x => K (.c (.bool x)) H)
    have e := e.mpr h
    refine pure_ok (fuel := 10) (d := 20) own9_ok rfl e ?_
    intro v H₁ hv
    split at hv
    · exact ⟨rfl, hv⟩
    · exact hv.elim
  · exact h.elim

def tab10 : List (FuncId × Hd) := (10, h_awake) :: tab9

def own10 : FuncId → Option Hd := look tab10

theorem all10 : AllOK tab10 := ⟨h_awake_ok, all9⟩

theorem own10_ok : OwnOK Try.prog own10 := look_ok all10

def tabC : List (FuncId × Hd) := [(10, h_awake), (14, h_actNew)]

def ownC : FuncId → Option Hd := look tabC

theorem allC : AllOK tabC := ⟨h_awake_ok, h_actNew_ok, trivial⟩

theorem ownC_ok : OwnOK Try.prog ownC := look_ok allC

end Go.Proofs.Ytmhakaeahefmbaa

/-
  A cut of an act; the pins: the walk of a round.
-/
set_option linter.unusedVariables false
set_option linter.unusedSimpArgs false
set_option maxRecDepth 100000
set_option linter.unusedSectionVars false
namespace Go.FL

def cutKind (x : Int) : Int := IntKind.wrap IntKind.i64 (1 + Int.tmod (IntKind.wrap IntKind.i64 (Int.tmod x 5 + 5)) 5)

def cutVal (x : Int) : Int := IntKind.wrap IntKind.i64 ↑(BitVec.toNat (BitVec.ofInt (IntKind.bits IntKind.i64) x &&& BitVec.ofInt (IntKind.bits IntKind.i64) 1099511627775))

end Go.FL

namespace Go.Proofs.Ytmhakaeahefmbaa
open Go Go.FL Go.Proofs
variable [Go.FL.Fz]

theorem cut_ev (x1 x2 x3 x4 x5 x6 : Int) (x7 : Bool) (K : Int → Int → Int → Int → Int → Int → Bool → Prop) : evF Try.prog own10 10 20 11 [.agg [.int .i64 x1, .int .i64 x2, .int .u64 x3, .int .i64 x4, .int .i64 x5, .int .i64 x6, .bool x7]] ⟨[], []⟩ (fun v H₁ => match v with
    | .agg [.int .i64 x1, .int .i64 x2, .int .u64 x3, .int .i64 x4, .int .i64 x5, .int .i64 x6, .bool x7] => K x1 x2 x3 x4 x5 x6 x7
    | _ => False) = K (cutKind x1) x2 x3 x4 (cutVal x5) (cutVal x6) x7 := by kernel_rfl

def h_cut : Hd := fun args H K => match args with
  | [.agg [.int .i64 x1, .int .i64 x2, .int .u64 x3, .int .i64 x4, .int .i64 x5, .int .i64 x6, .bool x7]] =>
    K (.agg [.int .i64 (cutKind x1), .int .i64 x2, .int .u64 x3, .int .i64 x4, .int .i64 (cutVal x5), .int .i64 (cutVal x6), .bool x7]) H
  | _ => False

theorem h_cut_ok : HOK 11 h_cut := by
  intro args H K h
  unfold h_cut at h
  split at h
  · rename_i x1 x2 x3 x4 x5 x6 x7
    have e := (cut_ev x1 x2 x3 x4 x5 x6 x7 (fun x1 x2 x3 x4 x5 x6 x7 => K (.agg [.int .i64 x1, .int .i64 x2, .int .u64 x3, .int .i64 x4, .int .i64 x5, .int .i64 x6, .bool x7]) H)).mpr h
    refine pure_ok (fuel := 10) (d := 20) own10_ok rfl e ?_
    intro v H₁ hv
    split at hv
    · exact ⟨rfl, hv⟩
    · exact hv.elim
  · exact h.elim

def tab11 : List (FuncId × Hd) := (11, h_cut) :: tab10

def own11 : FuncId → Option Hd := look tab11

theorem all11 : AllOK tab11 := ⟨h_cut_ok, all10⟩

theorem own11_ok : OwnOK Try.prog own11 := look_ok all11

end Go.Proofs.Ytmhakaeahefmbaa

/-
  What is cut is within its bounds.
-/
set_option linter.unusedVariables false
set_option linter.unusedSimpArgs false
set_option linter.unusedSectionVars false
namespace Go.FL
open Go

theorem cutKind_in (x : Int) : 1 ≤ cutKind x ∧ cutKind x ≤ 5 := by
  unfold cutKind
  have h1 : -5 < Int.tmod x 5 := Int.lt_tmod_of_pos x (by omega)
  have h2 : Int.tmod x 5 < 5 := Int.tmod_lt_of_pos x (by omega)
  rw [IntWalk.i64_in (Int.tmod x 5 + 5) (by omega)]
  have h3 : 0 ≤ Int.tmod (Int.tmod x 5 + 5) 5 := Int.tmod_nonneg _ (by omega)
  have h4 : Int.tmod (Int.tmod x 5 + 5) 5 < 5 := Int.tmod_lt_of_pos _ (by omega)
  rw [IntWalk.i64_in _ (by omega)]
  omega

theorem and_small (x : Int) (n : Nat) (hn : n < 2 ^ 63) : ∃ t : Nat, t ≤ n ∧ IntKind.wrap IntKind.i64 ↑(BitVec.toNat (BitVec.ofInt (IntKind.bits IntKind.i64) x &&& BitVec.ofInt (IntKind.bits IntKind.i64) (n : Int))) = (t : Int) := by
  have h : (BitVec.ofInt (IntKind.bits IntKind.i64) x &&& BitVec.ofInt (IntKind.bits IntKind.i64) (n : Int)).toNat ≤ n := by
    rw [BitVec.toNat_and]
    refine Nat.le_trans Nat.and_le_right ?_
    rw [BitVec.toNat_ofInt]
    have : ((n : Int) % ((2 ^ IntKind.bits IntKind.i64 : Nat) : Int)).toNat = n % 2 ^ IntKind.bits IntKind.i64 := by
      rw [← Int.natCast_emod, Int.toNat_natCast]
    rw [this]
    exact Nat.mod_le _ _
  refine ⟨_, h, ?_⟩
  generalize (BitVec.ofInt (IntKind.bits IntKind.i64) x &&& BitVec.ofInt (IntKind.bits IntKind.i64) (n : Int)).toNat = t at h
  exact IntWalk.i64_in _ (by omega)

theorem cutVal_in (x : Int) : 0 ≤ cutVal x ∧ cutVal x ≤ 1099511627775 := by
  obtain ⟨t, h1, h2⟩ := and_small x 1099511627775 (by decide)
  have : cutVal x = (t : Int) := h2
  omega

theorem cut_ok (x1 x5 x6 : Int) : actOk (cutKind x1) (cutVal x5) (cutVal x6) = true := by
  have h1 := cutKind_in x1
  have h5 := cutVal_in x5
  have h6 := cutVal_in x6
  unfold actOk
  simp only [Bool.and_eq_true, decide_eq_true_eq]
  omega

end Go.FL

/-
  From a contract to a row: what came in reads as it did.
-/
set_option linter.unusedVariables false
set_option linter.unusedSimpArgs false
set_option linter.unusedSectionVars false
namespace Go.FL
open Go Go.ChangeShapes Go.WideShapes Go.ChangeAt Go.RowKit
variable [Go.FL.Fz]

variable {H : Type} {enc : TypeId × Value → H} {P : Program}

theorem trodAll_below (hl : laidOutB P = true) {W W' : World} (hb : Below W.heap.size W W') : ∀ {ts : List TypeId} {vs : List Value} {ds : List (DataW H)} {ps : List MemPlace},
    (∀ t ∈ ts, P.readableRec t = true ∧ t < P.types.size) → DataW.TrodAll enc P W 0 (fun _ => true) true ts vs ds ps → (∀ x ∈ ps, x.block < W.heap.size) →
    DataW.TrodAll enc P W' 0 (fun b => decide (b < W.heap.size)) true ts vs ds ps
  | [], [], [], ps, _, h, _ => h
  | t :: ts, v :: vs, d :: ds, ps, hr, h, hlt => by
    obtain ⟨p, q, h1, h2, rfl⟩ := h
    obtain ⟨r1, r2⟩ := hr t (by simp)
    exact ⟨p, q, Below.trod hl r1 r2 h1 hb (fun x hx => hlt x (by simp [hx])), trodAll_below hl hb (fun t ht => hr t (by simp [ht])) h2 (fun x hx => hlt x (by simp [hx])), rfl⟩
  | [], _ :: _, _, _, _, h, _ => h.elim
  | [], [], _ :: _, _, _, h, _ => h.elim
  | _ :: _, [], _, _, _, h, _ => h.elim
  | _ :: _, _ :: _, [], _, _, h, _ => h.elim

/-- A law's row: 'true', and what came in reads as it did. -/
theorem law_post (hl : laidOutB P = true) (hbool : P.underlying 4 = some .bool) {f : Func} {s : ChangeSpec} {W W' : World} {args : Array Value} {ds gs : List (DataW H)} {before : List MemPlace}
    (hres : f.resultTypes = #[4]) (hr : ∀ t ∈ f.params.toList, P.readableRec t = true ∧ t < P.types.size) (hv : s.vars = [])
    (hs : s.fn H (ds ++ gs) = { results := [.lit (.bool true)], args := ds }) (hW : DataW.Whole enc P f.params.toList s.vars false W args.toList ds gs before) (hb : Below W.heap.size W W') :
    s.post enc P f false true false false W args (.bool true) W' := by
  have hW0 := hW
  obtain ⟨p, q, hA, hV, hpq, hfz, hnd⟩ := hW
  rw [hv] at hV
  have hgs : gs = [] ∧ q = [] := by
    cases gs with
    | nil => exact ⟨rfl, hV⟩
    | cons g gs => exact hV.elim
  obtain ⟨rfl, rfl⟩ := hgs
  rw [List.append_nil] at hpq
  subst hpq
  refine ⟨ds, [], before, [], before, [], hW0, ?_, ?_, ?_, hb.frame _, fun h => by cases h⟩
  · rw [hs, hres]
    exact trodAll_mk1 (shut_bool hbool true)
  · rw [hs]
    exact trodAll_below hl hb hr hA (fun x hx => hW0.lt x hx)
  · rw [hs, hv]
    rfl

theorem Rel.none (w : World) (hfz : ∀ q o, Fz.F q o → w.heap[q]? = some o) : Rel [] ⟨[], []⟩ w :=
  ⟨rfl, fun n b r f h => by simp at h, by
    intro i j y h1 h2
    obtain ⟨r, f, h, _⟩ := h1
    simp at h, by
    intro n y h
    obtain ⟨r, f, h, _⟩ := h
    simp at h, fun q o hF => ⟨hfz q o hF, fun n h => by
    obtain ⟨r, f, h, _⟩ := h
    simp at h⟩⟩

/-- A law that holds, over a memory of which it asks nothing. -/
theorem law_calls {f : FuncId} {args : List LV} {vs : List Value} {W : World} (h : (∃ fn, P.funcs[f]? = some fn ∧ fn.body.isSome = true) ∧ CSpec P f args ⟨[], []⟩ (fun v _ => match v with
      | .c (.bool true) => True
      | _ => False)) (hr : RelVs [] args vs) (hfz : ∀ q o, Fz.F q o → W.heap[q]? = some o) :
    Calls P f vs.toArray W fun e W' => e = .returned (.bool true) ∧ Below W.heap.size W W' := by
  refine Calls.mono (h.2 [] vs W hr (Rel.none W hfz)) ?_
  intro e W' he
  match e, he with
  | .returned v', ⟨s', v, H', hk, hv, hH, hp⟩ =>
    dsimp only at hk
    split at hk
    · have hv : v' = .bool true := hv
      exact ⟨by rw [hv], hp.os, hp.tape, hp.output, hp.size, fun k hk => hp.frame k hk fun n _ ho => by
        obtain ⟨r, f, h, _⟩ := ho
        simp at h⟩
    · exact hk.elim

end Go.FL

/-
  Slices that are handed in, as rows that are known.
-/
set_option linter.unusedVariables false
set_option linter.unusedSimpArgs false
set_option maxRecDepth 100000
namespace Go.FL
open Go Go.ChangeShapes Go.WideShapes Go.ChangeAt Go.RowKit Go.Deep

/-- All that stood in memory when the law was called. -/
@[reducible] def fzOf (W : World) : Fz := ⟨fun q o => W.heap[q]? = some o⟩

/-- A slice whose rows are known. -/
theorem view_rel {W : World} {a : Addr} {len cap w : Nat} {cs : List LCol} (hw : 0 < w) (hcs : cs.length = w) (s : Mp)
    (hrow : ∀ i, i < len → ∃ vs : List Value, W.cells? 0 (a.add (i * w)) w = some vs ∧ ∀ (j : Nat) (x : LCol), cs[j]? = some x → ∃ v, vs[j]? = some v ∧ (match x with
      | .int k f => v = .int k (f i)
      | .bool f => v = .bool (f i))) : @RelC (fzOf W) s (.vsl (some a) len cap w cs) (.slice (some a) len cap) := by
  refine ⟨rfl, fun hl => ?_⟩
  have cellAt : ∀ i, i < len → ∀ j, j < w → ∃ (c : Array Value) (e : TypeId) (fz : Nat × Nat) (v : Value), W.heap[a.block]? = some (.cells c e fz) ∧ W.cell? (a.add (i * w + j)) = some v := by
    intro i hi j hj
    obtain ⟨vs, h1, _⟩ := hrow i hi
    obtain ⟨_, h2, h3⟩ := World.cells?_some h1
    have h4 := h3 j hj
    rw [add_add, List.getElem?_eq_getElem (by omega)] at h4
    have h5 := h4
    unfold World.cell? at h5
    rw [block_add] at h5
    split at h5
    · rename_i c e fz hb
      exact ⟨c, e, fz, _, hb, h4⟩
    · cases h5
  obtain ⟨c, e, fz, v0, hb, hv0⟩ := cellAt 0 hl 0 hw
  have hspot : a.spot = none := by
    have : a.add (0 * w + 0) = a := by simp [Addr.add]
    rw [this] at hv0
    unfold World.cell? at hv0
    rw [hb] at hv0
    simp only at hv0
    cases hs : a.spot with
    | none => rfl
    | some x => rw [hs] at hv0; simp at hv0
  obtain ⟨q, off, sp⟩ := a
  simp only at hspot hb
  subst hspot
  refine ⟨q, off, _, rfl, hb, c, e, ⟨fz, rfl⟩, hcs, fun i hi => ?_⟩
  obtain ⟨vs, h1, h2⟩ := hrow i hi
  obtain ⟨_, h3, h4⟩ := World.cells?_some h1
  refine ⟨vs, h3, fun j v hj => ?_, h2⟩
  have hjl : j < w := by rw [← h3]; exact (List.getElem?_eq_some_iff.1 hj).1
  have h5 := h4 j hjl
  rw [add_add, hj] at h5
  rw [add_plain] at h5
  unfold World.cell? at h5
  simp only [hb, Option.isSome_none, Bool.false_eq_true, if_false] at h5
  rw [Nat.add_assoc]; exact h5
where
  add_plain (r o n : Nat) : (⟨r, o, none⟩ : Addr).add n = ⟨r, o + n, none⟩ := by
    unfold Addr.add; split <;> simp_all

variable {H : Type} {enc : TypeId × Value → H} {P : Program} {W : World} {spare : Nat → Bool} {held : Bool}

/-- A slice's value is one cell. -/
theorem slice_one {t e : TypeId} {v : Value} {r : _root_.Go.Reach} (ht : P.underlying t = some (.slice e)) {b0 : Nat} (h : Value.okWide P W r b0 t v) : ∃ r, v.cells.toList = [r] ∧ v = r := by
  unfold Value.okWide at h
  rw [ht] at h
  simp only at h
  unfold Cell.okWide at h
  rw [ht] at h
  cases v <;> simp only [Cell.ok, ht] at h <;> first | exact ⟨_, rfl, rfl⟩ | exact h.elim | skip
  all_goals simp at h

/-- A slice of integers that is handed in. -/
theorem open_vints {t e : TypeId} {k : IntKind} {v : Value} {d : DataW H} {p : List MemPlace} (ht : P.underlying t = some (.slice e)) (he : P.underlying e = some (.int k)) (hc : P.cellsOf e = 1)
    (hv : ∃ r, v.cells.toList = [r] ∧ v = r) (h : DataW.Trod enc P W 0 spare held t v d p) :
    ∃ (q : Option Addr) (len cap : Nat) (f : Nat → Int), v = .slice q len cap ∧ cap ≤ maxLen ∧ len ≤ cap ∧ (∀ s, @RelC (fzOf W) s (.vsl q len cap 1 [.int k f]) v) ∧ ∀ i, i < len → (Lit.int k (f i)).wf = true := by
  obtain ⟨r, hr, rfl⟩ := hv
  obtain ⟨fuel, hf⟩ := h
  rw [hr] at hf
  rcases open_ints ht he hc hf with ⟨h0, _⟩ | ⟨a, len, cap, zs, h0, _, hl, hm, hz, _, hcell, hwf⟩
  · cases h0
    exact ⟨none, 0, 0, fun _ => 0, rfl, by decide, Nat.le_refl _, fun s => ⟨rfl, fun h => by omega⟩, fun i hi => by omega⟩
  · cases h0
    have hlz : len ≤ zs.length := by rw [hz]; split <;> omega
    refine ⟨some a, len, cap, fun i => zs.getD i 0, rfl, hm, hl, fun s => view_rel (w := 1) Nat.one_pos rfl s fun i hi => ?_, fun i hi => ?_⟩
    · refine ⟨[.int k (zs.getD i 0)], ?_, fun j x hj => ?_⟩
      · rw [Nat.mul_one]
        exact cells?_one (Nat.zero_le _) (hcell i (by omega))
      · cases j with
        | zero => simp at hj; subst hj; exact ⟨_, rfl, rfl⟩
        | succ j => simp at hj
    · refine hwf _ ?_
      show zs.getD i 0 ∈ zs
      have hi' : i < zs.length := by omega
      have : zs.getD i 0 = zs[i] := by simp [List.getD, hi']
      rw [this]
      exact List.getElem_mem hi'

/-- A slice of bools that is handed in. -/
theorem open_vbools {t e : TypeId} {v : Value} {d : DataW H} {p : List MemPlace} (ht : P.underlying t = some (.slice e)) (he : P.underlying e = some .bool) (hc : P.cellsOf e = 1)
    (hv : ∃ r, v.cells.toList = [r] ∧ v = r) (h : DataW.Trod enc P W 0 spare held t v d p) :
    ∃ (q : Option Addr) (len cap : Nat) (f : Nat → Bool), v = .slice q len cap ∧ cap ≤ maxLen ∧ len ≤ cap ∧ (∀ s, @RelC (fzOf W) s (.vsl q len cap 1 [.bool f]) v) := by
  obtain ⟨r, hr, rfl⟩ := hv
  obtain ⟨fuel, hf⟩ := h
  rw [hr] at hf
  rcases open_slice1 ht hc hf with ⟨h0, _⟩ | ⟨a, len, cap, m, n, V, D, Pl, h0, _, hl, hm, hmm, _, hcell⟩
  · cases h0
    exact ⟨none, 0, 0, fun _ => false, rfl, by decide, Nat.le_refl _, fun s => ⟨rfl, fun h => by omega⟩⟩
  · cases h0
    have hlm : len ≤ m := by rw [hmm]; split <;> omega
    obtain ⟨f, hf⟩ := choose_lt (n := len) (α := Bool) (p := fun i b => V i = .bool b) (fun i hi => by
      obtain ⟨b, e1, _⟩ := DataW.trod_bool he (hcell i (by omega)).2
      simp only [List.cons.injEq, and_true] at e1
      exact ⟨b, e1⟩)
    refine ⟨some a, len, cap, f, rfl, hm, hl, fun s => view_rel (w := 1) Nat.one_pos rfl s fun i hi => ?_⟩
    refine ⟨[.bool (f i)], ?_, fun j x hj => ?_⟩
    · rw [Nat.mul_one]
      have := (hcell i (by omega)).1
      rw [hf i hi] at this
      exact cells?_one (Nat.zero_le _) this
    · cases j with
      | zero => simp at hj; subst hj; exact ⟨_, rfl, rfl⟩
      | succ j => simp at hj

end Go.FL

/-
  What laws over acts share.
-/
set_option linter.unusedVariables false
set_option linter.unusedSimpArgs false
set_option maxRecDepth 100000
set_option linter.unusedSectionVars false
namespace Go.Proofs.Ytmhakaeahefmbaa
open Go Go.FL Go.Proofs Go.ChangeShapes Go.WideShapes Go.ChangeAt Go.RowKit
theorem Try.own : ownKnob Try.prog.godebug = none := by kernel_rfl
theorem Try.laidOut : laidOutB Try.prog = true := by kernel_rfl

variable [Go.FL.Fz]


/-- An act that is handed in. -/
theorem open_act {H : Type} {enc : TypeId × Value → H} {W : World} {r : Reach} {b0 base : Nat} {sp : Nat → Bool} {held : Bool} {v : Value} {d : DataW H} {p : List MemPlace}
    (hv : Value.okWide Try.prog W r b0 36 v) (h : DataW.Trod enc Try.prog W base sp held 36 v d p) :
    ∃ (x1 x2 x3 x4 x5 x6 : Int) (x7 : Bool), v = .agg #[.int .i64 x1, .int .i64 x2, .int .u64 x3, .int .i64 x4, .int .i64 x5, .int .i64 x6, .bool x7] ∧
      (Lit.int .i64 x1).wf = true ∧ (Lit.int .i64 x2).wf = true ∧ (Lit.int .u64 x3).wf = true ∧ (Lit.int .i64 x4).wf = true ∧ (Lit.int .i64 x5).wf = true ∧ (Lit.int .i64 x6).wf = true := by
  obtain ⟨cs, rfl, hsz⟩ := okWide_struct Try.underlying36 hv
  have h7 : cs.size = 7 := hsz.trans (by kernel_rfl)
  obtain ⟨fuel, hf⟩ := h
  obtain ⟨xs, n, rfl, hx, hlen, hxs, hall⟩ := DataW.trod_struct Try.underlying36 hf
  obtain ⟨c0, c1, c2, c3, c4, c5, c6, rfl⟩ : ∃ c0 c1 c2 c3 c4 c5 c6, cs = #[c0, c1, c2, c3, c4, c5, c6] := by
    obtain ⟨l⟩ := cs
    match l, h7 with
    | [a, b, c, d, e, f, g], _ => exact ⟨a, b, c, d, e, f, g, rfl⟩
  have k3 : Try.prog.cellsOf 3 = 1 := by kernel_rfl
  have k34 : Try.prog.cellsOf 34 = 1 := by kernel_rfl
  have k4 : Try.prog.cellsOf 4 = 1 := by kernel_rfl
  match xs, hxs with
  | [y0, y1, y2, y3, y4, y5, y6], _ =>
    have a0 : DataW.trod enc Try.prog W base sp held n 3 (List.take (Try.prog.cellsOf 3) [c0, c1, c2, c3, c4, c5, c6]) = some y0 := hall 0 _ rfl
    rw [k3] at a0
    have a1 : DataW.trod enc Try.prog W base sp held n 3 (List.take (Try.prog.cellsOf 3) [c1, c2, c3, c4, c5, c6]) = some y1 := hall 1 _ rfl
    rw [k3] at a1
    have a2 : DataW.trod enc Try.prog W base sp held n 34 (List.take (Try.prog.cellsOf 34) [c2, c3, c4, c5, c6]) = some y2 := hall 2 _ rfl
    rw [k34] at a2
    have a3 : DataW.trod enc Try.prog W base sp held n 3 (List.take (Try.prog.cellsOf 3) [c3, c4, c5, c6]) = some y3 := hall 3 _ rfl
    rw [k3] at a3
    have a4 : DataW.trod enc Try.prog W base sp held n 3 (List.take (Try.prog.cellsOf 3) [c4, c5, c6]) = some y4 := hall 4 _ rfl
    rw [k3] at a4
    have a5 : DataW.trod enc Try.prog W base sp held n 3 (List.take (Try.prog.cellsOf 3) [c5, c6]) = some y5 := hall 5 _ rfl
    rw [k3] at a5
    have a6 : DataW.trod enc Try.prog W base sp held n 4 (List.take (Try.prog.cellsOf 4) [c6]) = some y6 := hall 6 _ rfl
    rw [k4] at a6
    obtain ⟨x1, e1, _, w1⟩ := DataW.trod_int Try.underlying3 a0
    obtain ⟨x2, e2, _, w2⟩ := DataW.trod_int Try.underlying3 a1
    obtain ⟨x3, e3, _, w3⟩ := DataW.trod_int Try.underlying34 a2
    obtain ⟨x4, e4, _, w4⟩ := DataW.trod_int Try.underlying3 a3
    obtain ⟨x5, e5, _, w5⟩ := DataW.trod_int Try.underlying3 a4
    obtain ⟨x6, e6, _, w6⟩ := DataW.trod_int Try.underlying3 a5
    obtain ⟨x7, e7, _⟩ := DataW.trod_bool Try.underlying4 a6
    simp only [List.take, List.cons.injEq, and_true] at e1 e2 e3 e4 e5 e6 e7
    subst e1 e2 e3 e4 e5 e6 e7
    exact ⟨x1, x2, x3, x4, x5, x6, x7, rfl, w1, w2, w3, w4, w5, w6⟩

theorem evF_use {own : FuncId → Option Hd} (hown : OwnOK Try.prog own) {fuel d : Nat} {f : FuncId} {args : List LV} {H : LH} {K : LV → LH → Prop} {B : Prop} (e : evF Try.prog own fuel d f args H K = B) (hB : B) :
    (∃ fn, Try.prog.funcs[f]? = some fn ∧ fn.body.isSome = true) ∧ CSpec Try.prog f args H K := evF_ok fnOK mixed hown fuel d _ _ _ _ (e.mpr hB)

theorem evL_use {own : FuncId → Option Hd} (hown : OwnOK Try.prog own) {lo : Nat → Option LHd} {fuel d : Nat} {f : FuncId} {args : List LV} {H : LH} {K : LV → LH → Prop} {B : Prop} (hlo : LoOK Try.prog (tmpsF Try.prog f) lo (loopsF Try.prog f))
    (e : evL Try.prog own lo fuel d f args H K = B) (hB : B) : (∃ fn, Try.prog.funcs[f]? = some fn ∧ fn.body.isSome = true) ∧ CSpec Try.prog f args H K := evL_ok fnOK mixed hown hlo (e.mpr hB)

/-- What a law's walk ends in. -/
def isTrue : Bool → Prop
  | true => True
  | false => False

theorem bool_calls {f : FuncId} {args : List LV} {vs : List Value} {W : World} (h : (∃ fn, Try.prog.funcs[f]? = some fn ∧ fn.body.isSome = true) ∧ CSpec Try.prog f args ⟨[], []⟩ (fun v _ => match v with
      | .c (.bool b) => isTrue b
      | _ => False)) (hr : RelVs [] args vs) (hfz : ∀ q o, Fz.F q o → W.heap[q]? = some o) :
    Calls Try.prog f vs.toArray W fun e W' => e = .returned (.bool true) ∧ Below W.heap.size W W' := by
  refine law_calls ⟨h.1, fun s vs w hr hH => Calls.mono (h.2 s vs w hr hH) ?_⟩ hr hfz
  intro e W' he
  match e, he with
  | .returned v', ⟨s', v, H', hk, hv, hH, hp⟩ =>
    refine ⟨s', v, H', ?_, hv, hH, hp⟩
    dsimp only at hk ⊢
    split at hk
    · rename_i b
      cases b with
      | true => trivial
      | false => exact hk.elim
    · exact hk.elim

end Go.Proofs.Ytmhakaeahefmbaa

/-
  A loop whose states are read anew behind each round: blocks that nobody names any more go, others get other names.
-/
set_option linter.unusedVariables false
set_option linter.unusedSimpArgs false
set_option linter.unusedSectionVars false
namespace Go.FL
variable [Fz]

def LP.ren (g : Nat → Nat) : LP → LP
  | .c x => .c (x.ren g)
  | .agg l => .agg (l.map (·.ren g))

def LV.ren (g : Nat → Nat) : LV → LV
  | .un => .un
  | .c x => .c (x.ren g)
  | .agg l => .agg (l.map (·.ren g))
  | .tup l => .tup (l.map (·.ren g))

def LP.low (k : Nat) : LP → Bool
  | .c x => x.low k
  | .agg l => lowL k l

def lowPs (k : Nat) : List LP → Bool
  | [] => true
  | x :: r => match x.low k with
    | true => lowPs k r
    | false => false

def LV.low (k : Nat) : LV → Bool
  | .un => true
  | .c x => x.low k
  | .agg l => lowL k l
  | .tup l => lowPs k l

section
variable {s s' : Mp} {g : Nat → Nat} {k : Nat}

theorem RelP.unren (hg : ∀ n r, n < k → hd s' (g n) = some r → hd s n = some r) : ∀ {x : LP}, x.low k = true → ∀ {v : Value}, RelP s' (x.ren g) v → RelP s x v
  | .c x, hx, v, h => RelC.unren hg hx h
  | .agg l, hx, v, ⟨cs, hv, h⟩ => ⟨cs, hv, RelL.unren hg hx h⟩

theorem RelPs.unren (hg : ∀ n r, n < k → hd s' (g n) = some r → hd s n = some r) : ∀ {l : List LP} {vs : List Value}, lowPs k l = true → RelPs s' (l.map (·.ren g)) vs → RelPs s l vs
  | [], [], _, _ => trivial
  | x :: l, _ :: _, hx, h => by
    simp only [lowPs] at hx
    split at hx
    · rename_i h1; exact ⟨h.1.unren hg h1, RelPs.unren hg hx h.2⟩
    · cases hx
  | [], _ :: _, _, h => h.elim
  | _ :: _, [], _, h => h.elim

theorem RelV.unren (hg : ∀ n r, n < k → hd s' (g n) = some r → hd s n = some r) : ∀ {x : LV}, x.low k = true → ∀ {v : Value}, RelV s' (x.ren g) v → RelV s x v
  | .un, _, _, _ => trivial
  | .c x, hx, v, h => RelC.unren hg hx h
  | .agg l, hx, v, ⟨cs, hv, h⟩ => ⟨cs, hv, RelL.unren hg hx h⟩
  | .tup l, hx, v, ⟨vs, hv, h⟩ => ⟨vs, hv, RelPs.unren hg hx h⟩
end

/-- The blocks of the new names. -/
def blocksAt (H : LH) (k : Nat) (c : List Nat) : List LB → List Nat → Prop
  | [], [] => True
  | b :: r, n :: ns => (b.low k = true ∧ H.get n = some (b.ren fun i => c.getD i 0)) ∧ blocksAt H k c r ns
  | _, _ => False

theorem blocksAt_get {H : LH} {k : Nat} {c : List Nat} : ∀ {bs : List LB} {ns : List Nat}, blocksAt H k c bs ns → ns.length = bs.length ∧
    ∀ (j : Nat) (b : LB), bs[j]? = some b → b.low k = true ∧ ∃ n, ns[j]? = some n ∧ H.bl[n]? = some (b.ren fun i => c.getD i 0)
  | [], [], _ => ⟨rfl, fun j b h => by simp at h⟩
  | b :: r, n :: ns, h => by
    obtain ⟨h1, h2⟩ := blocksAt_get h.2
    refine ⟨by simp [h1], fun j b' hj => ?_⟩
    cases j with
    | zero => simp at hj; subst hj; exact ⟨h.1.1, n, rfl, by rw [← LH.get_eq]; exact h.1.2⟩
    | succ j => simpa using h2 j b' (by simpa using hj)
  | [], _ :: _, h => h.elim
  | _ :: _, [], h => h.elim

/-- The first 'k' names stay; the others stand for others. -/
def stays (k : Nat) : Nat → List Nat → Bool
  | j, [] => Nat.ble k j
  | j, n :: r => match Nat.ble (j + 1) k with
    | true => match Nat.beq n j with
      | true => stays k (j + 1) r
      | false => false
    | false => match Nat.ble k n with
      | true => stays k (j + 1) r
      | false => false

def fewB : List Nat → Bool
  | [] => true
  | x :: r => match r.any (Nat.beq x) with
    | true => false
    | false => fewB r

def tmsAt (T : Tm) (k : Nat) (c : List Nat) : Tm → Prop
  | [] => True
  | (t, v) :: r => (v.low k = true ∧ Tm.get T t = v.ren fun i => c.getD i 0) ∧ tmsAt T k c r

/-- The state read anew. -/
def reab (k : Nat) (g : List Nat) (T : Tm) (H : LH) (T' : Tm) (H' : LH) : Prop :=
  (stays k 0 g && fewB g) = true ∧ blocksAt H g.length g H'.bl g ∧ tmsAt T g.length g T' ∧ ∀ n ∈ H.wr, n ∈ H'.wr

theorem stays_eq {k : Nat} : ∀ {g : List Nat} {j : Nat}, stays k j g = true → k ≤ j + g.length ∧ ∀ (i n : Nat), g[i]? = some n → (i + j < k → n = i + j) ∧ (k ≤ i + j → k ≤ n)
  | [], j, h => ⟨by simpa [stays] using h, fun i n hi => by simp at hi⟩
  | m :: r, j, h => by
    simp only [stays] at h
    split at h
    · rename_i hj
      have hj := Nat.le_of_ble_eq_true hj
      split at h
      · rename_i hm
        have hm := Nat.eq_of_beq_eq_true hm
        subst hm
        obtain ⟨h1, h2⟩ := stays_eq h
        refine ⟨by simp; omega, fun i n hi => ?_⟩
        cases i with
        | zero => simp at hi; subst hi; exact ⟨fun _ => by omega, fun _ => by omega⟩
        | succ i =>
          have := h2 i n (by simpa using hi)
          exact ⟨fun h => by have := this.1 (by omega); omega, fun h => this.2 (by omega)⟩
      · cases h
    · rename_i hj
      have hj : ¬ (j + 1 ≤ k) := by intro hc; rw [Nat.ble_eq_true_of_le hc] at hj; cases hj
      split at h
      · rename_i hm
        have hm := Nat.le_of_ble_eq_true hm
        obtain ⟨h1, h2⟩ := stays_eq h
        refine ⟨by simp; omega, fun i n hi => ?_⟩
        cases i with
        | zero => simp at hi; subst hi; exact ⟨fun _ => by omega, fun _ => hm⟩
        | succ i =>
          have := h2 i n (by simpa using hi)
          exact ⟨fun h => by have := this.1 (by omega); omega, fun h => this.2 (by omega)⟩
      · cases h

theorem fewB_eq : ∀ {l : List Nat}, fewB l = true → l.Nodup
  | [], _ => List.nodup_nil
  | x :: r, h => by
    simp only [fewB] at h
    split at h
    · cases h
    · rename_i hx
      refine List.nodup_cons.2 ⟨fun hm => ?_, fewB_eq h⟩
      have : r.any (Nat.beq x) = true := List.any_eq_true.2 ⟨x, hm, Nat.beq_refl x⟩
      rw [this] at hx; cases hx

theorem tmsAt_get {T : Tm} {k : Nat} {c : List Nat} : ∀ {T' : Tm}, tmsAt T k c T' → ∀ t, Tm.get T' t = .un ∨ ((Tm.get T' t).low k = true ∧ Tm.get T t = (Tm.get T' t).ren fun i => c.getD i 0)
  | [], _, t => .inl rfl
  | (u, v) :: r, h, t => by
    simp only [Tm.get]
    split
    · rename_i he
      have he := Nat.eq_of_beq_eq_true he
      subst he
      exact .inr h.1
    · exact tmsAt_get h.2 t

theorem reab_ok {s0 s : Mp} {H0 H H' : LH} {w0 w : World} {T T' : Tm} {nt : Nat} {a : Act} {g : List Nat} (hH : Rel s H w) (hT : RelT s nt T a) (hp : Post s0 H0 w0 s H w) (h : reab s0.length g T H T' H') :
    ∃ s', Rel s' H' w ∧ RelT s' nt T' a ∧ Post s0 H0 w0 s' H' w := by
  obtain ⟨hg, hb, ht, hwr⟩ := h
  simp only [Bool.and_eq_true] at hg
  obtain ⟨hlen0, hst⟩ := stays_eq hg.1
  have hnd := fewB_eq hg.2
  obtain ⟨hlb, hbs⟩ := blocksAt_get hb
  have hin : ∀ (j n : Nat), g[j]? = some n → n < s.length := by
    intro j n hj
    have hjl : j < H'.bl.length := by rw [← hlb]; exact (List.getElem?_eq_some_iff.1 hj).1
    obtain ⟨_, m, hm, hbl⟩ := hbs j _ (List.getElem?_eq_getElem hjl)
    rw [hj] at hm; cases hm
    rw [hH.len]
    exact (List.getElem?_eq_some_iff.1 hbl).1
  have hget : ∀ (j n : Nat), g[j]? = some n → (g.map fun n => (s[n]?).getD (0, []))[j]? = s[n]? := by
    intro j n hj
    have := hin j n hj
    rw [List.getElem?_map, hj]
    simp only [Option.map_some, List.getElem?_eq_getElem this, Option.getD_some]
  have hgd : ∀ (j n : Nat), g[j]? = some n → g.getD j 0 = n := by
    intro j n hj
    rw [List.getD_eq_getElem?_getD, hj]; rfl
  have hhd : ∀ n r, n < g.length → hd s (g.getD n 0) = some r → hd (g.map fun n => (s[n]?).getD (0, [])) n = some r := by
    intro n r hn hr
    have h1 := List.getElem?_eq_getElem hn
    rw [hgd n _ h1] at hr
    unfold hd at hr ⊢
    rw [hget n _ h1]
    exact hr
  have hown : ∀ n y, ownB (g.map fun n => (s[n]?).getD (0, [])) n y → ∃ m, g[n]? = some m ∧ ownB s m y := by
    rintro n y ⟨r, f, h1, h2⟩
    have hn : n < g.length := by have := (List.getElem?_eq_some_iff.1 h1).1; simpa using this
    have h3 := List.getElem?_eq_getElem hn
    rw [hget n _ h3] at h1
    exact ⟨_, h3, r, f, h1, h2⟩
  refine ⟨g.map fun n => (s[n]?).getD (0, []), ⟨by simp [hlb], ?_, ?_, ?_, ?_⟩, ⟨hT.1, fun t => ?_⟩, ⟨?_, by simpa using hlen0, ?_, ?_, fun n hn => hwr n (hp.wr n hn), hp.size, ?_, hp.tape, hp.os, hp.output⟩⟩
  · intro n b r f hn hs
    obtain ⟨hlow, m, hm, hbl⟩ := hbs n b hn
    rw [hget n m hm] at hs
    exact RelB.unren hhd hlow (hH.blk _ _ _ _ hbl hs)
  · intro n m y hn hm
    obtain ⟨a1, h1, h2⟩ := hown n y hn
    obtain ⟨a2, h3, h4⟩ := hown m y hm
    have := hH.dis _ _ _ h2 h4
    subst this
    exact (List.getElem?_inj (List.getElem?_eq_some_iff.1 h1).1 hnd).1 (h1.trans h3.symm)
  · intro n y hn
    obtain ⟨m, _, h2⟩ := hown n y hn
    exact hH.bnd m y h2
  · intro q o hF
    refine ⟨(hH.frz q o hF).1, fun n hn => ?_⟩
    obtain ⟨m, _, h2⟩ := hown n q hn
    exact (hH.frz q o hF).2 m h2
  · rcases tmsAt_get ht t with h1 | ⟨h1, h2⟩
    · rw [h1]; trivial
    · have := hT.2 t
      rw [h2] at this
      exact this.unren hhd h1
  · intro n r hr
    have hn := hd_lt hr
    have hng : n < g.length := by omega
    have h1 := List.getElem?_eq_getElem hng
    have h2 := (hst n _ h1).1 (by omega)
    refine hhd n r hng ?_
    rw [hgd n _ h1, h2]
    exact hp.hext n r hr
  · intro n y hn hlt
    obtain ⟨m, h1, h2⟩ := hown n y hn
    obtain ⟨h3, h4⟩ := hp.fresh m y h2 hlt
    have h5 := hst n m h1
    have hnk : n < s0.length := by
      rcases Nat.lt_or_ge n s0.length with h | h
      · exact h
      · have := h5.2 (by omega); omega
    have := h5.1 (by omega)
    have : m = n := by omega
    subst this
    exact ⟨h3, h4⟩
  · intro n hn hni
    have hng : n < g.length := by omega
    have h1 := List.getElem?_eq_getElem hng
    have h2 := (hst n _ h1).1 (by omega)
    rw [hget n _ h1, h2]
    exact hp.keep n hn fun hi => hni (hwr n hi)
  · intro y hy hno
    exact hp.frame y hy fun n hn => hno n (hwr n hn)

section
variable {P : Program}

/-- Behind a round, the state read anew. -/
def loopKR (k : Nat) (I : Nat → Tm → LH → Prop) (K : X → Tm → LH → Prop) (n : Nat) : X → Tm → LH → Prop := fun x T H => match x with
  | .normal => ∃ n', n' < n ∧ ∃ g T' H', reab k g T H T' H' ∧ I n' T' H'
  | x => ∃ g T' H', reab k g T H T' H' ∧ K x T' H'

theorem loopR_ok {nt : Nat} {c : Code} {body : Tm → LH → (X → Tm → LH → Prop) → Prop} (hb : BodyOK P nt c body) {h : LHd}
    (hh : ∀ T H K, h T H K → ∃ ts I, (∃ n, I n (Tm.norm ts T) H) ∧ ∀ n T' H', I n T' H' → body T' H' fun x T₁ H₁ => loopKR H.bl.length I K n x (Tm.norm ts T₁) H₁) : BodyOK P nt (.loop c) h := by
  intro T H K s a w Q h0 hT hH hQ
  obtain ⟨ts, I, ⟨n0, h0⟩, hround⟩ := hh T H K h0
  refine loop_fall (nt := nt) (fun n a' w' => ∃ T' H' s', I n T' H' ∧ RelT s' nt T' a' ∧ Rel s' H' w' ∧ Post s H w s' H' w') ⟨n0, _, H, s, h0, hT.norm ts, hH, Post.rfl'⟩ ?_
  rintro n a' w' ⟨T', H', s', h1, h2, h3, h4⟩
  refine hb.use (hround _ _ _ h1) h2 h3 ?_
  intro x s'' T'' H'' a'' w'' hK hT'' hH'' hp
  have hps := h4.trans hp
  have hT'' := hT''.norm ts
  rw [← hH.len] at hK
  cases x with
  | normal =>
    obtain ⟨n', hlt, g, T1, H1, hre, hI⟩ := hK
    obtain ⟨s1, h5, h6, h7⟩ := reab_ok hH'' hT'' hps hre
    exact ⟨n', hlt, T1, H1, s1, hI, h6, h5, h7⟩
  | exit id =>
    obtain ⟨g, T1, H1, hre, hK⟩ := hK
    obtain ⟨s1, h5, h6, h7⟩ := reab_ok hH'' hT'' hps hre
    exact hQ (.exit id) s1 _ _ a'' w'' hK h6 h5 h7
  | ret =>
    obtain ⟨g, T1, H1, hre, hK⟩ := hK
    obtain ⟨s1, h5, h6, h7⟩ := reab_ok hH'' hT'' hps hre
    exact hQ .ret s1 _ _ a'' w'' hK h6 h5 h7
end
end Go.FL

/-
  Stamps of acts that are alone: the law's walk.
-/
set_option linter.unusedVariables false
set_option linter.unusedSimpArgs false
set_option linter.unusedSectionVars false
set_option maxRecDepth 1000000
namespace Go.FL

/-- The acts of a list, column by column. -/
structure ActL where
  f1 : Nat → Int
  f2 : Nat → Int
  f3 : Nat → Int
  f4 : Nat → Int
  f5 : Nat → Int
  f6 : Nat → Int
  f7 : Nat → Bool

def ActL.cols (l : ActL) : List LCol := [.int .i64 l.f1, .int .i64 l.f2, .int .u64 l.f3, .int .i64 l.f4, .int .i64 l.f5, .int .i64 l.f6, .bool l.f7]

/-- The act of a place, with that handle. -/
def smD (c : PCfg) (who : Int) (m : PMem) (l : ActL) (i : Nat) (h : Int) : PDone × PMem := doM c who m (cutKind (l.f1 i)) (l.f2 i) h (l.f4 i) (cutVal (l.f5 i)) (cutVal (l.f6 i)) (l.f7 i)

/-- Its handle. -/
def smH (l : ActL) (i : Nat) (last : PDone) : Int := bif !decide (last.h = 0) then bif decide (Int.tmod (i : Int) 2 = 1) then last.h else l.f3 i else l.f3 i

/-- Whether the stamps are right, of so many acts. -/
def smRun (c : PCfg) (who : Int) (l : ActL) : Nat → Nat → PDone → PMem → Bool
  | 0, _, _, _ => true
  | k + 1, i, last, m => bif decide ((smD c who m l i (smH l i last)).1.st < m.steps) then false else bif decide ((smD c who m l i (smH l i last)).2.steps < (smD c who m l i (smH l i last)).1.st) then false
    else bif decide ((smD c who m l i (smH l i last)).1.e = 0) && decide ((smD c who m l i (smH l i last)).1.st = m.steps) then false
    else smRun c who l k (i + 1) (bif !decide ((smD c who m l i (smH l i last)).1.h = 0) then (smD c who m l i (smH l i last)).1 else last) (smD c who m l i (smH l i last)).2

end Go.FL

namespace Go.Proofs.Ytmhakaeahefmbaa
open Go Go.FL Go.Proofs
variable [Go.FL.Fz]

abbrev smF : FuncId := 6
abbrev smEnv (c1 c2 c3 c4 c5 c6 c7 who : Int) : LB := .cells 27 [cI c1, cI c2, cI c3, cI c4, cI c5, cI c6, cI c7, .ptr 0 0, cI who]
abbrev smDone (d : PDone) : LB := .cells 40 [cI d.e, cU d.h, cI d.v, cI d.st]
abbrev smAct (l : ActL) (i : Nat) (h : Int) : LB := .cells 36 [cI (cutKind (l.f1 i)), cI (l.f2 i), cU h, cI (l.f4 i), cI (cutVal (l.f5 i)), cI (cutVal (l.f6 i)), .bool (l.f7 i)]
abbrev smT (p : Option Addr) (n cap : Nat) (l : ActL) (i : Int) : Tm := [(0, .c (.vsl p n cap 7 l.cols)), (3, .c (.ptr 1 0)), (5, .c (.ptr 2 0)), (6, .c (cI i))]

abbrev smEnd (c1 c2 c3 c4 c5 c6 c7 who : Int) (p : Option Addr) (n cap : Nat) (l : ActL) (i : Int) (last : PDone) (m : PMem) (w3 : List Nat) (h : Int) (k : X → Tm → LH → Prop) : Prop :=
  bif decide (c4 = 0) then False else
  bif decide ((smD ⟨c1, c2, c3, c4, c5, c6, c7⟩ who m l i.toNat h).1.st < m.steps) then
    k .ret (smT p n cap l i) ⟨[.obj (.mem (smD ⟨c1, c2, c3, c4, c5, c6, c7⟩ who m l i.toNat h).2), smEnv c1 c2 c3 c4 c5 c6 c7 who, smDone last, smAct l i.toNat h, smDone (smD ⟨c1, c2, c3, c4, c5, c6, c7⟩ who m l i.toNat h).1], 4 :: 0 :: 0 :: w3⟩
  else bif decide ((smD ⟨c1, c2, c3, c4, c5, c6, c7⟩ who m l i.toNat h).2.steps < (smD ⟨c1, c2, c3, c4, c5, c6, c7⟩ who m l i.toNat h).1.st) then
    k .ret (smT p n cap l i) ⟨[.obj (.mem (smD ⟨c1, c2, c3, c4, c5, c6, c7⟩ who m l i.toNat h).2), smEnv c1 c2 c3 c4 c5 c6 c7 who, smDone last, smAct l i.toNat h, smDone (smD ⟨c1, c2, c3, c4, c5, c6, c7⟩ who m l i.toNat h).1], 0 :: 4 :: 0 :: 0 :: w3⟩
  else bif decide ((smD ⟨c1, c2, c3, c4, c5, c6, c7⟩ who m l i.toNat h).1.e = 0) then
    bif decide ((smD ⟨c1, c2, c3, c4, c5, c6, c7⟩ who m l i.toNat h).1.st = m.steps) then
      k .ret (smT p n cap l i) ⟨[.obj (.mem (smD ⟨c1, c2, c3, c4, c5, c6, c7⟩ who m l i.toNat h).2), smEnv c1 c2 c3 c4 c5 c6 c7 who, smDone last, smAct l i.toNat h, smDone (smD ⟨c1, c2, c3, c4, c5, c6, c7⟩ who m l i.toNat h).1], 0 :: 4 :: 0 :: 0 :: w3⟩
    else bif !decide ((smD ⟨c1, c2, c3, c4, c5, c6, c7⟩ who m l i.toNat h).1.h = 0) then
      k .normal (smT p n cap l (IntKind.wrap .i64 (i + 1))) ⟨[.obj (.mem (smD ⟨c1, c2, c3, c4, c5, c6, c7⟩ who m l i.toNat h).2), smEnv c1 c2 c3 c4 c5 c6 c7 who, smDone (smD ⟨c1, c2, c3, c4, c5, c6, c7⟩ who m l i.toNat h).1, smAct l i.toNat h, smDone (smD ⟨c1, c2, c3, c4, c5, c6, c7⟩ who m l i.toNat h).1], 2 :: 0 :: 4 :: 0 :: 0 :: w3⟩
    else k .normal (smT p n cap l (IntKind.wrap .i64 (i + 1))) ⟨[.obj (.mem (smD ⟨c1, c2, c3, c4, c5, c6, c7⟩ who m l i.toNat h).2), smEnv c1 c2 c3 c4 c5 c6 c7 who, smDone last, smAct l i.toNat h, smDone (smD ⟨c1, c2, c3, c4, c5, c6, c7⟩ who m l i.toNat h).1], 0 :: 4 :: 0 :: 0 :: w3⟩
  else bif !decide ((smD ⟨c1, c2, c3, c4, c5, c6, c7⟩ who m l i.toNat h).1.h = 0) then
      k .normal (smT p n cap l (IntKind.wrap .i64 (i + 1))) ⟨[.obj (.mem (smD ⟨c1, c2, c3, c4, c5, c6, c7⟩ who m l i.toNat h).2), smEnv c1 c2 c3 c4 c5 c6 c7 who, smDone (smD ⟨c1, c2, c3, c4, c5, c6, c7⟩ who m l i.toNat h).1, smAct l i.toNat h, smDone (smD ⟨c1, c2, c3, c4, c5, c6, c7⟩ who m l i.toNat h).1], 2 :: 0 :: 4 :: 0 :: 0 :: w3⟩
    else k .normal (smT p n cap l (IntKind.wrap .i64 (i + 1))) ⟨[.obj (.mem (smD ⟨c1, c2, c3, c4, c5, c6, c7⟩ who m l i.toNat h).2), smEnv c1 c2 c3 c4 c5 c6 c7 who, smDone last, smAct l i.toNat h, smDone (smD ⟨c1, c2, c3, c4, c5, c6, c7⟩ who m l i.toNat h).1], 0 :: 4 :: 0 :: 0 :: w3⟩

theorem sm_ev (p : Option Addr) (n cap : Nat) (l : ActL) (c1 c2 c3 c4 c5 c6 c7 who i : Int) (last : PDone) (m : PMem) (wr : List Nat) (k : X → Tm → LH → Prop) :
    evC Try.prog (evF Try.prog own11 10 20) (tmpsF Try.prog smF) noLo 10 (loopF Try.prog smF 0) (smT p n cap l i) ⟨[.obj (.mem m), smEnv c1 c2 c3 c4 c5 c6 c7 who, smDone last], wr⟩ (fun x T H => k x (Tm.norm [0,3,5,6] T) H) =
    (bif decide (i < (n : Int)) then bif decide (i < 60) then bif decide (0 ≤ i ∧ i < (n : Int)) then
      bif !decide (last.h = 0) then bif decide (Int.tmod i 2 = 1) then smEnd c1 c2 c3 c4 c5 c6 c7 who p n cap l i last m (3 :: 3 :: wr) last.h k
        else smEnd c1 c2 c3 c4 c5 c6 c7 who p n cap l i last m (3 :: wr) (l.f3 i.toNat) k
      else smEnd c1 c2 c3 c4 c5 c6 c7 who p n cap l i last m (3 :: wr) (l.f3 i.toNat) k
      else False
      else k (.exit 0) (smT p n cap l i) ⟨[.obj (.mem m), smEnv c1 c2 c3 c4 c5 c6 c7 who, smDone last], wr⟩
      else k (.exit 0) (smT p n cap l i) ⟨[.obj (.mem m), smEnv c1 c2 c3 c4 c5 c6 c7 who, smDone last], wr⟩) := by kernel_rfl

def lh_sm : LHd := fun T H K => match Tm.norm [0,3,5,6] T with
  | [(0, .c (.vsl p n cap 7 [.int .i64 f1, .int .i64 f2, .int .u64 f3, .int .i64 f4, .int .i64 f5, .int .i64 f6, .bool f7])), (3, .c (.ptr 1 0)), (5, .c (.ptr 2 0)), (6, .c (.int .i64 i))] => match H.bl with
    | [.obj (.mem m), .cells t [.int .i64 c1, .int .i64 c2, .int .i64 c3, .int .i64 c4, .int .i64 c5, .int .i64 c6, .int .i64 c7, .ptr 0 0, .int .i64 who], .cells t2 [.int .i64 e, .int .u64 h, .int .i64 v, .int .i64 st]] =>
      ((t = 27 ∧ t2 = 40 ∧ i = 0 ∧ decide (c4 = 0) = false) ∧ smRun ⟨c1, c2, c3, c4, c5, c6, c7⟩ who ⟨f1, f2, f3, f4, f5, f6, f7⟩ (min n 60) 0 ⟨e, h, v, st⟩ m = true) ∧
      ∀ (m' : PMem) (last : PDone), K (.exit 0) [] ⟨[.obj (.mem m'), smEnv c1 c2 c3 c4 c5 c6 c7 who, smDone last], 0 :: 2 :: 3 :: 4 :: H.wr⟩
    | _ => False
  | _ => False

theorem lh_sm_ok : BodyOK Try.prog (tmpsF Try.prog smF) (.loop (loopF Try.prog smF 0)) lh_sm := by
  refine loopR_ok (evC_ok fnOK mixed (evF_ok fnOK mixed own11_ok 10 20) _ (lo := noLo) 10 _ LoOK.no) ?_
  intro T H K h
  unfold lh_sm at h
  split at h
  case h_2 => exact h.elim
  rename_i x0 p n cap f1 f2 f3 f4 f5 f6 f7 i hT
  split at h
  case h_2 => exact h.elim
  rename_i x' m t c1 c2 c3 c4 c5 c6 c7 who t2 e h0 v st hH
  obtain ⟨⟨⟨rfl, rfl, rfl, hc4⟩, hrun⟩, h⟩ := h
  have hl3 : H.bl.length = 3 := by rw [hH]; rfl
  rw [hl3]
  generalize hl : (⟨f1, f2, f3, f4, f5, f6, f7⟩ : ActL) = l at hrun
  refine ⟨[0,3,5,6], fun k T' H' => ∃ (j : Nat) (last : PDone) (m' : PMem), k = min n 60 - j ∧ j ≤ min n 60 ∧ T' = smT p n cap l (j : Int) ∧ H'.bl = [.obj (.mem m'), smEnv c1 c2 c3 c4 c5 c6 c7 who, smDone last] ∧ (∀ k ∈ H'.wr, k ∈ 0 :: 2 :: 3 :: 4 :: H.wr) ∧
    smRun ⟨c1, c2, c3, c4, c5, c6, c7⟩ who l (min n 60 - j) j last m' = true, ⟨min n 60, 0, ⟨e, h0, v, st⟩, m, rfl, by omega, by rw [hT, ← hl]; rfl, hH, fun k hk => by simp [hk], hrun⟩, ?_⟩
  rintro k T' ⟨bl, wr⟩ ⟨j, last, m, rfl, hj, rfl, hbl, hwr, hrun⟩
  simp only at hbl hwr
  subst hbl
  rw [sm_ev]
  have out : j = min n 60 → ∃ g T' H', reab 3 g (smT p n cap l (j : Int)) ⟨[.obj (.mem m), smEnv c1 c2 c3 c4 c5 c6 c7 who, smDone last], wr⟩ T' H' ∧ K (.exit 0) T' H' := fun _ =>
    ⟨[0, 1, 2], [], ⟨[.obj (.mem m), smEnv c1 c2 c3 c4 c5 c6 c7 who, smDone last], 0 :: 2 :: 3 :: 4 :: H.wr⟩, ⟨rfl, ⟨⟨rfl, rfl⟩, ⟨rfl, rfl⟩, ⟨rfl, rfl⟩, trivial⟩, trivial, hwr⟩, h m last⟩
  by_cases h1 : j < n
  · by_cases h2 : j < 60
    · have d1 : decide ((j : Int) < (n : Int)) = true := by simp; omega
      have d2 : decide ((j : Int) < 60) = true := by simp; omega
      have d3 : decide (0 ≤ (j : Int) ∧ (j : Int) < (n : Int)) = true := by simp; omega
      rw [d1, d2, d3, Int.toNat_natCast]
      simp only [cond_true]
      obtain ⟨z, hz⟩ : ∃ z, min n 60 - j = z + 1 := ⟨min n 60 - (j + 1), by omega⟩
      have hi : IntKind.i64.wrap ((j : Int) + 1) = ((j + 1 : Nat) : Int) := by rw [IntKind.wrap_i64]; omega
      rw [hz] at hrun
      have sub : ∀ l : List Nat, (∀ k ∈ l, k = 0 ∨ k = 2 ∨ k = 3 ∨ k = 4) → ∀ k ∈ l ++ wr, k ∈ 0 :: 2 :: 3 :: 4 :: H.wr := by
        intro l hl k hk
        rcases List.mem_append.1 hk with hk | hk
        · rcases hl k hk with rfl | rfl | rfl | rfl <;> simp
        · exact hwr k hk
      have key : ∀ (w3 : List Nat) (hh : Int), (∀ k ∈ w3, k ∈ 0 :: 2 :: 3 :: 4 :: H.wr) → smH l j last = hh →
          smEnd c1 c2 c3 c4 c5 c6 c7 who p n cap l (j : Int) last m w3 hh fun x T₁ H₁ => loopKR 3 (fun k T' H' => ∃ (j : Nat) (last : PDone) (m' : PMem), k = min n 60 - j ∧ j ≤ min n 60 ∧ T' = smT p n cap l (j : Int) ∧ H'.bl = [.obj (.mem m'), smEnv c1 c2 c3 c4 c5 c6 c7 who, smDone last] ∧ (∀ k ∈ H'.wr, k ∈ 0 :: 2 :: 3 :: 4 :: H.wr) ∧
            smRun ⟨c1, c2, c3, c4, c5, c6, c7⟩ who l (min n 60 - j) j last m' = true) K (min n 60 - j) x T₁ H₁ := by
        intro w3 hh hw3 he
        have hrun2 : smRun ⟨c1, c2, c3, c4, c5, c6, c7⟩ who l (z + 1) j last m = true := hrun
        unfold smRun at hrun2
        rw [he] at hrun2
        unfold smEnd
        rw [hc4, Int.toNat_natCast, hi]
        simp only [cond_false]
        generalize smD ⟨c1, c2, c3, c4, c5, c6, c7⟩ who m l j hh = D at hrun2 ⊢
        cases e1 : decide (D.1.st < m.steps) with
        | true => rw [e1] at hrun2; cases hrun2
        | false =>
          rw [e1] at hrun2
          simp only [cond_false] at hrun2 ⊢
          cases e2 : decide (D.2.steps < D.1.st) with
          | true => rw [e2] at hrun2; cases hrun2
          | false =>
            rw [e2] at hrun2
            simp only [cond_false] at hrun2 ⊢
            have next : ∀ (last' : PDone) (w4 : List Nat), (∀ k ∈ w4, k ∈ 0 :: 2 :: 3 :: 4 :: H.wr) → smRun ⟨c1, c2, c3, c4, c5, c6, c7⟩ who l z (j + 1) last' D.2 = true →
                loopKR 3 (fun k T' H' => ∃ (j : Nat) (last : PDone) (m' : PMem), k = min n 60 - j ∧ j ≤ min n 60 ∧ T' = smT p n cap l (j : Int) ∧ H'.bl = [.obj (.mem m'), smEnv c1 c2 c3 c4 c5 c6 c7 who, smDone last] ∧ (∀ k ∈ H'.wr, k ∈ 0 :: 2 :: 3 :: 4 :: H.wr) ∧
                  smRun ⟨c1, c2, c3, c4, c5, c6, c7⟩ who l (min n 60 - j) j last m' = true) K (min n 60 - j) .normal (smT p n cap l ((j + 1 : Nat) : Int)) ⟨[.obj (.mem D.2), smEnv c1 c2 c3 c4 c5 c6 c7 who, smDone last', smAct l j hh, smDone D.1], w4⟩ := by
              intro last' w4 hw4 hr
              refine ⟨min n 60 - (j + 1), by omega, [0, 1, 2], smT p n cap l ((j + 1 : Nat) : Int), ⟨[.obj (.mem D.2), smEnv c1 c2 c3 c4 c5 c6 c7 who, smDone last'], w4⟩, ⟨rfl, ⟨⟨rfl, rfl⟩, ⟨rfl, rfl⟩, ⟨rfl, rfl⟩, trivial⟩, ⟨⟨rfl, rfl⟩, ⟨rfl, rfl⟩, ⟨rfl, rfl⟩, ⟨rfl, rfl⟩, trivial⟩, fun _ hk => hk⟩,
                j + 1, last', D.2, rfl, by omega, rfl, rfl, hw4, by rw [show min n 60 - (j + 1) = z by omega]; exact hr⟩
            have w0 : ∀ k ∈ 0 :: 4 :: 0 :: 0 :: w3, k ∈ 0 :: 2 :: 3 :: 4 :: H.wr := by
              intro k hk
              simp only [List.mem_cons] at hk
              rcases hk with rfl | rfl | rfl | rfl | hk
              · simp
              · simp
              · simp
              · simp
              · exact hw3 k hk
            have w2 : ∀ k ∈ 2 :: 0 :: 4 :: 0 :: 0 :: w3, k ∈ 0 :: 2 :: 3 :: 4 :: H.wr := by
              intro k hk
              rcases List.mem_cons.1 hk with rfl | hk
              · simp
              · exact w0 k hk
            have fin : smRun ⟨c1, c2, c3, c4, c5, c6, c7⟩ who l z (j + 1) (bif !decide (D.1.h = 0) then D.1 else last) D.2 = true →
                (bif !decide (D.1.h = 0) then
                  loopKR 3 (fun k T' H' => ∃ (j : Nat) (last : PDone) (m' : PMem), k = min n 60 - j ∧ j ≤ min n 60 ∧ T' = smT p n cap l (j : Int) ∧ H'.bl = [.obj (.mem m'), smEnv c1 c2 c3 c4 c5 c6 c7 who, smDone last] ∧ (∀ k ∈ H'.wr, k ∈ 0 :: 2 :: 3 :: 4 :: H.wr) ∧
                    smRun ⟨c1, c2, c3, c4, c5, c6, c7⟩ who l (min n 60 - j) j last m' = true) K (min n 60 - j) .normal (smT p n cap l ((j + 1 : Nat) : Int)) ⟨[.obj (.mem D.2), smEnv c1 c2 c3 c4 c5 c6 c7 who, smDone D.1, smAct l j hh, smDone D.1], 2 :: 0 :: 4 :: 0 :: 0 :: w3⟩
                else loopKR 3 (fun k T' H' => ∃ (j : Nat) (last : PDone) (m' : PMem), k = min n 60 - j ∧ j ≤ min n 60 ∧ T' = smT p n cap l (j : Int) ∧ H'.bl = [.obj (.mem m'), smEnv c1 c2 c3 c4 c5 c6 c7 who, smDone last] ∧ (∀ k ∈ H'.wr, k ∈ 0 :: 2 :: 3 :: 4 :: H.wr) ∧
                    smRun ⟨c1, c2, c3, c4, c5, c6, c7⟩ who l (min n 60 - j) j last m' = true) K (min n 60 - j) .normal (smT p n cap l ((j + 1 : Nat) : Int)) ⟨[.obj (.mem D.2), smEnv c1 c2 c3 c4 c5 c6 c7 who, smDone last, smAct l j hh, smDone D.1], 0 :: 4 :: 0 :: 0 :: w3⟩) := by
              intro hr
              cases e5 : decide (D.1.h = 0) with
              | true => rw [e5] at hr; exact next last _ w0 hr
              | false => rw [e5] at hr; exact next D.1 _ w2 hr
            cases e3 : decide (D.1.e = 0) with
            | true =>
              rw [e3] at hrun2
              simp only [Bool.true_and, cond_true] at hrun2 ⊢
              cases e4 : decide (D.1.st = m.steps) with
              | true => rw [e4] at hrun2; cases hrun2
              | false =>
                rw [e4] at hrun2
                simp only [cond_false] at hrun2 ⊢
                exact fin hrun2
            | false =>
              rw [e3] at hrun2
              simp only [Bool.false_and, cond_false] at hrun2 ⊢
              exact fin hrun2
      have w3 : ∀ k ∈ 3 :: wr, k ∈ 0 :: 2 :: 3 :: 4 :: H.wr := sub [3] (by simp)
      have w33 : ∀ k ∈ 3 :: 3 :: wr, k ∈ 0 :: 2 :: 3 :: 4 :: H.wr := sub [3, 3] (by simp)
      cases f1 : decide (last.h = 0) with
      | true => exact key _ _ w3 (by unfold smH; rw [f1]; rfl)
      | false =>
        simp only [Bool.not_false, cond_true]
        cases f2 : decide (Int.tmod (j : Int) 2 = 1) with
        | true => exact key _ _ w33 (by unfold smH; rw [f1, f2]; rfl)
        | false => exact key _ _ w3 (by unfold smH; rw [f1, f2]; rfl)
    · have d1 : decide ((j : Int) < (n : Int)) = true := by simp; omega
      have d2 : decide ((j : Int) < 60) = false := by simp; omega
      rw [d1, d2]
      exact out (by omega)
  · have d1 : decide ((j : Int) < (n : Int)) = false := by simp; omega
    rw [d1]
    exact out (by omega)

theorem smLo : LoOK Try.prog (tmpsF Try.prog smF) (fun _ => some lh_sm) (loopsF Try.prog smF) := by
  have h : loopsF Try.prog smF = [loopF Try.prog smF 0] := by kernel_rfl
  rw [h]
  intro c hc hd he
  have hc : c = loopF Try.prog smF 0 := by simpa using hc
  subst hc
  cases he
  exact lh_sm_ok

theorem stamps_ev (p : Option Addr) (n cap : Nat) (l : ActL) (K : Bool → Prop) : evL Try.prog own11 (fun _ => some lh_sm) 10 20 smF [.c (.vsl p n cap 7 l.cols)] ⟨[], []⟩ (fun v _ => match v with | .c (.bool x) => K x | _ => False) =
    (((27 = 27 ∧ 40 = 40 ∧ (0 : Int) = 0 ∧ false = false) ∧ smRun ⟨1, 6, 8, 40, 100, 600, 3⟩ 0 l (min n 60) 0 ⟨0, 0, 0, 0⟩ (arM 1 6 8 40) = true) ∧ ∀ (_ : PMem) (_ : PDone), K true) := by kernel_rfl

end Go.Proofs.Ytmhakaeahefmbaa

/-
  A slice of acts that is handed in, as rows that are known.
-/
set_option linter.unusedVariables false
set_option linter.unusedSimpArgs false
set_option maxRecDepth 100000
namespace Go.Proofs.Ytmhakaeahefmbaa
open Go Go.FL Go.Proofs Go.ChangeShapes Go.WideShapes Go.ChangeAt Go.RowKit Go.Deep

variable {H : Type} {enc : TypeId × Value → H} {W : World} {spare : Nat → Bool} {held : Bool}

/-- The cells of an act. -/
theorem act_cells {base n : Nat} {cs : List Value} {y : DataW H × List MemPlace} (hf : DataW.trod enc Try.prog W base spare held n 36 cs = some y) :
    ∃ (x1 x2 x3 x4 x5 x6 : Int) (x7 : Bool), cs = [.int .i64 x1, .int .i64 x2, .int .u64 x3, .int .i64 x4, .int .i64 x5, .int .i64 x6, .bool x7] ∧
      (Lit.int .i64 x1).wf = true ∧ (Lit.int .i64 x2).wf = true ∧ (Lit.int .u64 x3).wf = true ∧ (Lit.int .i64 x4).wf = true ∧ (Lit.int .i64 x5).wf = true ∧ (Lit.int .i64 x6).wf = true := by
  obtain ⟨xs, n, rfl, hx, hlen, hxs, hall⟩ := DataW.trod_struct Try.underlying36 hf
  have hsz : cs.length = 7 := by rw [hlen]; kernel_rfl
  obtain ⟨c0, c1, c2, c3, c4, c5, c6, rfl⟩ : ∃ c0 c1 c2 c3 c4 c5 c6, cs = [c0, c1, c2, c3, c4, c5, c6] := by
    match cs, hsz with
    | [a, b, c, d, e, f, g], _ => exact ⟨a, b, c, d, e, f, g, rfl⟩
  have k3 : Try.prog.cellsOf 3 = 1 := by kernel_rfl
  have k34 : Try.prog.cellsOf 34 = 1 := by kernel_rfl
  have k4 : Try.prog.cellsOf 4 = 1 := by kernel_rfl
  match xs, hxs with
  | [y0, y1, y2, y3, y4, y5, y6], _ =>
    have a0 : DataW.trod enc Try.prog W base spare held n 3 (List.take (Try.prog.cellsOf 3) [c0, c1, c2, c3, c4, c5, c6]) = some y0 := hall 0 _ rfl
    rw [k3] at a0
    have a1 : DataW.trod enc Try.prog W base spare held n 3 (List.take (Try.prog.cellsOf 3) [c1, c2, c3, c4, c5, c6]) = some y1 := hall 1 _ rfl
    rw [k3] at a1
    have a2 : DataW.trod enc Try.prog W base spare held n 34 (List.take (Try.prog.cellsOf 34) [c2, c3, c4, c5, c6]) = some y2 := hall 2 _ rfl
    rw [k34] at a2
    have a3 : DataW.trod enc Try.prog W base spare held n 3 (List.take (Try.prog.cellsOf 3) [c3, c4, c5, c6]) = some y3 := hall 3 _ rfl
    rw [k3] at a3
    have a4 : DataW.trod enc Try.prog W base spare held n 3 (List.take (Try.prog.cellsOf 3) [c4, c5, c6]) = some y4 := hall 4 _ rfl
    rw [k3] at a4
    have a5 : DataW.trod enc Try.prog W base spare held n 3 (List.take (Try.prog.cellsOf 3) [c5, c6]) = some y5 := hall 5 _ rfl
    rw [k3] at a5
    have a6 : DataW.trod enc Try.prog W base spare held n 4 (List.take (Try.prog.cellsOf 4) [c6]) = some y6 := hall 6 _ rfl
    rw [k4] at a6
    obtain ⟨x1, e1, _, w1⟩ := DataW.trod_int Try.underlying3 a0
    obtain ⟨x2, e2, _, w2⟩ := DataW.trod_int Try.underlying3 a1
    obtain ⟨x3, e3, _, w3⟩ := DataW.trod_int Try.underlying34 a2
    obtain ⟨x4, e4, _, w4⟩ := DataW.trod_int Try.underlying3 a3
    obtain ⟨x5, e5, _, w5⟩ := DataW.trod_int Try.underlying3 a4
    obtain ⟨x6, e6, _, w6⟩ := DataW.trod_int Try.underlying3 a5
    obtain ⟨x7, e7, _⟩ := DataW.trod_bool Try.underlying4 a6
    simp only [List.take, List.cons.injEq, and_true] at e1 e2 e3 e4 e5 e6 e7
    subst e1 e2 e3 e4 e5 e6 e7
    exact ⟨x1, x2, x3, x4, x5, x6, x7, rfl, w1, w2, w3, w4, w5, w6⟩

/-- A slice of acts that is handed in. -/
theorem open_vacts {v : Value} {d : DataW H} {p : List MemPlace} (hv : ∃ r, v.cells.toList = [r] ∧ v = r) (h : DataW.Trod enc Try.prog W 0 spare held 22 v d p) :
    ∃ (q : Option Addr) (len cap : Nat) (l : ActL), v = .slice q len cap ∧ (∀ s, @RelC (fzOf W) s (.vsl q len cap 7 l.cols) v) ∧ ∀ i, i < len → (Lit.int .u64 (l.f3 i)).wf = true := by
  obtain ⟨r, hr, rfl⟩ := hv
  obtain ⟨fuel, hf⟩ := h
  rw [hr] at hf
  have k36 : Try.prog.cellsOf 36 = 7 := by kernel_rfl
  rcases open_slice Try.underlying22 hf with ⟨h0, _⟩ | ⟨a, len, cap, m, n, D, Pl, h0, _, hl, hm, hmm, _, hcell⟩
  · cases h0
    exact ⟨none, 0, 0, ⟨fun _ => 0, fun _ => 0, fun _ => 0, fun _ => 0, fun _ => 0, fun _ => 0, fun _ => false⟩, rfl, fun s => ⟨rfl, fun h => by omega⟩, fun i hi => by omega⟩
  · cases h0
    have hlm : len ≤ m := by rw [hmm]; split <;> omega
    obtain ⟨F, hF⟩ := choose_lt (n := len) (α := Int × Int × Int × Int × Int × Int × Bool) (p := fun i x => W.cells? 0 (a.add (i * 7)) 7 = some [.int .i64 x.1, .int .i64 x.2.1, .int .u64 x.2.2.1, .int .i64 x.2.2.2.1, .int .i64 x.2.2.2.2.1, .int .i64 x.2.2.2.2.2.1, .bool x.2.2.2.2.2.2] ∧ (Lit.int .u64 x.2.2.1).wf = true) (fun i hi => by
      obtain ⟨cs', h1, h2⟩ := hcell i (by omega)
      rw [k36] at h1
      obtain ⟨x1, x2, x3, x4, x5, x6, x7, rfl, _, _, w3, _⟩ := act_cells h2
      exact ⟨(x1, x2, x3, x4, x5, x6, x7), h1, w3⟩)
    refine ⟨some a, len, cap, ⟨fun i => (F i).1, fun i => (F i).2.1, fun i => (F i).2.2.1, fun i => (F i).2.2.2.1, fun i => (F i).2.2.2.2.1, fun i => (F i).2.2.2.2.2.1, fun i => (F i).2.2.2.2.2.2⟩, rfl, fun s => view_rel (w := 7) (by omega) rfl s fun i hi => ⟨_, (hF i hi).1, fun j x hj => ?_⟩, fun i hi => (hF i hi).2⟩
    match j, hj with
    | 0, hj => cases hj; exact ⟨_, rfl, rfl⟩
    | 1, hj => cases hj; exact ⟨_, rfl, rfl⟩
    | 2, hj => cases hj; exact ⟨_, rfl, rfl⟩
    | 3, hj => cases hj; exact ⟨_, rfl, rfl⟩
    | 4, hj => cases hj; exact ⟨_, rfl, rfl⟩
    | 5, hj => cases hj; exact ⟨_, rfl, rfl⟩
    | 6, hj => cases hj; exact ⟨_, rfl, rfl⟩
    | j + 7, hj => simp [ActL.cols] at hj

end Go.Proofs.Ytmhakaeahefmbaa
