/-
  An arena's memory at the beginning.
-/
import Derived.Test.YtfjnkneoddankaaGreatFr1
set_option linter.unusedVariables false
set_option linter.unusedSimpArgs false
set_option maxRecDepth 100000
namespace Go.FL

def slotInit (c1 c2 c3 c4 c5 c6 c7 i : Int) (m : PMem) : PMem :=
  (PMem.store (PMem.store m (lSlot c1 c2 c3 c4 c5 c6 c7 i) (putSlot 0 0 1 0)).2 (IntKind.wrap IntKind.i64 (lSlot c1 c2 c3 c4 c5 c6 c7 i + 1)) (putTop (IntKind.wrap IntKind.i64 (i + 1)) 0)).2

/-- So many slots from that one on. -/
def freshRun (c1 c2 c3 c4 c5 c6 c7 : Int) : Nat → Int → PMem → PMem
  | 0, _, m => m
  | k + 1, i, m => freshRun c1 c2 c3 c4 c5 c6 c7 k (i + 1) (slotInit c1 c2 c3 c4 c5 c6 c7 i m)

theorem freshRun_zero (c1 c2 c3 c4 c5 c6 c7 i : Int) (m : PMem) : freshRun c1 c2 c3 c4 c5 c6 c7 0 i m = m := rfl

theorem freshRun_succ (c1 c2 c3 c4 c5 c6 c7 i : Int) (k : Nat) (m : PMem) : freshRun c1 c2 c3 c4 c5 c6 c7 (k + 1) i m = freshRun c1 c2 c3 c4 c5 c6 c7 k (i + 1) (slotInit c1 c2 c3 c4 c5 c6 c7 i m) := rfl

def freshEnd (c1 c2 c3 c4 c5 c6 c7 : Int) (m : PMem) : PMem :=
  (PMem.store (PMem.store m (IntKind.wrap IntKind.i64 (lSlot c1 c2 c3 c4 c5 c6 c7 (IntKind.wrap IntKind.i64 (c2 - 1)) + 1)) (putTop (-1) 0)).2 1 (putTop 0 0)).2

/-- An arena's memory at the beginning. -/
def freshM (c1 c2 c3 c4 c5 c6 c7 : Int) : PMem := freshEnd c1 c2 c3 c4 c5 c6 c7 (freshRun c1 c2 c3 c4 c5 c6 c7 c2.toNat 0 (newMem (lLen c1 c2 c3 c4 c5 c6 c7)))

attribute [irreducible] freshRun

def shMemF (H : LH) (n : Nat) (k : PMem → List Nat → Prop) : Prop := shF H n fun o c => match o with
  | .mem x => k x c
  | _ => False

theorem shMemF_ok {H : LH} {n : Nat} {k : PMem → List Nat → Prop} (h : shMemF H n k) : ∃ x c, k x c ∧ Clus H c (false, .mem x) := by
  obtain ⟨o, c, hk, hc⟩ := shF_ok h
  split at hk
  · exact ⟨_, c, hk, hc⟩
  · exact hk.elim

end Go.FL

namespace Go.Proofs.YtfjnkneoddankaaGreat
open Go Go.FL Go.Proofs

abbrev frF : FuncId := 40

abbrev frT (c2 i : Int) : Tm := [(1, .c (.ptr 0 0)), (4, .c (.ptr 1 0)), (20, .c (cI c2)), (21, .c (cI i))]

abbrev frH (c1 c2 c3 c4 c5 c6 c7 : Int) (m : PMem) : List LB := [.cells 24 [.int .i64 c1, .int .i64 c2, .int .i64 c3, .int .i64 c4, .int .i64 c5, .int .i64 c6, .int .i64 c7], .obj (.mem m)]

theorem frBody_ev (c1 c2 c3 c4 c5 c6 c7 i : Int) (m : PMem) (wr : List Nat) (k : X → Tm → LH → Prop) :
    evC Tryz.prog (evF Tryz.prog own7 10 20) (tmpsF Tryz.prog frF) noLo 10 (loopF Tryz.prog frF 0) (frT c2 i) ⟨frH c1 c2 c3 c4 c5 c6 c7 m, wr⟩ (fun x T H => k x (Tm.norm [1, 4, 20, 21] T) H) =
    (bif decide (i < c2) then k .normal (frT c2 (IntKind.wrap .i64 (i + 1))) ⟨frH c1 c2 c3 c4 c5 c6 c7 (slotInit c1 c2 c3 c4 c5 c6 c7 i m), 1 :: 1 :: wr⟩
    else k (.exit 0) (frT c2 i) ⟨frH c1 c2 c3 c4 c5 c6 c7 m, wr⟩) := by kernel_rfl

def lhFr : LHd := fun T H K => match Tm.norm [1, 4, 20, 21] T with
  | [(1, .c (.ptr 0 0)), (4, .c (.ptr 1 0)), (20, .c (.int .i64 n)), (21, .c (.int .i64 i))] => match H.bl with
    | [.cells t [.int .i64 c1, .int .i64 c2, .int .i64 c3, .int .i64 c4, .int .i64 c5, .int .i64 c6, .int .i64 c7], .obj (.mem m)] =>
      match Nat.beq t 24 && decide (i = 0) with
      | false => False
      | true => match decide (n ≤ 65536) with
      | false => False
      | true => n = c2 ∧ K (.exit 0) [(1, .c (.ptr 0 0)), (4, .c (.ptr 1 0))] ⟨frH c1 c2 c3 c4 c5 c6 c7 (freshRun c1 c2 c3 c4 c5 c6 c7 c2.toNat 0 m), 1 :: H.wr⟩
    | _ => False
  | _ => False

theorem lhFr_ok : BodyOK Tryz.prog (tmpsF Tryz.prog frF) (.loop (loopF Tryz.prog frF 0)) lhFr := by
  refine loopN_ok (evC_ok fnOK mixed (evF_ok fnOK mixed own7_ok 10 20) _ (lo := noLo) 10 _ LoOK.no) ?_
  intro T H K h
  unfold lhFr at h
  split at h
  case h_2 => exact h.elim
  rename_i x n i hT
  split at h
  case h_2 => exact h.elim
  rename_i x' t c1 c2 c3 c4 c5 c6 c7 m hH
  split at h
  · exact h.elim
  rename_i hti
  split at h
  · exact h.elim
  rename_i hc
  obtain ⟨rfl, h⟩ := h
  simp only [Bool.and_eq_true] at hti
  have ht := Nat.eq_of_beq_eq_true hti.1
  have hi : i = 0 := of_decide_eq_true hti.2
  have hc : n ≤ 65536 := of_decide_eq_true hc
  subst ht
  subst hi
  generalize hr : freshRun c1 n c3 c4 c5 c6 c7 n.toNat 0 m = r at h
  refine ⟨[1, 4, 20, 21], [1, 4], fun k T' H' => ∃ (j : Nat) (m' : PMem), k = n.toNat - j ∧ T' = frT n (j : Int) ∧ H'.bl = frH c1 n c3 c4 c5 c6 c7 m' ∧ (∀ n ∈ H'.wr, n ∈ 1 :: H.wr) ∧
    (j : Int) ≤ 65536 ∧ freshRun c1 n c3 c4 c5 c6 c7 (n.toNat - j) (j : Int) m' = r, ⟨n.toNat, 0, m, rfl, hT, hH, fun n hn => by simp [hn], by omega, hr⟩, ?_⟩
  rintro k T' ⟨bl, wr⟩ ⟨j, m', rfl, rfl, hbl, hwr, hj, hrun⟩
  simp only at hbl hwr
  subst hbl
  rw [frBody_ev]
  by_cases hlt : (j : Int) < n
  · have h1 : decide ((j : Int) < n) = true := by simpa using hlt
    obtain ⟨q, hq⟩ : ∃ q, n.toNat - j = q + 1 := ⟨n.toNat - (j + 1), by omega⟩
    have hq' : q = n.toNat - (j + 1) := by omega
    rw [hq, freshRun_succ] at hrun
    rw [h1]
    simp only [cond_true]
    have hw2 : ∀ n ∈ 1 :: 1 :: wr, n ∈ 1 :: H.wr := by
      intro n hn
      simp only [List.mem_cons] at hn ⊢
      rcases hn with h | h | h
      · exact .inl h
      · exact .inl h
      · simpa using hwr n h
    have hi : IntKind.i64.wrap ((j : Int) + 1) = ((j + 1 : Nat) : Int) := by rw [IntKind.wrap_i64]; omega
    refine ⟨n.toNat - (j + 1), by omega, j + 1, _, rfl, by rw [hi], rfl, hw2, by omega, ?_⟩
    rw [← hq']
    exact hrun
  · have h1 : decide ((j : Int) < n) = false := by simpa using hlt
    rw [h1]
    simp only [cond_false]
    have hz : n.toNat - j = 0 := by omega
    rw [hz, freshRun_zero] at hrun
    subst hrun
    exact ⟨1 :: H.wr, hwr, h⟩

theorem frLo : LoOK Tryz.prog (tmpsF Tryz.prog frF) (fun _ => some lhFr) (loopsF Tryz.prog frF) := by
  have h : loopsF Tryz.prog frF = [loopF Tryz.prog frF 0] := by kernel_rfl
  rw [h]
  intro c hc hd he
  have hc : c = loopF Tryz.prog frF 0 := by simpa using hc
  subst hc
  cases he
  exact lhFr_ok

theorem fresh_ev (c1 c2 c3 c4 c5 c6 c7 : Int) (K : Option PMem → Int → Prop) :
    evL Tryz.prog own7 (fun _ => some lhFr) 10 20 frF [.agg [.int .i64 c1, .int .i64 c2, .int .i64 c3, .int .i64 c4, .int .i64 c5, .int .i64 c6, .int .i64 c7]] ⟨[], []⟩ (fun v H₁ => match v with
      | .tup [.c .nilp, .c (.int .i64 e)] => K none e
      | .tup [.c (.ptr i 0), .c (.int .i64 e)] => (shMemF H₁ i fun x c => match chkAll [] [] [c] && headOK i c with
        | true => K (some x) e
        | false => False)
      | _ => False) =
    (bif !lCheck c1 c2 c3 c4 c5 c6 c7 then K none 1 else bif decide (lLen c1 c2 c3 c4 c5 c6 c7 < 1) || decide (1048576 < lLen c1 c2 c3 c4 c5 c6 c7) then K none 1 else
      bif decide (c2 ≤ 65536) then c2 = c2 ∧ K (some (freshM c1 c2 c3 c4 c5 c6 c7)) 0 else False) := by kernel_rfl

def h_fresh : Hd := fun args H K => match args with
  | [.agg [.int .i64 c1, .int .i64 c2, .int .i64 c3, .int .i64 c4, .int .i64 c5, .int .i64 c6, .int .i64 c7]] => match lCheck c1 c2 c3 c4 c5 c6 c7 with
    | false => K (.tup [.c .nilp, .c (cI 1)]) H
    | true => match decide (lLen c1 c2 c3 c4 c5 c6 c7 < 1) || decide (1048576 < lLen c1 c2 c3 c4 c5 c6 c7) with
      | true => K (.tup [.c .nilp, .c (cI 1)]) H
      | false => K (.tup [.c (.ptr H.len 0), .c (cI 0)]) (H.new (.obj (.mem (freshM c1 c2 c3 c4 c5 c6 c7))))
  | _ => False

theorem h_fresh_ok : HOK frF h_fresh := by
  intro args H K h
  unfold h_fresh at h
  split at h
  · rename_i c1 c2 c3 c4 c5 c6 c7
    refine new2_ok (own := own7) (b := false) (mk := .mem) (fun _ _ _ => shMemF_ok) rfl (evL_ok fnOK mixed own7_ok frLo ((fresh_ev c1 c2 c3 c4 c5 c6 c7 (fun o e => match o with
      | some x => K (.tup [.c (.ptr H.len 0), .c (cI e)]) (H.new (.obj (.mem x)))
      | none => K (.tup [.c .nilp, .c (cI e)]) H)).mpr ?_))
    split at h
    · rename_i hb
      simp only [hb, Bool.not_false, cond_true]
      exact h
    · rename_i hb
      simp only [hb, Bool.not_true, cond_false]
      have hle : c2 ≤ 65536 := by
        unfold lCheck at hb
        simp only [Bool.and_eq_true, decide_eq_true_eq] at hb
        exact hb.2.2.2.2.2.2.2.2.2.2.2.1
      split at h
      · rename_i hb2
        simp only [hb2, cond_true]
        exact h
      · rename_i hb2
        simp only [hb2, cond_false, hle, decide_true, cond_true, true_and]
        exact h
  · exact h.elim

def tab8 : List (FuncId × Hd) := (frF, h_fresh) :: tab7

def own8 : FuncId → Option Hd := look tab8

theorem all8 : AllOK tab8 := ⟨h_fresh_ok, all7⟩

theorem own8_ok : OwnOK Tryz.prog own8 := look_ok all8

end Go.Proofs.YtfjnkneoddankaaGreat
