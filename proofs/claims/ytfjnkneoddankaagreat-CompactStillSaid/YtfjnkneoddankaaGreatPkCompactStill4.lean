/-
  Which chunk is evacuated: policy.May, policy.Choose.
-/
import Derived.Test.YtfjnkneoddankaaGreatPkCompactStill3
set_option linter.unusedVariables false
set_option linter.unusedSimpArgs false
set_option maxRecDepth 100000
set_option linter.unusedSectionVars false
namespace Go.FL

def mayM (c6 a c e : Int) (o : Bool) : Bool :=
  bif decide (a = 1) then bif !o then bif decide (0 < c) then bif decide (e ≤ 0) then true else decide (IntKind.wrap IntKind.i64 (1000 * e) < IntKind.wrap IntKind.i64 (c6 * c)) else false else false else false

def chAny (may : Nat → Bool) (lv : Nat → Int) (x : Int) : Nat → Nat → Bool
  | 0, _ => false
  | n + 1, k => bif may k then bif decide (lv k ≤ x) then true else chAny may lv x n (k + 1) else chAny may lv x n (k + 1)

def chStep (may : Nat → Bool) (lv : Nat → Int) (i : Nat) (best : Int) : Int :=
  bif may i then bif chAny may lv (lv i) i 0 then best else bif decide (0 ≤ best) then bif decide (lv best.toNat ≤ lv i) then best else i else i else best

def chRun (may : Nat → Bool) (lv : Nat → Int) : Nat → Nat → Int → Int
  | 0, _, b => b
  | n + 1, i, b => chRun may lv n (i + 1) (chStep may lv i b)

def chooseM (c6 : Int) (n : Nat) (st us lv : Nat → Int) (op : Nat → Bool) : Int := chRun (fun i => mayM c6 (st i) (us i) (lv i) (op i)) lv n 0 (-1)

theorem chAny_succ (may : Nat → Bool) (lv : Nat → Int) (x : Int) (n k : Nat) : chAny may lv x (n + 1) k = bif may k then bif decide (lv k ≤ x) then true else chAny may lv x n (k + 1) else chAny may lv x n (k + 1) := rfl

theorem chRun_succ (may : Nat → Bool) (lv : Nat → Int) (n i : Nat) (b : Int) : chRun may lv (n + 1) i b = chRun may lv n (i + 1) (chStep may lv i b) := rfl

theorem chStep_lt (may : Nat → Bool) (lv : Nat → Int) (i n : Nat) (b : Int) (hi : i < n) (hb : b < n) : chStep may lv i b < n := by
  have : (i : Int) < n := by exact_mod_cast hi
  unfold chStep
  simp only [Bool.cond_eq_ite]
  repeat' split
  all_goals assumption

section
variable [Fz] {P : Program}

/-- A function that reads one block of rows, and changes none. -/
theorem CSpec.read {f : FuncId} {args args₁ : List LV} {H : LH} {K K₁ : LV → LH → Prop} {b : Nat} {e : TypeId} {w n cap : Nat} {cs : List LCol} (hb : H.get b = some (.rows e w n cap cs))
    (hargs : ∀ s s₁ vs, hd s₁ 0 = hd s b → RelVs s args vs → RelVs s₁ args₁ vs) (h : CSpec P f args₁ ⟨[.rows e w n cap cs], []⟩ K₁)
    (hK : ∀ v H', K₁ v H' → 0 ∉ H'.wr ∧ (∀ s s' u, RelV s v u → RelV s' v u) ∧ K v H) : CSpec P f args H K := by
  intro s vs wd hr hH
  rw [LH.get_eq] at hb
  have hbl := (List.getElem?_eq_some_iff.1 hb).1
  obtain ⟨r, fo, hs⟩ : ∃ r fo, s[b]? = some (r, fo) := ⟨_, _, List.getElem?_eq_getElem (by rw [hH.len]; exact hbl)⟩
  have hown : ∀ m y, ownB [(r, fo)] m y → m = 0 ∧ ownB s b y := by
    rintro m y ⟨q, g, hm, hy⟩
    cases m with
    | zero => simp at hm; obtain ⟨rfl, rfl⟩ := hm; exact ⟨rfl, _, _, hs, hy⟩
    | succ m => simp at hm
  have hrel : Rel [(r, fo)] ⟨[.rows e w n cap cs], []⟩ wd := by
    refine ⟨rfl, ?_, ?_, ?_, ?_⟩
    · intro m b' q g hm hq
      cases m with
      | zero =>
        simp at hm hq
        obtain ⟨rfl, rfl⟩ := hq
        subst hm
        cases hH.blk _ _ _ _ hb hs with
        | rows c ho hnc hc hw hl => exact .rows c ho hnc hc hw fun i hi => rowAt_free (hl i hi)
      | succ m => simp at hm
    · intro m k y hm hk
      rw [(hown m y hm).1, (hown k y hk).1]
    · intro m y hm
      exact hH.bnd b y (hown m y hm).2
    · intro q o hF
      refine ⟨(hH.frz q o hF).1, fun n hn => ?_⟩
      obtain ⟨rfl, _⟩ := hown n q hn
      obtain ⟨r', f', hn1, hn2⟩ := hn
      exact (hH.frz q o hF).2 b ⟨r, fo, hs, by simp at hn1; obtain ⟨rfl, rfl⟩ := hn1; exact hn2⟩
  have h0 : hd [(r, fo)] 0 = hd s b := by unfold hd; rw [hs]; rfl
  refine (h [(r, fo)] vs wd (hargs _ _ _ h0 hr) hrel).mono ?_
  intro en w' he
  cases en with
  | panicked c => exact he.elim
  | outgrown => exact he.elim
  | returned v' =>
    obtain ⟨s', v, H', hk, hv, hH', hp⟩ := he
    obtain ⟨h1, h2, h3⟩ := hK v H' hk
    have hold : ∀ y, y < wd.heap.size → w'.heap[y]? = wd.heap[y]? := by
      intro y hy
      refine hp.frame y hy fun m hm ho => ?_
      have := (hown m y ho).1
      subst this
      exact h1 hm
    refine ⟨s, v, H, h3, h2 _ _ _ hv, ⟨hH.len, ?_, hH.dis, fun m y hm => Nat.lt_of_lt_of_le (hH.bnd m y hm) hp.size, fun q o hF => ⟨(hH'.frz q o hF).1, (hH.frz q o hF).2⟩⟩, ⟨.refl s, Nat.le_refl _, fun m y hm _ => ⟨ownB_lt hm, hm⟩, fun _ _ _ => rfl, fun _ hm => hm, hp.size, fun y hy _ => hold y hy, hp.tape, hp.os, hp.output⟩⟩
    intro m b' q g hm hq
    exact (hH.blk _ _ _ _ hm hq).local fun y hy => hold y (hH.bnd m y ⟨q, g, hq, hy⟩)

end
end Go.FL

namespace Go.Proofs.YtfjnkneoddankaaGreat
open Go Go.FL Go.Proofs
variable [Go.FL.Fz]

theorem may_ev (c1 c2 c3 c4 c5 c6 c7 a b c d e : Int) (o : Bool) (K : Bool → Prop) :
    evF Tryz.prog own0 10 20 121 [.agg [.int .i64 c1, .int .i64 c2, .int .i64 c3, .int .i64 c4, .int .i64 c5, .int .i64 c6, .int .i64 c7], .agg [.int .i64 a, .int .i64 b, .int .i64 c, .int .i64 d, .int .i64 e, .bool o]] ⟨[], []⟩ (fun v _ => match v with | .c (.bool x) => K x | _ => False) =
    (bif decide (a = 1) then bif !o then bif decide (0 < c) then bif decide (e ≤ 0) then K true else K (decide (IntKind.wrap IntKind.i64 (1000 * e) < IntKind.wrap IntKind.i64 (c6 * c))) else K false else K false else K false) := by kernel_rfl

def h_may : Hd := fun args H K => match args with
  | [.agg [.int .i64 c1, .int .i64 c2, .int .i64 c3, .int .i64 c4, .int .i64 c5, .int .i64 c6, .int .i64 c7], .agg [.int .i64 a, .int .i64 b, .int .i64 c, .int .i64 d, .int .i64 e, .bool o]] => K (.c (.bool (mayM c6 a c e o))) H
  | _ => False

theorem h_may_ok : HOK 121 h_may := by
  intro args H K h
  unfold h_may at h
  split at h
  · rename_i c1 c2 c3 c4 c5 c6 c7 a b c d e o
    have e := (may_ev c1 c2 c3 c4 c5 c6 c7 a b c d e o (fun x => K (.c (.bool x)) H)).mpr (by
      unfold mayM at h
      revert h
      cases decide (a = 1) <;> cases o <;> cases decide (0 < c) <;> cases decide (e ≤ 0) <;> exact fun h => h)
    refine pure_ok (fuel := 10) (d := 20) own0_ok rfl e ?_
    intro v H₁ hv
    split at hv
    · exact ⟨rfl, hv⟩
    · exact hv.elim
  · exact h.elim

def tabK2 : List (FuncId × Hd) := (121, h_may) :: tabK1
def ownK2 : FuncId → Option Hd := look tabK2
theorem allK2 : AllOK tabK2 := ⟨h_may_ok, allK1⟩
theorem ownK2_ok : OwnOK Tryz.prog ownK2 := look_ok allK2

abbrev chF : FuncId := 90

abbrev chRows (n cap : Nat) (st cl us sp lv : Nat → Int) (op : Nat → Bool) : LB := .rows 138 6 n cap [.int .i64 st, .int .i64 cl, .int .i64 us, .int .i64 sp, .int .i64 lv, .bool op]
abbrev cfgB (c1 c2 c3 c4 c5 c6 c7 : Int) : LB := .cells 24 [.int .i64 c1, .int .i64 c2, .int .i64 c3, .int .i64 c4, .int .i64 c5, .int .i64 c6, .int .i64 c7]
abbrev chTi (n cap : Nat) (best i k : Int) : Tm := [(1, .c (.slice 0 0 n cap)), (2, .c (.ptr 1 0)), (5, .c (cI best)), (6, .c (cI i)), (7, .c (.ptr 2 0)), (9, .c (.slice 0 0 n cap)), (10, .c (cI n)), (11, .c (cI i)), (20, .c (cI i)), (21, .c (cI k))]
abbrev chTo (n cap : Nat) (best i : Int) : Tm := [(1, .c (.slice 0 0 n cap)), (2, .c (.ptr 1 0)), (5, .c (cI best)), (9, .c (.slice 0 0 n cap)), (10, .c (cI n)), (11, .c (cI i))]
abbrev chTx (n cap : Nat) (best i : Int) : Tm := [(1, .c (.slice 0 0 n cap)), (2, .c (.ptr 1 0)), (5, .c (cI best)), (6, .c (cI i)), (9, .c (.slice 0 0 n cap)), (10, .c (cI n)), (11, .c (cI i))]
abbrev seenB (a1 a2 a3 a4 a5 : Int) (a6 : Bool) : LB := .cells 138 [.int .i64 a1, .int .i64 a2, .int .i64 a3, .int .i64 a4, .int .i64 a5, .bool a6]

theorem chi_ev (c1 c2 c3 c4 c5 c6 c7 : Int) (n cap : Nat) (st cl us sp lv : Nat → Int) (op : Nat → Bool) (best i k a1 a2 a3 a4 a5 : Int) (a6 : Bool) (wr : List Nat) (q : X → Tm → LH → Prop) :
    evC Tryz.prog (evF Tryz.prog ownK2 10 20) (tmpsF Tryz.prog chF) noLo 10 (loopF Tryz.prog chF 1) (chTi n cap best i k) ⟨[chRows n cap st cl us sp lv op, cfgB c1 c2 c3 c4 c5 c6 c7, seenB a1 a2 a3 a4 a5 a6], wr⟩ (fun x T H => q x (Tm.norm [1,2,5,6,7,9,10,11,20,21] T) H) =
    (bif decide (k < i) then bif decide (0 ≤ k ∧ k < ↑n) then (k.toNat < n) ∧ (bif mayM c6 (st k.toNat) (us k.toNat) (lv k.toNat) (op k.toNat) then
        bif decide (0 ≤ k ∧ k < ↑n) then (k.toNat < n) ∧ (bif decide (lv k.toNat ≤ a5) then q (.exit 1) (chTi n cap best i k) ⟨[chRows n cap st cl us sp lv op, cfgB c1 c2 c3 c4 c5 c6 c7, seenB a1 a2 a3 a4 a5 a6], wr⟩
          else q .normal (chTi n cap best i (IntKind.wrap .i64 (k + 1))) ⟨[chRows n cap st cl us sp lv op, cfgB c1 c2 c3 c4 c5 c6 c7, seenB a1 a2 a3 a4 a5 a6], wr⟩) else False
        else q .normal (chTi n cap best i (IntKind.wrap .i64 (k + 1))) ⟨[chRows n cap st cl us sp lv op, cfgB c1 c2 c3 c4 c5 c6 c7, seenB a1 a2 a3 a4 a5 a6], wr⟩) else False
    else q (.exit 2) (chTi n cap best i k) ⟨[chRows n cap st cl us sp lv op, cfgB c1 c2 c3 c4 c5 c6 c7, seenB a1 a2 a3 a4 a5 a6], wr⟩) := by kernel_rfl

def lhChI : LHd := fun T H K => match Tm.norm [1,2,5,6,7,9,10,11,20,21] T with
  | [(1, .c (.slice 0 0 n cap)), (2, .c (.ptr 1 0)), (5, .c (.int .i64 best)), (6, .c (.int .i64 i)), (7, .c (.ptr 2 0)), (9, .c (.slice 0 0 n2 cap2)), (10, .c (.int .i64 n3)), (11, .c (.int .i64 i2)), (20, .c (.int .i64 i3)), (21, .c (.int .i64 k))] => match H.bl with
    | [.rows e 6 n4 cap3 [.int .i64 st, .int .i64 cl, .int .i64 us, .int .i64 sp, .int .i64 lv, .bool op], .cells t [.int .i64 c1, .int .i64 c2, .int .i64 c3, .int .i64 c4, .int .i64 c5, .int .i64 c6, .int .i64 c7], .cells t2 [.int .i64 a1, .int .i64 a2, .int .i64 a3, .int .i64 a4, .int .i64 a5, .bool a6]] =>
      ((n2 = n ∧ cap2 = cap ∧ n3 = n ∧ i2 = i ∧ i3 = i ∧ k = 0 ∧ n4 = n ∧ cap3 = cap) ∧ (e = 138 ∧ t = 24 ∧ t2 = 138) ∧ 0 ≤ i ∧ i ≤ n ∧ n ≤ 1048576) ∧
      (bif chAny (fun j => mayM c6 (st j) (us j) (lv j) (op j)) lv a5 i.toNat 0 then K (.exit 1) (chTx n cap best i) ⟨[chRows n cap st cl us sp lv op, cfgB c1 c2 c3 c4 c5 c6 c7, seenB a1 a2 a3 a4 a5 a6], H.wr⟩
        else K (.exit 2) (chTx n cap best i) ⟨[chRows n cap st cl us sp lv op, cfgB c1 c2 c3 c4 c5 c6 c7, seenB a1 a2 a3 a4 a5 a6], H.wr⟩)
    | _ => False
  | _ => False

theorem lhChI_ok : BodyOK Tryz.prog (tmpsF Tryz.prog chF) (.loop (loopF Tryz.prog chF 1)) lhChI := by
  refine loopN_ok (evC_ok fnOK mixed (evF_ok fnOK mixed ownK2_ok 10 20) _ (lo := noLo) 10 _ LoOK.no) ?_
  intro T H K h
  unfold lhChI at h
  split at h
  case h_2 => exact h.elim
  rename_i x n cap best i n2 cap2 n3 i2 i3 k hT
  split at h
  case h_2 => exact h.elim
  rename_i x' e n4 cap3 st cl us sp lv op t c1 c2 c3 c4 c5 c6 c7 t2 a1 a2 a3 a4 a5 a6 hH
  obtain ⟨⟨⟨rfl, rfl, rfl, rfl, rfl, rfl, rfl, rfl⟩, ⟨rfl, rfl, rfl⟩, h0, hin, hn⟩, h⟩ := h
  generalize hr : chAny (fun j => mayM c6 (st j) (us j) (lv j) (op j)) lv a5 i3.toNat 0 = r at h
  refine ⟨[1,2,5,6,7,9,10,11,20,21], [1,2,5,6,9,10,11], fun m T' H' => ∃ j : Nat, m = i3.toNat - j ∧ (j : Int) ≤ i3 ∧ T' = chTi n4 cap3 best i3 (j : Int) ∧ H' = ⟨[chRows n4 cap3 st cl us sp lv op, cfgB c1 c2 c3 c4 c5 c6 c7, seenB a1 a2 a3 a4 a5 a6], H.wr⟩ ∧
    chAny (fun j => mayM c6 (st j) (us j) (lv j) (op j)) lv a5 (i3.toNat - j) j = r, ⟨i3.toNat, 0, rfl, h0, hT, by cases H; simp only at hH; subst hH; rfl, hr⟩, ?_⟩
  rintro m T' H' ⟨j, rfl, hj, rfl, rfl, hrun⟩
  rw [chi_ev]
  by_cases hlt : (j : Int) < i3
  · have h1 : decide ((j : Int) < i3) = true := by simpa using hlt
    have h2 : decide (0 ≤ (j : Int) ∧ (j : Int) < (n4 : Int)) = true := by simp; omega
    obtain ⟨q, hq⟩ : ∃ q, i3.toNat - j = q + 1 := ⟨i3.toNat - (j + 1), by omega⟩
    have hq' : q = i3.toNat - (j + 1) := by omega
    rw [hq, chAny_succ] at hrun
    have hjn : j < n4 := by omega
    have hi : IntKind.i64.wrap ((j : Int) + 1) = ((j + 1 : Nat) : Int) := by rw [IntKind.wrap_i64]; omega
    simp only [h1, h2, cond_true, Int.toNat_natCast]
    have hnext : chAny (fun j => mayM c6 (st j) (us j) (lv j) (op j)) lv a5 q (j + 1) = r → loopK (fun m T' H' => ∃ j : Nat, m = i3.toNat - j ∧ (j : Int) ≤ i3 ∧ T' = chTi n4 cap3 best i3 (j : Int) ∧ H' = ⟨[chRows n4 cap3 st cl us sp lv op, cfgB c1 c2 c3 c4 c5 c6 c7, seenB a1 a2 a3 a4 a5 a6], H.wr⟩ ∧
        chAny (fun j => mayM c6 (st j) (us j) (lv j) (op j)) lv a5 (i3.toNat - j) j = r) K [1,2,5,6,9,10,11] (i3.toNat - j) .normal (chTi n4 cap3 best i3 (IntKind.wrap .i64 (j + 1))) ⟨[chRows n4 cap3 st cl us sp lv op, cfgB c1 c2 c3 c4 c5 c6 c7, seenB a1 a2 a3 a4 a5 a6], H.wr⟩ := by
      intro hc
      refine ⟨i3.toNat - (j + 1), by omega, j + 1, rfl, by omega, by rw [hi], rfl, ?_⟩
      rw [← hq']; exact hc
    refine ⟨hjn, ?_⟩
    cases hm : mayM c6 (st j) (us j) (lv j) (op j) with
    | false =>
      simp only [hm, cond_false] at hrun
      exact hnext hrun
    | true =>
      simp only [hm, cond_true] at hrun
      simp only [cond_true]
      refine ⟨hjn, ?_⟩
      cases hl : decide (lv j ≤ a5) with
      | false =>
        simp only [hl, cond_false] at hrun
        exact hnext hrun
      | true =>
        simp only [hl, cond_true] at hrun
        subst hrun
        exact ⟨H.wr, fun _ hn => hn, h⟩
  · have h1 : decide ((j : Int) < i3) = false := by simpa using hlt
    have hz : i3.toNat - j = 0 := by omega
    rw [hz] at hrun
    have hrun : false = r := hrun
    subst hrun
    simp only [h1, cond_false]
    exact ⟨H.wr, fun _ hn => hn, h⟩

theorem chb_ev (c1 c2 c3 c4 c5 c6 c7 : Int) (n cap : Nat) (st cl us sp lv : Nat → Int) (op : Nat → Bool) (best i : Int) (wr : List Nat) (q : X → Tm → LH → Prop) :
    evC Tryz.prog (evF Tryz.prog ownK2 10 20) (tmpsF Tryz.prog chF) (fun _ => some lhChI) 10 (loopF Tryz.prog chF 0) (chTo n cap best i) ⟨[chRows n cap st cl us sp lv op, cfgB c1 c2 c3 c4 c5 c6 c7], wr⟩ (fun x T H => q x (Tm.norm [1,2,5,9,10,11] T) H) =
    (bif decide (i < ↑n) then bif decide (0 ≤ i ∧ i < ↑n) then (i.toNat < n) ∧ (bif !mayM c6 (st i.toNat) (us i.toNat) (lv i.toNat) (op i.toNat) then
        q .normal (chTo n cap best (IntKind.wrap .i64 (i + 1))) ⟨[chRows n cap st cl us sp lv op, cfgB c1 c2 c3 c4 c5 c6 c7, seenB (st i.toNat) (cl i.toNat) (us i.toNat) (sp i.toNat) (lv i.toNat) (op i.toNat)], 2 :: wr⟩
      else ((n = n ∧ cap = cap ∧ (n : Int) = n ∧ i = i ∧ i = i ∧ (0 : Int) = 0 ∧ n = n ∧ cap = cap) ∧ (138 = 138 ∧ 24 = 24 ∧ 138 = 138) ∧ 0 ≤ i ∧ i ≤ n ∧ n ≤ 1048576) ∧
        (bif chAny (fun j => mayM c6 (st j) (us j) (lv j) (op j)) lv (lv i.toNat) i.toNat 0 then
          q .normal (chTo n cap best (IntKind.wrap .i64 (i + 1))) ⟨[chRows n cap st cl us sp lv op, cfgB c1 c2 c3 c4 c5 c6 c7, seenB (st i.toNat) (cl i.toNat) (us i.toNat) (sp i.toNat) (lv i.toNat) (op i.toNat)], 2 :: wr⟩
        else bif decide (0 ≤ best) then bif decide (0 ≤ best ∧ best < ↑n) then (best.toNat < n) ∧ (bif decide (0 ≤ i ∧ i < ↑n) then (i.toNat < n) ∧ (bif decide (lv best.toNat ≤ lv i.toNat) then
              q .normal (chTo n cap best (IntKind.wrap .i64 (i + 1))) ⟨[chRows n cap st cl us sp lv op, cfgB c1 c2 c3 c4 c5 c6 c7, seenB (st i.toNat) (cl i.toNat) (us i.toNat) (sp i.toNat) (lv i.toNat) (op i.toNat)], 2 :: wr⟩
            else q .normal (chTo n cap i (IntKind.wrap .i64 (i + 1))) ⟨[chRows n cap st cl us sp lv op, cfgB c1 c2 c3 c4 c5 c6 c7, seenB (st i.toNat) (cl i.toNat) (us i.toNat) (sp i.toNat) (lv i.toNat) (op i.toNat)], 2 :: wr⟩) else False) else False
          else q .normal (chTo n cap i (IntKind.wrap .i64 (i + 1))) ⟨[chRows n cap st cl us sp lv op, cfgB c1 c2 c3 c4 c5 c6 c7, seenB (st i.toNat) (cl i.toNat) (us i.toNat) (sp i.toNat) (lv i.toNat) (op i.toNat)], 2 :: wr⟩)) else False
    else q (.exit 0) (chTo n cap best i) ⟨[chRows n cap st cl us sp lv op, cfgB c1 c2 c3 c4 c5 c6 c7], wr⟩) := by kernel_rfl

def lhCh : LHd := fun T H K => match Tm.norm [1,2,5,9,10,11] T with
  | [(1, .c (.slice 0 0 n cap)), (2, .c (.ptr 1 0)), (5, .c (.int .i64 best)), (9, .c (.slice 0 0 n2 cap2)), (10, .c (.int .i64 n3)), (11, .c (.int .i64 i))] => match H.bl with
    | [.rows e 6 n4 cap3 [.int .i64 st, .int .i64 cl, .int .i64 us, .int .i64 sp, .int .i64 lv, .bool op], .cells t [.int .i64 c1, .int .i64 c2, .int .i64 c3, .int .i64 c4, .int .i64 c5, .int .i64 c6, .int .i64 c7]] =>
      ((n2 = n ∧ cap2 = cap ∧ n3 = n ∧ i = 0 ∧ n4 = n ∧ cap3 = cap) ∧ (e = 138 ∧ t = 24) ∧ best = -1 ∧ n ≤ 1048576) ∧
      K (.exit 0) [(5, .c (cI (chooseM c6 n st us lv op)))] ⟨[chRows n cap st cl us sp lv op, cfgB c1 c2 c3 c4 c5 c6 c7], 2 :: H.wr⟩
    | _ => False
  | _ => False

theorem chLoI : LoOK Tryz.prog (tmpsF Tryz.prog chF) (fun _ => some lhChI) (loopsC (loopF Tryz.prog chF 0)) := by
  have h : loopsC (loopF Tryz.prog chF 0) = [loopF Tryz.prog chF 1] := by kernel_rfl
  rw [h]
  intro c hc hd he
  have hc : c = loopF Tryz.prog chF 1 := by simpa using hc
  subst hc
  cases he
  exact lhChI_ok

theorem lhCh_ok : BodyOK Tryz.prog (tmpsF Tryz.prog chF) (.loop (loopF Tryz.prog chF 0)) lhCh := by
  refine loopR_ok (evC_ok fnOK mixed (evF_ok fnOK mixed ownK2_ok 10 20) _ 10 _ chLoI) ?_
  intro T H K h
  unfold lhCh at h
  split at h
  case h_2 => exact h.elim
  rename_i x n cap best n2 cap2 n3 i hT
  split at h
  case h_2 => exact h.elim
  rename_i x' e n4 cap3 st cl us sp lv op t c1 c2 c3 c4 c5 c6 c7 hH
  obtain ⟨⟨⟨rfl, rfl, rfl, rfl, rfl, rfl⟩, ⟨rfl, rfl⟩, rfl, hn⟩, h⟩ := h
  have hlen : H.bl.length = 2 := by rw [hH]; rfl
  rw [hlen]
  unfold chooseM at h
  generalize hr : chRun (fun i => mayM c6 (st i) (us i) (lv i) (op i)) lv n4 0 (-1) = r at h
  refine ⟨[1,2,5,9,10,11], fun m T' H' => ∃ (j : Nat) (b : Int) (wr : List Nat), m = n4 - j ∧ j ≤ n4 ∧ b < n4 ∧ T' = chTo n4 cap3 b (j : Int) ∧ H' = ⟨[chRows n4 cap3 st cl us sp lv op, cfgB c1 c2 c3 c4 c5 c6 c7], wr⟩ ∧ (∀ k ∈ wr, k ∈ 2 :: H.wr) ∧
    chRun (fun i => mayM c6 (st i) (us i) (lv i) (op i)) lv (n4 - j) j b = r, ⟨n4, 0, -1, H.wr, rfl, by omega, by omega, hT, by cases H; simp only at hH; subst hH; rfl, fun k hk => by simp [hk], hr⟩, ?_⟩
  rintro m T' H' ⟨j, b, wr, rfl, hj, hb, rfl, rfl, hwr, hrun⟩
  rw [chb_ev]
  have hw2 : ∀ k ∈ 2 :: wr, k ∈ 2 :: H.wr := by
    intro k hk
    rcases List.mem_cons.1 hk with rfl | hk
    · simp
    · exact hwr k hk
  by_cases hlt : j < n4
  · have h1 : decide ((j : Int) < (n4 : Int)) = true := by simpa using hlt
    have h2 : decide (0 ≤ (j : Int) ∧ (j : Int) < (n4 : Int)) = true := by simp; omega
    obtain ⟨q, hq⟩ : ∃ q, n4 - j = q + 1 := ⟨n4 - (j + 1), by omega⟩
    have hq' : q = n4 - (j + 1) := by omega
    rw [hq, chRun_succ] at hrun
    have hi : IntKind.i64.wrap ((j : Int) + 1) = ((j + 1 : Nat) : Int) := by rw [IntKind.wrap_i64]; omega
    have hbs := chStep_lt (fun i => mayM c6 (st i) (us i) (lv i) (op i)) lv j n4 b hlt hb
    simp only [h1, h2, cond_true, Int.toNat_natCast]
    generalize hst : chStep (fun i => mayM c6 (st i) (us i) (lv i) (op i)) lv j b = b' at hrun hbs
    have hnext : ∀ b2 : Int, b2 = b' → loopKR 2 (fun m T' H' => ∃ (j : Nat) (b : Int) (wr : List Nat), m = n4 - j ∧ j ≤ n4 ∧ b < n4 ∧ T' = chTo n4 cap3 b (j : Int) ∧ H' = ⟨[chRows n4 cap3 st cl us sp lv op, cfgB c1 c2 c3 c4 c5 c6 c7], wr⟩ ∧ (∀ k ∈ wr, k ∈ 2 :: H.wr) ∧
        chRun (fun i => mayM c6 (st i) (us i) (lv i) (op i)) lv (n4 - j) j b = r) K (n4 - j) .normal (chTo n4 cap3 b2 (IntKind.wrap .i64 (j + 1))) ⟨[chRows n4 cap3 st cl us sp lv op, cfgB c1 c2 c3 c4 c5 c6 c7, seenB (st j) (cl j) (us j) (sp j) (lv j) (op j)], 2 :: wr⟩ := by
      rintro b2 rfl
      refine ⟨n4 - (j + 1), by omega, [0, 1], chTo n4 cap3 b2 ((j + 1 : Nat) : Int), ⟨[chRows n4 cap3 st cl us sp lv op, cfgB c1 c2 c3 c4 c5 c6 c7], 2 :: wr⟩, ⟨rfl, ⟨⟨rfl, rfl⟩, ⟨rfl, rfl⟩, trivial⟩, ?_, fun _ hk => hk⟩, j + 1, b2, 2 :: wr, rfl, by omega, hbs, rfl, rfl, hw2, by rw [← hq']; exact hrun⟩
      rw [hi]
      exact ⟨⟨rfl, rfl⟩, ⟨rfl, rfl⟩, ⟨rfl, rfl⟩, ⟨rfl, rfl⟩, ⟨rfl, rfl⟩, ⟨rfl, rfl⟩, trivial⟩
    unfold chStep at hst
    refine ⟨hlt, ?_⟩
    cases hm : mayM c6 (st j) (us j) (lv j) (op j) with
    | false =>
      simp only [hm, cond_false] at hst
      simp only [Bool.not_false, cond_true]
      exact hnext _ hst
    | true =>
      simp only [hm, cond_true] at hst
      simp only [Bool.not_true, cond_false]
      refine ⟨⟨⟨trivial, trivial, trivial, trivial, trivial, trivial, trivial, trivial⟩, ⟨trivial, trivial, trivial⟩, by omega, by omega, hn⟩, ?_⟩
      cases ha : chAny (fun j => mayM c6 (st j) (us j) (lv j) (op j)) lv (lv j) j 0 with
      | true =>
        simp only [ha, cond_true] at hst
        exact hnext _ hst
      | false =>
        simp only [ha, cond_false] at hst
        simp only [cond_false]
        by_cases hb0 : 0 ≤ b
        · have h3 : decide (0 ≤ b) = true := by simpa using hb0
          have h4 : decide (0 ≤ b ∧ b < (n4 : Int)) = true := by simp; omega
          simp only [h3, cond_true] at hst
          simp only [h3, h4, cond_true]
          refine ⟨by omega, hlt, ?_⟩
          cases hl : decide (lv b.toNat ≤ lv j) with
          | true =>
            simp only [hl, cond_true] at hst
            exact hnext _ hst
          | false =>
            simp only [hl, cond_false] at hst
            exact hnext _ hst
        · have h3 : decide (0 ≤ b) = false := by simpa using hb0
          simp only [h3, cond_false] at hst
          simp only [h3, cond_false]
          exact hnext _ hst
  · have h1 : decide ((j : Int) < (n4 : Int)) = false := by simpa using hlt
    have hz : n4 - j = 0 := by omega
    rw [hz] at hrun
    have hrun : b = r := hrun
    subst hrun
    simp only [h1, cond_false]
    exact ⟨[0, 1], [(5, .c (cI b))], ⟨[chRows n4 cap3 st cl us sp lv op, cfgB c1 c2 c3 c4 c5 c6 c7], 2 :: H.wr⟩, ⟨rfl, ⟨⟨rfl, rfl⟩, ⟨rfl, rfl⟩, trivial⟩, ⟨⟨rfl, rfl⟩, trivial⟩, hwr⟩, h⟩

def chLo : Nat → Option LHd := fun k => match Nat.beq k 3 with
  | true => some lhCh
  | false => some lhChI

theorem chLoOK : LoOK Tryz.prog (tmpsF Tryz.prog chF) chLo (loopsF Tryz.prog chF) := by
  have h : loopsF Tryz.prog chF = [loopF Tryz.prog chF 0, loopF Tryz.prog chF 1] := by kernel_rfl
  have h0 : chLo (keyC (loopF Tryz.prog chF 0)) = some lhCh := by kernel_rfl
  have h1 : chLo (keyC (loopF Tryz.prog chF 1)) = some lhChI := by kernel_rfl
  rw [h]
  intro c hc hd he
  rcases List.mem_cons.1 hc with rfl | hc
  · rw [h0] at he; cases he; exact lhCh_ok
  · have hc : c = loopF Tryz.prog chF 1 := by simpa using hc
    subst hc
    rw [h1] at he; cases he; exact lhChI_ok

theorem choose_ev (c1 c2 c3 c4 c5 c6 c7 : Int) (n cap : Nat) (st cl us sp lv : Nat → Int) (op : Nat → Bool) (K : Int → Prop) :
    evL Tryz.prog ownK2 chLo 10 20 chF [.agg [.int .i64 c1, .int .i64 c2, .int .i64 c3, .int .i64 c4, .int .i64 c5, .int .i64 c6, .int .i64 c7], .c (.slice 0 0 n cap)] ⟨[chRows n cap st cl us sp lv op], []⟩ (fun v H' => match v with
      | .c (.int .i64 x) => (H'.wr = [2]) ∧ K x
      | _ => False) =
    (((n = n ∧ cap = cap ∧ (n : Int) = n ∧ (0 : Int) = 0 ∧ n = n ∧ cap = cap) ∧ (138 = 138 ∧ 24 = 24) ∧ (-1 : Int) = -1 ∧ n ≤ 1048576) ∧ ([2] = [2]) ∧ K (chooseM c6 n st us lv op)) := by kernel_rfl

def h_choose : Hd := fun args H K => match args with
  | [.agg [.int .i64 c1, .int .i64 c2, .int .i64 c3, .int .i64 c4, .int .i64 c5, .int .i64 c6, .int .i64 c7], .c (.slice b 0 n cap)] => match H.get b with
    | some (.rows e 6 n' cap' [.int .i64 st, .int .i64 cl, .int .i64 us, .int .i64 sp, .int .i64 lv, .bool op]) => ((n' = n ∧ cap' = cap) ∧ e = 138 ∧ n ≤ 1048576) ∧ K (.c (cI (chooseM c6 n st us lv op))) H
    | _ => False
  | _ => False

theorem h_choose_ok : HOK 90 h_choose := by
  intro args H K h
  unfold h_choose at h
  split at h
  case h_2 => exact h.elim
  rename_i c1 c2 c3 c4 c5 c6 c7 b n cap
  split at h
  case h_2 => exact h.elim
  rename_i e n' cap' st cl us sp lv op hb
  obtain ⟨⟨⟨rfl, rfl⟩, rfl, hn⟩, h⟩ := h
  have e := (choose_ev c1 c2 c3 c4 c5 c6 c7 n' cap' st cl us sp lv op (fun x => K (.c (cI x)) H)).mpr ⟨⟨⟨rfl, rfl, rfl, rfl, rfl, rfl⟩, ⟨rfl, rfl⟩, rfl, hn⟩, rfl, h⟩
  obtain ⟨h1, h2⟩ := evL_ok fnOK mixed ownK2_ok chLoOK e
  refine ⟨h1, CSpec.read hb ?_ h2 ?_⟩
  · intro s s₁ vs h0 hr
    match vs, hr with
    | [u, v], ⟨hu, ⟨r, hv, hv2⟩, _⟩ =>
      refine ⟨?_, ⟨r, by rw [h0]; exact hv, hv2⟩, trivial⟩
      obtain ⟨cs, rfl, hu⟩ := hu
      exact ⟨cs, rfl, RelL.low rfl hu⟩
  · intro v H' hk
    split at hk
    · rename_i x
      obtain ⟨hw, hk⟩ := hk
      refine ⟨by rw [hw]; simp, fun s s' u hu => hu, hk⟩
    · exact hk.elim

def tabK3 : List (FuncId × Hd) := (90, h_choose) :: tabK2
def ownK3 : FuncId → Option Hd := look tabK3
theorem allK3 : AllOK tabK3 := ⟨h_choose_ok, allK2⟩
theorem ownK3_ok : OwnOK Tryz.prog ownK3 := look_ok allK3

end Go.Proofs.YtfjnkneoddankaaGreat

/-
  A block that is an object by itself is taken as one where its method is called.
-/
set_option linter.unusedVariables false
set_option linter.unusedSimpArgs false
set_option maxRecDepth 100000
set_option linter.unusedSectionVars false
namespace Go.FL
variable [Fz]

theorem CSpec.fold {P : Program} {f : FuncId} {args : List LV} {H : LH} {K : LV → LH → Prop} {p : Nat} {x : Ob} {T : TypeId} {l : List LC} (hg : H.get p = some (.cells T l)) (he : ex x = [.cells T l]) (hlow : lowL 0 l = true)
    (h : CSpec P f args ⟨lset H.bl p (.obj x), H.wr⟩ K) : CSpec P f args H K := by
  intro s vs w hr hH
  rw [LH.get_eq] at hg
  have hpl := (List.getElem?_eq_some_iff.1 hg).1
  have hrel : Rel s ⟨lset H.bl p (.obj x), H.wr⟩ w := by
    refine ⟨by simp [lset_eq, hH.len], ?_, hH.dis, hH.bnd, hH.frz⟩
    intro n b r f hn hs
    simp only [lset_eq, List.getElem?_set] at hn
    split at hn
    · rename_i hpn
      subst hpn
      cases hn
      have hb := hH.blk _ _ _ _ hg hs
      cases hb with
      | cells c ho hl =>
        refine .obj [(r, [])] rfl ?_ (by rw [he]; rfl) ?_ ?_
        · intro y
          constructor
          · rintro (rfl | hy)
            · exact ⟨0, y, [], rfl, .inl rfl⟩
            · cases hy
          · rintro ⟨n, q, g, hn, hy⟩
            cases n with
            | zero => simp at hn; obtain ⟨rfl, rfl⟩ := hn; simpa using hy
            | succ n => simp at hn
        · intro n m y hn hm
          have h0 := ownB_lt hn
          have h1 := ownB_lt hm
          simp at h0 h1
          omega
        · intro i b q g hi hq
          rw [he] at hi
          cases i with
          | zero =>
            simp at hi hq
            obtain ⟨rfl, rfl⟩ := hq
            subst hi
            exact .cells c ho (Go.Proofs.YtfjnkneoddankaaGreat.RelL.low hlow hl)
          | succ i => simp at hi
    · exact hH.blk _ _ _ _ hn hs
  refine (h s vs w hr hrel).mono ?_
  intro en w' hq
  cases en with
  | panicked c => exact hq
  | outgrown => exact hq
  | returned v' =>
    obtain ⟨s', v, H', h1, h2, h3, h4⟩ := hq
    exact ⟨s', v, H', h1, h2, h3, ⟨h4.hext, h4.len, h4.fresh, h4.keep, h4.wr, h4.size, h4.frame, h4.tape, h4.os, h4.output⟩⟩

end Go.FL

namespace Go.Proofs.YtfjnkneoddankaaGreat
open Go Go.FL Go.Proofs
variable [Go.FL.Fz]

def h_advRaw : Hd := fun args H K => match args with
  | .c (.ptr p 0) :: r => match H.get p with
    | some (.cells 157 [.int .i64 a, .int .u64 b, .int .i64 c, .bool d]) => h_advStep (.c (.ptr p 0) :: r) ⟨lset H.bl p (.obj (.adv ⟨a, b, c, d⟩)), H.wr⟩ K
    | _ => h_advStep (.c (.ptr p 0) :: r) H K
  | args => h_advStep args H K

theorem h_advRaw_ok : HOK 107 h_advRaw := by
  intro args H K h
  unfold h_advRaw at h
  split at h
  · rename_i p r
    split at h
    · rename_i a b c d hg
      obtain ⟨h1, h2⟩ := h_advStep_ok _ _ _ h
      exact ⟨h1, CSpec.fold (x := .adv ⟨a, b, c, d⟩) hg rfl rfl h2⟩
    · exact h_advStep_ok _ _ _ h
  · exact h_advStep_ok _ _ _ h

def tabK4 : List (FuncId × Hd) := (107, h_advRaw) :: tabK3
def ownK4 : FuncId → Option Hd := look tabK4
theorem allK4 : AllOK tabK4 := ⟨h_advRaw_ok, allK3⟩
theorem ownK4_ok : OwnOK Tryz.prog ownK4 := look_ok allK4

end Go.Proofs.YtfjnkneoddankaaGreat

/-
  The compactor's steps, as the evaluator has them.
-/
set_option linter.unusedVariables false
set_option linter.unusedSimpArgs false
set_option maxRecDepth 100000
namespace Go.FL

/-! A tree of choices as a proposition and as a value; the list's capacity may be any. -/

def rqP (p q : Prop) : Prop := p ∧ q
def rqV {R : Type} (p : Prop) (r : R) : R := r
def faP (f : Nat → Prop) : Prop := ∀ n, f n
def faV {R : Type} (f : Nat → R) : R := f 0
def rmP (b : Bool) (p q : Prop) : Prop := cond b p q
def rmV {R : Type} (b : Bool) (p q : R) : R := q

def appC (K : PComp → Nat → PMem → Prop) : Option (PComp × PMem) → Prop
  | none => False
  | some (x, m) => ∀ cap, K x cap m

theorem c_leaf {K : PComp → Nat → PMem → Prop} {x : PComp} {m : PMem} (cap : Nat) (h : appC K (some (x, m))) : K x cap m := h cap
theorem c_bot {K : PComp → Nat → PMem → Prop} {p : Prop} (h : appC K none) : p := h.elim
theorem c_cond {K : PComp → Nat → PMem → Prop} {b : Bool} {p q : Prop} {u v : Option (PComp × PMem)} (h1 : b = true → appC K u → p) (h2 : b = false → appC K v → q) (h : appC K (cond b u v)) : cond b p q := by
  cases b
  · exact h2 rfl h
  · exact h1 rfl h
theorem c_rm {K : PComp → Nat → PMem → Prop} {b b' : Bool} {p q : Prop} {u v : Option (PComp × PMem)} (h1 : appC K v → p) (h2 : appC K v → q) (h : appC K (rmV b' u v)) : rmP b p q := by
  cases b
  · exact h2 h
  · exact h1 h
theorem c_fa {K : PComp → Nat → PMem → Prop} {f : Nat → Option (PComp × PMem)} {g : Nat → Prop} (h1 : ∀ n, appC K (f 0) → g n) (h : appC K (faV f)) : faP g := fun n => h1 n h
theorem c_rq {K : PComp → Nat → PMem → Prop} {p p' q : Prop} {u : Option (PComp × PMem)} (hp : p) (h1 : appC K u → q) (h : appC K (rqV p' u)) : rqP p q := ⟨hp, h1 h⟩
theorem c_rq' {p q A : Prop} (hp : p) (h1 : A → q) (h : A) : rqP p q := ⟨hp, h1 h⟩
theorem c_bif {K : PComp → Nat → PMem → Prop} {a b : Int} {G : Prop} {u v : Option (PComp × PMem)} (h : appC K (bif decide (a = b) then u else v)) (h1 : a = b → appC K u → G) (h2 : appC K v → G) : G := by
  by_cases hab : a = b
  · simp only [hab, decide_true, cond_true] at h; exact h1 hab h
  · simp only [hab, decide_false, cond_false] at h; exact h2 h

def csStartK {R : Type} (bot : R) (rq : Prop → R → R) (fa : (Nat → R) → R) (rm : Bool → R → R → R) (c : PCfg) (who : Int) (x : PComp) (cap : Nat) (mm : PMem) (K : PComp → Nat → PMem → R) : R :=
  bif decide (x.at_ = 0) then
   fa (fun more =>
    rq (1 = 1 ∧ 1 + more = 1 + more) (
     K ⟨1, (some ⟨(1), (fun x_1 => (chunkOf (PMem.eLoad mm who (lChunk c.threads c.slots c.chunks c.words c.gens c.sparse c.tries x.at_)).fst).fst), (fun x_1 => (chunkOf (PMem.eLoad mm who (lChunk c.threads c.slots c.chunks c.words c.gens c.sparse c.tries x.at_)).fst).snd.fst), (fun x_1 => (chunkOf (PMem.eLoad mm who (lChunk c.threads c.slots c.chunks c.words c.gens c.sparse c.tries x.at_)).fst).snd.snd.fst), (fun x_1 => (chunkOf (PMem.eLoad mm who (lChunk c.threads c.slots c.chunks c.words c.gens c.sparse c.tries x.at_)).fst).snd.snd.snd), (fun x => 0), (fun x => false)⟩), (x.at_), (x.pos), (x.w), (x.now), none, none, none, ⟨(x.work.ev), (x.work.lf), (x.work.fr), (x.work.mv), (x.work.rd)⟩, ⟨(x.was.ev), (x.was.lf), (x.was.fr), (x.was.mv), (x.was.rd)⟩, (x.idle)⟩ (1 + more) ((PMem.eLoad mm who (lChunk c.threads c.slots c.chunks c.words c.gens c.sparse c.tries x.at_)).snd)))
  else
   fa (fun more =>
    rq (1 = 1 ∧ 1 + more = 1 + more) (
     K ⟨1, (some ⟨(1), (fun x_1 => (chunkOf (PMem.eLoad mm who (lChunk c.threads c.slots c.chunks c.words c.gens c.sparse c.tries x.at_)).fst).fst), (fun x_1 => (chunkOf (PMem.eLoad mm who (lChunk c.threads c.slots c.chunks c.words c.gens c.sparse c.tries x.at_)).fst).snd.fst), (fun x_1 => (chunkOf (PMem.eLoad mm who (lChunk c.threads c.slots c.chunks c.words c.gens c.sparse c.tries x.at_)).fst).snd.snd.fst), (fun x_1 => (chunkOf (PMem.eLoad mm who (lChunk c.threads c.slots c.chunks c.words c.gens c.sparse c.tries x.at_)).fst).snd.snd.snd), (fun x => 0), (fun x => false)⟩), (x.at_), (x.pos), (x.w), (x.now), none, none, none, ⟨(x.work.ev), (x.work.lf), (x.work.fr), (x.work.mv), (x.work.rd)⟩, ⟨(x.was.ev), (x.was.lf), (x.was.fr), (x.was.mv), (x.was.rd)⟩, (x.idle)⟩ (1 + more) ((PMem.eLoad mm who (lChunk c.threads c.slots c.chunks c.words c.gens c.sparse c.tries x.at_)).snd)))

def csStart (c : PCfg) (who : Int) (x : PComp) (mm : PMem) : Option (PComp × PMem) := csStartK none rqV faV rmV c who x 0 mm fun x _ m => some (x, m)

theorem csStartK_of (c : PCfg) (who : Int) (x : PComp) (cap : Nat) (mm : PMem) {K : PComp → Nat → PMem → Prop} : appC K (csStart c who x mm) → csStartK False rqP faP rmP c who x cap mm K := by
  unfold csStart csStartK
  repeat' first
    | exact c_leaf _
    | exact c_bot
    | refine c_cond (fun _ => ?_) (fun _ => ?_)
    | refine c_rm ?_ ?_
    | refine c_fa (fun _ => ?_)
    | refine c_rq ⟨rfl, rfl⟩ ?_
    | refine c_rq' ⟨rfl, rfl⟩ ?_

def cs0_0K {R : Type} (bot : R) (rq : Prop → R → R) (fa : (Nat → R) → R) (rm : Bool → R → R → R) (c : PCfg) (who : Int) (x : PComp) (seen : PSeenL) (cap : Nat) (mm : PMem) (K : PComp → Nat → PMem → R) : R :=
  bif decide (x.at_ = 0) then
   fa (fun more =>
    rq (1 = 1 ∧ 1 + more = 1 + more) (
     K ⟨1, (some ⟨(1), (fun x_1 => (chunkOf (PMem.eLoad mm who (lChunk c.threads c.slots c.chunks c.words c.gens c.sparse c.tries x.at_)).fst).fst), (fun x_1 => (chunkOf (PMem.eLoad mm who (lChunk c.threads c.slots c.chunks c.words c.gens c.sparse c.tries x.at_)).fst).snd.fst), (fun x_1 => (chunkOf (PMem.eLoad mm who (lChunk c.threads c.slots c.chunks c.words c.gens c.sparse c.tries x.at_)).fst).snd.snd.fst), (fun x_1 => (chunkOf (PMem.eLoad mm who (lChunk c.threads c.slots c.chunks c.words c.gens c.sparse c.tries x.at_)).fst).snd.snd.snd), (fun x => 0), (fun x => false)⟩), (x.at_), (x.pos), (x.w), (x.now), none, none, none, ⟨(x.work.ev), (x.work.lf), (x.work.fr), (x.work.mv), (x.work.rd)⟩, ⟨(x.was.ev), (x.was.lf), (x.was.fr), (x.was.mv), (x.was.rd)⟩, (x.idle)⟩ (1 + more) ((PMem.eLoad mm who (lChunk c.threads c.slots c.chunks c.words c.gens c.sparse c.tries x.at_)).snd)))
  else
   rq ((seen.len = seen.len ∧ cap = cap) ∧ seen.len ≤ 1048576) (
    rm (decide (seen.len + 1 ≤ cap)) (
     rq (seen.len + 1 = seen.len + 1 ∧ cap = cap) (
      K ⟨1, (some ⟨(seen.len + 1), (fun j => bif Nat.beq j (seen.len) then (chunkOf (PMem.eLoad mm who (lChunk c.threads c.slots c.chunks c.words c.gens c.sparse c.tries x.at_)).fst).fst else seen.st j), (fun j => bif Nat.beq j (seen.len) then (chunkOf (PMem.eLoad mm who (lChunk c.threads c.slots c.chunks c.words c.gens c.sparse c.tries x.at_)).fst).snd.fst else seen.cl j), (fun j => bif Nat.beq j (seen.len) then (chunkOf (PMem.eLoad mm who (lChunk c.threads c.slots c.chunks c.words c.gens c.sparse c.tries x.at_)).fst).snd.snd.fst else seen.us j), (fun j => bif Nat.beq j (seen.len) then (chunkOf (PMem.eLoad mm who (lChunk c.threads c.slots c.chunks c.words c.gens c.sparse c.tries x.at_)).fst).snd.snd.snd else seen.sp j), (fun j => bif Nat.beq j (seen.len) then 0 else seen.lv j), (fun j => bif Nat.beq j (seen.len) then false else seen.op j)⟩), (x.at_), (x.pos), (x.w), (x.now), none, none, none, ⟨(x.work.ev), (x.work.lf), (x.work.fr), (x.work.mv), (x.work.rd)⟩, ⟨(x.was.ev), (x.was.lf), (x.was.fr), (x.was.mv), (x.was.rd)⟩, (x.idle)⟩ (cap) ((PMem.eLoad mm who (lChunk c.threads c.slots c.chunks c.words c.gens c.sparse c.tries x.at_)).snd))) (
     fa (fun more =>
      rq (seen.len + 1 = seen.len + 1 ∧ seen.len + 1 + more = seen.len + 1 + more) (
       K ⟨1, (some ⟨(seen.len + 1), (fun j => bif Nat.beq j (seen.len) then (chunkOf (PMem.eLoad mm who (lChunk c.threads c.slots c.chunks c.words c.gens c.sparse c.tries x.at_)).fst).fst else seen.st j), (fun j => bif Nat.beq j (seen.len) then (chunkOf (PMem.eLoad mm who (lChunk c.threads c.slots c.chunks c.words c.gens c.sparse c.tries x.at_)).fst).snd.fst else seen.cl j), (fun j => bif Nat.beq j (seen.len) then (chunkOf (PMem.eLoad mm who (lChunk c.threads c.slots c.chunks c.words c.gens c.sparse c.tries x.at_)).fst).snd.snd.fst else seen.us j), (fun j => bif Nat.beq j (seen.len) then (chunkOf (PMem.eLoad mm who (lChunk c.threads c.slots c.chunks c.words c.gens c.sparse c.tries x.at_)).fst).snd.snd.snd else seen.sp j), (fun j => bif Nat.beq j (seen.len) then 0 else seen.lv j), (fun j => bif Nat.beq j (seen.len) then false else seen.op j)⟩), (x.at_), (x.pos), (x.w), (x.now), none, none, none, ⟨(x.work.ev), (x.work.lf), (x.work.fr), (x.work.mv), (x.work.rd)⟩, ⟨(x.was.ev), (x.was.lf), (x.was.fr), (x.was.mv), (x.was.rd)⟩, (x.idle)⟩ (seen.len + 1 + more) ((PMem.eLoad mm who (lChunk c.threads c.slots c.chunks c.words c.gens c.sparse c.tries x.at_)).snd)))))

def cs0_0 (c : PCfg) (who : Int) (x : PComp) (seen : PSeenL) (mm : PMem) : Option (PComp × PMem) := cs0_0K none rqV faV rmV c who x seen 0 mm fun x _ m => some (x, m)

theorem cs0_0K_of (c : PCfg) (who : Int) (x : PComp) (seen : PSeenL) (cap : Nat) (mm : PMem) (hlen : seen.len ≤ 1048576) {K : PComp → Nat → PMem → Prop} : appC K (cs0_0 c who x seen mm) → cs0_0K False rqP faP rmP c who x seen cap mm K := by
  unfold cs0_0 cs0_0K
  repeat' first
    | exact c_leaf _
    | exact c_bot
    | refine c_cond (fun _ => ?_) (fun _ => ?_)
    | refine c_rm ?_ ?_
    | refine c_fa (fun _ => ?_)
    | refine c_rq ⟨rfl, rfl⟩ ?_
    | refine c_rq' ⟨rfl, rfl⟩ ?_
    | refine c_rq ⟨⟨rfl, rfl⟩, hlen⟩ ?_
    | refine c_rq ⟨⟨rfl, rfl⟩, rfl, hlen⟩ ?_
    | refine c_rq (by simp only [decide_eq_true_eq] at *; omega) ?_

def cs1_0K {R : Type} (bot : R) (rq : Prop → R → R) (fa : (Nat → R) → R) (rm : Bool → R → R → R) (c : PCfg) (who : Int) (x : PComp) (seen : PSeenL) (cap : Nat) (mm : PMem) (K : PComp → Nat → PMem → R) : R :=
  bif decide (0 ≤ x.at_ ∧ x.at_ < ↑seen.len) then
   rq (Int.toNat x.at_ < seen.len) (
    bif decide (c.chunks ≤ wrI (x.at_ + 1)) then
     rq (seen.len = seen.len ∧ cap = cap) (
      K ⟨2, (some ⟨(seen.len), (seen.2), (seen.3), (seen.4), (seen.5), (fun j => bif Nat.beq j (Int.toNat x.at_) then wrI (PMem.eLoad mm who (wrI (lChunk c.threads c.slots c.chunks c.words c.gens c.sparse c.tries x.at_ + 1))).fst else seen.lv j), (seen.7)⟩), 0, (x.pos), (x.w), (x.now), none, none, none, ⟨(x.work.ev), (x.work.lf), (x.work.fr), (x.work.mv), (x.work.rd)⟩, ⟨(x.was.ev), (x.was.lf), (x.was.fr), (x.was.mv), (x.was.rd)⟩, (x.idle)⟩ (cap) ((PMem.eLoad mm who (wrI (lChunk c.threads c.slots c.chunks c.words c.gens c.sparse c.tries x.at_ + 1))).snd))
    else
     rq (seen.len = seen.len ∧ cap = cap) (
      K ⟨0, (some ⟨(seen.len), (seen.2), (seen.3), (seen.4), (seen.5), (fun j => bif Nat.beq j (Int.toNat x.at_) then wrI (PMem.eLoad mm who (wrI (lChunk c.threads c.slots c.chunks c.words c.gens c.sparse c.tries x.at_ + 1))).fst else seen.lv j), (seen.7)⟩), (wrI (x.at_ + 1)), (x.pos), (x.w), (x.now), none, none, none, ⟨(x.work.ev), (x.work.lf), (x.work.fr), (x.work.mv), (x.work.rd)⟩, ⟨(x.was.ev), (x.was.lf), (x.was.fr), (x.was.mv), (x.was.rd)⟩, (x.idle)⟩ (cap) ((PMem.eLoad mm who (wrI (lChunk c.threads c.slots c.chunks c.words c.gens c.sparse c.tries x.at_ + 1))).snd)))
  else
   bot

def cs1_0 (c : PCfg) (who : Int) (x : PComp) (seen : PSeenL) (mm : PMem) : Option (PComp × PMem) := cs1_0K none rqV faV rmV c who x seen 0 mm fun x _ m => some (x, m)

theorem cs1_0K_of (c : PCfg) (who : Int) (x : PComp) (seen : PSeenL) (cap : Nat) (mm : PMem) (hlen : seen.len ≤ 1048576) {K : PComp → Nat → PMem → Prop} : appC K (cs1_0 c who x seen mm) → cs1_0K False rqP faP rmP c who x seen cap mm K := by
  unfold cs1_0 cs1_0K
  repeat' first
    | exact c_leaf _
    | exact c_bot
    | refine c_cond (fun _ => ?_) (fun _ => ?_)
    | refine c_rm ?_ ?_
    | refine c_fa (fun _ => ?_)
    | refine c_rq ⟨rfl, rfl⟩ ?_
    | refine c_rq' ⟨rfl, rfl⟩ ?_
    | refine c_rq ⟨⟨rfl, rfl⟩, hlen⟩ ?_
    | refine c_rq ⟨⟨rfl, rfl⟩, rfl, hlen⟩ ?_
    | refine c_rq (by simp only [decide_eq_true_eq] at *; omega) ?_

def cs2_0K {R : Type} (bot : R) (rq : Prop → R → R) (fa : (Nat → R) → R) (rm : Bool → R → R → R) (c : PCfg) (who : Int) (x : PComp) (seen : PSeenL) (cap : Nat) (mm : PMem) (K : PComp → Nat → PMem → R) : R :=
  bif decide (0 < wrI (PMem.eLoad mm who (wrI (2 + x.at_))).fst) then
   bif decide (0 ≤ wrI (wrI (PMem.eLoad mm who (wrI (2 + x.at_))).fst - 1) ∧ wrI (wrI (PMem.eLoad mm who (wrI (2 + x.at_))).fst - 1) < ↑seen.len) then
    rq (Int.toNat (wrI (wrI (PMem.eLoad mm who (wrI (2 + x.at_))).fst - 1)) < seen.len) (
     bif decide (wrI (x.at_ + 1) < 4) then
      rq (seen.len = seen.len ∧ cap = cap) (
       K ⟨2, (some ⟨(seen.len), (seen.2), (seen.3), (seen.4), (seen.5), (seen.6), (fun j => bif Nat.beq j (Int.toNat (wrI (wrI (PMem.eLoad mm who (wrI (2 + x.at_))).fst - 1))) then true else seen.op j)⟩), (wrI (x.at_ + 1)), (x.pos), (x.w), (x.now), none, none, none, ⟨(x.work.ev), (x.work.lf), (x.work.fr), (x.work.mv), (x.work.rd)⟩, ⟨(x.was.ev), (x.was.lf), (x.was.fr), (x.was.mv), (x.was.rd)⟩, (x.idle)⟩ (cap) ((PMem.eLoad mm who (wrI (2 + x.at_))).snd))
     else
      rq ((seen.len = seen.len ∧ cap = cap) ∧ 138 = 138 ∧ seen.len ≤ 1048576) (
       bif decide ((chooseM c.sparse seen.len seen.st seen.us seen.lv fun j => bif Nat.beq j (Int.toNat (wrI (wrI (PMem.eLoad mm who (wrI (2 + x.at_))).fst - 1))) then true else seen.op j) < 0) then
        rq (seen.len = seen.len ∧ cap = cap) (
         K ⟨10, (some ⟨(seen.len), (seen.2), (seen.3), (seen.4), (seen.5), (seen.6), (fun j => bif Nat.beq j (Int.toNat (wrI (wrI (PMem.eLoad mm who (wrI (2 + x.at_))).fst - 1))) then true else seen.op j)⟩), (chooseM c.sparse seen.len seen.st seen.us seen.lv fun j => bif Nat.beq j (Int.toNat (wrI (wrI (PMem.eLoad mm who (wrI (2 + x.at_))).fst - 1))) then true else seen.op j), (x.pos), (x.w), (x.now), none, none, none, ⟨(x.work.ev), (x.work.lf), (x.work.fr), (x.work.mv), (x.work.rd)⟩, ⟨(x.was.ev), (x.was.lf), (x.was.fr), (x.was.mv), (x.was.rd)⟩, (x.idle)⟩ (cap) ((PMem.eLoad mm who (wrI (2 + x.at_))).snd))
       else
        bif decide ((0 ≤ chooseM c.sparse seen.len seen.st seen.us seen.lv fun j => bif Nat.beq j (Int.toNat (wrI (wrI (PMem.eLoad mm who (wrI (2 + x.at_))).fst - 1))) then true else seen.op j) ∧ (chooseM c.sparse seen.len seen.st seen.us seen.lv fun j => bif Nat.beq j (Int.toNat (wrI (wrI (PMem.eLoad mm who (wrI (2 + x.at_))).fst - 1))) then true else seen.op j) < ↑seen.len) then
         rq (Int.toNat (chooseM c.sparse seen.len seen.st seen.us seen.lv fun j => bif Nat.beq j (Int.toNat (wrI (wrI (PMem.eLoad mm who (wrI (2 + x.at_))).fst - 1))) then true else seen.op j) < seen.len) (
          rq (seen.len = seen.len ∧ cap = cap) (
           K ⟨3, (some ⟨(seen.len), (seen.2), (seen.3), (seen.4), (seen.5), (seen.6), (fun j => bif Nat.beq j (Int.toNat (wrI (wrI (PMem.eLoad mm who (wrI (2 + x.at_))).fst - 1))) then true else seen.op j)⟩), (chooseM c.sparse seen.len seen.st seen.us seen.lv fun j => bif Nat.beq j (Int.toNat (wrI (wrI (PMem.eLoad mm who (wrI (2 + x.at_))).fst - 1))) then true else seen.op j), (x.pos), (putChunk (seen.st (Int.toNat (chooseM c.sparse seen.len seen.st seen.us seen.lv fun j => bif Nat.beq j (Int.toNat (wrI (wrI (PMem.eLoad mm who (wrI (2 + x.at_))).fst - 1))) then true else seen.op j))) (seen.cl (Int.toNat (chooseM c.sparse seen.len seen.st seen.us seen.lv fun j => bif Nat.beq j (Int.toNat (wrI (wrI (PMem.eLoad mm who (wrI (2 + x.at_))).fst - 1))) then true else seen.op j))) (seen.us (Int.toNat (chooseM c.sparse seen.len seen.st seen.us seen.lv fun j => bif Nat.beq j (Int.toNat (wrI (wrI (PMem.eLoad mm who (wrI (2 + x.at_))).fst - 1))) then true else seen.op j))) (seen.sp (Int.toNat (chooseM c.sparse seen.len seen.st seen.us seen.lv fun j => bif Nat.beq j (Int.toNat (wrI (wrI (PMem.eLoad mm who (wrI (2 + x.at_))).fst - 1))) then true else seen.op j)))), (x.now), none, none, none, ⟨(x.work.ev), (x.work.lf), (x.work.fr), (x.work.mv), (x.work.rd)⟩, ⟨(x.was.ev), (x.was.lf), (x.was.fr), (x.was.mv), (x.was.rd)⟩, (x.idle)⟩ (cap) ((PMem.eLoad mm who (wrI (2 + x.at_))).snd)))
        else
         bot))
   else
    bot
  else
   bif decide (wrI (x.at_ + 1) < 4) then
    rq (seen.len = seen.len ∧ cap = cap) (
     K ⟨2, (some ⟨(seen.len), (seen.2), (seen.3), (seen.4), (seen.5), (seen.6), (seen.7)⟩), (wrI (x.at_ + 1)), (x.pos), (x.w), (x.now), none, none, none, ⟨(x.work.ev), (x.work.lf), (x.work.fr), (x.work.mv), (x.work.rd)⟩, ⟨(x.was.ev), (x.was.lf), (x.was.fr), (x.was.mv), (x.was.rd)⟩, (x.idle)⟩ (cap) ((PMem.eLoad mm who (wrI (2 + x.at_))).snd))
   else
    rq ((seen.len = seen.len ∧ cap = cap) ∧ 138 = 138 ∧ seen.len ≤ 1048576) (
     bif decide (chooseM c.sparse seen.len seen.st seen.us seen.lv seen.op < 0) then
      rq (seen.len = seen.len ∧ cap = cap) (
       K ⟨10, (some ⟨(seen.len), (seen.2), (seen.3), (seen.4), (seen.5), (seen.6), (seen.7)⟩), (chooseM c.sparse seen.len seen.st seen.us seen.lv seen.op), (x.pos), (x.w), (x.now), none, none, none, ⟨(x.work.ev), (x.work.lf), (x.work.fr), (x.work.mv), (x.work.rd)⟩, ⟨(x.was.ev), (x.was.lf), (x.was.fr), (x.was.mv), (x.was.rd)⟩, (x.idle)⟩ (cap) ((PMem.eLoad mm who (wrI (2 + x.at_))).snd))
     else
      bif decide (0 ≤ chooseM c.sparse seen.len seen.st seen.us seen.lv seen.op ∧ chooseM c.sparse seen.len seen.st seen.us seen.lv seen.op < ↑seen.len) then
       rq (Int.toNat (chooseM c.sparse seen.len seen.st seen.us seen.lv seen.op) < seen.len) (
        rq (seen.len = seen.len ∧ cap = cap) (
         K ⟨3, (some ⟨(seen.len), (seen.2), (seen.3), (seen.4), (seen.5), (seen.6), (seen.7)⟩), (chooseM c.sparse seen.len seen.st seen.us seen.lv seen.op), (x.pos), (putChunk (seen.st (Int.toNat (chooseM c.sparse seen.len seen.st seen.us seen.lv seen.op))) (seen.cl (Int.toNat (chooseM c.sparse seen.len seen.st seen.us seen.lv seen.op))) (seen.us (Int.toNat (chooseM c.sparse seen.len seen.st seen.us seen.lv seen.op))) (seen.sp (Int.toNat (chooseM c.sparse seen.len seen.st seen.us seen.lv seen.op)))), (x.now), none, none, none, ⟨(x.work.ev), (x.work.lf), (x.work.fr), (x.work.mv), (x.work.rd)⟩, ⟨(x.was.ev), (x.was.lf), (x.was.fr), (x.was.mv), (x.was.rd)⟩, (x.idle)⟩ (cap) ((PMem.eLoad mm who (wrI (2 + x.at_))).snd)))
      else
       bot)

def cs2_0 (c : PCfg) (who : Int) (x : PComp) (seen : PSeenL) (mm : PMem) : Option (PComp × PMem) := cs2_0K none rqV faV rmV c who x seen 0 mm fun x _ m => some (x, m)

theorem cs2_0K_of (c : PCfg) (who : Int) (x : PComp) (seen : PSeenL) (cap : Nat) (mm : PMem) (hlen : seen.len ≤ 1048576) {K : PComp → Nat → PMem → Prop} : appC K (cs2_0 c who x seen mm) → cs2_0K False rqP faP rmP c who x seen cap mm K := by
  unfold cs2_0 cs2_0K
  repeat' first
    | exact c_leaf _
    | exact c_bot
    | refine c_cond (fun _ => ?_) (fun _ => ?_)
    | refine c_rm ?_ ?_
    | refine c_fa (fun _ => ?_)
    | refine c_rq ⟨rfl, rfl⟩ ?_
    | refine c_rq' ⟨rfl, rfl⟩ ?_
    | refine c_rq ⟨⟨rfl, rfl⟩, hlen⟩ ?_
    | refine c_rq ⟨⟨rfl, rfl⟩, rfl, hlen⟩ ?_
    | refine c_rq (by simp only [decide_eq_true_eq] at *; omega) ?_

def cs3_0K {R : Type} (bot : R) (rq : Prop → R → R) (fa : (Nat → R) → R) (rm : Bool → R → R → R) (c : PCfg) (who : Int) (x : PComp) (seen : PSeenL) (cap : Nat) (mm : PMem) (K : PComp → Nat → PMem → R) : R :=
  bif (PMem.eCas mm who (lChunk c.threads c.slots c.chunks c.words c.gens c.sparse c.tries x.at_) x.w (putChunk 2 (chunkOf x.w).snd.fst (chunkOf x.w).snd.snd.fst (wrI ((chunkOf x.w).snd.snd.snd + 1)))).fst then
   rq (seen.len = seen.len ∧ cap = cap) (
    K ⟨4, (some ⟨(seen.len), (seen.2), (seen.3), (seen.4), (seen.5), (seen.6), (seen.7)⟩), (x.at_), 0, (putChunk 2 (chunkOf x.w).snd.fst (chunkOf x.w).snd.snd.fst (wrI ((chunkOf x.w).snd.snd.snd + 1))), (x.now), none, none, none, ⟨(x.work.ev), (x.work.lf), (x.work.fr), (x.work.mv), (x.work.rd)⟩, ⟨(x.was.ev), (x.was.lf), (x.was.fr), (x.was.mv), (x.was.rd)⟩, (x.idle)⟩ (cap) ((PMem.eCas mm who (lChunk c.threads c.slots c.chunks c.words c.gens c.sparse c.tries x.at_) x.w (putChunk 2 (chunkOf x.w).snd.fst (chunkOf x.w).snd.snd.fst (wrI ((chunkOf x.w).snd.snd.snd + 1)))).snd))
  else
   rq (seen.len = seen.len ∧ cap = cap) (
    K ⟨10, (some ⟨(seen.len), (seen.2), (seen.3), (seen.4), (seen.5), (seen.6), (seen.7)⟩), (x.at_), 0, (x.w), (x.now), none, none, none, ⟨(x.work.ev), (x.work.lf), (x.work.fr), (x.work.mv), (x.work.rd)⟩, ⟨(x.was.ev), (x.was.lf), (x.was.fr), (x.was.mv), (x.was.rd)⟩, (x.idle)⟩ (cap) ((PMem.eCas mm who (lChunk c.threads c.slots c.chunks c.words c.gens c.sparse c.tries x.at_) x.w (putChunk 2 (chunkOf x.w).snd.fst (chunkOf x.w).snd.snd.fst (wrI ((chunkOf x.w).snd.snd.snd + 1)))).snd))

def cs3_0 (c : PCfg) (who : Int) (x : PComp) (seen : PSeenL) (mm : PMem) : Option (PComp × PMem) := cs3_0K none rqV faV rmV c who x seen 0 mm fun x _ m => some (x, m)

theorem cs3_0K_of (c : PCfg) (who : Int) (x : PComp) (seen : PSeenL) (cap : Nat) (mm : PMem) (hlen : seen.len ≤ 1048576) {K : PComp → Nat → PMem → Prop} : appC K (cs3_0 c who x seen mm) → cs3_0K False rqP faP rmP c who x seen cap mm K := by
  unfold cs3_0 cs3_0K
  repeat' first
    | exact c_leaf _
    | exact c_bot
    | refine c_cond (fun _ => ?_) (fun _ => ?_)
    | refine c_rm ?_ ?_
    | refine c_fa (fun _ => ?_)
    | refine c_rq ⟨rfl, rfl⟩ ?_
    | refine c_rq' ⟨rfl, rfl⟩ ?_
    | refine c_rq ⟨⟨rfl, rfl⟩, hlen⟩ ?_
    | refine c_rq ⟨⟨rfl, rfl⟩, rfl, hlen⟩ ?_
    | refine c_rq (by simp only [decide_eq_true_eq] at *; omega) ?_

def cs4_0K {R : Type} (bot : R) (rq : Prop → R → R) (fa : (Nat → R) → R) (rm : Bool → R → R → R) (c : PCfg) (who : Int) (x : PComp) (seen : PSeenL) (cap : Nat) (mm : PMem) (K : PComp → Nat → PMem → R) : R :=
  bif decide ((headOf (PMem.eLoad mm who (wrI (lBase c.threads c.slots c.chunks c.words c.gens c.sparse c.tries x.at_ + x.pos))).fst).fst = 3) then
   bif decide ((chunkOf x.w).snd.snd.fst ≤ wrI (x.pos + lRoom (chunkOf x.w).snd.fst)) then
    rq (seen.len = seen.len ∧ cap = cap) (
     K ⟨6, (some ⟨(seen.len), (seen.2), (seen.3), (seen.4), (seen.5), (seen.6), (seen.7)⟩), (x.at_), (wrI (x.pos + lRoom (chunkOf x.w).snd.fst)), (x.w), (x.now), none, none, none, ⟨(x.work.ev), (x.work.lf), (x.work.fr), (x.work.mv), (x.work.rd)⟩, ⟨(x.was.ev), (x.was.lf), (x.was.fr), (x.was.mv), (x.was.rd)⟩, (x.idle)⟩ (cap) ((PMem.eLoad mm who (wrI (lBase c.threads c.slots c.chunks c.words c.gens c.sparse c.tries x.at_ + x.pos))).snd))
   else
    rq (seen.len = seen.len ∧ cap = cap) (
     K ⟨4, (some ⟨(seen.len), (seen.2), (seen.3), (seen.4), (seen.5), (seen.6), (seen.7)⟩), (x.at_), (wrI (x.pos + lRoom (chunkOf x.w).snd.fst)), (x.w), (x.now), none, none, none, ⟨(x.work.ev), (x.work.lf), (x.work.fr), (x.work.mv), (x.work.rd)⟩, ⟨(x.was.ev), (x.was.lf), (x.was.fr), (x.was.mv), (x.was.rd)⟩, (x.idle)⟩ (cap) ((PMem.eLoad mm who (wrI (lBase c.threads c.slots c.chunks c.words c.gens c.sparse c.tries x.at_ + x.pos))).snd))
  else
   bif decide ((headOf (PMem.eLoad mm who (wrI (lBase c.threads c.slots c.chunks c.words c.gens c.sparse c.tries x.at_ + x.pos))).fst).fst = 2) then
    rq (seen.len = seen.len ∧ cap = cap) (
     K ⟨5, (some ⟨(seen.len), (seen.2), (seen.3), (seen.4), (seen.5), (seen.6), (seen.7)⟩), (x.at_), (x.pos), (x.w), (x.now), (some ⟨(wrI (lBase c.threads c.slots c.chunks c.words c.gens c.sparse c.tries x.at_ + x.pos)), ⟨((headOf (PMem.eLoad mm who (wrI (lBase c.threads c.slots c.chunks c.words c.gens c.sparse c.tries x.at_ + x.pos))).fst).fst), ((headOf (PMem.eLoad mm who (wrI (lBase c.threads c.slots c.chunks c.words c.gens c.sparse c.tries x.at_ + x.pos))).fst).snd.fst), ((headOf (PMem.eLoad mm who (wrI (lBase c.threads c.slots c.chunks c.words c.gens c.sparse c.tries x.at_ + x.pos))).fst).snd.snd.fst), ((headOf (PMem.eLoad mm who (wrI (lBase c.threads c.slots c.chunks c.words c.gens c.sparse c.tries x.at_ + x.pos))).fst).snd.snd.snd.fst), ((headOf (PMem.eLoad mm who (wrI (lBase c.threads c.slots c.chunks c.words c.gens c.sparse c.tries x.at_ + x.pos))).fst).snd.snd.snd.snd)⟩, 0, 0, none, 0, 0, false, 0, 0, 0, 0⟩), none, none, ⟨(x.work.ev), (x.work.lf), (x.work.fr), (x.work.mv), (x.work.rd)⟩, ⟨(x.was.ev), (x.was.lf), (x.was.fr), (x.was.mv), (x.was.rd)⟩, (x.idle)⟩ (cap) ((PMem.eLoad mm who (wrI (lBase c.threads c.slots c.chunks c.words c.gens c.sparse c.tries x.at_ + x.pos))).snd))
   else
    rq (seen.len = seen.len ∧ cap = cap) (
     K ⟨9, (some ⟨(seen.len), (seen.2), (seen.3), (seen.4), (seen.5), (seen.6), (seen.7)⟩), (x.at_), (x.pos), (x.w), (x.now), none, none, none, ⟨(x.work.ev), (x.work.lf), (x.work.fr), (x.work.mv), (x.work.rd)⟩, ⟨(x.was.ev), (x.was.lf), (x.was.fr), (x.was.mv), (x.was.rd)⟩, (x.idle)⟩ (cap) ((PMem.eLoad mm who (wrI (lBase c.threads c.slots c.chunks c.words c.gens c.sparse c.tries x.at_ + x.pos))).snd))

def cs4_0 (c : PCfg) (who : Int) (x : PComp) (seen : PSeenL) (mm : PMem) : Option (PComp × PMem) := cs4_0K none rqV faV rmV c who x seen 0 mm fun x _ m => some (x, m)

theorem cs4_0K_of (c : PCfg) (who : Int) (x : PComp) (seen : PSeenL) (cap : Nat) (mm : PMem) (hlen : seen.len ≤ 1048576) {K : PComp → Nat → PMem → Prop} : appC K (cs4_0 c who x seen mm) → cs4_0K False rqP faP rmP c who x seen cap mm K := by
  unfold cs4_0 cs4_0K
  repeat' first
    | exact c_leaf _
    | exact c_bot
    | refine c_cond (fun _ => ?_) (fun _ => ?_)
    | refine c_rm ?_ ?_
    | refine c_fa (fun _ => ?_)
    | refine c_rq ⟨rfl, rfl⟩ ?_
    | refine c_rq' ⟨rfl, rfl⟩ ?_
    | refine c_rq ⟨⟨rfl, rfl⟩, hlen⟩ ?_
    | refine c_rq ⟨⟨rfl, rfl⟩, rfl, hlen⟩ ?_
    | refine c_rq (by simp only [decide_eq_true_eq] at *; omega) ?_

def cs5_0K {R : Type} (bot : R) (rq : Prop → R → R) (fa : (Nat → R) → R) (rm : Bool → R → R → R) (c : PCfg) (who : Int) (x : PComp) (seen : PSeenL) (cap : Nat) (mm : PMem) (K : PComp → Nat → PMem → R) : R :=
  rq (seen.len = seen.len ∧ cap = cap) (
   K ⟨5, (some ⟨(seen.len), (seen.2), (seen.3), (seen.4), (seen.5), (seen.6), (seen.7)⟩), (x.at_), (x.pos), (x.w), (x.now), none, none, none, ⟨(x.work.ev), (x.work.lf), (x.work.fr), (x.work.mv), (x.work.rd)⟩, ⟨(x.was.ev), (x.was.lf), (x.was.fr), (x.was.mv), (x.was.rd)⟩, (x.idle)⟩ (cap) (mm))

def cs5_0 (c : PCfg) (who : Int) (x : PComp) (seen : PSeenL) (mm : PMem) : Option (PComp × PMem) := cs5_0K none rqV faV rmV c who x seen 0 mm fun x _ m => some (x, m)

theorem cs5_0K_of (c : PCfg) (who : Int) (x : PComp) (seen : PSeenL) (cap : Nat) (mm : PMem) (hlen : seen.len ≤ 1048576) {K : PComp → Nat → PMem → Prop} : appC K (cs5_0 c who x seen mm) → cs5_0K False rqP faP rmP c who x seen cap mm K := by
  unfold cs5_0 cs5_0K
  repeat' first
    | exact c_leaf _
    | exact c_bot
    | refine c_cond (fun _ => ?_) (fun _ => ?_)
    | refine c_rm ?_ ?_
    | refine c_fa (fun _ => ?_)
    | refine c_rq ⟨rfl, rfl⟩ ?_
    | refine c_rq' ⟨rfl, rfl⟩ ?_
    | refine c_rq ⟨⟨rfl, rfl⟩, hlen⟩ ?_
    | refine c_rq ⟨⟨rfl, rfl⟩, rfl, hlen⟩ ?_
    | refine c_rq (by simp only [decide_eq_true_eq] at *; omega) ?_

def cs6_0K {R : Type} (bot : R) (rq : Prop → R → R) (fa : (Nat → R) → R) (rm : Bool → R → R → R) (c : PCfg) (who : Int) (x : PComp) (seen : PSeenL) (cap : Nat) (mm : PMem) (K : PComp → Nat → PMem → R) : R :=
  rq (seen.len = seen.len ∧ cap = cap) (
   K ⟨7, (some ⟨(seen.len), (seen.2), (seen.3), (seen.4), (seen.5), (seen.6), (seen.7)⟩), (x.at_), (x.pos), (x.w), ((PMem.eLoad mm who 0).fst), none, none, none, ⟨(x.work.ev), (x.work.lf), (x.work.fr), (x.work.mv), (x.work.rd)⟩, ⟨(x.was.ev), (x.was.lf), (x.was.fr), (x.was.mv), (x.was.rd)⟩, (x.idle)⟩ (cap) ((PMem.eLoad mm who 0).snd))

def cs6_0 (c : PCfg) (who : Int) (x : PComp) (seen : PSeenL) (mm : PMem) : Option (PComp × PMem) := cs6_0K none rqV faV rmV c who x seen 0 mm fun x _ m => some (x, m)

theorem cs6_0K_of (c : PCfg) (who : Int) (x : PComp) (seen : PSeenL) (cap : Nat) (mm : PMem) (hlen : seen.len ≤ 1048576) {K : PComp → Nat → PMem → Prop} : appC K (cs6_0 c who x seen mm) → cs6_0K False rqP faP rmP c who x seen cap mm K := by
  unfold cs6_0 cs6_0K
  repeat' first
    | exact c_leaf _
    | exact c_bot
    | refine c_cond (fun _ => ?_) (fun _ => ?_)
    | refine c_rm ?_ ?_
    | refine c_fa (fun _ => ?_)
    | refine c_rq ⟨rfl, rfl⟩ ?_
    | refine c_rq' ⟨rfl, rfl⟩ ?_
    | refine c_rq ⟨⟨rfl, rfl⟩, hlen⟩ ?_
    | refine c_rq ⟨⟨rfl, rfl⟩, rfl, hlen⟩ ?_
    | refine c_rq (by simp only [decide_eq_true_eq] at *; omega) ?_

def cs7_0K {R : Type} (bot : R) (rq : Prop → R → R) (fa : (Nat → R) → R) (rm : Bool → R → R → R) (c : PCfg) (who : Int) (x : PComp) (seen : PSeenL) (cap : Nat) (mm : PMem) (K : PComp → Nat → PMem → R) : R :=
  rq (seen.len = seen.len ∧ cap = cap) (
   K ⟨8, (some ⟨(seen.len), (seen.2), (seen.3), (seen.4), (seen.5), (seen.6), (seen.7)⟩), (x.at_), (x.pos), (x.w), (x.now), none, none, none, ⟨(x.work.ev), (x.work.lf), (x.work.fr), (x.work.mv), (x.work.rd)⟩, ⟨(x.was.ev), (x.was.lf), (x.was.fr), (x.was.mv), (x.was.rd)⟩, (x.idle)⟩ (cap) (PMem.eStore mm who (wrI (lChunk c.threads c.slots c.chunks c.words c.gens c.sparse c.tries x.at_ + 2)) x.now))

def cs7_0 (c : PCfg) (who : Int) (x : PComp) (seen : PSeenL) (mm : PMem) : Option (PComp × PMem) := cs7_0K none rqV faV rmV c who x seen 0 mm fun x _ m => some (x, m)

theorem cs7_0K_of (c : PCfg) (who : Int) (x : PComp) (seen : PSeenL) (cap : Nat) (mm : PMem) (hlen : seen.len ≤ 1048576) {K : PComp → Nat → PMem → Prop} : appC K (cs7_0 c who x seen mm) → cs7_0K False rqP faP rmP c who x seen cap mm K := by
  unfold cs7_0 cs7_0K
  repeat' first
    | exact c_leaf _
    | exact c_bot
    | refine c_cond (fun _ => ?_) (fun _ => ?_)
    | refine c_rm ?_ ?_
    | refine c_fa (fun _ => ?_)
    | refine c_rq ⟨rfl, rfl⟩ ?_
    | refine c_rq' ⟨rfl, rfl⟩ ?_
    | refine c_rq ⟨⟨rfl, rfl⟩, hlen⟩ ?_
    | refine c_rq ⟨⟨rfl, rfl⟩, rfl, hlen⟩ ?_
    | refine c_rq (by simp only [decide_eq_true_eq] at *; omega) ?_

def cs8_0K {R : Type} (bot : R) (rq : Prop → R → R) (fa : (Nat → R) → R) (rm : Bool → R → R → R) (c : PCfg) (who : Int) (x : PComp) (seen : PSeenL) (cap : Nat) (mm : PMem) (K : PComp → Nat → PMem → R) : R :=
  rq (seen.len = seen.len ∧ cap = cap) (
   K ⟨10, (some ⟨(seen.len), (seen.2), (seen.3), (seen.4), (seen.5), (seen.6), (seen.7)⟩), (x.at_), (x.pos), (x.w), (x.now), none, none, none, ⟨(wrI (x.work.ev + 1)), (x.work.lf), (x.work.fr), (x.work.mv), (x.work.rd)⟩, ⟨(x.was.ev), (x.was.lf), (x.was.fr), (x.was.mv), (x.was.rd)⟩, (x.idle)⟩ (cap) (PMem.eStore mm who (lChunk c.threads c.slots c.chunks c.words c.gens c.sparse c.tries x.at_) (putChunk 3 (chunkOf x.w).snd.fst (chunkOf x.w).snd.snd.fst (wrI ((chunkOf x.w).snd.snd.snd + 1)))))

def cs8_0 (c : PCfg) (who : Int) (x : PComp) (seen : PSeenL) (mm : PMem) : Option (PComp × PMem) := cs8_0K none rqV faV rmV c who x seen 0 mm fun x _ m => some (x, m)

theorem cs8_0K_of (c : PCfg) (who : Int) (x : PComp) (seen : PSeenL) (cap : Nat) (mm : PMem) (hlen : seen.len ≤ 1048576) {K : PComp → Nat → PMem → Prop} : appC K (cs8_0 c who x seen mm) → cs8_0K False rqP faP rmP c who x seen cap mm K := by
  unfold cs8_0 cs8_0K
  repeat' first
    | exact c_leaf _
    | exact c_bot
    | refine c_cond (fun _ => ?_) (fun _ => ?_)
    | refine c_rm ?_ ?_
    | refine c_fa (fun _ => ?_)
    | refine c_rq ⟨rfl, rfl⟩ ?_
    | refine c_rq' ⟨rfl, rfl⟩ ?_
    | refine c_rq ⟨⟨rfl, rfl⟩, hlen⟩ ?_
    | refine c_rq ⟨⟨rfl, rfl⟩, rfl, hlen⟩ ?_
    | refine c_rq (by simp only [decide_eq_true_eq] at *; omega) ?_

def cs9_0K {R : Type} (bot : R) (rq : Prop → R → R) (fa : (Nat → R) → R) (rm : Bool → R → R → R) (c : PCfg) (who : Int) (x : PComp) (seen : PSeenL) (cap : Nat) (mm : PMem) (K : PComp → Nat → PMem → R) : R :=
  rq (seen.len = seen.len ∧ cap = cap) (
   K ⟨10, (some ⟨(seen.len), (seen.2), (seen.3), (seen.4), (seen.5), (seen.6), (seen.7)⟩), (x.at_), (x.pos), (x.w), (x.now), none, none, none, ⟨(x.work.ev), (wrI (x.work.lf + 1)), (x.work.fr), (x.work.mv), (x.work.rd)⟩, ⟨(x.was.ev), (x.was.lf), (x.was.fr), (x.was.mv), (x.was.rd)⟩, (x.idle)⟩ (cap) (PMem.eStore mm who (lChunk c.threads c.slots c.chunks c.words c.gens c.sparse c.tries x.at_) (putChunk 1 (chunkOf x.w).snd.fst (chunkOf x.w).snd.snd.fst (wrI ((chunkOf x.w).snd.snd.snd + 1)))))

def cs9_0 (c : PCfg) (who : Int) (x : PComp) (seen : PSeenL) (mm : PMem) : Option (PComp × PMem) := cs9_0K none rqV faV rmV c who x seen 0 mm fun x _ m => some (x, m)

theorem cs9_0K_of (c : PCfg) (who : Int) (x : PComp) (seen : PSeenL) (cap : Nat) (mm : PMem) (hlen : seen.len ≤ 1048576) {K : PComp → Nat → PMem → Prop} : appC K (cs9_0 c who x seen mm) → cs9_0K False rqP faP rmP c who x seen cap mm K := by
  unfold cs9_0 cs9_0K
  repeat' first
    | exact c_leaf _
    | exact c_bot
    | refine c_cond (fun _ => ?_) (fun _ => ?_)
    | refine c_rm ?_ ?_
    | refine c_fa (fun _ => ?_)
    | refine c_rq ⟨rfl, rfl⟩ ?_
    | refine c_rq' ⟨rfl, rfl⟩ ?_
    | refine c_rq ⟨⟨rfl, rfl⟩, hlen⟩ ?_
    | refine c_rq ⟨⟨rfl, rfl⟩, rfl, hlen⟩ ?_
    | refine c_rq (by simp only [decide_eq_true_eq] at *; omega) ?_

def cs10_0K {R : Type} (bot : R) (rq : Prop → R → R) (fa : (Nat → R) → R) (rm : Bool → R → R → R) (c : PCfg) (who : Int) (x : PComp) (seen : PSeenL) (cap : Nat) (mm : PMem) (K : PComp → Nat → PMem → R) : R :=
  rq (seen.len = seen.len ∧ cap = cap) (
   K ⟨10, (some ⟨(seen.len), (seen.2), (seen.3), (seen.4), (seen.5), (seen.6), (seen.7)⟩), (x.at_), (x.pos), (x.w), (x.now), none, (some ⟨1, ((PMem.eLoad mm who 0).fst), 0, false⟩), none, ⟨(x.work.ev), (x.work.lf), (x.work.fr), (x.work.mv), (x.work.rd)⟩, ⟨(x.was.ev), (x.was.lf), (x.was.fr), (x.was.mv), (x.was.rd)⟩, (x.idle)⟩ (cap) ((advStep c who { pc := 0, now := 0, at_ := 0, went := false } mm).snd.snd))

def cs10_0 (c : PCfg) (who : Int) (x : PComp) (seen : PSeenL) (mm : PMem) : Option (PComp × PMem) := cs10_0K none rqV faV rmV c who x seen 0 mm fun x _ m => some (x, m)

theorem cs10_0K_of (c : PCfg) (who : Int) (x : PComp) (seen : PSeenL) (cap : Nat) (mm : PMem) (hlen : seen.len ≤ 1048576) {K : PComp → Nat → PMem → Prop} : appC K (cs10_0 c who x seen mm) → cs10_0K False rqP faP rmP c who x seen cap mm K := by
  unfold cs10_0 cs10_0K
  repeat' first
    | exact c_leaf _
    | exact c_bot
    | refine c_cond (fun _ => ?_) (fun _ => ?_)
    | refine c_rm ?_ ?_
    | refine c_fa (fun _ => ?_)
    | refine c_rq ⟨rfl, rfl⟩ ?_
    | refine c_rq' ⟨rfl, rfl⟩ ?_
    | refine c_rq ⟨⟨rfl, rfl⟩, hlen⟩ ?_
    | refine c_rq ⟨⟨rfl, rfl⟩, rfl, hlen⟩ ?_
    | refine c_rq (by simp only [decide_eq_true_eq] at *; omega) ?_

def cs11_0K {R : Type} (bot : R) (rq : Prop → R → R) (fa : (Nat → R) → R) (rm : Bool → R → R → R) (c : PCfg) (who : Int) (x : PComp) (seen : PSeenL) (cap : Nat) (mm : PMem) (K : PComp → Nat → PMem → R) : R :=
  bif !(settleStep c who { chunk := x.at_, pc := 0, w := 0, since := 0, at_ := 0, freed := false } mm).fst then
   rq (seen.len = seen.len ∧ cap = cap) (
    K ⟨11, (some ⟨(seen.len), (seen.2), (seen.3), (seen.4), (seen.5), (seen.6), (seen.7)⟩), (x.at_), (x.pos), (x.w), (x.now), none, none, (some ⟨(x.at_), 1, ((PMem.eLoad mm who (lChunk c.threads c.slots c.chunks c.words c.gens c.sparse c.tries x.at_)).fst), 0, 0, false⟩), ⟨(x.work.ev), (x.work.lf), (x.work.fr), (x.work.mv), (x.work.rd)⟩, ⟨(x.was.ev), (x.was.lf), (x.was.fr), (x.was.mv), (x.was.rd)⟩, (x.idle)⟩ (cap) ((settleStep c who { chunk := x.at_, pc := 0, w := 0, since := 0, at_ := 0, freed := false } mm).snd.snd))
  else
   bif decide (c.chunks ≤ wrI (x.at_ + 1)) then
    bif !decide (x.work.ev = x.was.ev) then
     rq (seen.len = seen.len ∧ cap = cap) (
      K ⟨0, (some ⟨(seen.len), (seen.2), (seen.3), (seen.4), (seen.5), (seen.6), (seen.7)⟩), 0, (x.pos), (x.w), (x.now), none, none, none, ⟨(x.work.ev), (x.work.lf), (x.work.fr), (x.work.mv), (wrI (x.work.rd + 1))⟩, ⟨(x.work.ev), (x.work.lf), (x.work.fr), (x.work.mv), (wrI (x.work.rd + 1))⟩, 0⟩ (cap) ((settleStep c who { chunk := x.at_, pc := 0, w := 0, since := 0, at_ := 0, freed := false } mm).snd.snd))
    else
     bif !decide (x.work.mv = x.was.mv) then
      rq (seen.len = seen.len ∧ cap = cap) (
       K ⟨0, (some ⟨(seen.len), (seen.2), (seen.3), (seen.4), (seen.5), (seen.6), (seen.7)⟩), 0, (x.pos), (x.w), (x.now), none, none, none, ⟨(x.work.ev), (x.work.lf), (x.work.fr), (x.work.mv), (wrI (x.work.rd + 1))⟩, ⟨(x.work.ev), (x.work.lf), (x.work.fr), (x.work.mv), (wrI (x.work.rd + 1))⟩, 0⟩ (cap) ((settleStep c who { chunk := x.at_, pc := 0, w := 0, since := 0, at_ := 0, freed := false } mm).snd.snd))
     else
      bif !decide (x.work.fr = x.was.fr) then
       rq (seen.len = seen.len ∧ cap = cap) (
        K ⟨0, (some ⟨(seen.len), (seen.2), (seen.3), (seen.4), (seen.5), (seen.6), (seen.7)⟩), 0, (x.pos), (x.w), (x.now), none, none, none, ⟨(x.work.ev), (x.work.lf), (x.work.fr), (x.work.mv), (wrI (x.work.rd + 1))⟩, ⟨(x.work.ev), (x.work.lf), (x.work.fr), (x.work.mv), (wrI (x.work.rd + 1))⟩, 0⟩ (cap) ((settleStep c who { chunk := x.at_, pc := 0, w := 0, since := 0, at_ := 0, freed := false } mm).snd.snd))
      else
       rq (seen.len = seen.len ∧ cap = cap) (
        K ⟨0, (some ⟨(seen.len), (seen.2), (seen.3), (seen.4), (seen.5), (seen.6), (seen.7)⟩), 0, (x.pos), (x.w), (x.now), none, none, none, ⟨(x.work.ev), (x.work.lf), (x.work.fr), (x.work.mv), (wrI (x.work.rd + 1))⟩, ⟨(x.work.ev), (x.work.lf), (x.work.fr), (x.work.mv), (wrI (x.work.rd + 1))⟩, (wrI (x.idle + 1))⟩ (cap) ((settleStep c who { chunk := x.at_, pc := 0, w := 0, since := 0, at_ := 0, freed := false } mm).snd.snd))
   else
    rq (seen.len = seen.len ∧ cap = cap) (
     K ⟨11, (some ⟨(seen.len), (seen.2), (seen.3), (seen.4), (seen.5), (seen.6), (seen.7)⟩), (wrI (x.at_ + 1)), (x.pos), (x.w), (x.now), none, none, none, ⟨(x.work.ev), (x.work.lf), (x.work.fr), (x.work.mv), (x.work.rd)⟩, ⟨(x.was.ev), (x.was.lf), (x.was.fr), (x.was.mv), (x.was.rd)⟩, (x.idle)⟩ (cap) ((settleStep c who { chunk := x.at_, pc := 0, w := 0, since := 0, at_ := 0, freed := false } mm).snd.snd))

def cs11_0 (c : PCfg) (who : Int) (x : PComp) (seen : PSeenL) (mm : PMem) : Option (PComp × PMem) := cs11_0K none rqV faV rmV c who x seen 0 mm fun x _ m => some (x, m)

theorem cs11_0K_of (c : PCfg) (who : Int) (x : PComp) (seen : PSeenL) (cap : Nat) (mm : PMem) (hlen : seen.len ≤ 1048576) {K : PComp → Nat → PMem → Prop} : appC K (cs11_0 c who x seen mm) → cs11_0K False rqP faP rmP c who x seen cap mm K := by
  unfold cs11_0 cs11_0K
  repeat' first
    | exact c_leaf _
    | exact c_bot
    | refine c_cond (fun _ => ?_) (fun _ => ?_)
    | refine c_rm ?_ ?_
    | refine c_fa (fun _ => ?_)
    | refine c_rq ⟨rfl, rfl⟩ ?_
    | refine c_rq' ⟨rfl, rfl⟩ ?_
    | refine c_rq ⟨⟨rfl, rfl⟩, hlen⟩ ?_
    | refine c_rq ⟨⟨rfl, rfl⟩, rfl, hlen⟩ ?_
    | refine c_rq (by simp only [decide_eq_true_eq] at *; omega) ?_

def csA_0K {R : Type} (bot : R) (rq : Prop → R → R) (fa : (Nat → R) → R) (rm : Bool → R → R → R) (c : PCfg) (who : Int) (x : PComp) (seen : PSeenL) (a : PAdv) (cap : Nat) (mm : PMem) (K : PComp → Nat → PMem → R) : R :=
  bif (advStep c who a mm).fst then
   rq (seen.len = seen.len ∧ cap = cap) (
    K ⟨11, (some ⟨(seen.len), (seen.2), (seen.3), (seen.4), (seen.5), (seen.6), (seen.7)⟩), 0, (x.pos), (x.w), (x.now), none, none, none, ⟨(x.work.ev), (x.work.lf), (x.work.fr), (x.work.mv), (x.work.rd)⟩, ⟨(x.was.ev), (x.was.lf), (x.was.fr), (x.was.mv), (x.was.rd)⟩, (x.idle)⟩ (cap) ((advStep c who a mm).snd.snd))
  else
   rq (seen.len = seen.len ∧ cap = cap) (
    K ⟨10, (some ⟨(seen.len), (seen.2), (seen.3), (seen.4), (seen.5), (seen.6), (seen.7)⟩), (x.at_), (x.pos), (x.w), (x.now), none, (some ((advStep c who a mm).snd.1)), none, ⟨(x.work.ev), (x.work.lf), (x.work.fr), (x.work.mv), (x.work.rd)⟩, ⟨(x.was.ev), (x.was.lf), (x.was.fr), (x.was.mv), (x.was.rd)⟩, (x.idle)⟩ (cap) ((advStep c who a mm).snd.snd))

def csA_0 (c : PCfg) (who : Int) (x : PComp) (seen : PSeenL) (a : PAdv) (mm : PMem) : Option (PComp × PMem) := csA_0K none rqV faV rmV c who x seen a 0 mm fun x _ m => some (x, m)

theorem csA_0K_of (c : PCfg) (who : Int) (x : PComp) (seen : PSeenL) (a : PAdv) (cap : Nat) (mm : PMem) (hlen : seen.len ≤ 1048576) {K : PComp → Nat → PMem → Prop} : appC K (csA_0 c who x seen a mm) → csA_0K False rqP faP rmP c who x seen a cap mm K := by
  unfold csA_0 csA_0K
  repeat' first
    | exact c_leaf _
    | exact c_bot
    | refine c_cond (fun _ => ?_) (fun _ => ?_)
    | refine c_rm ?_ ?_
    | refine c_fa (fun _ => ?_)
    | refine c_rq ⟨rfl, rfl⟩ ?_
    | refine c_rq' ⟨rfl, rfl⟩ ?_
    | refine c_rq ⟨⟨rfl, rfl⟩, hlen⟩ ?_
    | refine c_rq ⟨⟨rfl, rfl⟩, rfl, hlen⟩ ?_
    | refine c_rq (by simp only [decide_eq_true_eq] at *; omega) ?_

def csS_0K {R : Type} (bot : R) (rq : Prop → R → R) (fa : (Nat → R) → R) (rm : Bool → R → R → R) (c : PCfg) (who : Int) (x : PComp) (seen : PSeenL) (s : PSettle) (cap : Nat) (mm : PMem) (K : PComp → Nat → PMem → R) : R :=
  bif !(settleStep c who s mm).fst then
   rq (seen.len = seen.len ∧ cap = cap) (
    K ⟨11, (some ⟨(seen.len), (seen.2), (seen.3), (seen.4), (seen.5), (seen.6), (seen.7)⟩), (x.at_), (x.pos), (x.w), (x.now), none, none, (some ((settleStep c who s mm).snd.1)), ⟨(x.work.ev), (x.work.lf), (x.work.fr), (x.work.mv), (x.work.rd)⟩, ⟨(x.was.ev), (x.was.lf), (x.was.fr), (x.was.mv), (x.was.rd)⟩, (x.idle)⟩ (cap) ((settleStep c who s mm).snd.snd))
  else
   bif (settleStep c who s mm).snd.fst.freed then
    bif decide (c.chunks ≤ wrI (x.at_ + 1)) then
     bif !decide (x.work.ev = x.was.ev) then
      rq (seen.len = seen.len ∧ cap = cap) (
       K ⟨0, (some ⟨(seen.len), (seen.2), (seen.3), (seen.4), (seen.5), (seen.6), (seen.7)⟩), 0, (x.pos), (x.w), (x.now), none, none, none, ⟨(x.work.ev), (x.work.lf), (wrI (x.work.fr + 1)), (x.work.mv), (wrI (x.work.rd + 1))⟩, ⟨(x.work.ev), (x.work.lf), (wrI (x.work.fr + 1)), (x.work.mv), (wrI (x.work.rd + 1))⟩, 0⟩ (cap) ((settleStep c who s mm).snd.snd))
     else
      bif !decide (x.work.mv = x.was.mv) then
       rq (seen.len = seen.len ∧ cap = cap) (
        K ⟨0, (some ⟨(seen.len), (seen.2), (seen.3), (seen.4), (seen.5), (seen.6), (seen.7)⟩), 0, (x.pos), (x.w), (x.now), none, none, none, ⟨(x.work.ev), (x.work.lf), (wrI (x.work.fr + 1)), (x.work.mv), (wrI (x.work.rd + 1))⟩, ⟨(x.work.ev), (x.work.lf), (wrI (x.work.fr + 1)), (x.work.mv), (wrI (x.work.rd + 1))⟩, 0⟩ (cap) ((settleStep c who s mm).snd.snd))
      else
       bif !decide (wrI (x.work.fr + 1) = x.was.fr) then
        rq (seen.len = seen.len ∧ cap = cap) (
         K ⟨0, (some ⟨(seen.len), (seen.2), (seen.3), (seen.4), (seen.5), (seen.6), (seen.7)⟩), 0, (x.pos), (x.w), (x.now), none, none, none, ⟨(x.work.ev), (x.work.lf), (wrI (x.work.fr + 1)), (x.work.mv), (wrI (x.work.rd + 1))⟩, ⟨(x.work.ev), (x.work.lf), (wrI (x.work.fr + 1)), (x.work.mv), (wrI (x.work.rd + 1))⟩, 0⟩ (cap) ((settleStep c who s mm).snd.snd))
       else
        rq (seen.len = seen.len ∧ cap = cap) (
         K ⟨0, (some ⟨(seen.len), (seen.2), (seen.3), (seen.4), (seen.5), (seen.6), (seen.7)⟩), 0, (x.pos), (x.w), (x.now), none, none, none, ⟨(x.work.ev), (x.work.lf), (wrI (x.work.fr + 1)), (x.work.mv), (wrI (x.work.rd + 1))⟩, ⟨(x.work.ev), (x.work.lf), (wrI (x.work.fr + 1)), (x.work.mv), (wrI (x.work.rd + 1))⟩, (wrI (x.idle + 1))⟩ (cap) ((settleStep c who s mm).snd.snd))
    else
     rq (seen.len = seen.len ∧ cap = cap) (
      K ⟨11, (some ⟨(seen.len), (seen.2), (seen.3), (seen.4), (seen.5), (seen.6), (seen.7)⟩), (wrI (x.at_ + 1)), (x.pos), (x.w), (x.now), none, none, none, ⟨(x.work.ev), (x.work.lf), (wrI (x.work.fr + 1)), (x.work.mv), (x.work.rd)⟩, ⟨(x.was.ev), (x.was.lf), (x.was.fr), (x.was.mv), (x.was.rd)⟩, (x.idle)⟩ (cap) ((settleStep c who s mm).snd.snd))
   else
    bif decide (c.chunks ≤ wrI (x.at_ + 1)) then
     bif !decide (x.work.ev = x.was.ev) then
      rq (seen.len = seen.len ∧ cap = cap) (
       K ⟨0, (some ⟨(seen.len), (seen.2), (seen.3), (seen.4), (seen.5), (seen.6), (seen.7)⟩), 0, (x.pos), (x.w), (x.now), none, none, none, ⟨(x.work.ev), (x.work.lf), (x.work.fr), (x.work.mv), (wrI (x.work.rd + 1))⟩, ⟨(x.work.ev), (x.work.lf), (x.work.fr), (x.work.mv), (wrI (x.work.rd + 1))⟩, 0⟩ (cap) ((settleStep c who s mm).snd.snd))
     else
      bif !decide (x.work.mv = x.was.mv) then
       rq (seen.len = seen.len ∧ cap = cap) (
        K ⟨0, (some ⟨(seen.len), (seen.2), (seen.3), (seen.4), (seen.5), (seen.6), (seen.7)⟩), 0, (x.pos), (x.w), (x.now), none, none, none, ⟨(x.work.ev), (x.work.lf), (x.work.fr), (x.work.mv), (wrI (x.work.rd + 1))⟩, ⟨(x.work.ev), (x.work.lf), (x.work.fr), (x.work.mv), (wrI (x.work.rd + 1))⟩, 0⟩ (cap) ((settleStep c who s mm).snd.snd))
      else
       bif !decide (x.work.fr = x.was.fr) then
        rq (seen.len = seen.len ∧ cap = cap) (
         K ⟨0, (some ⟨(seen.len), (seen.2), (seen.3), (seen.4), (seen.5), (seen.6), (seen.7)⟩), 0, (x.pos), (x.w), (x.now), none, none, none, ⟨(x.work.ev), (x.work.lf), (x.work.fr), (x.work.mv), (wrI (x.work.rd + 1))⟩, ⟨(x.work.ev), (x.work.lf), (x.work.fr), (x.work.mv), (wrI (x.work.rd + 1))⟩, 0⟩ (cap) ((settleStep c who s mm).snd.snd))
       else
        rq (seen.len = seen.len ∧ cap = cap) (
         K ⟨0, (some ⟨(seen.len), (seen.2), (seen.3), (seen.4), (seen.5), (seen.6), (seen.7)⟩), 0, (x.pos), (x.w), (x.now), none, none, none, ⟨(x.work.ev), (x.work.lf), (x.work.fr), (x.work.mv), (wrI (x.work.rd + 1))⟩, ⟨(x.work.ev), (x.work.lf), (x.work.fr), (x.work.mv), (wrI (x.work.rd + 1))⟩, (wrI (x.idle + 1))⟩ (cap) ((settleStep c who s mm).snd.snd))
    else
     rq (seen.len = seen.len ∧ cap = cap) (
      K ⟨11, (some ⟨(seen.len), (seen.2), (seen.3), (seen.4), (seen.5), (seen.6), (seen.7)⟩), (wrI (x.at_ + 1)), (x.pos), (x.w), (x.now), none, none, none, ⟨(x.work.ev), (x.work.lf), (x.work.fr), (x.work.mv), (x.work.rd)⟩, ⟨(x.was.ev), (x.was.lf), (x.was.fr), (x.was.mv), (x.was.rd)⟩, (x.idle)⟩ (cap) ((settleStep c who s mm).snd.snd))

def csS_0 (c : PCfg) (who : Int) (x : PComp) (seen : PSeenL) (s : PSettle) (mm : PMem) : Option (PComp × PMem) := csS_0K none rqV faV rmV c who x seen s 0 mm fun x _ m => some (x, m)

theorem csS_0K_of (c : PCfg) (who : Int) (x : PComp) (seen : PSeenL) (s : PSettle) (cap : Nat) (mm : PMem) (hlen : seen.len ≤ 1048576) {K : PComp → Nat → PMem → Prop} : appC K (csS_0 c who x seen s mm) → csS_0K False rqP faP rmP c who x seen s cap mm K := by
  unfold csS_0 csS_0K
  repeat' first
    | exact c_leaf _
    | exact c_bot
    | refine c_cond (fun _ => ?_) (fun _ => ?_)
    | refine c_rm ?_ ?_
    | refine c_fa (fun _ => ?_)
    | refine c_rq ⟨rfl, rfl⟩ ?_
    | refine c_rq' ⟨rfl, rfl⟩ ?_
    | refine c_rq ⟨⟨rfl, rfl⟩, hlen⟩ ?_
    | refine c_rq ⟨⟨rfl, rfl⟩, rfl, hlen⟩ ?_
    | refine c_rq (by simp only [decide_eq_true_eq] at *; omega) ?_

def cs0_1K {R : Type} (bot : R) (rq : Prop → R → R) (fa : (Nat → R) → R) (rm : Bool → R → R → R) (c : PCfg) (who : Int) (x : PComp) (seen : PSeenL) (m : PMove) (cap : Nat) (mm : PMem) (K : PComp → Nat → PMem → R) : R :=
  bif decide (x.at_ = 0) then
   fa (fun more =>
    rq (1 = 1 ∧ 1 + more = 1 + more) (
     K ⟨1, (some ⟨(1), (fun x_1 => (chunkOf (PMem.eLoad mm who (lChunk c.threads c.slots c.chunks c.words c.gens c.sparse c.tries x.at_)).fst).fst), (fun x_1 => (chunkOf (PMem.eLoad mm who (lChunk c.threads c.slots c.chunks c.words c.gens c.sparse c.tries x.at_)).fst).snd.fst), (fun x_1 => (chunkOf (PMem.eLoad mm who (lChunk c.threads c.slots c.chunks c.words c.gens c.sparse c.tries x.at_)).fst).snd.snd.fst), (fun x_1 => (chunkOf (PMem.eLoad mm who (lChunk c.threads c.slots c.chunks c.words c.gens c.sparse c.tries x.at_)).fst).snd.snd.snd), (fun x => 0), (fun x => false)⟩), (x.at_), (x.pos), (x.w), (x.now), (some (m)), none, none, ⟨(x.work.ev), (x.work.lf), (x.work.fr), (x.work.mv), (x.work.rd)⟩, ⟨(x.was.ev), (x.was.lf), (x.was.fr), (x.was.mv), (x.was.rd)⟩, (x.idle)⟩ (1 + more) ((PMem.eLoad mm who (lChunk c.threads c.slots c.chunks c.words c.gens c.sparse c.tries x.at_)).snd)))
  else
   rq ((seen.len = seen.len ∧ cap = cap) ∧ seen.len ≤ 1048576) (
    rm (decide (seen.len + 1 ≤ cap)) (
     rq (seen.len + 1 = seen.len + 1 ∧ cap = cap) (
      K ⟨1, (some ⟨(seen.len + 1), (fun j => bif Nat.beq j (seen.len) then (chunkOf (PMem.eLoad mm who (lChunk c.threads c.slots c.chunks c.words c.gens c.sparse c.tries x.at_)).fst).fst else seen.st j), (fun j => bif Nat.beq j (seen.len) then (chunkOf (PMem.eLoad mm who (lChunk c.threads c.slots c.chunks c.words c.gens c.sparse c.tries x.at_)).fst).snd.fst else seen.cl j), (fun j => bif Nat.beq j (seen.len) then (chunkOf (PMem.eLoad mm who (lChunk c.threads c.slots c.chunks c.words c.gens c.sparse c.tries x.at_)).fst).snd.snd.fst else seen.us j), (fun j => bif Nat.beq j (seen.len) then (chunkOf (PMem.eLoad mm who (lChunk c.threads c.slots c.chunks c.words c.gens c.sparse c.tries x.at_)).fst).snd.snd.snd else seen.sp j), (fun j => bif Nat.beq j (seen.len) then 0 else seen.lv j), (fun j => bif Nat.beq j (seen.len) then false else seen.op j)⟩), (x.at_), (x.pos), (x.w), (x.now), (some (m)), none, none, ⟨(x.work.ev), (x.work.lf), (x.work.fr), (x.work.mv), (x.work.rd)⟩, ⟨(x.was.ev), (x.was.lf), (x.was.fr), (x.was.mv), (x.was.rd)⟩, (x.idle)⟩ (cap) ((PMem.eLoad mm who (lChunk c.threads c.slots c.chunks c.words c.gens c.sparse c.tries x.at_)).snd))) (
     fa (fun more =>
      rq (seen.len + 1 = seen.len + 1 ∧ seen.len + 1 + more = seen.len + 1 + more) (
       K ⟨1, (some ⟨(seen.len + 1), (fun j => bif Nat.beq j (seen.len) then (chunkOf (PMem.eLoad mm who (lChunk c.threads c.slots c.chunks c.words c.gens c.sparse c.tries x.at_)).fst).fst else seen.st j), (fun j => bif Nat.beq j (seen.len) then (chunkOf (PMem.eLoad mm who (lChunk c.threads c.slots c.chunks c.words c.gens c.sparse c.tries x.at_)).fst).snd.fst else seen.cl j), (fun j => bif Nat.beq j (seen.len) then (chunkOf (PMem.eLoad mm who (lChunk c.threads c.slots c.chunks c.words c.gens c.sparse c.tries x.at_)).fst).snd.snd.fst else seen.us j), (fun j => bif Nat.beq j (seen.len) then (chunkOf (PMem.eLoad mm who (lChunk c.threads c.slots c.chunks c.words c.gens c.sparse c.tries x.at_)).fst).snd.snd.snd else seen.sp j), (fun j => bif Nat.beq j (seen.len) then 0 else seen.lv j), (fun j => bif Nat.beq j (seen.len) then false else seen.op j)⟩), (x.at_), (x.pos), (x.w), (x.now), (some (m)), none, none, ⟨(x.work.ev), (x.work.lf), (x.work.fr), (x.work.mv), (x.work.rd)⟩, ⟨(x.was.ev), (x.was.lf), (x.was.fr), (x.was.mv), (x.was.rd)⟩, (x.idle)⟩ (seen.len + 1 + more) ((PMem.eLoad mm who (lChunk c.threads c.slots c.chunks c.words c.gens c.sparse c.tries x.at_)).snd)))))

def cs0_1 (c : PCfg) (who : Int) (x : PComp) (seen : PSeenL) (m : PMove) (mm : PMem) : Option (PComp × PMem) := cs0_1K none rqV faV rmV c who x seen m 0 mm fun x _ m => some (x, m)

theorem cs0_1K_of (c : PCfg) (who : Int) (x : PComp) (seen : PSeenL) (m : PMove) (cap : Nat) (mm : PMem) (hlen : seen.len ≤ 1048576) {K : PComp → Nat → PMem → Prop} : appC K (cs0_1 c who x seen m mm) → cs0_1K False rqP faP rmP c who x seen m cap mm K := by
  unfold cs0_1 cs0_1K
  repeat' first
    | exact c_leaf _
    | exact c_bot
    | refine c_cond (fun _ => ?_) (fun _ => ?_)
    | refine c_rm ?_ ?_
    | refine c_fa (fun _ => ?_)
    | refine c_rq ⟨rfl, rfl⟩ ?_
    | refine c_rq' ⟨rfl, rfl⟩ ?_
    | refine c_rq ⟨⟨rfl, rfl⟩, hlen⟩ ?_
    | refine c_rq ⟨⟨rfl, rfl⟩, rfl, hlen⟩ ?_
    | refine c_rq (by simp only [decide_eq_true_eq] at *; omega) ?_

def cs1_1K {R : Type} (bot : R) (rq : Prop → R → R) (fa : (Nat → R) → R) (rm : Bool → R → R → R) (c : PCfg) (who : Int) (x : PComp) (seen : PSeenL) (m : PMove) (cap : Nat) (mm : PMem) (K : PComp → Nat → PMem → R) : R :=
  bif decide (0 ≤ x.at_ ∧ x.at_ < ↑seen.len) then
   rq (Int.toNat x.at_ < seen.len) (
    bif decide (c.chunks ≤ wrI (x.at_ + 1)) then
     rq (seen.len = seen.len ∧ cap = cap) (
      K ⟨2, (some ⟨(seen.len), (seen.2), (seen.3), (seen.4), (seen.5), (fun j => bif Nat.beq j (Int.toNat x.at_) then wrI (PMem.eLoad mm who (wrI (lChunk c.threads c.slots c.chunks c.words c.gens c.sparse c.tries x.at_ + 1))).fst else seen.lv j), (seen.7)⟩), 0, (x.pos), (x.w), (x.now), (some (m)), none, none, ⟨(x.work.ev), (x.work.lf), (x.work.fr), (x.work.mv), (x.work.rd)⟩, ⟨(x.was.ev), (x.was.lf), (x.was.fr), (x.was.mv), (x.was.rd)⟩, (x.idle)⟩ (cap) ((PMem.eLoad mm who (wrI (lChunk c.threads c.slots c.chunks c.words c.gens c.sparse c.tries x.at_ + 1))).snd))
    else
     rq (seen.len = seen.len ∧ cap = cap) (
      K ⟨0, (some ⟨(seen.len), (seen.2), (seen.3), (seen.4), (seen.5), (fun j => bif Nat.beq j (Int.toNat x.at_) then wrI (PMem.eLoad mm who (wrI (lChunk c.threads c.slots c.chunks c.words c.gens c.sparse c.tries x.at_ + 1))).fst else seen.lv j), (seen.7)⟩), (wrI (x.at_ + 1)), (x.pos), (x.w), (x.now), (some (m)), none, none, ⟨(x.work.ev), (x.work.lf), (x.work.fr), (x.work.mv), (x.work.rd)⟩, ⟨(x.was.ev), (x.was.lf), (x.was.fr), (x.was.mv), (x.was.rd)⟩, (x.idle)⟩ (cap) ((PMem.eLoad mm who (wrI (lChunk c.threads c.slots c.chunks c.words c.gens c.sparse c.tries x.at_ + 1))).snd)))
  else
   bot

def cs1_1 (c : PCfg) (who : Int) (x : PComp) (seen : PSeenL) (m : PMove) (mm : PMem) : Option (PComp × PMem) := cs1_1K none rqV faV rmV c who x seen m 0 mm fun x _ m => some (x, m)

theorem cs1_1K_of (c : PCfg) (who : Int) (x : PComp) (seen : PSeenL) (m : PMove) (cap : Nat) (mm : PMem) (hlen : seen.len ≤ 1048576) {K : PComp → Nat → PMem → Prop} : appC K (cs1_1 c who x seen m mm) → cs1_1K False rqP faP rmP c who x seen m cap mm K := by
  unfold cs1_1 cs1_1K
  repeat' first
    | exact c_leaf _
    | exact c_bot
    | refine c_cond (fun _ => ?_) (fun _ => ?_)
    | refine c_rm ?_ ?_
    | refine c_fa (fun _ => ?_)
    | refine c_rq ⟨rfl, rfl⟩ ?_
    | refine c_rq' ⟨rfl, rfl⟩ ?_
    | refine c_rq ⟨⟨rfl, rfl⟩, hlen⟩ ?_
    | refine c_rq ⟨⟨rfl, rfl⟩, rfl, hlen⟩ ?_
    | refine c_rq (by simp only [decide_eq_true_eq] at *; omega) ?_

def cs2_1K {R : Type} (bot : R) (rq : Prop → R → R) (fa : (Nat → R) → R) (rm : Bool → R → R → R) (c : PCfg) (who : Int) (x : PComp) (seen : PSeenL) (m : PMove) (cap : Nat) (mm : PMem) (K : PComp → Nat → PMem → R) : R :=
  bif decide (0 < wrI (PMem.eLoad mm who (wrI (2 + x.at_))).fst) then
   bif decide (0 ≤ wrI (wrI (PMem.eLoad mm who (wrI (2 + x.at_))).fst - 1) ∧ wrI (wrI (PMem.eLoad mm who (wrI (2 + x.at_))).fst - 1) < ↑seen.len) then
    rq (Int.toNat (wrI (wrI (PMem.eLoad mm who (wrI (2 + x.at_))).fst - 1)) < seen.len) (
     bif decide (wrI (x.at_ + 1) < 4) then
      rq (seen.len = seen.len ∧ cap = cap) (
       K ⟨2, (some ⟨(seen.len), (seen.2), (seen.3), (seen.4), (seen.5), (seen.6), (fun j => bif Nat.beq j (Int.toNat (wrI (wrI (PMem.eLoad mm who (wrI (2 + x.at_))).fst - 1))) then true else seen.op j)⟩), (wrI (x.at_ + 1)), (x.pos), (x.w), (x.now), (some (m)), none, none, ⟨(x.work.ev), (x.work.lf), (x.work.fr), (x.work.mv), (x.work.rd)⟩, ⟨(x.was.ev), (x.was.lf), (x.was.fr), (x.was.mv), (x.was.rd)⟩, (x.idle)⟩ (cap) ((PMem.eLoad mm who (wrI (2 + x.at_))).snd))
     else
      rq ((seen.len = seen.len ∧ cap = cap) ∧ 138 = 138 ∧ seen.len ≤ 1048576) (
       bif decide ((chooseM c.sparse seen.len seen.st seen.us seen.lv fun j => bif Nat.beq j (Int.toNat (wrI (wrI (PMem.eLoad mm who (wrI (2 + x.at_))).fst - 1))) then true else seen.op j) < 0) then
        rq (seen.len = seen.len ∧ cap = cap) (
         K ⟨10, (some ⟨(seen.len), (seen.2), (seen.3), (seen.4), (seen.5), (seen.6), (fun j => bif Nat.beq j (Int.toNat (wrI (wrI (PMem.eLoad mm who (wrI (2 + x.at_))).fst - 1))) then true else seen.op j)⟩), (chooseM c.sparse seen.len seen.st seen.us seen.lv fun j => bif Nat.beq j (Int.toNat (wrI (wrI (PMem.eLoad mm who (wrI (2 + x.at_))).fst - 1))) then true else seen.op j), (x.pos), (x.w), (x.now), (some (m)), none, none, ⟨(x.work.ev), (x.work.lf), (x.work.fr), (x.work.mv), (x.work.rd)⟩, ⟨(x.was.ev), (x.was.lf), (x.was.fr), (x.was.mv), (x.was.rd)⟩, (x.idle)⟩ (cap) ((PMem.eLoad mm who (wrI (2 + x.at_))).snd))
       else
        bif decide ((0 ≤ chooseM c.sparse seen.len seen.st seen.us seen.lv fun j => bif Nat.beq j (Int.toNat (wrI (wrI (PMem.eLoad mm who (wrI (2 + x.at_))).fst - 1))) then true else seen.op j) ∧ (chooseM c.sparse seen.len seen.st seen.us seen.lv fun j => bif Nat.beq j (Int.toNat (wrI (wrI (PMem.eLoad mm who (wrI (2 + x.at_))).fst - 1))) then true else seen.op j) < ↑seen.len) then
         rq (Int.toNat (chooseM c.sparse seen.len seen.st seen.us seen.lv fun j => bif Nat.beq j (Int.toNat (wrI (wrI (PMem.eLoad mm who (wrI (2 + x.at_))).fst - 1))) then true else seen.op j) < seen.len) (
          rq (seen.len = seen.len ∧ cap = cap) (
           K ⟨3, (some ⟨(seen.len), (seen.2), (seen.3), (seen.4), (seen.5), (seen.6), (fun j => bif Nat.beq j (Int.toNat (wrI (wrI (PMem.eLoad mm who (wrI (2 + x.at_))).fst - 1))) then true else seen.op j)⟩), (chooseM c.sparse seen.len seen.st seen.us seen.lv fun j => bif Nat.beq j (Int.toNat (wrI (wrI (PMem.eLoad mm who (wrI (2 + x.at_))).fst - 1))) then true else seen.op j), (x.pos), (putChunk (seen.st (Int.toNat (chooseM c.sparse seen.len seen.st seen.us seen.lv fun j => bif Nat.beq j (Int.toNat (wrI (wrI (PMem.eLoad mm who (wrI (2 + x.at_))).fst - 1))) then true else seen.op j))) (seen.cl (Int.toNat (chooseM c.sparse seen.len seen.st seen.us seen.lv fun j => bif Nat.beq j (Int.toNat (wrI (wrI (PMem.eLoad mm who (wrI (2 + x.at_))).fst - 1))) then true else seen.op j))) (seen.us (Int.toNat (chooseM c.sparse seen.len seen.st seen.us seen.lv fun j => bif Nat.beq j (Int.toNat (wrI (wrI (PMem.eLoad mm who (wrI (2 + x.at_))).fst - 1))) then true else seen.op j))) (seen.sp (Int.toNat (chooseM c.sparse seen.len seen.st seen.us seen.lv fun j => bif Nat.beq j (Int.toNat (wrI (wrI (PMem.eLoad mm who (wrI (2 + x.at_))).fst - 1))) then true else seen.op j)))), (x.now), (some (m)), none, none, ⟨(x.work.ev), (x.work.lf), (x.work.fr), (x.work.mv), (x.work.rd)⟩, ⟨(x.was.ev), (x.was.lf), (x.was.fr), (x.was.mv), (x.was.rd)⟩, (x.idle)⟩ (cap) ((PMem.eLoad mm who (wrI (2 + x.at_))).snd)))
        else
         bot))
   else
    bot
  else
   bif decide (wrI (x.at_ + 1) < 4) then
    rq (seen.len = seen.len ∧ cap = cap) (
     K ⟨2, (some ⟨(seen.len), (seen.2), (seen.3), (seen.4), (seen.5), (seen.6), (seen.7)⟩), (wrI (x.at_ + 1)), (x.pos), (x.w), (x.now), (some (m)), none, none, ⟨(x.work.ev), (x.work.lf), (x.work.fr), (x.work.mv), (x.work.rd)⟩, ⟨(x.was.ev), (x.was.lf), (x.was.fr), (x.was.mv), (x.was.rd)⟩, (x.idle)⟩ (cap) ((PMem.eLoad mm who (wrI (2 + x.at_))).snd))
   else
    rq ((seen.len = seen.len ∧ cap = cap) ∧ 138 = 138 ∧ seen.len ≤ 1048576) (
     bif decide (chooseM c.sparse seen.len seen.st seen.us seen.lv seen.op < 0) then
      rq (seen.len = seen.len ∧ cap = cap) (
       K ⟨10, (some ⟨(seen.len), (seen.2), (seen.3), (seen.4), (seen.5), (seen.6), (seen.7)⟩), (chooseM c.sparse seen.len seen.st seen.us seen.lv seen.op), (x.pos), (x.w), (x.now), (some (m)), none, none, ⟨(x.work.ev), (x.work.lf), (x.work.fr), (x.work.mv), (x.work.rd)⟩, ⟨(x.was.ev), (x.was.lf), (x.was.fr), (x.was.mv), (x.was.rd)⟩, (x.idle)⟩ (cap) ((PMem.eLoad mm who (wrI (2 + x.at_))).snd))
     else
      bif decide (0 ≤ chooseM c.sparse seen.len seen.st seen.us seen.lv seen.op ∧ chooseM c.sparse seen.len seen.st seen.us seen.lv seen.op < ↑seen.len) then
       rq (Int.toNat (chooseM c.sparse seen.len seen.st seen.us seen.lv seen.op) < seen.len) (
        rq (seen.len = seen.len ∧ cap = cap) (
         K ⟨3, (some ⟨(seen.len), (seen.2), (seen.3), (seen.4), (seen.5), (seen.6), (seen.7)⟩), (chooseM c.sparse seen.len seen.st seen.us seen.lv seen.op), (x.pos), (putChunk (seen.st (Int.toNat (chooseM c.sparse seen.len seen.st seen.us seen.lv seen.op))) (seen.cl (Int.toNat (chooseM c.sparse seen.len seen.st seen.us seen.lv seen.op))) (seen.us (Int.toNat (chooseM c.sparse seen.len seen.st seen.us seen.lv seen.op))) (seen.sp (Int.toNat (chooseM c.sparse seen.len seen.st seen.us seen.lv seen.op)))), (x.now), (some (m)), none, none, ⟨(x.work.ev), (x.work.lf), (x.work.fr), (x.work.mv), (x.work.rd)⟩, ⟨(x.was.ev), (x.was.lf), (x.was.fr), (x.was.mv), (x.was.rd)⟩, (x.idle)⟩ (cap) ((PMem.eLoad mm who (wrI (2 + x.at_))).snd)))
      else
       bot)

def cs2_1 (c : PCfg) (who : Int) (x : PComp) (seen : PSeenL) (m : PMove) (mm : PMem) : Option (PComp × PMem) := cs2_1K none rqV faV rmV c who x seen m 0 mm fun x _ m => some (x, m)

theorem cs2_1K_of (c : PCfg) (who : Int) (x : PComp) (seen : PSeenL) (m : PMove) (cap : Nat) (mm : PMem) (hlen : seen.len ≤ 1048576) {K : PComp → Nat → PMem → Prop} : appC K (cs2_1 c who x seen m mm) → cs2_1K False rqP faP rmP c who x seen m cap mm K := by
  unfold cs2_1 cs2_1K
  repeat' first
    | exact c_leaf _
    | exact c_bot
    | refine c_cond (fun _ => ?_) (fun _ => ?_)
    | refine c_rm ?_ ?_
    | refine c_fa (fun _ => ?_)
    | refine c_rq ⟨rfl, rfl⟩ ?_
    | refine c_rq' ⟨rfl, rfl⟩ ?_
    | refine c_rq ⟨⟨rfl, rfl⟩, hlen⟩ ?_
    | refine c_rq ⟨⟨rfl, rfl⟩, rfl, hlen⟩ ?_
    | refine c_rq (by simp only [decide_eq_true_eq] at *; omega) ?_

def cs3_1K {R : Type} (bot : R) (rq : Prop → R → R) (fa : (Nat → R) → R) (rm : Bool → R → R → R) (c : PCfg) (who : Int) (x : PComp) (seen : PSeenL) (m : PMove) (cap : Nat) (mm : PMem) (K : PComp → Nat → PMem → R) : R :=
  bif (PMem.eCas mm who (lChunk c.threads c.slots c.chunks c.words c.gens c.sparse c.tries x.at_) x.w (putChunk 2 (chunkOf x.w).snd.fst (chunkOf x.w).snd.snd.fst (wrI ((chunkOf x.w).snd.snd.snd + 1)))).fst then
   rq (seen.len = seen.len ∧ cap = cap) (
    K ⟨4, (some ⟨(seen.len), (seen.2), (seen.3), (seen.4), (seen.5), (seen.6), (seen.7)⟩), (x.at_), 0, (putChunk 2 (chunkOf x.w).snd.fst (chunkOf x.w).snd.snd.fst (wrI ((chunkOf x.w).snd.snd.snd + 1))), (x.now), (some (m)), none, none, ⟨(x.work.ev), (x.work.lf), (x.work.fr), (x.work.mv), (x.work.rd)⟩, ⟨(x.was.ev), (x.was.lf), (x.was.fr), (x.was.mv), (x.was.rd)⟩, (x.idle)⟩ (cap) ((PMem.eCas mm who (lChunk c.threads c.slots c.chunks c.words c.gens c.sparse c.tries x.at_) x.w (putChunk 2 (chunkOf x.w).snd.fst (chunkOf x.w).snd.snd.fst (wrI ((chunkOf x.w).snd.snd.snd + 1)))).snd))
  else
   rq (seen.len = seen.len ∧ cap = cap) (
    K ⟨10, (some ⟨(seen.len), (seen.2), (seen.3), (seen.4), (seen.5), (seen.6), (seen.7)⟩), (x.at_), 0, (x.w), (x.now), (some (m)), none, none, ⟨(x.work.ev), (x.work.lf), (x.work.fr), (x.work.mv), (x.work.rd)⟩, ⟨(x.was.ev), (x.was.lf), (x.was.fr), (x.was.mv), (x.was.rd)⟩, (x.idle)⟩ (cap) ((PMem.eCas mm who (lChunk c.threads c.slots c.chunks c.words c.gens c.sparse c.tries x.at_) x.w (putChunk 2 (chunkOf x.w).snd.fst (chunkOf x.w).snd.snd.fst (wrI ((chunkOf x.w).snd.snd.snd + 1)))).snd))

def cs3_1 (c : PCfg) (who : Int) (x : PComp) (seen : PSeenL) (m : PMove) (mm : PMem) : Option (PComp × PMem) := cs3_1K none rqV faV rmV c who x seen m 0 mm fun x _ m => some (x, m)

theorem cs3_1K_of (c : PCfg) (who : Int) (x : PComp) (seen : PSeenL) (m : PMove) (cap : Nat) (mm : PMem) (hlen : seen.len ≤ 1048576) {K : PComp → Nat → PMem → Prop} : appC K (cs3_1 c who x seen m mm) → cs3_1K False rqP faP rmP c who x seen m cap mm K := by
  unfold cs3_1 cs3_1K
  repeat' first
    | exact c_leaf _
    | exact c_bot
    | refine c_cond (fun _ => ?_) (fun _ => ?_)
    | refine c_rm ?_ ?_
    | refine c_fa (fun _ => ?_)
    | refine c_rq ⟨rfl, rfl⟩ ?_
    | refine c_rq' ⟨rfl, rfl⟩ ?_
    | refine c_rq ⟨⟨rfl, rfl⟩, hlen⟩ ?_
    | refine c_rq ⟨⟨rfl, rfl⟩, rfl, hlen⟩ ?_
    | refine c_rq (by simp only [decide_eq_true_eq] at *; omega) ?_

def cs4_1K {R : Type} (bot : R) (rq : Prop → R → R) (fa : (Nat → R) → R) (rm : Bool → R → R → R) (c : PCfg) (who : Int) (x : PComp) (seen : PSeenL) (m : PMove) (cap : Nat) (mm : PMem) (K : PComp → Nat → PMem → R) : R :=
  bif decide ((headOf (PMem.eLoad mm who (wrI (lBase c.threads c.slots c.chunks c.words c.gens c.sparse c.tries x.at_ + x.pos))).fst).fst = 3) then
   bif decide ((chunkOf x.w).snd.snd.fst ≤ wrI (x.pos + lRoom (chunkOf x.w).snd.fst)) then
    rq (seen.len = seen.len ∧ cap = cap) (
     K ⟨6, (some ⟨(seen.len), (seen.2), (seen.3), (seen.4), (seen.5), (seen.6), (seen.7)⟩), (x.at_), (wrI (x.pos + lRoom (chunkOf x.w).snd.fst)), (x.w), (x.now), (some (m)), none, none, ⟨(x.work.ev), (x.work.lf), (x.work.fr), (x.work.mv), (x.work.rd)⟩, ⟨(x.was.ev), (x.was.lf), (x.was.fr), (x.was.mv), (x.was.rd)⟩, (x.idle)⟩ (cap) ((PMem.eLoad mm who (wrI (lBase c.threads c.slots c.chunks c.words c.gens c.sparse c.tries x.at_ + x.pos))).snd))
   else
    rq (seen.len = seen.len ∧ cap = cap) (
     K ⟨4, (some ⟨(seen.len), (seen.2), (seen.3), (seen.4), (seen.5), (seen.6), (seen.7)⟩), (x.at_), (wrI (x.pos + lRoom (chunkOf x.w).snd.fst)), (x.w), (x.now), (some (m)), none, none, ⟨(x.work.ev), (x.work.lf), (x.work.fr), (x.work.mv), (x.work.rd)⟩, ⟨(x.was.ev), (x.was.lf), (x.was.fr), (x.was.mv), (x.was.rd)⟩, (x.idle)⟩ (cap) ((PMem.eLoad mm who (wrI (lBase c.threads c.slots c.chunks c.words c.gens c.sparse c.tries x.at_ + x.pos))).snd))
  else
   bif decide ((headOf (PMem.eLoad mm who (wrI (lBase c.threads c.slots c.chunks c.words c.gens c.sparse c.tries x.at_ + x.pos))).fst).fst = 2) then
    rq (seen.len = seen.len ∧ cap = cap) (
     K ⟨5, (some ⟨(seen.len), (seen.2), (seen.3), (seen.4), (seen.5), (seen.6), (seen.7)⟩), (x.at_), (x.pos), (x.w), (x.now), (some ⟨(wrI (lBase c.threads c.slots c.chunks c.words c.gens c.sparse c.tries x.at_ + x.pos)), ⟨((headOf (PMem.eLoad mm who (wrI (lBase c.threads c.slots c.chunks c.words c.gens c.sparse c.tries x.at_ + x.pos))).fst).fst), ((headOf (PMem.eLoad mm who (wrI (lBase c.threads c.slots c.chunks c.words c.gens c.sparse c.tries x.at_ + x.pos))).fst).snd.fst), ((headOf (PMem.eLoad mm who (wrI (lBase c.threads c.slots c.chunks c.words c.gens c.sparse c.tries x.at_ + x.pos))).fst).snd.snd.fst), ((headOf (PMem.eLoad mm who (wrI (lBase c.threads c.slots c.chunks c.words c.gens c.sparse c.tries x.at_ + x.pos))).fst).snd.snd.snd.fst), ((headOf (PMem.eLoad mm who (wrI (lBase c.threads c.slots c.chunks c.words c.gens c.sparse c.tries x.at_ + x.pos))).fst).snd.snd.snd.snd)⟩, 0, 0, none, 0, 0, false, 0, 0, 0, 0⟩), none, none, ⟨(x.work.ev), (x.work.lf), (x.work.fr), (x.work.mv), (x.work.rd)⟩, ⟨(x.was.ev), (x.was.lf), (x.was.fr), (x.was.mv), (x.was.rd)⟩, (x.idle)⟩ (cap) ((PMem.eLoad mm who (wrI (lBase c.threads c.slots c.chunks c.words c.gens c.sparse c.tries x.at_ + x.pos))).snd))
   else
    rq (seen.len = seen.len ∧ cap = cap) (
     K ⟨9, (some ⟨(seen.len), (seen.2), (seen.3), (seen.4), (seen.5), (seen.6), (seen.7)⟩), (x.at_), (x.pos), (x.w), (x.now), (some (m)), none, none, ⟨(x.work.ev), (x.work.lf), (x.work.fr), (x.work.mv), (x.work.rd)⟩, ⟨(x.was.ev), (x.was.lf), (x.was.fr), (x.was.mv), (x.was.rd)⟩, (x.idle)⟩ (cap) ((PMem.eLoad mm who (wrI (lBase c.threads c.slots c.chunks c.words c.gens c.sparse c.tries x.at_ + x.pos))).snd))

def cs4_1 (c : PCfg) (who : Int) (x : PComp) (seen : PSeenL) (m : PMove) (mm : PMem) : Option (PComp × PMem) := cs4_1K none rqV faV rmV c who x seen m 0 mm fun x _ m => some (x, m)

theorem cs4_1K_of (c : PCfg) (who : Int) (x : PComp) (seen : PSeenL) (m : PMove) (cap : Nat) (mm : PMem) (hlen : seen.len ≤ 1048576) {K : PComp → Nat → PMem → Prop} : appC K (cs4_1 c who x seen m mm) → cs4_1K False rqP faP rmP c who x seen m cap mm K := by
  unfold cs4_1 cs4_1K
  repeat' first
    | exact c_leaf _
    | exact c_bot
    | refine c_cond (fun _ => ?_) (fun _ => ?_)
    | refine c_rm ?_ ?_
    | refine c_fa (fun _ => ?_)
    | refine c_rq ⟨rfl, rfl⟩ ?_
    | refine c_rq' ⟨rfl, rfl⟩ ?_
    | refine c_rq ⟨⟨rfl, rfl⟩, hlen⟩ ?_
    | refine c_rq ⟨⟨rfl, rfl⟩, rfl, hlen⟩ ?_
    | refine c_rq (by simp only [decide_eq_true_eq] at *; omega) ?_

def cs5_1K {R : Type} (bot : R) (rq : Prop → R → R) (fa : (Nat → R) → R) (rm : Bool → R → R → R) (c : PCfg) (who : Int) (x : PComp) (seen : PSeenL) (m : PMove) (cap : Nat) (mm : PMem) (K : PComp → Nat → PMem → R) : R :=
  bif decide (c.words = 0) then
   bot
  else
   bif (moveStep c who m mm).fst then
    bif decide ((moveStep c who m mm).snd.fst.out = 1) then
     bif decide ((chunkOf x.w).snd.snd.fst ≤ wrI (x.pos + lRoom (chunkOf x.w).snd.fst)) then
      rq (seen.len = seen.len ∧ cap = cap) (
       K ⟨6, (some ⟨(seen.len), (seen.2), (seen.3), (seen.4), (seen.5), (seen.6), (seen.7)⟩), (x.at_), (wrI (x.pos + lRoom (chunkOf x.w).snd.fst)), (x.w), (x.now), (some ((moveStep c who m mm).snd.1)), none, none, ⟨(x.work.ev), (x.work.lf), (x.work.fr), (wrI (x.work.mv + 1)), (x.work.rd)⟩, ⟨(x.was.ev), (x.was.lf), (x.was.fr), (x.was.mv), (x.was.rd)⟩, (x.idle)⟩ (cap) ((moveStep c who m mm).snd.snd))
     else
      rq (seen.len = seen.len ∧ cap = cap) (
       K ⟨4, (some ⟨(seen.len), (seen.2), (seen.3), (seen.4), (seen.5), (seen.6), (seen.7)⟩), (x.at_), (wrI (x.pos + lRoom (chunkOf x.w).snd.fst)), (x.w), (x.now), (some ((moveStep c who m mm).snd.1)), none, none, ⟨(x.work.ev), (x.work.lf), (x.work.fr), (wrI (x.work.mv + 1)), (x.work.rd)⟩, ⟨(x.was.ev), (x.was.lf), (x.was.fr), (x.was.mv), (x.was.rd)⟩, (x.idle)⟩ (cap) ((moveStep c who m mm).snd.snd))
    else
     bif decide ((moveStep c who m mm).snd.fst.out = 2) then
      bif decide ((chunkOf x.w).snd.snd.fst ≤ wrI (x.pos + lRoom (chunkOf x.w).snd.fst)) then
       rq (seen.len = seen.len ∧ cap = cap) (
        K ⟨6, (some ⟨(seen.len), (seen.2), (seen.3), (seen.4), (seen.5), (seen.6), (seen.7)⟩), (x.at_), (wrI (x.pos + lRoom (chunkOf x.w).snd.fst)), (x.w), (x.now), (some ((moveStep c who m mm).snd.1)), none, none, ⟨(x.work.ev), (x.work.lf), (x.work.fr), (x.work.mv), (x.work.rd)⟩, ⟨(x.was.ev), (x.was.lf), (x.was.fr), (x.was.mv), (x.was.rd)⟩, (x.idle)⟩ (cap) ((moveStep c who m mm).snd.snd))
      else
       rq (seen.len = seen.len ∧ cap = cap) (
        K ⟨4, (some ⟨(seen.len), (seen.2), (seen.3), (seen.4), (seen.5), (seen.6), (seen.7)⟩), (x.at_), (wrI (x.pos + lRoom (chunkOf x.w).snd.fst)), (x.w), (x.now), (some ((moveStep c who m mm).snd.1)), none, none, ⟨(x.work.ev), (x.work.lf), (x.work.fr), (x.work.mv), (x.work.rd)⟩, ⟨(x.was.ev), (x.was.lf), (x.was.fr), (x.was.mv), (x.was.rd)⟩, (x.idle)⟩ (cap) ((moveStep c who m mm).snd.snd))
     else
      rq (seen.len = seen.len ∧ cap = cap) (
       K ⟨9, (some ⟨(seen.len), (seen.2), (seen.3), (seen.4), (seen.5), (seen.6), (seen.7)⟩), (x.at_), (x.pos), (x.w), (x.now), (some ((moveStep c who m mm).snd.1)), none, none, ⟨(x.work.ev), (x.work.lf), (x.work.fr), (x.work.mv), (x.work.rd)⟩, ⟨(x.was.ev), (x.was.lf), (x.was.fr), (x.was.mv), (x.was.rd)⟩, (x.idle)⟩ (cap) ((moveStep c who m mm).snd.snd))
   else
    rq (seen.len = seen.len ∧ cap = cap) (
     K ⟨5, (some ⟨(seen.len), (seen.2), (seen.3), (seen.4), (seen.5), (seen.6), (seen.7)⟩), (x.at_), (x.pos), (x.w), (x.now), (some ((moveStep c who m mm).snd.1)), none, none, ⟨(x.work.ev), (x.work.lf), (x.work.fr), (x.work.mv), (x.work.rd)⟩, ⟨(x.was.ev), (x.was.lf), (x.was.fr), (x.was.mv), (x.was.rd)⟩, (x.idle)⟩ (cap) ((moveStep c who m mm).snd.snd))

def cs5_1 (c : PCfg) (who : Int) (x : PComp) (seen : PSeenL) (m : PMove) (mm : PMem) : Option (PComp × PMem) := cs5_1K none rqV faV rmV c who x seen m 0 mm fun x _ m => some (x, m)

theorem cs5_1K_of (c : PCfg) (who : Int) (x : PComp) (seen : PSeenL) (m : PMove) (cap : Nat) (mm : PMem) (hlen : seen.len ≤ 1048576) {K : PComp → Nat → PMem → Prop} : appC K (cs5_1 c who x seen m mm) → cs5_1K False rqP faP rmP c who x seen m cap mm K := by
  unfold cs5_1 cs5_1K
  repeat' first
    | exact c_leaf _
    | exact c_bot
    | refine c_cond (fun _ => ?_) (fun _ => ?_)
    | refine c_rm ?_ ?_
    | refine c_fa (fun _ => ?_)
    | refine c_rq ⟨rfl, rfl⟩ ?_
    | refine c_rq' ⟨rfl, rfl⟩ ?_
    | refine c_rq ⟨⟨rfl, rfl⟩, hlen⟩ ?_
    | refine c_rq ⟨⟨rfl, rfl⟩, rfl, hlen⟩ ?_
    | refine c_rq (by simp only [decide_eq_true_eq] at *; omega) ?_

def cs6_1K {R : Type} (bot : R) (rq : Prop → R → R) (fa : (Nat → R) → R) (rm : Bool → R → R → R) (c : PCfg) (who : Int) (x : PComp) (seen : PSeenL) (m : PMove) (cap : Nat) (mm : PMem) (K : PComp → Nat → PMem → R) : R :=
  rq (seen.len = seen.len ∧ cap = cap) (
   K ⟨7, (some ⟨(seen.len), (seen.2), (seen.3), (seen.4), (seen.5), (seen.6), (seen.7)⟩), (x.at_), (x.pos), (x.w), ((PMem.eLoad mm who 0).fst), (some (m)), none, none, ⟨(x.work.ev), (x.work.lf), (x.work.fr), (x.work.mv), (x.work.rd)⟩, ⟨(x.was.ev), (x.was.lf), (x.was.fr), (x.was.mv), (x.was.rd)⟩, (x.idle)⟩ (cap) ((PMem.eLoad mm who 0).snd))

def cs6_1 (c : PCfg) (who : Int) (x : PComp) (seen : PSeenL) (m : PMove) (mm : PMem) : Option (PComp × PMem) := cs6_1K none rqV faV rmV c who x seen m 0 mm fun x _ m => some (x, m)

theorem cs6_1K_of (c : PCfg) (who : Int) (x : PComp) (seen : PSeenL) (m : PMove) (cap : Nat) (mm : PMem) (hlen : seen.len ≤ 1048576) {K : PComp → Nat → PMem → Prop} : appC K (cs6_1 c who x seen m mm) → cs6_1K False rqP faP rmP c who x seen m cap mm K := by
  unfold cs6_1 cs6_1K
  repeat' first
    | exact c_leaf _
    | exact c_bot
    | refine c_cond (fun _ => ?_) (fun _ => ?_)
    | refine c_rm ?_ ?_
    | refine c_fa (fun _ => ?_)
    | refine c_rq ⟨rfl, rfl⟩ ?_
    | refine c_rq' ⟨rfl, rfl⟩ ?_
    | refine c_rq ⟨⟨rfl, rfl⟩, hlen⟩ ?_
    | refine c_rq ⟨⟨rfl, rfl⟩, rfl, hlen⟩ ?_
    | refine c_rq (by simp only [decide_eq_true_eq] at *; omega) ?_

def cs7_1K {R : Type} (bot : R) (rq : Prop → R → R) (fa : (Nat → R) → R) (rm : Bool → R → R → R) (c : PCfg) (who : Int) (x : PComp) (seen : PSeenL) (m : PMove) (cap : Nat) (mm : PMem) (K : PComp → Nat → PMem → R) : R :=
  rq (seen.len = seen.len ∧ cap = cap) (
   K ⟨8, (some ⟨(seen.len), (seen.2), (seen.3), (seen.4), (seen.5), (seen.6), (seen.7)⟩), (x.at_), (x.pos), (x.w), (x.now), (some (m)), none, none, ⟨(x.work.ev), (x.work.lf), (x.work.fr), (x.work.mv), (x.work.rd)⟩, ⟨(x.was.ev), (x.was.lf), (x.was.fr), (x.was.mv), (x.was.rd)⟩, (x.idle)⟩ (cap) (PMem.eStore mm who (wrI (lChunk c.threads c.slots c.chunks c.words c.gens c.sparse c.tries x.at_ + 2)) x.now))

def cs7_1 (c : PCfg) (who : Int) (x : PComp) (seen : PSeenL) (m : PMove) (mm : PMem) : Option (PComp × PMem) := cs7_1K none rqV faV rmV c who x seen m 0 mm fun x _ m => some (x, m)

theorem cs7_1K_of (c : PCfg) (who : Int) (x : PComp) (seen : PSeenL) (m : PMove) (cap : Nat) (mm : PMem) (hlen : seen.len ≤ 1048576) {K : PComp → Nat → PMem → Prop} : appC K (cs7_1 c who x seen m mm) → cs7_1K False rqP faP rmP c who x seen m cap mm K := by
  unfold cs7_1 cs7_1K
  repeat' first
    | exact c_leaf _
    | exact c_bot
    | refine c_cond (fun _ => ?_) (fun _ => ?_)
    | refine c_rm ?_ ?_
    | refine c_fa (fun _ => ?_)
    | refine c_rq ⟨rfl, rfl⟩ ?_
    | refine c_rq' ⟨rfl, rfl⟩ ?_
    | refine c_rq ⟨⟨rfl, rfl⟩, hlen⟩ ?_
    | refine c_rq ⟨⟨rfl, rfl⟩, rfl, hlen⟩ ?_
    | refine c_rq (by simp only [decide_eq_true_eq] at *; omega) ?_

def cs8_1K {R : Type} (bot : R) (rq : Prop → R → R) (fa : (Nat → R) → R) (rm : Bool → R → R → R) (c : PCfg) (who : Int) (x : PComp) (seen : PSeenL) (m : PMove) (cap : Nat) (mm : PMem) (K : PComp → Nat → PMem → R) : R :=
  rq (seen.len = seen.len ∧ cap = cap) (
   K ⟨10, (some ⟨(seen.len), (seen.2), (seen.3), (seen.4), (seen.5), (seen.6), (seen.7)⟩), (x.at_), (x.pos), (x.w), (x.now), (some (m)), none, none, ⟨(wrI (x.work.ev + 1)), (x.work.lf), (x.work.fr), (x.work.mv), (x.work.rd)⟩, ⟨(x.was.ev), (x.was.lf), (x.was.fr), (x.was.mv), (x.was.rd)⟩, (x.idle)⟩ (cap) (PMem.eStore mm who (lChunk c.threads c.slots c.chunks c.words c.gens c.sparse c.tries x.at_) (putChunk 3 (chunkOf x.w).snd.fst (chunkOf x.w).snd.snd.fst (wrI ((chunkOf x.w).snd.snd.snd + 1)))))

def cs8_1 (c : PCfg) (who : Int) (x : PComp) (seen : PSeenL) (m : PMove) (mm : PMem) : Option (PComp × PMem) := cs8_1K none rqV faV rmV c who x seen m 0 mm fun x _ m => some (x, m)

theorem cs8_1K_of (c : PCfg) (who : Int) (x : PComp) (seen : PSeenL) (m : PMove) (cap : Nat) (mm : PMem) (hlen : seen.len ≤ 1048576) {K : PComp → Nat → PMem → Prop} : appC K (cs8_1 c who x seen m mm) → cs8_1K False rqP faP rmP c who x seen m cap mm K := by
  unfold cs8_1 cs8_1K
  repeat' first
    | exact c_leaf _
    | exact c_bot
    | refine c_cond (fun _ => ?_) (fun _ => ?_)
    | refine c_rm ?_ ?_
    | refine c_fa (fun _ => ?_)
    | refine c_rq ⟨rfl, rfl⟩ ?_
    | refine c_rq' ⟨rfl, rfl⟩ ?_
    | refine c_rq ⟨⟨rfl, rfl⟩, hlen⟩ ?_
    | refine c_rq ⟨⟨rfl, rfl⟩, rfl, hlen⟩ ?_
    | refine c_rq (by simp only [decide_eq_true_eq] at *; omega) ?_

def cs9_1K {R : Type} (bot : R) (rq : Prop → R → R) (fa : (Nat → R) → R) (rm : Bool → R → R → R) (c : PCfg) (who : Int) (x : PComp) (seen : PSeenL) (m : PMove) (cap : Nat) (mm : PMem) (K : PComp → Nat → PMem → R) : R :=
  rq (seen.len = seen.len ∧ cap = cap) (
   K ⟨10, (some ⟨(seen.len), (seen.2), (seen.3), (seen.4), (seen.5), (seen.6), (seen.7)⟩), (x.at_), (x.pos), (x.w), (x.now), (some (m)), none, none, ⟨(x.work.ev), (wrI (x.work.lf + 1)), (x.work.fr), (x.work.mv), (x.work.rd)⟩, ⟨(x.was.ev), (x.was.lf), (x.was.fr), (x.was.mv), (x.was.rd)⟩, (x.idle)⟩ (cap) (PMem.eStore mm who (lChunk c.threads c.slots c.chunks c.words c.gens c.sparse c.tries x.at_) (putChunk 1 (chunkOf x.w).snd.fst (chunkOf x.w).snd.snd.fst (wrI ((chunkOf x.w).snd.snd.snd + 1)))))

def cs9_1 (c : PCfg) (who : Int) (x : PComp) (seen : PSeenL) (m : PMove) (mm : PMem) : Option (PComp × PMem) := cs9_1K none rqV faV rmV c who x seen m 0 mm fun x _ m => some (x, m)

theorem cs9_1K_of (c : PCfg) (who : Int) (x : PComp) (seen : PSeenL) (m : PMove) (cap : Nat) (mm : PMem) (hlen : seen.len ≤ 1048576) {K : PComp → Nat → PMem → Prop} : appC K (cs9_1 c who x seen m mm) → cs9_1K False rqP faP rmP c who x seen m cap mm K := by
  unfold cs9_1 cs9_1K
  repeat' first
    | exact c_leaf _
    | exact c_bot
    | refine c_cond (fun _ => ?_) (fun _ => ?_)
    | refine c_rm ?_ ?_
    | refine c_fa (fun _ => ?_)
    | refine c_rq ⟨rfl, rfl⟩ ?_
    | refine c_rq' ⟨rfl, rfl⟩ ?_
    | refine c_rq ⟨⟨rfl, rfl⟩, hlen⟩ ?_
    | refine c_rq ⟨⟨rfl, rfl⟩, rfl, hlen⟩ ?_
    | refine c_rq (by simp only [decide_eq_true_eq] at *; omega) ?_

def cs10_1K {R : Type} (bot : R) (rq : Prop → R → R) (fa : (Nat → R) → R) (rm : Bool → R → R → R) (c : PCfg) (who : Int) (x : PComp) (seen : PSeenL) (m : PMove) (cap : Nat) (mm : PMem) (K : PComp → Nat → PMem → R) : R :=
  rq (seen.len = seen.len ∧ cap = cap) (
   K ⟨10, (some ⟨(seen.len), (seen.2), (seen.3), (seen.4), (seen.5), (seen.6), (seen.7)⟩), (x.at_), (x.pos), (x.w), (x.now), (some (m)), (some ⟨1, ((PMem.eLoad mm who 0).fst), 0, false⟩), none, ⟨(x.work.ev), (x.work.lf), (x.work.fr), (x.work.mv), (x.work.rd)⟩, ⟨(x.was.ev), (x.was.lf), (x.was.fr), (x.was.mv), (x.was.rd)⟩, (x.idle)⟩ (cap) ((advStep c who { pc := 0, now := 0, at_ := 0, went := false } mm).snd.snd))

def cs10_1 (c : PCfg) (who : Int) (x : PComp) (seen : PSeenL) (m : PMove) (mm : PMem) : Option (PComp × PMem) := cs10_1K none rqV faV rmV c who x seen m 0 mm fun x _ m => some (x, m)

theorem cs10_1K_of (c : PCfg) (who : Int) (x : PComp) (seen : PSeenL) (m : PMove) (cap : Nat) (mm : PMem) (hlen : seen.len ≤ 1048576) {K : PComp → Nat → PMem → Prop} : appC K (cs10_1 c who x seen m mm) → cs10_1K False rqP faP rmP c who x seen m cap mm K := by
  unfold cs10_1 cs10_1K
  repeat' first
    | exact c_leaf _
    | exact c_bot
    | refine c_cond (fun _ => ?_) (fun _ => ?_)
    | refine c_rm ?_ ?_
    | refine c_fa (fun _ => ?_)
    | refine c_rq ⟨rfl, rfl⟩ ?_
    | refine c_rq' ⟨rfl, rfl⟩ ?_
    | refine c_rq ⟨⟨rfl, rfl⟩, hlen⟩ ?_
    | refine c_rq ⟨⟨rfl, rfl⟩, rfl, hlen⟩ ?_
    | refine c_rq (by simp only [decide_eq_true_eq] at *; omega) ?_

def cs11_1K {R : Type} (bot : R) (rq : Prop → R → R) (fa : (Nat → R) → R) (rm : Bool → R → R → R) (c : PCfg) (who : Int) (x : PComp) (seen : PSeenL) (m : PMove) (cap : Nat) (mm : PMem) (K : PComp → Nat → PMem → R) : R :=
  bif !(settleStep c who { chunk := x.at_, pc := 0, w := 0, since := 0, at_ := 0, freed := false } mm).fst then
   rq (seen.len = seen.len ∧ cap = cap) (
    K ⟨11, (some ⟨(seen.len), (seen.2), (seen.3), (seen.4), (seen.5), (seen.6), (seen.7)⟩), (x.at_), (x.pos), (x.w), (x.now), (some (m)), none, (some ⟨(x.at_), 1, ((PMem.eLoad mm who (lChunk c.threads c.slots c.chunks c.words c.gens c.sparse c.tries x.at_)).fst), 0, 0, false⟩), ⟨(x.work.ev), (x.work.lf), (x.work.fr), (x.work.mv), (x.work.rd)⟩, ⟨(x.was.ev), (x.was.lf), (x.was.fr), (x.was.mv), (x.was.rd)⟩, (x.idle)⟩ (cap) ((settleStep c who { chunk := x.at_, pc := 0, w := 0, since := 0, at_ := 0, freed := false } mm).snd.snd))
  else
   bif decide (c.chunks ≤ wrI (x.at_ + 1)) then
    bif !decide (x.work.ev = x.was.ev) then
     rq (seen.len = seen.len ∧ cap = cap) (
      K ⟨0, (some ⟨(seen.len), (seen.2), (seen.3), (seen.4), (seen.5), (seen.6), (seen.7)⟩), 0, (x.pos), (x.w), (x.now), (some (m)), none, none, ⟨(x.work.ev), (x.work.lf), (x.work.fr), (x.work.mv), (wrI (x.work.rd + 1))⟩, ⟨(x.work.ev), (x.work.lf), (x.work.fr), (x.work.mv), (wrI (x.work.rd + 1))⟩, 0⟩ (cap) ((settleStep c who { chunk := x.at_, pc := 0, w := 0, since := 0, at_ := 0, freed := false } mm).snd.snd))
    else
     bif !decide (x.work.mv = x.was.mv) then
      rq (seen.len = seen.len ∧ cap = cap) (
       K ⟨0, (some ⟨(seen.len), (seen.2), (seen.3), (seen.4), (seen.5), (seen.6), (seen.7)⟩), 0, (x.pos), (x.w), (x.now), (some (m)), none, none, ⟨(x.work.ev), (x.work.lf), (x.work.fr), (x.work.mv), (wrI (x.work.rd + 1))⟩, ⟨(x.work.ev), (x.work.lf), (x.work.fr), (x.work.mv), (wrI (x.work.rd + 1))⟩, 0⟩ (cap) ((settleStep c who { chunk := x.at_, pc := 0, w := 0, since := 0, at_ := 0, freed := false } mm).snd.snd))
     else
      bif !decide (x.work.fr = x.was.fr) then
       rq (seen.len = seen.len ∧ cap = cap) (
        K ⟨0, (some ⟨(seen.len), (seen.2), (seen.3), (seen.4), (seen.5), (seen.6), (seen.7)⟩), 0, (x.pos), (x.w), (x.now), (some (m)), none, none, ⟨(x.work.ev), (x.work.lf), (x.work.fr), (x.work.mv), (wrI (x.work.rd + 1))⟩, ⟨(x.work.ev), (x.work.lf), (x.work.fr), (x.work.mv), (wrI (x.work.rd + 1))⟩, 0⟩ (cap) ((settleStep c who { chunk := x.at_, pc := 0, w := 0, since := 0, at_ := 0, freed := false } mm).snd.snd))
      else
       rq (seen.len = seen.len ∧ cap = cap) (
        K ⟨0, (some ⟨(seen.len), (seen.2), (seen.3), (seen.4), (seen.5), (seen.6), (seen.7)⟩), 0, (x.pos), (x.w), (x.now), (some (m)), none, none, ⟨(x.work.ev), (x.work.lf), (x.work.fr), (x.work.mv), (wrI (x.work.rd + 1))⟩, ⟨(x.work.ev), (x.work.lf), (x.work.fr), (x.work.mv), (wrI (x.work.rd + 1))⟩, (wrI (x.idle + 1))⟩ (cap) ((settleStep c who { chunk := x.at_, pc := 0, w := 0, since := 0, at_ := 0, freed := false } mm).snd.snd))
   else
    rq (seen.len = seen.len ∧ cap = cap) (
     K ⟨11, (some ⟨(seen.len), (seen.2), (seen.3), (seen.4), (seen.5), (seen.6), (seen.7)⟩), (wrI (x.at_ + 1)), (x.pos), (x.w), (x.now), (some (m)), none, none, ⟨(x.work.ev), (x.work.lf), (x.work.fr), (x.work.mv), (x.work.rd)⟩, ⟨(x.was.ev), (x.was.lf), (x.was.fr), (x.was.mv), (x.was.rd)⟩, (x.idle)⟩ (cap) ((settleStep c who { chunk := x.at_, pc := 0, w := 0, since := 0, at_ := 0, freed := false } mm).snd.snd))

def cs11_1 (c : PCfg) (who : Int) (x : PComp) (seen : PSeenL) (m : PMove) (mm : PMem) : Option (PComp × PMem) := cs11_1K none rqV faV rmV c who x seen m 0 mm fun x _ m => some (x, m)

theorem cs11_1K_of (c : PCfg) (who : Int) (x : PComp) (seen : PSeenL) (m : PMove) (cap : Nat) (mm : PMem) (hlen : seen.len ≤ 1048576) {K : PComp → Nat → PMem → Prop} : appC K (cs11_1 c who x seen m mm) → cs11_1K False rqP faP rmP c who x seen m cap mm K := by
  unfold cs11_1 cs11_1K
  repeat' first
    | exact c_leaf _
    | exact c_bot
    | refine c_cond (fun _ => ?_) (fun _ => ?_)
    | refine c_rm ?_ ?_
    | refine c_fa (fun _ => ?_)
    | refine c_rq ⟨rfl, rfl⟩ ?_
    | refine c_rq' ⟨rfl, rfl⟩ ?_
    | refine c_rq ⟨⟨rfl, rfl⟩, hlen⟩ ?_
    | refine c_rq ⟨⟨rfl, rfl⟩, rfl, hlen⟩ ?_
    | refine c_rq (by simp only [decide_eq_true_eq] at *; omega) ?_

def csA_1K {R : Type} (bot : R) (rq : Prop → R → R) (fa : (Nat → R) → R) (rm : Bool → R → R → R) (c : PCfg) (who : Int) (x : PComp) (seen : PSeenL) (m : PMove) (a : PAdv) (cap : Nat) (mm : PMem) (K : PComp → Nat → PMem → R) : R :=
  bif (advStep c who a mm).fst then
   rq (seen.len = seen.len ∧ cap = cap) (
    K ⟨11, (some ⟨(seen.len), (seen.2), (seen.3), (seen.4), (seen.5), (seen.6), (seen.7)⟩), 0, (x.pos), (x.w), (x.now), (some (m)), none, none, ⟨(x.work.ev), (x.work.lf), (x.work.fr), (x.work.mv), (x.work.rd)⟩, ⟨(x.was.ev), (x.was.lf), (x.was.fr), (x.was.mv), (x.was.rd)⟩, (x.idle)⟩ (cap) ((advStep c who a mm).snd.snd))
  else
   rq (seen.len = seen.len ∧ cap = cap) (
    K ⟨10, (some ⟨(seen.len), (seen.2), (seen.3), (seen.4), (seen.5), (seen.6), (seen.7)⟩), (x.at_), (x.pos), (x.w), (x.now), (some (m)), (some ((advStep c who a mm).snd.1)), none, ⟨(x.work.ev), (x.work.lf), (x.work.fr), (x.work.mv), (x.work.rd)⟩, ⟨(x.was.ev), (x.was.lf), (x.was.fr), (x.was.mv), (x.was.rd)⟩, (x.idle)⟩ (cap) ((advStep c who a mm).snd.snd))

def csA_1 (c : PCfg) (who : Int) (x : PComp) (seen : PSeenL) (m : PMove) (a : PAdv) (mm : PMem) : Option (PComp × PMem) := csA_1K none rqV faV rmV c who x seen m a 0 mm fun x _ m => some (x, m)

theorem csA_1K_of (c : PCfg) (who : Int) (x : PComp) (seen : PSeenL) (m : PMove) (a : PAdv) (cap : Nat) (mm : PMem) (hlen : seen.len ≤ 1048576) {K : PComp → Nat → PMem → Prop} : appC K (csA_1 c who x seen m a mm) → csA_1K False rqP faP rmP c who x seen m a cap mm K := by
  unfold csA_1 csA_1K
  repeat' first
    | exact c_leaf _
    | exact c_bot
    | refine c_cond (fun _ => ?_) (fun _ => ?_)
    | refine c_rm ?_ ?_
    | refine c_fa (fun _ => ?_)
    | refine c_rq ⟨rfl, rfl⟩ ?_
    | refine c_rq' ⟨rfl, rfl⟩ ?_
    | refine c_rq ⟨⟨rfl, rfl⟩, hlen⟩ ?_
    | refine c_rq ⟨⟨rfl, rfl⟩, rfl, hlen⟩ ?_
    | refine c_rq (by simp only [decide_eq_true_eq] at *; omega) ?_

def csS_1K {R : Type} (bot : R) (rq : Prop → R → R) (fa : (Nat → R) → R) (rm : Bool → R → R → R) (c : PCfg) (who : Int) (x : PComp) (seen : PSeenL) (m : PMove) (s : PSettle) (cap : Nat) (mm : PMem) (K : PComp → Nat → PMem → R) : R :=
  bif !(settleStep c who s mm).fst then
   rq (seen.len = seen.len ∧ cap = cap) (
    K ⟨11, (some ⟨(seen.len), (seen.2), (seen.3), (seen.4), (seen.5), (seen.6), (seen.7)⟩), (x.at_), (x.pos), (x.w), (x.now), (some (m)), none, (some ((settleStep c who s mm).snd.1)), ⟨(x.work.ev), (x.work.lf), (x.work.fr), (x.work.mv), (x.work.rd)⟩, ⟨(x.was.ev), (x.was.lf), (x.was.fr), (x.was.mv), (x.was.rd)⟩, (x.idle)⟩ (cap) ((settleStep c who s mm).snd.snd))
  else
   bif (settleStep c who s mm).snd.fst.freed then
    bif decide (c.chunks ≤ wrI (x.at_ + 1)) then
     bif !decide (x.work.ev = x.was.ev) then
      rq (seen.len = seen.len ∧ cap = cap) (
       K ⟨0, (some ⟨(seen.len), (seen.2), (seen.3), (seen.4), (seen.5), (seen.6), (seen.7)⟩), 0, (x.pos), (x.w), (x.now), (some (m)), none, none, ⟨(x.work.ev), (x.work.lf), (wrI (x.work.fr + 1)), (x.work.mv), (wrI (x.work.rd + 1))⟩, ⟨(x.work.ev), (x.work.lf), (wrI (x.work.fr + 1)), (x.work.mv), (wrI (x.work.rd + 1))⟩, 0⟩ (cap) ((settleStep c who s mm).snd.snd))
     else
      bif !decide (x.work.mv = x.was.mv) then
       rq (seen.len = seen.len ∧ cap = cap) (
        K ⟨0, (some ⟨(seen.len), (seen.2), (seen.3), (seen.4), (seen.5), (seen.6), (seen.7)⟩), 0, (x.pos), (x.w), (x.now), (some (m)), none, none, ⟨(x.work.ev), (x.work.lf), (wrI (x.work.fr + 1)), (x.work.mv), (wrI (x.work.rd + 1))⟩, ⟨(x.work.ev), (x.work.lf), (wrI (x.work.fr + 1)), (x.work.mv), (wrI (x.work.rd + 1))⟩, 0⟩ (cap) ((settleStep c who s mm).snd.snd))
      else
       bif !decide (wrI (x.work.fr + 1) = x.was.fr) then
        rq (seen.len = seen.len ∧ cap = cap) (
         K ⟨0, (some ⟨(seen.len), (seen.2), (seen.3), (seen.4), (seen.5), (seen.6), (seen.7)⟩), 0, (x.pos), (x.w), (x.now), (some (m)), none, none, ⟨(x.work.ev), (x.work.lf), (wrI (x.work.fr + 1)), (x.work.mv), (wrI (x.work.rd + 1))⟩, ⟨(x.work.ev), (x.work.lf), (wrI (x.work.fr + 1)), (x.work.mv), (wrI (x.work.rd + 1))⟩, 0⟩ (cap) ((settleStep c who s mm).snd.snd))
       else
        rq (seen.len = seen.len ∧ cap = cap) (
         K ⟨0, (some ⟨(seen.len), (seen.2), (seen.3), (seen.4), (seen.5), (seen.6), (seen.7)⟩), 0, (x.pos), (x.w), (x.now), (some (m)), none, none, ⟨(x.work.ev), (x.work.lf), (wrI (x.work.fr + 1)), (x.work.mv), (wrI (x.work.rd + 1))⟩, ⟨(x.work.ev), (x.work.lf), (wrI (x.work.fr + 1)), (x.work.mv), (wrI (x.work.rd + 1))⟩, (wrI (x.idle + 1))⟩ (cap) ((settleStep c who s mm).snd.snd))
    else
     rq (seen.len = seen.len ∧ cap = cap) (
      K ⟨11, (some ⟨(seen.len), (seen.2), (seen.3), (seen.4), (seen.5), (seen.6), (seen.7)⟩), (wrI (x.at_ + 1)), (x.pos), (x.w), (x.now), (some (m)), none, none, ⟨(x.work.ev), (x.work.lf), (wrI (x.work.fr + 1)), (x.work.mv), (x.work.rd)⟩, ⟨(x.was.ev), (x.was.lf), (x.was.fr), (x.was.mv), (x.was.rd)⟩, (x.idle)⟩ (cap) ((settleStep c who s mm).snd.snd))
   else
    bif decide (c.chunks ≤ wrI (x.at_ + 1)) then
     bif !decide (x.work.ev = x.was.ev) then
      rq (seen.len = seen.len ∧ cap = cap) (
       K ⟨0, (some ⟨(seen.len), (seen.2), (seen.3), (seen.4), (seen.5), (seen.6), (seen.7)⟩), 0, (x.pos), (x.w), (x.now), (some (m)), none, none, ⟨(x.work.ev), (x.work.lf), (x.work.fr), (x.work.mv), (wrI (x.work.rd + 1))⟩, ⟨(x.work.ev), (x.work.lf), (x.work.fr), (x.work.mv), (wrI (x.work.rd + 1))⟩, 0⟩ (cap) ((settleStep c who s mm).snd.snd))
     else
      bif !decide (x.work.mv = x.was.mv) then
       rq (seen.len = seen.len ∧ cap = cap) (
        K ⟨0, (some ⟨(seen.len), (seen.2), (seen.3), (seen.4), (seen.5), (seen.6), (seen.7)⟩), 0, (x.pos), (x.w), (x.now), (some (m)), none, none, ⟨(x.work.ev), (x.work.lf), (x.work.fr), (x.work.mv), (wrI (x.work.rd + 1))⟩, ⟨(x.work.ev), (x.work.lf), (x.work.fr), (x.work.mv), (wrI (x.work.rd + 1))⟩, 0⟩ (cap) ((settleStep c who s mm).snd.snd))
      else
       bif !decide (x.work.fr = x.was.fr) then
        rq (seen.len = seen.len ∧ cap = cap) (
         K ⟨0, (some ⟨(seen.len), (seen.2), (seen.3), (seen.4), (seen.5), (seen.6), (seen.7)⟩), 0, (x.pos), (x.w), (x.now), (some (m)), none, none, ⟨(x.work.ev), (x.work.lf), (x.work.fr), (x.work.mv), (wrI (x.work.rd + 1))⟩, ⟨(x.work.ev), (x.work.lf), (x.work.fr), (x.work.mv), (wrI (x.work.rd + 1))⟩, 0⟩ (cap) ((settleStep c who s mm).snd.snd))
       else
        rq (seen.len = seen.len ∧ cap = cap) (
         K ⟨0, (some ⟨(seen.len), (seen.2), (seen.3), (seen.4), (seen.5), (seen.6), (seen.7)⟩), 0, (x.pos), (x.w), (x.now), (some (m)), none, none, ⟨(x.work.ev), (x.work.lf), (x.work.fr), (x.work.mv), (wrI (x.work.rd + 1))⟩, ⟨(x.work.ev), (x.work.lf), (x.work.fr), (x.work.mv), (wrI (x.work.rd + 1))⟩, (wrI (x.idle + 1))⟩ (cap) ((settleStep c who s mm).snd.snd))
    else
     rq (seen.len = seen.len ∧ cap = cap) (
      K ⟨11, (some ⟨(seen.len), (seen.2), (seen.3), (seen.4), (seen.5), (seen.6), (seen.7)⟩), (wrI (x.at_ + 1)), (x.pos), (x.w), (x.now), (some (m)), none, none, ⟨(x.work.ev), (x.work.lf), (x.work.fr), (x.work.mv), (x.work.rd)⟩, ⟨(x.was.ev), (x.was.lf), (x.was.fr), (x.was.mv), (x.was.rd)⟩, (x.idle)⟩ (cap) ((settleStep c who s mm).snd.snd))

def csS_1 (c : PCfg) (who : Int) (x : PComp) (seen : PSeenL) (m : PMove) (s : PSettle) (mm : PMem) : Option (PComp × PMem) := csS_1K none rqV faV rmV c who x seen m s 0 mm fun x _ m => some (x, m)

theorem csS_1K_of (c : PCfg) (who : Int) (x : PComp) (seen : PSeenL) (m : PMove) (s : PSettle) (cap : Nat) (mm : PMem) (hlen : seen.len ≤ 1048576) {K : PComp → Nat → PMem → Prop} : appC K (csS_1 c who x seen m s mm) → csS_1K False rqP faP rmP c who x seen m s cap mm K := by
  unfold csS_1 csS_1K
  repeat' first
    | exact c_leaf _
    | exact c_bot
    | refine c_cond (fun _ => ?_) (fun _ => ?_)
    | refine c_rm ?_ ?_
    | refine c_fa (fun _ => ?_)
    | refine c_rq ⟨rfl, rfl⟩ ?_
    | refine c_rq' ⟨rfl, rfl⟩ ?_
    | refine c_rq ⟨⟨rfl, rfl⟩, hlen⟩ ?_
    | refine c_rq ⟨⟨rfl, rfl⟩, rfl, hlen⟩ ?_
    | refine c_rq (by simp only [decide_eq_true_eq] at *; omega) ?_

def compStep (c : PCfg) (who : Int) (x : PComp) (mm : PMem) : Option (PComp × PMem) := match x.seen with
  | none => match x.m with
    | some _ => none
    | none => match x.a with
      | some _ => none
      | none => match x.s with
        | some _ => none
        | none => bif decide (x.pc = 0) then csStart c who x mm else none
  | some seen => bif decide (seen.len ≤ 1048576) then match x.m with
    | none => match x.a with
      | none => match x.s with
        | none => bif decide (x.pc = 0) then cs0_0 c who x seen mm else bif decide (x.pc = 1) then cs1_0 c who x seen mm else bif decide (x.pc = 2) then cs2_0 c who x seen mm else bif decide (x.pc = 3) then cs3_0 c who x seen mm else bif decide (x.pc = 4) then cs4_0 c who x seen mm else bif decide (x.pc = 5) then cs5_0 c who x seen mm else bif decide (x.pc = 6) then cs6_0 c who x seen mm else bif decide (x.pc = 7) then cs7_0 c who x seen mm else bif decide (x.pc = 8) then cs8_0 c who x seen mm else bif decide (x.pc = 9) then cs9_0 c who x seen mm else bif decide (x.pc = 10) then cs10_0 c who x seen mm else bif decide (x.pc = 11) then cs11_0 c who x seen mm else none
        | some s => bif decide (x.pc = 11) then csS_0 c who x seen s mm else none
      | some a => match x.s with
        | none => bif decide (x.pc = 10) then csA_0 c who x seen a mm else none
        | some _ => none
    | some m => match x.a with
      | none => match x.s with
        | none => bif decide (x.pc = 0) then cs0_1 c who x seen m mm else bif decide (x.pc = 1) then cs1_1 c who x seen m mm else bif decide (x.pc = 2) then cs2_1 c who x seen m mm else bif decide (x.pc = 3) then cs3_1 c who x seen m mm else bif decide (x.pc = 4) then cs4_1 c who x seen m mm else bif decide (x.pc = 5) then cs5_1 c who x seen m mm else bif decide (x.pc = 6) then cs6_1 c who x seen m mm else bif decide (x.pc = 7) then cs7_1 c who x seen m mm else bif decide (x.pc = 8) then cs8_1 c who x seen m mm else bif decide (x.pc = 9) then cs9_1 c who x seen m mm else bif decide (x.pc = 10) then cs10_1 c who x seen m mm else bif decide (x.pc = 11) then cs11_1 c who x seen m mm else none
        | some s => bif decide (x.pc = 11) then csS_1 c who x seen m s mm else none
      | some a => match x.s with
        | none => bif decide (x.pc = 10) then csA_1 c who x seen m a mm else none
        | some _ => none
    else none

def compOk (c : PCfg) (who : Int) (x : PComp) (mm : PMem) : Bool := (compStep c who x mm).isSome

def compX (c : PCfg) (who : Int) (x : PComp) (mm : PMem) : PComp × PMem := (compStep c who x mm).getD (x, mm)

end Go.FL

/-
  The contract of the compactor's step.
-/
set_option linter.unusedVariables false
set_option linter.unusedSimpArgs false
set_option maxRecDepth 100000
set_option linter.unusedSectionVars false
namespace Go.Proofs.YtfjnkneoddankaaGreat
open Go Go.FL Go.Proofs
variable [Go.FL.Fz]

theorem csStart_ev (c : PCfg) (who : Int) (x : PComp) (cap : Nat) (mm : PMem) (K : PComp → Nat → PMem → Prop) : evF Tryz.prog ownK4 10 20 19 [.c (.ptr 0 0), envV c 1 who] ⟨cat [(true, .comp ({ x with pc := 0, seen := none, m := none, a := none, s := none }) cap), (false, .mem mm)] 0, []⟩ (fun v H₁ => match v with | .tup [] => (shComp H₁ 0 fun x' cap' c' => shF H₁ 1 fun o c2 => match o with | .mem m' => (match chkAll [(true, .comp ({ x with pc := 0, seen := none, m := none, a := none, s := none }) cap), (false, .mem mm)] [c', c2] [] with | true => K x' cap' m' | false => False) | _ => False) | _ => False) = csStartK False rqP faP rmP c who x cap mm K := by kernel_rfl

theorem cs0_0_ev (c : PCfg) (who : Int) (x : PComp) (seen : PSeenL) (cap : Nat) (mm : PMem) (K : PComp → Nat → PMem → Prop) : evF Tryz.prog ownK4 10 20 19 [.c (.ptr 0 0), envV c 2 who] ⟨cat [(true, .comp ({ x with pc := 0, seen := some seen, m := none, a := none, s := none }) cap), (false, .mem mm)] 0, []⟩ (fun v H₁ => match v with | .tup [] => (shComp H₁ 0 fun x' cap' c' => shF H₁ 2 fun o c2 => match o with | .mem m' => (match chkAll [(true, .comp ({ x with pc := 0, seen := some seen, m := none, a := none, s := none }) cap), (false, .mem mm)] [c', c2] [] with | true => K x' cap' m' | false => False) | _ => False) | _ => False) = cs0_0K False rqP faP rmP c who x seen cap mm K := by kernel_rfl

theorem cs1_0_ev (c : PCfg) (who : Int) (x : PComp) (seen : PSeenL) (cap : Nat) (mm : PMem) (K : PComp → Nat → PMem → Prop) : evF Tryz.prog ownK4 10 20 19 [.c (.ptr 0 0), envV c 2 who] ⟨cat [(true, .comp ({ x with pc := 1, seen := some seen, m := none, a := none, s := none }) cap), (false, .mem mm)] 0, []⟩ (fun v H₁ => match v with | .tup [] => (shComp H₁ 0 fun x' cap' c' => shF H₁ 2 fun o c2 => match o with | .mem m' => (match chkAll [(true, .comp ({ x with pc := 1, seen := some seen, m := none, a := none, s := none }) cap), (false, .mem mm)] [c', c2] [] with | true => K x' cap' m' | false => False) | _ => False) | _ => False) = cs1_0K False rqP faP rmP c who x seen cap mm K := by kernel_rfl

theorem cs2_0_ev (c : PCfg) (who : Int) (x : PComp) (seen : PSeenL) (cap : Nat) (mm : PMem) (K : PComp → Nat → PMem → Prop) : evF Tryz.prog ownK4 10 20 19 [.c (.ptr 0 0), envV c 2 who] ⟨cat [(true, .comp ({ x with pc := 2, seen := some seen, m := none, a := none, s := none }) cap), (false, .mem mm)] 0, []⟩ (fun v H₁ => match v with | .tup [] => (shComp H₁ 0 fun x' cap' c' => shF H₁ 2 fun o c2 => match o with | .mem m' => (match chkAll [(true, .comp ({ x with pc := 2, seen := some seen, m := none, a := none, s := none }) cap), (false, .mem mm)] [c', c2] [] with | true => K x' cap' m' | false => False) | _ => False) | _ => False) = cs2_0K False rqP faP rmP c who x seen cap mm K := by kernel_rfl

theorem cs3_0_ev (c : PCfg) (who : Int) (x : PComp) (seen : PSeenL) (cap : Nat) (mm : PMem) (K : PComp → Nat → PMem → Prop) : evF Tryz.prog ownK4 10 20 19 [.c (.ptr 0 0), envV c 2 who] ⟨cat [(true, .comp ({ x with pc := 3, seen := some seen, m := none, a := none, s := none }) cap), (false, .mem mm)] 0, []⟩ (fun v H₁ => match v with | .tup [] => (shComp H₁ 0 fun x' cap' c' => shF H₁ 2 fun o c2 => match o with | .mem m' => (match chkAll [(true, .comp ({ x with pc := 3, seen := some seen, m := none, a := none, s := none }) cap), (false, .mem mm)] [c', c2] [] with | true => K x' cap' m' | false => False) | _ => False) | _ => False) = cs3_0K False rqP faP rmP c who x seen cap mm K := by kernel_rfl

theorem cs4_0_ev (c : PCfg) (who : Int) (x : PComp) (seen : PSeenL) (cap : Nat) (mm : PMem) (K : PComp → Nat → PMem → Prop) : evF Tryz.prog ownK4 10 20 19 [.c (.ptr 0 0), envV c 2 who] ⟨cat [(true, .comp ({ x with pc := 4, seen := some seen, m := none, a := none, s := none }) cap), (false, .mem mm)] 0, []⟩ (fun v H₁ => match v with | .tup [] => (shComp H₁ 0 fun x' cap' c' => shF H₁ 2 fun o c2 => match o with | .mem m' => (match chkAll [(true, .comp ({ x with pc := 4, seen := some seen, m := none, a := none, s := none }) cap), (false, .mem mm)] [c', c2] [] with | true => K x' cap' m' | false => False) | _ => False) | _ => False) = cs4_0K False rqP faP rmP c who x seen cap mm K := by kernel_rfl

theorem cs5_0_ev (c : PCfg) (who : Int) (x : PComp) (seen : PSeenL) (cap : Nat) (mm : PMem) (K : PComp → Nat → PMem → Prop) : evF Tryz.prog ownK4 10 20 19 [.c (.ptr 0 0), envV c 2 who] ⟨cat [(true, .comp ({ x with pc := 5, seen := some seen, m := none, a := none, s := none }) cap), (false, .mem mm)] 0, []⟩ (fun v H₁ => match v with | .tup [] => (shComp H₁ 0 fun x' cap' c' => shF H₁ 2 fun o c2 => match o with | .mem m' => (match chkAll [(true, .comp ({ x with pc := 5, seen := some seen, m := none, a := none, s := none }) cap), (false, .mem mm)] [c', c2] [] with | true => K x' cap' m' | false => False) | _ => False) | _ => False) = cs5_0K False rqP faP rmP c who x seen cap mm K := by kernel_rfl

theorem cs6_0_ev (c : PCfg) (who : Int) (x : PComp) (seen : PSeenL) (cap : Nat) (mm : PMem) (K : PComp → Nat → PMem → Prop) : evF Tryz.prog ownK4 10 20 19 [.c (.ptr 0 0), envV c 2 who] ⟨cat [(true, .comp ({ x with pc := 6, seen := some seen, m := none, a := none, s := none }) cap), (false, .mem mm)] 0, []⟩ (fun v H₁ => match v with | .tup [] => (shComp H₁ 0 fun x' cap' c' => shF H₁ 2 fun o c2 => match o with | .mem m' => (match chkAll [(true, .comp ({ x with pc := 6, seen := some seen, m := none, a := none, s := none }) cap), (false, .mem mm)] [c', c2] [] with | true => K x' cap' m' | false => False) | _ => False) | _ => False) = cs6_0K False rqP faP rmP c who x seen cap mm K := by kernel_rfl

theorem cs7_0_ev (c : PCfg) (who : Int) (x : PComp) (seen : PSeenL) (cap : Nat) (mm : PMem) (K : PComp → Nat → PMem → Prop) : evF Tryz.prog ownK4 10 20 19 [.c (.ptr 0 0), envV c 2 who] ⟨cat [(true, .comp ({ x with pc := 7, seen := some seen, m := none, a := none, s := none }) cap), (false, .mem mm)] 0, []⟩ (fun v H₁ => match v with | .tup [] => (shComp H₁ 0 fun x' cap' c' => shF H₁ 2 fun o c2 => match o with | .mem m' => (match chkAll [(true, .comp ({ x with pc := 7, seen := some seen, m := none, a := none, s := none }) cap), (false, .mem mm)] [c', c2] [] with | true => K x' cap' m' | false => False) | _ => False) | _ => False) = cs7_0K False rqP faP rmP c who x seen cap mm K := by kernel_rfl

theorem cs8_0_ev (c : PCfg) (who : Int) (x : PComp) (seen : PSeenL) (cap : Nat) (mm : PMem) (K : PComp → Nat → PMem → Prop) : evF Tryz.prog ownK4 10 20 19 [.c (.ptr 0 0), envV c 2 who] ⟨cat [(true, .comp ({ x with pc := 8, seen := some seen, m := none, a := none, s := none }) cap), (false, .mem mm)] 0, []⟩ (fun v H₁ => match v with | .tup [] => (shComp H₁ 0 fun x' cap' c' => shF H₁ 2 fun o c2 => match o with | .mem m' => (match chkAll [(true, .comp ({ x with pc := 8, seen := some seen, m := none, a := none, s := none }) cap), (false, .mem mm)] [c', c2] [] with | true => K x' cap' m' | false => False) | _ => False) | _ => False) = cs8_0K False rqP faP rmP c who x seen cap mm K := by kernel_rfl

theorem cs9_0_ev (c : PCfg) (who : Int) (x : PComp) (seen : PSeenL) (cap : Nat) (mm : PMem) (K : PComp → Nat → PMem → Prop) : evF Tryz.prog ownK4 10 20 19 [.c (.ptr 0 0), envV c 2 who] ⟨cat [(true, .comp ({ x with pc := 9, seen := some seen, m := none, a := none, s := none }) cap), (false, .mem mm)] 0, []⟩ (fun v H₁ => match v with | .tup [] => (shComp H₁ 0 fun x' cap' c' => shF H₁ 2 fun o c2 => match o with | .mem m' => (match chkAll [(true, .comp ({ x with pc := 9, seen := some seen, m := none, a := none, s := none }) cap), (false, .mem mm)] [c', c2] [] with | true => K x' cap' m' | false => False) | _ => False) | _ => False) = cs9_0K False rqP faP rmP c who x seen cap mm K := by kernel_rfl

theorem cs10_0_ev (c : PCfg) (who : Int) (x : PComp) (seen : PSeenL) (cap : Nat) (mm : PMem) (K : PComp → Nat → PMem → Prop) : evF Tryz.prog ownK4 10 20 19 [.c (.ptr 0 0), envV c 2 who] ⟨cat [(true, .comp ({ x with pc := 10, seen := some seen, m := none, a := none, s := none }) cap), (false, .mem mm)] 0, []⟩ (fun v H₁ => match v with | .tup [] => (shComp H₁ 0 fun x' cap' c' => shF H₁ 2 fun o c2 => match o with | .mem m' => (match chkAll [(true, .comp ({ x with pc := 10, seen := some seen, m := none, a := none, s := none }) cap), (false, .mem mm)] [c', c2] [] with | true => K x' cap' m' | false => False) | _ => False) | _ => False) = cs10_0K False rqP faP rmP c who x seen cap mm K := by kernel_rfl

theorem cs11_0_ev (c : PCfg) (who : Int) (x : PComp) (seen : PSeenL) (cap : Nat) (mm : PMem) (K : PComp → Nat → PMem → Prop) : evF Tryz.prog ownK4 10 20 19 [.c (.ptr 0 0), envV c 2 who] ⟨cat [(true, .comp ({ x with pc := 11, seen := some seen, m := none, a := none, s := none }) cap), (false, .mem mm)] 0, []⟩ (fun v H₁ => match v with | .tup [] => (shComp H₁ 0 fun x' cap' c' => shF H₁ 2 fun o c2 => match o with | .mem m' => (match chkAll [(true, .comp ({ x with pc := 11, seen := some seen, m := none, a := none, s := none }) cap), (false, .mem mm)] [c', c2] [] with | true => K x' cap' m' | false => False) | _ => False) | _ => False) = cs11_0K False rqP faP rmP c who x seen cap mm K := by kernel_rfl

theorem csA_0_ev (c : PCfg) (who : Int) (x : PComp) (seen : PSeenL) (a : PAdv) (cap : Nat) (mm : PMem) (K : PComp → Nat → PMem → Prop) : evF Tryz.prog ownK4 10 20 19 [.c (.ptr 0 0), envV c 3 who] ⟨cat [(true, .comp ({ x with pc := 10, seen := some seen, m := none, a := some a, s := none }) cap), (false, .mem mm)] 0, []⟩ (fun v H₁ => match v with | .tup [] => (shComp H₁ 0 fun x' cap' c' => shF H₁ 3 fun o c2 => match o with | .mem m' => (match chkAll [(true, .comp ({ x with pc := 10, seen := some seen, m := none, a := some a, s := none }) cap), (false, .mem mm)] [c', c2] [] with | true => K x' cap' m' | false => False) | _ => False) | _ => False) = csA_0K False rqP faP rmP c who x seen a cap mm K := by kernel_rfl

theorem csS_0_ev (c : PCfg) (who : Int) (x : PComp) (seen : PSeenL) (s : PSettle) (cap : Nat) (mm : PMem) (K : PComp → Nat → PMem → Prop) : evF Tryz.prog ownK4 10 20 19 [.c (.ptr 0 0), envV c 3 who] ⟨cat [(true, .comp ({ x with pc := 11, seen := some seen, m := none, a := none, s := some s }) cap), (false, .mem mm)] 0, []⟩ (fun v H₁ => match v with | .tup [] => (shComp H₁ 0 fun x' cap' c' => shF H₁ 3 fun o c2 => match o with | .mem m' => (match chkAll [(true, .comp ({ x with pc := 11, seen := some seen, m := none, a := none, s := some s }) cap), (false, .mem mm)] [c', c2] [] with | true => K x' cap' m' | false => False) | _ => False) | _ => False) = csS_0K False rqP faP rmP c who x seen s cap mm K := by kernel_rfl

theorem cs0_1_ev (c : PCfg) (who : Int) (x : PComp) (seen : PSeenL) (m : PMove) (cap : Nat) (mm : PMem) (K : PComp → Nat → PMem → Prop) : evF Tryz.prog ownK4 10 20 19 [.c (.ptr 0 0), envV c 3 who] ⟨cat [(true, .comp ({ x with pc := 0, seen := some seen, m := some m, a := none, s := none }) cap), (false, .mem mm)] 0, []⟩ (fun v H₁ => match v with | .tup [] => (shComp H₁ 0 fun x' cap' c' => shF H₁ 3 fun o c2 => match o with | .mem m' => (match chkAll [(true, .comp ({ x with pc := 0, seen := some seen, m := some m, a := none, s := none }) cap), (false, .mem mm)] [c', c2] [] with | true => K x' cap' m' | false => False) | _ => False) | _ => False) = cs0_1K False rqP faP rmP c who x seen m cap mm K := by kernel_rfl

theorem cs1_1_ev (c : PCfg) (who : Int) (x : PComp) (seen : PSeenL) (m : PMove) (cap : Nat) (mm : PMem) (K : PComp → Nat → PMem → Prop) : evF Tryz.prog ownK4 10 20 19 [.c (.ptr 0 0), envV c 3 who] ⟨cat [(true, .comp ({ x with pc := 1, seen := some seen, m := some m, a := none, s := none }) cap), (false, .mem mm)] 0, []⟩ (fun v H₁ => match v with | .tup [] => (shComp H₁ 0 fun x' cap' c' => shF H₁ 3 fun o c2 => match o with | .mem m' => (match chkAll [(true, .comp ({ x with pc := 1, seen := some seen, m := some m, a := none, s := none }) cap), (false, .mem mm)] [c', c2] [] with | true => K x' cap' m' | false => False) | _ => False) | _ => False) = cs1_1K False rqP faP rmP c who x seen m cap mm K := by kernel_rfl

theorem cs2_1_ev (c : PCfg) (who : Int) (x : PComp) (seen : PSeenL) (m : PMove) (cap : Nat) (mm : PMem) (K : PComp → Nat → PMem → Prop) : evF Tryz.prog ownK4 10 20 19 [.c (.ptr 0 0), envV c 3 who] ⟨cat [(true, .comp ({ x with pc := 2, seen := some seen, m := some m, a := none, s := none }) cap), (false, .mem mm)] 0, []⟩ (fun v H₁ => match v with | .tup [] => (shComp H₁ 0 fun x' cap' c' => shF H₁ 3 fun o c2 => match o with | .mem m' => (match chkAll [(true, .comp ({ x with pc := 2, seen := some seen, m := some m, a := none, s := none }) cap), (false, .mem mm)] [c', c2] [] with | true => K x' cap' m' | false => False) | _ => False) | _ => False) = cs2_1K False rqP faP rmP c who x seen m cap mm K := by kernel_rfl

theorem cs3_1_ev (c : PCfg) (who : Int) (x : PComp) (seen : PSeenL) (m : PMove) (cap : Nat) (mm : PMem) (K : PComp → Nat → PMem → Prop) : evF Tryz.prog ownK4 10 20 19 [.c (.ptr 0 0), envV c 3 who] ⟨cat [(true, .comp ({ x with pc := 3, seen := some seen, m := some m, a := none, s := none }) cap), (false, .mem mm)] 0, []⟩ (fun v H₁ => match v with | .tup [] => (shComp H₁ 0 fun x' cap' c' => shF H₁ 3 fun o c2 => match o with | .mem m' => (match chkAll [(true, .comp ({ x with pc := 3, seen := some seen, m := some m, a := none, s := none }) cap), (false, .mem mm)] [c', c2] [] with | true => K x' cap' m' | false => False) | _ => False) | _ => False) = cs3_1K False rqP faP rmP c who x seen m cap mm K := by kernel_rfl

theorem cs4_1_ev (c : PCfg) (who : Int) (x : PComp) (seen : PSeenL) (m : PMove) (cap : Nat) (mm : PMem) (K : PComp → Nat → PMem → Prop) : evF Tryz.prog ownK4 10 20 19 [.c (.ptr 0 0), envV c 3 who] ⟨cat [(true, .comp ({ x with pc := 4, seen := some seen, m := some m, a := none, s := none }) cap), (false, .mem mm)] 0, []⟩ (fun v H₁ => match v with | .tup [] => (shComp H₁ 0 fun x' cap' c' => shF H₁ 3 fun o c2 => match o with | .mem m' => (match chkAll [(true, .comp ({ x with pc := 4, seen := some seen, m := some m, a := none, s := none }) cap), (false, .mem mm)] [c', c2] [] with | true => K x' cap' m' | false => False) | _ => False) | _ => False) = cs4_1K False rqP faP rmP c who x seen m cap mm K := by kernel_rfl

theorem cs5_1_ev (c : PCfg) (who : Int) (x : PComp) (seen : PSeenL) (m : PMove) (cap : Nat) (mm : PMem) (K : PComp → Nat → PMem → Prop) : evF Tryz.prog ownK4 10 20 19 [.c (.ptr 0 0), envV c 3 who] ⟨cat [(true, .comp ({ x with pc := 5, seen := some seen, m := some m, a := none, s := none }) cap), (false, .mem mm)] 0, []⟩ (fun v H₁ => match v with | .tup [] => (shComp H₁ 0 fun x' cap' c' => shF H₁ 3 fun o c2 => match o with | .mem m' => (match chkAll [(true, .comp ({ x with pc := 5, seen := some seen, m := some m, a := none, s := none }) cap), (false, .mem mm)] [c', c2] [] with | true => K x' cap' m' | false => False) | _ => False) | _ => False) = cs5_1K False rqP faP rmP c who x seen m cap mm K := by kernel_rfl

theorem cs6_1_ev (c : PCfg) (who : Int) (x : PComp) (seen : PSeenL) (m : PMove) (cap : Nat) (mm : PMem) (K : PComp → Nat → PMem → Prop) : evF Tryz.prog ownK4 10 20 19 [.c (.ptr 0 0), envV c 3 who] ⟨cat [(true, .comp ({ x with pc := 6, seen := some seen, m := some m, a := none, s := none }) cap), (false, .mem mm)] 0, []⟩ (fun v H₁ => match v with | .tup [] => (shComp H₁ 0 fun x' cap' c' => shF H₁ 3 fun o c2 => match o with | .mem m' => (match chkAll [(true, .comp ({ x with pc := 6, seen := some seen, m := some m, a := none, s := none }) cap), (false, .mem mm)] [c', c2] [] with | true => K x' cap' m' | false => False) | _ => False) | _ => False) = cs6_1K False rqP faP rmP c who x seen m cap mm K := by kernel_rfl

theorem cs7_1_ev (c : PCfg) (who : Int) (x : PComp) (seen : PSeenL) (m : PMove) (cap : Nat) (mm : PMem) (K : PComp → Nat → PMem → Prop) : evF Tryz.prog ownK4 10 20 19 [.c (.ptr 0 0), envV c 3 who] ⟨cat [(true, .comp ({ x with pc := 7, seen := some seen, m := some m, a := none, s := none }) cap), (false, .mem mm)] 0, []⟩ (fun v H₁ => match v with | .tup [] => (shComp H₁ 0 fun x' cap' c' => shF H₁ 3 fun o c2 => match o with | .mem m' => (match chkAll [(true, .comp ({ x with pc := 7, seen := some seen, m := some m, a := none, s := none }) cap), (false, .mem mm)] [c', c2] [] with | true => K x' cap' m' | false => False) | _ => False) | _ => False) = cs7_1K False rqP faP rmP c who x seen m cap mm K := by kernel_rfl

theorem cs8_1_ev (c : PCfg) (who : Int) (x : PComp) (seen : PSeenL) (m : PMove) (cap : Nat) (mm : PMem) (K : PComp → Nat → PMem → Prop) : evF Tryz.prog ownK4 10 20 19 [.c (.ptr 0 0), envV c 3 who] ⟨cat [(true, .comp ({ x with pc := 8, seen := some seen, m := some m, a := none, s := none }) cap), (false, .mem mm)] 0, []⟩ (fun v H₁ => match v with | .tup [] => (shComp H₁ 0 fun x' cap' c' => shF H₁ 3 fun o c2 => match o with | .mem m' => (match chkAll [(true, .comp ({ x with pc := 8, seen := some seen, m := some m, a := none, s := none }) cap), (false, .mem mm)] [c', c2] [] with | true => K x' cap' m' | false => False) | _ => False) | _ => False) = cs8_1K False rqP faP rmP c who x seen m cap mm K := by kernel_rfl

theorem cs9_1_ev (c : PCfg) (who : Int) (x : PComp) (seen : PSeenL) (m : PMove) (cap : Nat) (mm : PMem) (K : PComp → Nat → PMem → Prop) : evF Tryz.prog ownK4 10 20 19 [.c (.ptr 0 0), envV c 3 who] ⟨cat [(true, .comp ({ x with pc := 9, seen := some seen, m := some m, a := none, s := none }) cap), (false, .mem mm)] 0, []⟩ (fun v H₁ => match v with | .tup [] => (shComp H₁ 0 fun x' cap' c' => shF H₁ 3 fun o c2 => match o with | .mem m' => (match chkAll [(true, .comp ({ x with pc := 9, seen := some seen, m := some m, a := none, s := none }) cap), (false, .mem mm)] [c', c2] [] with | true => K x' cap' m' | false => False) | _ => False) | _ => False) = cs9_1K False rqP faP rmP c who x seen m cap mm K := by kernel_rfl

theorem cs10_1_ev (c : PCfg) (who : Int) (x : PComp) (seen : PSeenL) (m : PMove) (cap : Nat) (mm : PMem) (K : PComp → Nat → PMem → Prop) : evF Tryz.prog ownK4 10 20 19 [.c (.ptr 0 0), envV c 3 who] ⟨cat [(true, .comp ({ x with pc := 10, seen := some seen, m := some m, a := none, s := none }) cap), (false, .mem mm)] 0, []⟩ (fun v H₁ => match v with | .tup [] => (shComp H₁ 0 fun x' cap' c' => shF H₁ 3 fun o c2 => match o with | .mem m' => (match chkAll [(true, .comp ({ x with pc := 10, seen := some seen, m := some m, a := none, s := none }) cap), (false, .mem mm)] [c', c2] [] with | true => K x' cap' m' | false => False) | _ => False) | _ => False) = cs10_1K False rqP faP rmP c who x seen m cap mm K := by kernel_rfl

theorem cs11_1_ev (c : PCfg) (who : Int) (x : PComp) (seen : PSeenL) (m : PMove) (cap : Nat) (mm : PMem) (K : PComp → Nat → PMem → Prop) : evF Tryz.prog ownK4 10 20 19 [.c (.ptr 0 0), envV c 3 who] ⟨cat [(true, .comp ({ x with pc := 11, seen := some seen, m := some m, a := none, s := none }) cap), (false, .mem mm)] 0, []⟩ (fun v H₁ => match v with | .tup [] => (shComp H₁ 0 fun x' cap' c' => shF H₁ 3 fun o c2 => match o with | .mem m' => (match chkAll [(true, .comp ({ x with pc := 11, seen := some seen, m := some m, a := none, s := none }) cap), (false, .mem mm)] [c', c2] [] with | true => K x' cap' m' | false => False) | _ => False) | _ => False) = cs11_1K False rqP faP rmP c who x seen m cap mm K := by kernel_rfl

theorem csA_1_ev (c : PCfg) (who : Int) (x : PComp) (seen : PSeenL) (m : PMove) (a : PAdv) (cap : Nat) (mm : PMem) (K : PComp → Nat → PMem → Prop) : evF Tryz.prog ownK4 10 20 19 [.c (.ptr 0 0), envV c 4 who] ⟨cat [(true, .comp ({ x with pc := 10, seen := some seen, m := some m, a := some a, s := none }) cap), (false, .mem mm)] 0, []⟩ (fun v H₁ => match v with | .tup [] => (shComp H₁ 0 fun x' cap' c' => shF H₁ 4 fun o c2 => match o with | .mem m' => (match chkAll [(true, .comp ({ x with pc := 10, seen := some seen, m := some m, a := some a, s := none }) cap), (false, .mem mm)] [c', c2] [] with | true => K x' cap' m' | false => False) | _ => False) | _ => False) = csA_1K False rqP faP rmP c who x seen m a cap mm K := by kernel_rfl

theorem csS_1_ev (c : PCfg) (who : Int) (x : PComp) (seen : PSeenL) (m : PMove) (s : PSettle) (cap : Nat) (mm : PMem) (K : PComp → Nat → PMem → Prop) : evF Tryz.prog ownK4 10 20 19 [.c (.ptr 0 0), envV c 4 who] ⟨cat [(true, .comp ({ x with pc := 11, seen := some seen, m := some m, a := none, s := some s }) cap), (false, .mem mm)] 0, []⟩ (fun v H₁ => match v with | .tup [] => (shComp H₁ 0 fun x' cap' c' => shF H₁ 4 fun o c2 => match o with | .mem m' => (match chkAll [(true, .comp ({ x with pc := 11, seen := some seen, m := some m, a := none, s := some s }) cap), (false, .mem mm)] [c', c2] [] with | true => K x' cap' m' | false => False) | _ => False) | _ => False) = csS_1K False rqP faP rmP c who x seen m s cap mm K := by kernel_rfl

theorem comp_use {H : LH} {K : LV → LH → Prop} {p m : Nat} {x : PComp} {cap : Nat} {pm : PMem} {c : PCfg} {who : Int}
    (hp : H.get p = some (.obj (.comp x cap))) (hm : H.get m = some (.obj (.mem pm)))
    (hev : evF Tryz.prog ownK4 10 20 19 [.c (.ptr 0 0), envV c (llen (ex (.comp x cap))) who] ⟨cat [(true, .comp x cap), (false, .mem pm)] 0, []⟩ (fun v H₁ => match v with
      | .tup [] => shComp H₁ 0 fun x' cap' c => shF H₁ (llen (ex (.comp x cap))) fun o c2 => match o with
        | .mem pm' => match chkAll [(true, .comp x cap), (false, .mem pm)] [c, c2] [] with
          | true => K (.tup []) ((H.put p (.obj (.comp x' cap'))).put m (.obj (.mem pm')))
          | false => False
        | _ => False
      | _ => False)) :
    (∃ fn, Tryz.prog.funcs[19]? = some fn ∧ fn.body.isSome = true) ∧ CSpec Tryz.prog 19 [.c (.ptr p 0), envV c m who] H K := by
  have hpm : p ≠ m := by
    rintro rfl
    rw [hp] at hm
    injection hm with hm; injection hm with hm; cases hm
  refine objs_ok ownK4_ok (ns := [p, m]) (xs := [(true, .comp x cap), (false, .mem pm)]) rfl ?_ (by simpa using hpm) ?_ hev ?_
  · intro i n x' hi hx
    match i, hi, hx with
    | 0, hi, hx => simp at hi hx; subst hi; subst hx; exact get_obj hp
    | 1, hi, hx => simp at hi hx; subst hi; subst hx; exact get_obj hm
    | i + 2, hi, hx => simp at hi
  · intro s s₁ vs hh hr
    match vs, hr with
    | [u, v], ⟨h1, h2, _⟩ =>
      have e0 := hh 0 p rfl
      have e1 := hh 1 m rfl
      simp only [base, Nat.zero_add] at e0 e1
      refine ⟨rel_ptr e0 h1, rel_env ?_ h2, trivial⟩
      rw [llen_eq]
      exact e1
    | [], h => exact h.elim
    | [_], h => exact h.2.elim
    | _ :: _ :: _ :: _, h => exact h.2.2.elim
  · intro v₁ H₁ hk
    split at hk
    · obtain ⟨x', cap', c1, hk, hc1⟩ := shComp_ok hk
      obtain ⟨o, c2, hk, hc2⟩ := shF_ok hk
      split at hk
      · rename_i pm'
        split at hk
        · rename_i hchk
          exact ⟨[c1, c2], [(true, .comp x' cap'), (false, .mem pm')], [], [], .tup [], hchk, ⟨hc1, hc2, trivial⟩, trivial, fun _ _ _ _ _ h => RelV.low rfl h, hk⟩
        · exact hk.elim
      · exact hk.elim
    · exact hk.elim

theorem csStart_use {H : LH} {K : LV → LH → Prop} {p mn cap : Nat} {pm : PMem} {c : PCfg} {who : Int} (x : PComp) (hp : H.get p = some (.obj (.comp ({ x with pc := 0, seen := none, m := none, a := none, s := none }) cap))) (hm : H.get mn = some (.obj (.mem pm)))
    (ha : appC (fun x' cap' pm' => K (.tup []) ((H.put p (.obj (.comp x' cap'))).put mn (.obj (.mem pm')))) (csStart c who x pm)) : (∃ fn, Tryz.prog.funcs[19]? = some fn ∧ fn.body.isSome = true) ∧ CSpec Tryz.prog 19 [.c (.ptr p 0), envV c mn who] H K :=
  comp_use hp hm ((csStart_ev c who x cap pm _).mpr (csStartK_of _ _ _ cap _ ha))

theorem cs0_0_use {H : LH} {K : LV → LH → Prop} {p mn cap : Nat} {pm : PMem} {c : PCfg} {who : Int} (x : PComp) (seen : PSeenL) (hp : H.get p = some (.obj (.comp ({ x with pc := 0, seen := some seen, m := none, a := none, s := none }) cap))) (hm : H.get mn = some (.obj (.mem pm))) (hlen : seen.len ≤ 1048576)
    (ha : appC (fun x' cap' pm' => K (.tup []) ((H.put p (.obj (.comp x' cap'))).put mn (.obj (.mem pm')))) (cs0_0 c who x seen pm)) : (∃ fn, Tryz.prog.funcs[19]? = some fn ∧ fn.body.isSome = true) ∧ CSpec Tryz.prog 19 [.c (.ptr p 0), envV c mn who] H K :=
  comp_use hp hm ((cs0_0_ev c who x seen cap pm _).mpr (cs0_0K_of _ _ _ _ cap _ hlen ha))

theorem cs1_0_use {H : LH} {K : LV → LH → Prop} {p mn cap : Nat} {pm : PMem} {c : PCfg} {who : Int} (x : PComp) (seen : PSeenL) (hp : H.get p = some (.obj (.comp ({ x with pc := 1, seen := some seen, m := none, a := none, s := none }) cap))) (hm : H.get mn = some (.obj (.mem pm))) (hlen : seen.len ≤ 1048576)
    (ha : appC (fun x' cap' pm' => K (.tup []) ((H.put p (.obj (.comp x' cap'))).put mn (.obj (.mem pm')))) (cs1_0 c who x seen pm)) : (∃ fn, Tryz.prog.funcs[19]? = some fn ∧ fn.body.isSome = true) ∧ CSpec Tryz.prog 19 [.c (.ptr p 0), envV c mn who] H K :=
  comp_use hp hm ((cs1_0_ev c who x seen cap pm _).mpr (cs1_0K_of _ _ _ _ cap _ hlen ha))

theorem cs2_0_use {H : LH} {K : LV → LH → Prop} {p mn cap : Nat} {pm : PMem} {c : PCfg} {who : Int} (x : PComp) (seen : PSeenL) (hp : H.get p = some (.obj (.comp ({ x with pc := 2, seen := some seen, m := none, a := none, s := none }) cap))) (hm : H.get mn = some (.obj (.mem pm))) (hlen : seen.len ≤ 1048576)
    (ha : appC (fun x' cap' pm' => K (.tup []) ((H.put p (.obj (.comp x' cap'))).put mn (.obj (.mem pm')))) (cs2_0 c who x seen pm)) : (∃ fn, Tryz.prog.funcs[19]? = some fn ∧ fn.body.isSome = true) ∧ CSpec Tryz.prog 19 [.c (.ptr p 0), envV c mn who] H K :=
  comp_use hp hm ((cs2_0_ev c who x seen cap pm _).mpr (cs2_0K_of _ _ _ _ cap _ hlen ha))

theorem cs3_0_use {H : LH} {K : LV → LH → Prop} {p mn cap : Nat} {pm : PMem} {c : PCfg} {who : Int} (x : PComp) (seen : PSeenL) (hp : H.get p = some (.obj (.comp ({ x with pc := 3, seen := some seen, m := none, a := none, s := none }) cap))) (hm : H.get mn = some (.obj (.mem pm))) (hlen : seen.len ≤ 1048576)
    (ha : appC (fun x' cap' pm' => K (.tup []) ((H.put p (.obj (.comp x' cap'))).put mn (.obj (.mem pm')))) (cs3_0 c who x seen pm)) : (∃ fn, Tryz.prog.funcs[19]? = some fn ∧ fn.body.isSome = true) ∧ CSpec Tryz.prog 19 [.c (.ptr p 0), envV c mn who] H K :=
  comp_use hp hm ((cs3_0_ev c who x seen cap pm _).mpr (cs3_0K_of _ _ _ _ cap _ hlen ha))

theorem cs4_0_use {H : LH} {K : LV → LH → Prop} {p mn cap : Nat} {pm : PMem} {c : PCfg} {who : Int} (x : PComp) (seen : PSeenL) (hp : H.get p = some (.obj (.comp ({ x with pc := 4, seen := some seen, m := none, a := none, s := none }) cap))) (hm : H.get mn = some (.obj (.mem pm))) (hlen : seen.len ≤ 1048576)
    (ha : appC (fun x' cap' pm' => K (.tup []) ((H.put p (.obj (.comp x' cap'))).put mn (.obj (.mem pm')))) (cs4_0 c who x seen pm)) : (∃ fn, Tryz.prog.funcs[19]? = some fn ∧ fn.body.isSome = true) ∧ CSpec Tryz.prog 19 [.c (.ptr p 0), envV c mn who] H K :=
  comp_use hp hm ((cs4_0_ev c who x seen cap pm _).mpr (cs4_0K_of _ _ _ _ cap _ hlen ha))

theorem cs5_0_use {H : LH} {K : LV → LH → Prop} {p mn cap : Nat} {pm : PMem} {c : PCfg} {who : Int} (x : PComp) (seen : PSeenL) (hp : H.get p = some (.obj (.comp ({ x with pc := 5, seen := some seen, m := none, a := none, s := none }) cap))) (hm : H.get mn = some (.obj (.mem pm))) (hlen : seen.len ≤ 1048576)
    (ha : appC (fun x' cap' pm' => K (.tup []) ((H.put p (.obj (.comp x' cap'))).put mn (.obj (.mem pm')))) (cs5_0 c who x seen pm)) : (∃ fn, Tryz.prog.funcs[19]? = some fn ∧ fn.body.isSome = true) ∧ CSpec Tryz.prog 19 [.c (.ptr p 0), envV c mn who] H K :=
  comp_use hp hm ((cs5_0_ev c who x seen cap pm _).mpr (cs5_0K_of _ _ _ _ cap _ hlen ha))

theorem cs6_0_use {H : LH} {K : LV → LH → Prop} {p mn cap : Nat} {pm : PMem} {c : PCfg} {who : Int} (x : PComp) (seen : PSeenL) (hp : H.get p = some (.obj (.comp ({ x with pc := 6, seen := some seen, m := none, a := none, s := none }) cap))) (hm : H.get mn = some (.obj (.mem pm))) (hlen : seen.len ≤ 1048576)
    (ha : appC (fun x' cap' pm' => K (.tup []) ((H.put p (.obj (.comp x' cap'))).put mn (.obj (.mem pm')))) (cs6_0 c who x seen pm)) : (∃ fn, Tryz.prog.funcs[19]? = some fn ∧ fn.body.isSome = true) ∧ CSpec Tryz.prog 19 [.c (.ptr p 0), envV c mn who] H K :=
  comp_use hp hm ((cs6_0_ev c who x seen cap pm _).mpr (cs6_0K_of _ _ _ _ cap _ hlen ha))

theorem cs7_0_use {H : LH} {K : LV → LH → Prop} {p mn cap : Nat} {pm : PMem} {c : PCfg} {who : Int} (x : PComp) (seen : PSeenL) (hp : H.get p = some (.obj (.comp ({ x with pc := 7, seen := some seen, m := none, a := none, s := none }) cap))) (hm : H.get mn = some (.obj (.mem pm))) (hlen : seen.len ≤ 1048576)
    (ha : appC (fun x' cap' pm' => K (.tup []) ((H.put p (.obj (.comp x' cap'))).put mn (.obj (.mem pm')))) (cs7_0 c who x seen pm)) : (∃ fn, Tryz.prog.funcs[19]? = some fn ∧ fn.body.isSome = true) ∧ CSpec Tryz.prog 19 [.c (.ptr p 0), envV c mn who] H K :=
  comp_use hp hm ((cs7_0_ev c who x seen cap pm _).mpr (cs7_0K_of _ _ _ _ cap _ hlen ha))

theorem cs8_0_use {H : LH} {K : LV → LH → Prop} {p mn cap : Nat} {pm : PMem} {c : PCfg} {who : Int} (x : PComp) (seen : PSeenL) (hp : H.get p = some (.obj (.comp ({ x with pc := 8, seen := some seen, m := none, a := none, s := none }) cap))) (hm : H.get mn = some (.obj (.mem pm))) (hlen : seen.len ≤ 1048576)
    (ha : appC (fun x' cap' pm' => K (.tup []) ((H.put p (.obj (.comp x' cap'))).put mn (.obj (.mem pm')))) (cs8_0 c who x seen pm)) : (∃ fn, Tryz.prog.funcs[19]? = some fn ∧ fn.body.isSome = true) ∧ CSpec Tryz.prog 19 [.c (.ptr p 0), envV c mn who] H K :=
  comp_use hp hm ((cs8_0_ev c who x seen cap pm _).mpr (cs8_0K_of _ _ _ _ cap _ hlen ha))

theorem cs9_0_use {H : LH} {K : LV → LH → Prop} {p mn cap : Nat} {pm : PMem} {c : PCfg} {who : Int} (x : PComp) (seen : PSeenL) (hp : H.get p = some (.obj (.comp ({ x with pc := 9, seen := some seen, m := none, a := none, s := none }) cap))) (hm : H.get mn = some (.obj (.mem pm))) (hlen : seen.len ≤ 1048576)
    (ha : appC (fun x' cap' pm' => K (.tup []) ((H.put p (.obj (.comp x' cap'))).put mn (.obj (.mem pm')))) (cs9_0 c who x seen pm)) : (∃ fn, Tryz.prog.funcs[19]? = some fn ∧ fn.body.isSome = true) ∧ CSpec Tryz.prog 19 [.c (.ptr p 0), envV c mn who] H K :=
  comp_use hp hm ((cs9_0_ev c who x seen cap pm _).mpr (cs9_0K_of _ _ _ _ cap _ hlen ha))

theorem cs10_0_use {H : LH} {K : LV → LH → Prop} {p mn cap : Nat} {pm : PMem} {c : PCfg} {who : Int} (x : PComp) (seen : PSeenL) (hp : H.get p = some (.obj (.comp ({ x with pc := 10, seen := some seen, m := none, a := none, s := none }) cap))) (hm : H.get mn = some (.obj (.mem pm))) (hlen : seen.len ≤ 1048576)
    (ha : appC (fun x' cap' pm' => K (.tup []) ((H.put p (.obj (.comp x' cap'))).put mn (.obj (.mem pm')))) (cs10_0 c who x seen pm)) : (∃ fn, Tryz.prog.funcs[19]? = some fn ∧ fn.body.isSome = true) ∧ CSpec Tryz.prog 19 [.c (.ptr p 0), envV c mn who] H K :=
  comp_use hp hm ((cs10_0_ev c who x seen cap pm _).mpr (cs10_0K_of _ _ _ _ cap _ hlen ha))

theorem cs11_0_use {H : LH} {K : LV → LH → Prop} {p mn cap : Nat} {pm : PMem} {c : PCfg} {who : Int} (x : PComp) (seen : PSeenL) (hp : H.get p = some (.obj (.comp ({ x with pc := 11, seen := some seen, m := none, a := none, s := none }) cap))) (hm : H.get mn = some (.obj (.mem pm))) (hlen : seen.len ≤ 1048576)
    (ha : appC (fun x' cap' pm' => K (.tup []) ((H.put p (.obj (.comp x' cap'))).put mn (.obj (.mem pm')))) (cs11_0 c who x seen pm)) : (∃ fn, Tryz.prog.funcs[19]? = some fn ∧ fn.body.isSome = true) ∧ CSpec Tryz.prog 19 [.c (.ptr p 0), envV c mn who] H K :=
  comp_use hp hm ((cs11_0_ev c who x seen cap pm _).mpr (cs11_0K_of _ _ _ _ cap _ hlen ha))

theorem csA_0_use {H : LH} {K : LV → LH → Prop} {p mn cap : Nat} {pm : PMem} {c : PCfg} {who : Int} (x : PComp) (seen : PSeenL) (a : PAdv) (hp : H.get p = some (.obj (.comp ({ x with pc := 10, seen := some seen, m := none, a := some a, s := none }) cap))) (hm : H.get mn = some (.obj (.mem pm))) (hlen : seen.len ≤ 1048576)
    (ha : appC (fun x' cap' pm' => K (.tup []) ((H.put p (.obj (.comp x' cap'))).put mn (.obj (.mem pm')))) (csA_0 c who x seen a pm)) : (∃ fn, Tryz.prog.funcs[19]? = some fn ∧ fn.body.isSome = true) ∧ CSpec Tryz.prog 19 [.c (.ptr p 0), envV c mn who] H K :=
  comp_use hp hm ((csA_0_ev c who x seen a cap pm _).mpr (csA_0K_of _ _ _ _ _ cap _ hlen ha))

theorem csS_0_use {H : LH} {K : LV → LH → Prop} {p mn cap : Nat} {pm : PMem} {c : PCfg} {who : Int} (x : PComp) (seen : PSeenL) (s : PSettle) (hp : H.get p = some (.obj (.comp ({ x with pc := 11, seen := some seen, m := none, a := none, s := some s }) cap))) (hm : H.get mn = some (.obj (.mem pm))) (hlen : seen.len ≤ 1048576)
    (ha : appC (fun x' cap' pm' => K (.tup []) ((H.put p (.obj (.comp x' cap'))).put mn (.obj (.mem pm')))) (csS_0 c who x seen s pm)) : (∃ fn, Tryz.prog.funcs[19]? = some fn ∧ fn.body.isSome = true) ∧ CSpec Tryz.prog 19 [.c (.ptr p 0), envV c mn who] H K :=
  comp_use hp hm ((csS_0_ev c who x seen s cap pm _).mpr (csS_0K_of _ _ _ _ _ cap _ hlen ha))

theorem cs0_1_use {H : LH} {K : LV → LH → Prop} {p mn cap : Nat} {pm : PMem} {c : PCfg} {who : Int} (x : PComp) (seen : PSeenL) (m : PMove) (hp : H.get p = some (.obj (.comp ({ x with pc := 0, seen := some seen, m := some m, a := none, s := none }) cap))) (hm : H.get mn = some (.obj (.mem pm))) (hlen : seen.len ≤ 1048576)
    (ha : appC (fun x' cap' pm' => K (.tup []) ((H.put p (.obj (.comp x' cap'))).put mn (.obj (.mem pm')))) (cs0_1 c who x seen m pm)) : (∃ fn, Tryz.prog.funcs[19]? = some fn ∧ fn.body.isSome = true) ∧ CSpec Tryz.prog 19 [.c (.ptr p 0), envV c mn who] H K :=
  comp_use hp hm ((cs0_1_ev c who x seen m cap pm _).mpr (cs0_1K_of _ _ _ _ _ cap _ hlen ha))

theorem cs1_1_use {H : LH} {K : LV → LH → Prop} {p mn cap : Nat} {pm : PMem} {c : PCfg} {who : Int} (x : PComp) (seen : PSeenL) (m : PMove) (hp : H.get p = some (.obj (.comp ({ x with pc := 1, seen := some seen, m := some m, a := none, s := none }) cap))) (hm : H.get mn = some (.obj (.mem pm))) (hlen : seen.len ≤ 1048576)
    (ha : appC (fun x' cap' pm' => K (.tup []) ((H.put p (.obj (.comp x' cap'))).put mn (.obj (.mem pm')))) (cs1_1 c who x seen m pm)) : (∃ fn, Tryz.prog.funcs[19]? = some fn ∧ fn.body.isSome = true) ∧ CSpec Tryz.prog 19 [.c (.ptr p 0), envV c mn who] H K :=
  comp_use hp hm ((cs1_1_ev c who x seen m cap pm _).mpr (cs1_1K_of _ _ _ _ _ cap _ hlen ha))

theorem cs2_1_use {H : LH} {K : LV → LH → Prop} {p mn cap : Nat} {pm : PMem} {c : PCfg} {who : Int} (x : PComp) (seen : PSeenL) (m : PMove) (hp : H.get p = some (.obj (.comp ({ x with pc := 2, seen := some seen, m := some m, a := none, s := none }) cap))) (hm : H.get mn = some (.obj (.mem pm))) (hlen : seen.len ≤ 1048576)
    (ha : appC (fun x' cap' pm' => K (.tup []) ((H.put p (.obj (.comp x' cap'))).put mn (.obj (.mem pm')))) (cs2_1 c who x seen m pm)) : (∃ fn, Tryz.prog.funcs[19]? = some fn ∧ fn.body.isSome = true) ∧ CSpec Tryz.prog 19 [.c (.ptr p 0), envV c mn who] H K :=
  comp_use hp hm ((cs2_1_ev c who x seen m cap pm _).mpr (cs2_1K_of _ _ _ _ _ cap _ hlen ha))

theorem cs3_1_use {H : LH} {K : LV → LH → Prop} {p mn cap : Nat} {pm : PMem} {c : PCfg} {who : Int} (x : PComp) (seen : PSeenL) (m : PMove) (hp : H.get p = some (.obj (.comp ({ x with pc := 3, seen := some seen, m := some m, a := none, s := none }) cap))) (hm : H.get mn = some (.obj (.mem pm))) (hlen : seen.len ≤ 1048576)
    (ha : appC (fun x' cap' pm' => K (.tup []) ((H.put p (.obj (.comp x' cap'))).put mn (.obj (.mem pm')))) (cs3_1 c who x seen m pm)) : (∃ fn, Tryz.prog.funcs[19]? = some fn ∧ fn.body.isSome = true) ∧ CSpec Tryz.prog 19 [.c (.ptr p 0), envV c mn who] H K :=
  comp_use hp hm ((cs3_1_ev c who x seen m cap pm _).mpr (cs3_1K_of _ _ _ _ _ cap _ hlen ha))

theorem cs4_1_use {H : LH} {K : LV → LH → Prop} {p mn cap : Nat} {pm : PMem} {c : PCfg} {who : Int} (x : PComp) (seen : PSeenL) (m : PMove) (hp : H.get p = some (.obj (.comp ({ x with pc := 4, seen := some seen, m := some m, a := none, s := none }) cap))) (hm : H.get mn = some (.obj (.mem pm))) (hlen : seen.len ≤ 1048576)
    (ha : appC (fun x' cap' pm' => K (.tup []) ((H.put p (.obj (.comp x' cap'))).put mn (.obj (.mem pm')))) (cs4_1 c who x seen m pm)) : (∃ fn, Tryz.prog.funcs[19]? = some fn ∧ fn.body.isSome = true) ∧ CSpec Tryz.prog 19 [.c (.ptr p 0), envV c mn who] H K :=
  comp_use hp hm ((cs4_1_ev c who x seen m cap pm _).mpr (cs4_1K_of _ _ _ _ _ cap _ hlen ha))

theorem cs5_1_use {H : LH} {K : LV → LH → Prop} {p mn cap : Nat} {pm : PMem} {c : PCfg} {who : Int} (x : PComp) (seen : PSeenL) (m : PMove) (hp : H.get p = some (.obj (.comp ({ x with pc := 5, seen := some seen, m := some m, a := none, s := none }) cap))) (hm : H.get mn = some (.obj (.mem pm))) (hlen : seen.len ≤ 1048576)
    (ha : appC (fun x' cap' pm' => K (.tup []) ((H.put p (.obj (.comp x' cap'))).put mn (.obj (.mem pm')))) (cs5_1 c who x seen m pm)) : (∃ fn, Tryz.prog.funcs[19]? = some fn ∧ fn.body.isSome = true) ∧ CSpec Tryz.prog 19 [.c (.ptr p 0), envV c mn who] H K :=
  comp_use hp hm ((cs5_1_ev c who x seen m cap pm _).mpr (cs5_1K_of _ _ _ _ _ cap _ hlen ha))

theorem cs6_1_use {H : LH} {K : LV → LH → Prop} {p mn cap : Nat} {pm : PMem} {c : PCfg} {who : Int} (x : PComp) (seen : PSeenL) (m : PMove) (hp : H.get p = some (.obj (.comp ({ x with pc := 6, seen := some seen, m := some m, a := none, s := none }) cap))) (hm : H.get mn = some (.obj (.mem pm))) (hlen : seen.len ≤ 1048576)
    (ha : appC (fun x' cap' pm' => K (.tup []) ((H.put p (.obj (.comp x' cap'))).put mn (.obj (.mem pm')))) (cs6_1 c who x seen m pm)) : (∃ fn, Tryz.prog.funcs[19]? = some fn ∧ fn.body.isSome = true) ∧ CSpec Tryz.prog 19 [.c (.ptr p 0), envV c mn who] H K :=
  comp_use hp hm ((cs6_1_ev c who x seen m cap pm _).mpr (cs6_1K_of _ _ _ _ _ cap _ hlen ha))

theorem cs7_1_use {H : LH} {K : LV → LH → Prop} {p mn cap : Nat} {pm : PMem} {c : PCfg} {who : Int} (x : PComp) (seen : PSeenL) (m : PMove) (hp : H.get p = some (.obj (.comp ({ x with pc := 7, seen := some seen, m := some m, a := none, s := none }) cap))) (hm : H.get mn = some (.obj (.mem pm))) (hlen : seen.len ≤ 1048576)
    (ha : appC (fun x' cap' pm' => K (.tup []) ((H.put p (.obj (.comp x' cap'))).put mn (.obj (.mem pm')))) (cs7_1 c who x seen m pm)) : (∃ fn, Tryz.prog.funcs[19]? = some fn ∧ fn.body.isSome = true) ∧ CSpec Tryz.prog 19 [.c (.ptr p 0), envV c mn who] H K :=
  comp_use hp hm ((cs7_1_ev c who x seen m cap pm _).mpr (cs7_1K_of _ _ _ _ _ cap _ hlen ha))

theorem cs8_1_use {H : LH} {K : LV → LH → Prop} {p mn cap : Nat} {pm : PMem} {c : PCfg} {who : Int} (x : PComp) (seen : PSeenL) (m : PMove) (hp : H.get p = some (.obj (.comp ({ x with pc := 8, seen := some seen, m := some m, a := none, s := none }) cap))) (hm : H.get mn = some (.obj (.mem pm))) (hlen : seen.len ≤ 1048576)
    (ha : appC (fun x' cap' pm' => K (.tup []) ((H.put p (.obj (.comp x' cap'))).put mn (.obj (.mem pm')))) (cs8_1 c who x seen m pm)) : (∃ fn, Tryz.prog.funcs[19]? = some fn ∧ fn.body.isSome = true) ∧ CSpec Tryz.prog 19 [.c (.ptr p 0), envV c mn who] H K :=
  comp_use hp hm ((cs8_1_ev c who x seen m cap pm _).mpr (cs8_1K_of _ _ _ _ _ cap _ hlen ha))

theorem cs9_1_use {H : LH} {K : LV → LH → Prop} {p mn cap : Nat} {pm : PMem} {c : PCfg} {who : Int} (x : PComp) (seen : PSeenL) (m : PMove) (hp : H.get p = some (.obj (.comp ({ x with pc := 9, seen := some seen, m := some m, a := none, s := none }) cap))) (hm : H.get mn = some (.obj (.mem pm))) (hlen : seen.len ≤ 1048576)
    (ha : appC (fun x' cap' pm' => K (.tup []) ((H.put p (.obj (.comp x' cap'))).put mn (.obj (.mem pm')))) (cs9_1 c who x seen m pm)) : (∃ fn, Tryz.prog.funcs[19]? = some fn ∧ fn.body.isSome = true) ∧ CSpec Tryz.prog 19 [.c (.ptr p 0), envV c mn who] H K :=
  comp_use hp hm ((cs9_1_ev c who x seen m cap pm _).mpr (cs9_1K_of _ _ _ _ _ cap _ hlen ha))

theorem cs10_1_use {H : LH} {K : LV → LH → Prop} {p mn cap : Nat} {pm : PMem} {c : PCfg} {who : Int} (x : PComp) (seen : PSeenL) (m : PMove) (hp : H.get p = some (.obj (.comp ({ x with pc := 10, seen := some seen, m := some m, a := none, s := none }) cap))) (hm : H.get mn = some (.obj (.mem pm))) (hlen : seen.len ≤ 1048576)
    (ha : appC (fun x' cap' pm' => K (.tup []) ((H.put p (.obj (.comp x' cap'))).put mn (.obj (.mem pm')))) (cs10_1 c who x seen m pm)) : (∃ fn, Tryz.prog.funcs[19]? = some fn ∧ fn.body.isSome = true) ∧ CSpec Tryz.prog 19 [.c (.ptr p 0), envV c mn who] H K :=
  comp_use hp hm ((cs10_1_ev c who x seen m cap pm _).mpr (cs10_1K_of _ _ _ _ _ cap _ hlen ha))

theorem cs11_1_use {H : LH} {K : LV → LH → Prop} {p mn cap : Nat} {pm : PMem} {c : PCfg} {who : Int} (x : PComp) (seen : PSeenL) (m : PMove) (hp : H.get p = some (.obj (.comp ({ x with pc := 11, seen := some seen, m := some m, a := none, s := none }) cap))) (hm : H.get mn = some (.obj (.mem pm))) (hlen : seen.len ≤ 1048576)
    (ha : appC (fun x' cap' pm' => K (.tup []) ((H.put p (.obj (.comp x' cap'))).put mn (.obj (.mem pm')))) (cs11_1 c who x seen m pm)) : (∃ fn, Tryz.prog.funcs[19]? = some fn ∧ fn.body.isSome = true) ∧ CSpec Tryz.prog 19 [.c (.ptr p 0), envV c mn who] H K :=
  comp_use hp hm ((cs11_1_ev c who x seen m cap pm _).mpr (cs11_1K_of _ _ _ _ _ cap _ hlen ha))

theorem csA_1_use {H : LH} {K : LV → LH → Prop} {p mn cap : Nat} {pm : PMem} {c : PCfg} {who : Int} (x : PComp) (seen : PSeenL) (m : PMove) (a : PAdv) (hp : H.get p = some (.obj (.comp ({ x with pc := 10, seen := some seen, m := some m, a := some a, s := none }) cap))) (hm : H.get mn = some (.obj (.mem pm))) (hlen : seen.len ≤ 1048576)
    (ha : appC (fun x' cap' pm' => K (.tup []) ((H.put p (.obj (.comp x' cap'))).put mn (.obj (.mem pm')))) (csA_1 c who x seen m a pm)) : (∃ fn, Tryz.prog.funcs[19]? = some fn ∧ fn.body.isSome = true) ∧ CSpec Tryz.prog 19 [.c (.ptr p 0), envV c mn who] H K :=
  comp_use hp hm ((csA_1_ev c who x seen m a cap pm _).mpr (csA_1K_of _ _ _ _ _ _ cap _ hlen ha))

theorem csS_1_use {H : LH} {K : LV → LH → Prop} {p mn cap : Nat} {pm : PMem} {c : PCfg} {who : Int} (x : PComp) (seen : PSeenL) (m : PMove) (s : PSettle) (hp : H.get p = some (.obj (.comp ({ x with pc := 11, seen := some seen, m := some m, a := none, s := some s }) cap))) (hm : H.get mn = some (.obj (.mem pm))) (hlen : seen.len ≤ 1048576)
    (ha : appC (fun x' cap' pm' => K (.tup []) ((H.put p (.obj (.comp x' cap'))).put mn (.obj (.mem pm')))) (csS_1 c who x seen m s pm)) : (∃ fn, Tryz.prog.funcs[19]? = some fn ∧ fn.body.isSome = true) ∧ CSpec Tryz.prog 19 [.c (.ptr p 0), envV c mn who] H K :=
  comp_use hp hm ((csS_1_ev c who x seen m s cap pm _).mpr (csS_1K_of _ _ _ _ _ _ cap _ hlen ha))

def h_compStep : Hd := fun args H K => match args with
  | [.c (.ptr p0 0), .agg [.int .i64 c1, .int .i64 c2, .int .i64 c3, .int .i64 c4, .int .i64 c5, .int .i64 c6, .int .i64 c7, .ptr m 0, .int .i64 who]] => match H.get p0, H.get m with
    | some (.obj (.comp x cap)), some (.obj (.mem pm)) => compOk ⟨c1, c2, c3, c4, c5, c6, c7⟩ who x pm = true ∧ ∀ cap' : Nat, K (.tup []) ((H.put p0 (.obj (.comp (compX ⟨c1, c2, c3, c4, c5, c6, c7⟩ who x pm).1 cap'))).put m (.obj (.mem (compX ⟨c1, c2, c3, c4, c5, c6, c7⟩ who x pm).2)))
    | _, _ => False
  | _ => False

theorem compAll_0 {H : LH} {K : LV → LH → Prop} {p mn cap : Nat} {pm : PMem} {c : PCfg} {who : Int} (x : PComp) (seen : PSeenL) (hs : x.seen = some seen) (hmo : x.m = none) (hp : H.get p = some (.obj (.comp x cap))) (hm : H.get mn = some (.obj (.mem pm))) (hlen : seen.len ≤ 1048576)
    (ha : appC (fun x' cap' pm' => K (.tup []) ((H.put p (.obj (.comp x' cap'))).put mn (.obj (.mem pm')))) (compStep c who x pm)) : (∃ fn, Tryz.prog.funcs[19]? = some fn ∧ fn.body.isSome = true) ∧ CSpec Tryz.prog 19 [.c (.ptr p 0), envV c mn who] H K := by
  obtain ⟨pc, seen', at_, pos, w, now, mo', a, t, work, was, idle⟩ := x
  cases hs
  cases hmo
  simp only [compStep, hlen, decide_true, cond_true] at ha
  cases a with
  | none =>
    cases t with
    | none =>
      simp only at ha
      refine c_bif ha (fun hpc ha => ?_) (fun ha => ?_)
      · subst hpc; exact cs0_0_use ⟨0, some seen, at_, pos, w, now, none, none, none, work, was, idle⟩ seen hp hm hlen ha
      refine c_bif ha (fun hpc ha => ?_) (fun ha => ?_)
      · subst hpc; exact cs1_0_use ⟨1, some seen, at_, pos, w, now, none, none, none, work, was, idle⟩ seen hp hm hlen ha
      refine c_bif ha (fun hpc ha => ?_) (fun ha => ?_)
      · subst hpc; exact cs2_0_use ⟨2, some seen, at_, pos, w, now, none, none, none, work, was, idle⟩ seen hp hm hlen ha
      refine c_bif ha (fun hpc ha => ?_) (fun ha => ?_)
      · subst hpc; exact cs3_0_use ⟨3, some seen, at_, pos, w, now, none, none, none, work, was, idle⟩ seen hp hm hlen ha
      refine c_bif ha (fun hpc ha => ?_) (fun ha => ?_)
      · subst hpc; exact cs4_0_use ⟨4, some seen, at_, pos, w, now, none, none, none, work, was, idle⟩ seen hp hm hlen ha
      refine c_bif ha (fun hpc ha => ?_) (fun ha => ?_)
      · subst hpc; exact cs5_0_use ⟨5, some seen, at_, pos, w, now, none, none, none, work, was, idle⟩ seen hp hm hlen ha
      refine c_bif ha (fun hpc ha => ?_) (fun ha => ?_)
      · subst hpc; exact cs6_0_use ⟨6, some seen, at_, pos, w, now, none, none, none, work, was, idle⟩ seen hp hm hlen ha
      refine c_bif ha (fun hpc ha => ?_) (fun ha => ?_)
      · subst hpc; exact cs7_0_use ⟨7, some seen, at_, pos, w, now, none, none, none, work, was, idle⟩ seen hp hm hlen ha
      refine c_bif ha (fun hpc ha => ?_) (fun ha => ?_)
      · subst hpc; exact cs8_0_use ⟨8, some seen, at_, pos, w, now, none, none, none, work, was, idle⟩ seen hp hm hlen ha
      refine c_bif ha (fun hpc ha => ?_) (fun ha => ?_)
      · subst hpc; exact cs9_0_use ⟨9, some seen, at_, pos, w, now, none, none, none, work, was, idle⟩ seen hp hm hlen ha
      refine c_bif ha (fun hpc ha => ?_) (fun ha => ?_)
      · subst hpc; exact cs10_0_use ⟨10, some seen, at_, pos, w, now, none, none, none, work, was, idle⟩ seen hp hm hlen ha
      refine c_bif ha (fun hpc ha => ?_) (fun ha => ?_)
      · subst hpc; exact cs11_0_use ⟨11, some seen, at_, pos, w, now, none, none, none, work, was, idle⟩ seen hp hm hlen ha
      exact ha.elim
    | some t =>
      simp only at ha
      refine c_bif ha (fun hpc ha => ?_) (fun ha => ha.elim)
      subst hpc; exact csS_0_use ⟨11, some seen, at_, pos, w, now, none, none, some t, work, was, idle⟩ seen t hp hm hlen ha
  | some a =>
    cases t with
    | some _ => exact ha.elim
    | none =>
      simp only at ha
      refine c_bif ha (fun hpc ha => ?_) (fun ha => ha.elim)
      subst hpc; exact csA_0_use ⟨10, some seen, at_, pos, w, now, none, some a, none, work, was, idle⟩ seen a hp hm hlen ha

theorem compAll_1 {H : LH} {K : LV → LH → Prop} {p mn cap : Nat} {pm : PMem} {c : PCfg} {who : Int} (x : PComp) (seen : PSeenL) (mo : PMove) (hs : x.seen = some seen) (hmo : x.m = (some mo)) (hp : H.get p = some (.obj (.comp x cap))) (hm : H.get mn = some (.obj (.mem pm))) (hlen : seen.len ≤ 1048576)
    (ha : appC (fun x' cap' pm' => K (.tup []) ((H.put p (.obj (.comp x' cap'))).put mn (.obj (.mem pm')))) (compStep c who x pm)) : (∃ fn, Tryz.prog.funcs[19]? = some fn ∧ fn.body.isSome = true) ∧ CSpec Tryz.prog 19 [.c (.ptr p 0), envV c mn who] H K := by
  obtain ⟨pc, seen', at_, pos, w, now, mo', a, t, work, was, idle⟩ := x
  cases hs
  cases hmo
  simp only [compStep, hlen, decide_true, cond_true] at ha
  cases a with
  | none =>
    cases t with
    | none =>
      simp only at ha
      refine c_bif ha (fun hpc ha => ?_) (fun ha => ?_)
      · subst hpc; exact cs0_1_use ⟨0, some seen, at_, pos, w, now, (some mo), none, none, work, was, idle⟩ seen mo hp hm hlen ha
      refine c_bif ha (fun hpc ha => ?_) (fun ha => ?_)
      · subst hpc; exact cs1_1_use ⟨1, some seen, at_, pos, w, now, (some mo), none, none, work, was, idle⟩ seen mo hp hm hlen ha
      refine c_bif ha (fun hpc ha => ?_) (fun ha => ?_)
      · subst hpc; exact cs2_1_use ⟨2, some seen, at_, pos, w, now, (some mo), none, none, work, was, idle⟩ seen mo hp hm hlen ha
      refine c_bif ha (fun hpc ha => ?_) (fun ha => ?_)
      · subst hpc; exact cs3_1_use ⟨3, some seen, at_, pos, w, now, (some mo), none, none, work, was, idle⟩ seen mo hp hm hlen ha
      refine c_bif ha (fun hpc ha => ?_) (fun ha => ?_)
      · subst hpc; exact cs4_1_use ⟨4, some seen, at_, pos, w, now, (some mo), none, none, work, was, idle⟩ seen mo hp hm hlen ha
      refine c_bif ha (fun hpc ha => ?_) (fun ha => ?_)
      · subst hpc; exact cs5_1_use ⟨5, some seen, at_, pos, w, now, (some mo), none, none, work, was, idle⟩ seen mo hp hm hlen ha
      refine c_bif ha (fun hpc ha => ?_) (fun ha => ?_)
      · subst hpc; exact cs6_1_use ⟨6, some seen, at_, pos, w, now, (some mo), none, none, work, was, idle⟩ seen mo hp hm hlen ha
      refine c_bif ha (fun hpc ha => ?_) (fun ha => ?_)
      · subst hpc; exact cs7_1_use ⟨7, some seen, at_, pos, w, now, (some mo), none, none, work, was, idle⟩ seen mo hp hm hlen ha
      refine c_bif ha (fun hpc ha => ?_) (fun ha => ?_)
      · subst hpc; exact cs8_1_use ⟨8, some seen, at_, pos, w, now, (some mo), none, none, work, was, idle⟩ seen mo hp hm hlen ha
      refine c_bif ha (fun hpc ha => ?_) (fun ha => ?_)
      · subst hpc; exact cs9_1_use ⟨9, some seen, at_, pos, w, now, (some mo), none, none, work, was, idle⟩ seen mo hp hm hlen ha
      refine c_bif ha (fun hpc ha => ?_) (fun ha => ?_)
      · subst hpc; exact cs10_1_use ⟨10, some seen, at_, pos, w, now, (some mo), none, none, work, was, idle⟩ seen mo hp hm hlen ha
      refine c_bif ha (fun hpc ha => ?_) (fun ha => ?_)
      · subst hpc; exact cs11_1_use ⟨11, some seen, at_, pos, w, now, (some mo), none, none, work, was, idle⟩ seen mo hp hm hlen ha
      exact ha.elim
    | some t =>
      simp only at ha
      refine c_bif ha (fun hpc ha => ?_) (fun ha => ha.elim)
      subst hpc; exact csS_1_use ⟨11, some seen, at_, pos, w, now, (some mo), none, some t, work, was, idle⟩ seen mo t hp hm hlen ha
  | some a =>
    cases t with
    | some _ => exact ha.elim
    | none =>
      simp only at ha
      refine c_bif ha (fun hpc ha => ?_) (fun ha => ha.elim)
      subst hpc; exact csA_1_use ⟨10, some seen, at_, pos, w, now, (some mo), some a, none, work, was, idle⟩ seen mo a hp hm hlen ha

theorem compStep_all {H : LH} {K : LV → LH → Prop} {p mn cap : Nat} {pm : PMem} {c : PCfg} {who : Int} (x : PComp) (hp : H.get p = some (.obj (.comp x cap))) (hm : H.get mn = some (.obj (.mem pm)))
    (ha : appC (fun x' cap' pm' => K (.tup []) ((H.put p (.obj (.comp x' cap'))).put mn (.obj (.mem pm')))) (compStep c who x pm)) : (∃ fn, Tryz.prog.funcs[19]? = some fn ∧ fn.body.isSome = true) ∧ CSpec Tryz.prog 19 [.c (.ptr p 0), envV c mn who] H K := by
  cases hs : x.seen with
  | none =>
    obtain ⟨pc, seen, at_, pos, w, now, mo, a, t, work, was, idle⟩ := x
    cases hs
    simp only [compStep] at ha
    cases mo with
    | some _ => exact ha.elim
    | none =>
      cases a with
      | some _ => exact ha.elim
      | none =>
        cases t with
        | some _ => exact ha.elim
        | none =>
          simp only at ha
          refine c_bif ha (fun hpc ha => ?_) (fun ha => ha.elim)
          subst hpc
          exact csStart_use ⟨0, none, at_, pos, w, now, none, none, none, work, was, idle⟩ hp hm ha
  | some seen =>
    by_cases hlen : seen.len ≤ 1048576
    · cases hmo : x.m with
      | none => exact compAll_0 x seen hs hmo hp hm hlen ha
      | some mo => exact compAll_1 x seen mo hs hmo hp hm hlen ha
    · simp only [compStep, hs, hlen, decide_false, cond_false] at ha
      exact ha.elim

theorem h_compStep_ok : HOK 19 h_compStep := by
  intro args H K h
  unfold h_compStep at h
  split at h
  case h_2 => exact h.elim
  rename_i p0 c1 c2 c3 c4 c5 c6 c7 m who
  split at h
  case h_2 => exact h.elim
  rename_i x cap pm hp hm
  obtain ⟨hok, h⟩ := h
  refine compStep_all (c := ⟨c1, c2, c3, c4, c5, c6, c7⟩) x hp hm ?_
  unfold compOk at hok
  unfold compX at h
  cases hs : compStep ⟨c1, c2, c3, c4, c5, c6, c7⟩ who x pm with
  | none => rw [hs] at hok; cases hok
  | some r =>
    rw [hs] at h
    exact h

def tabK5 : List (FuncId × Hd) := (19, h_compStep) :: tabK4
def ownK5 : FuncId → Option Hd := look tabK5
theorem allK5 : AllOK tabK5 := ⟨h_compStep_ok, allK4⟩
theorem ownK5_ok : OwnOK Tryz.prog ownK5 := look_ok allK5

end Go.Proofs.YtfjnkneoddankaaGreat

/-
  The compactor's maker and askers.
-/
set_option linter.unusedVariables false
set_option linter.unusedSimpArgs false
set_option maxRecDepth 100000
set_option linter.unusedSectionVars false
namespace Go.FL

def shComp2 (H : LH) (n : Nat) (k : PComp × Nat → List Nat → Prop) : Prop := shComp H n fun x cap c => k (x, cap) c

theorem shComp2_ok [Fz] {H : LH} {n : Nat} {k : PComp × Nat → List Nat → Prop} (h : shComp2 H n k) : ∃ x c, k x c ∧ Clus H c (true, .comp x.1 x.2) := by
  obtain ⟨x, cap, c, h1, h2⟩ := shComp_ok h
  exact ⟨(x, cap), c, h1, h2⟩

/-- A list that is none has no capacity. -/
def capOf (x : PComp) (cap : Nat) : Nat := match x.seen with
  | none => 0
  | some _ => cap

def comp0 : PComp := ⟨0, none, 0, 0, 0, 0, none, none, none, ⟨0, 0, 0, 0, 0⟩, ⟨0, 0, 0, 0, 0⟩, 0⟩

end Go.FL

namespace Go.Proofs.YtfjnkneoddankaaGreat
open Go Go.FL Go.Proofs
variable [Go.FL.Fz]

def h_compNew : Hd := fun args H K => match args with
  | [] => K (.c (.ptr H.len 0)) (H.new (.obj (.comp ⟨0, none, 0, 0, 0, 0, none, none, none, ⟨0, 0, 0, 0, 0⟩, ⟨0, 0, 0, 0, 0⟩, 0⟩ 0)))
  | _ => False

theorem h_compNew_ok : HOK 14 h_compNew := by
  intro args H K h
  unfold h_compNew at h
  split at h
  · have e : evF Tryz.prog ownK5 10 20 14 [] ⟨[], []⟩ (fun v H₁ => match v with
        | .c (.ptr i 0) => (shComp2 H₁ i fun x c => match chkAll [] [] [c] && headOK i c with
          | true => K (.c (.ptr H.len 0)) (H.new (.obj (.comp x.1 x.2)))
          | false => False)
        | _ => False) := cast (by kernel_rfl) h
    exact new_ok ownK5_ok (mk := fun r : PComp × Nat => .comp r.1 r.2) (fun _ _ _ => shComp2_ok) rfl e
  · exact h.elim

def h_compWork : Hd := fun args H K => match args with
  | [.c (.ptr p0 0)] => match H.get p0 with
    | some (.obj (.comp x cap)) => K (.agg [cI x.work.ev, cI x.work.lf, cI x.work.fr, cI x.work.mv, cI x.work.rd]) (H.put p0 (.obj (.comp x (capOf x cap))))
    | _ => False
  | _ => False

theorem compWork0000 {H : LH} {K : LV → LH → Prop} {p0 cap : Nat} {pc at_ pos w now k1 k2 k3 k4 k5 idle : Int} {was : PWk} (hp : H.get p0 = some (.obj (.comp ⟨pc, none, at_, pos, w, now, none, none, none, ⟨k1, k2, k3, k4, k5⟩, was, idle⟩ cap))) (h : K (.agg [cI k1, cI k2, cI k3, cI k4, cI k5]) (H.put p0 (.obj (.comp ⟨pc, none, at_, pos, w, now, none, none, none, ⟨k1, k2, k3, k4, k5⟩, was, idle⟩ 0)))) :
    (∃ fn, Tryz.prog.funcs[16]? = some fn ∧ fn.body.isSome = true) ∧ CSpec Tryz.prog 16 [.c (.ptr p0 0)] H K := by
  have e : evF Tryz.prog ownK5 10 20 16 [.c (.ptr 0 0)] ⟨cat [(true, .comp ⟨pc, none, at_, pos, w, now, none, none, none, ⟨k1, k2, k3, k4, k5⟩, was, idle⟩ cap)] 0, []⟩ (fun v H₁ => match lowV v with
    | true => (shComp2 H₁ 0 fun x' c => match chkAll [(true, .comp ⟨pc, none, at_, pos, w, now, none, none, none, ⟨k1, k2, k3, k4, k5⟩, was, idle⟩ cap)] [c] [] with
        | true => K v (H.put p0 (.obj (.comp x'.1 x'.2)))
        | false => False)
    | false => False) := cast (by kernel_rfl) h
  exact ask_ok ownK5_ok (mk := fun r : PComp × Nat => .comp r.1 r.2) (x := (⟨pc, none, at_, pos, w, now, none, none, none, ⟨k1, k2, k3, k4, k5⟩, was, idle⟩, cap)) (fun _ _ _ => shComp2_ok) (rest := []) rfl hp e

theorem compWork1000 {H : LH} {K : LV → LH → Prop} {p0 cap : Nat} {pc at_ pos w now k1 k2 k3 k4 k5 idle : Int} {was : PWk} {seen : PSeenL} (hp : H.get p0 = some (.obj (.comp ⟨pc, some seen, at_, pos, w, now, none, none, none, ⟨k1, k2, k3, k4, k5⟩, was, idle⟩ cap))) (h : K (.agg [cI k1, cI k2, cI k3, cI k4, cI k5]) (H.put p0 (.obj (.comp ⟨pc, some seen, at_, pos, w, now, none, none, none, ⟨k1, k2, k3, k4, k5⟩, was, idle⟩ cap)))) :
    (∃ fn, Tryz.prog.funcs[16]? = some fn ∧ fn.body.isSome = true) ∧ CSpec Tryz.prog 16 [.c (.ptr p0 0)] H K := by
  have e : evF Tryz.prog ownK5 10 20 16 [.c (.ptr 0 0)] ⟨cat [(true, .comp ⟨pc, some seen, at_, pos, w, now, none, none, none, ⟨k1, k2, k3, k4, k5⟩, was, idle⟩ cap)] 0, []⟩ (fun v H₁ => match lowV v with
    | true => (shComp2 H₁ 0 fun x' c => match chkAll [(true, .comp ⟨pc, some seen, at_, pos, w, now, none, none, none, ⟨k1, k2, k3, k4, k5⟩, was, idle⟩ cap)] [c] [] with
        | true => K v (H.put p0 (.obj (.comp x'.1 x'.2)))
        | false => False)
    | false => False) := cast (by kernel_rfl) (show (seen.len = seen.len ∧ cap = cap) ∧ K (.agg [cI k1, cI k2, cI k3, cI k4, cI k5]) (H.put p0 (.obj (.comp ⟨pc, some seen, at_, pos, w, now, none, none, none, ⟨k1, k2, k3, k4, k5⟩, was, idle⟩ cap))) from ⟨⟨rfl, rfl⟩, h⟩)
  exact ask_ok ownK5_ok (mk := fun r : PComp × Nat => .comp r.1 r.2) (x := (⟨pc, some seen, at_, pos, w, now, none, none, none, ⟨k1, k2, k3, k4, k5⟩, was, idle⟩, cap)) (fun _ _ _ => shComp2_ok) (rest := []) rfl hp e

theorem compWork0100 {H : LH} {K : LV → LH → Prop} {p0 cap : Nat} {pc at_ pos w now k1 k2 k3 k4 k5 idle : Int} {was : PWk} {m : PMove} (hp : H.get p0 = some (.obj (.comp ⟨pc, none, at_, pos, w, now, some m, none, none, ⟨k1, k2, k3, k4, k5⟩, was, idle⟩ cap))) (h : K (.agg [cI k1, cI k2, cI k3, cI k4, cI k5]) (H.put p0 (.obj (.comp ⟨pc, none, at_, pos, w, now, some m, none, none, ⟨k1, k2, k3, k4, k5⟩, was, idle⟩ 0)))) :
    (∃ fn, Tryz.prog.funcs[16]? = some fn ∧ fn.body.isSome = true) ∧ CSpec Tryz.prog 16 [.c (.ptr p0 0)] H K := by
  have e : evF Tryz.prog ownK5 10 20 16 [.c (.ptr 0 0)] ⟨cat [(true, .comp ⟨pc, none, at_, pos, w, now, some m, none, none, ⟨k1, k2, k3, k4, k5⟩, was, idle⟩ cap)] 0, []⟩ (fun v H₁ => match lowV v with
    | true => (shComp2 H₁ 0 fun x' c => match chkAll [(true, .comp ⟨pc, none, at_, pos, w, now, some m, none, none, ⟨k1, k2, k3, k4, k5⟩, was, idle⟩ cap)] [c] [] with
        | true => K v (H.put p0 (.obj (.comp x'.1 x'.2)))
        | false => False)
    | false => False) := cast (by kernel_rfl) h
  exact ask_ok ownK5_ok (mk := fun r : PComp × Nat => .comp r.1 r.2) (x := (⟨pc, none, at_, pos, w, now, some m, none, none, ⟨k1, k2, k3, k4, k5⟩, was, idle⟩, cap)) (fun _ _ _ => shComp2_ok) (rest := []) rfl hp e

theorem compWork1100 {H : LH} {K : LV → LH → Prop} {p0 cap : Nat} {pc at_ pos w now k1 k2 k3 k4 k5 idle : Int} {was : PWk} {seen : PSeenL} {m : PMove} (hp : H.get p0 = some (.obj (.comp ⟨pc, some seen, at_, pos, w, now, some m, none, none, ⟨k1, k2, k3, k4, k5⟩, was, idle⟩ cap))) (h : K (.agg [cI k1, cI k2, cI k3, cI k4, cI k5]) (H.put p0 (.obj (.comp ⟨pc, some seen, at_, pos, w, now, some m, none, none, ⟨k1, k2, k3, k4, k5⟩, was, idle⟩ cap)))) :
    (∃ fn, Tryz.prog.funcs[16]? = some fn ∧ fn.body.isSome = true) ∧ CSpec Tryz.prog 16 [.c (.ptr p0 0)] H K := by
  have e : evF Tryz.prog ownK5 10 20 16 [.c (.ptr 0 0)] ⟨cat [(true, .comp ⟨pc, some seen, at_, pos, w, now, some m, none, none, ⟨k1, k2, k3, k4, k5⟩, was, idle⟩ cap)] 0, []⟩ (fun v H₁ => match lowV v with
    | true => (shComp2 H₁ 0 fun x' c => match chkAll [(true, .comp ⟨pc, some seen, at_, pos, w, now, some m, none, none, ⟨k1, k2, k3, k4, k5⟩, was, idle⟩ cap)] [c] [] with
        | true => K v (H.put p0 (.obj (.comp x'.1 x'.2)))
        | false => False)
    | false => False) := cast (by kernel_rfl) (show (seen.len = seen.len ∧ cap = cap) ∧ K (.agg [cI k1, cI k2, cI k3, cI k4, cI k5]) (H.put p0 (.obj (.comp ⟨pc, some seen, at_, pos, w, now, some m, none, none, ⟨k1, k2, k3, k4, k5⟩, was, idle⟩ cap))) from ⟨⟨rfl, rfl⟩, h⟩)
  exact ask_ok ownK5_ok (mk := fun r : PComp × Nat => .comp r.1 r.2) (x := (⟨pc, some seen, at_, pos, w, now, some m, none, none, ⟨k1, k2, k3, k4, k5⟩, was, idle⟩, cap)) (fun _ _ _ => shComp2_ok) (rest := []) rfl hp e

theorem compWork0010 {H : LH} {K : LV → LH → Prop} {p0 cap : Nat} {pc at_ pos w now k1 k2 k3 k4 k5 idle : Int} {was : PWk} {a : PAdv} (hp : H.get p0 = some (.obj (.comp ⟨pc, none, at_, pos, w, now, none, some a, none, ⟨k1, k2, k3, k4, k5⟩, was, idle⟩ cap))) (h : K (.agg [cI k1, cI k2, cI k3, cI k4, cI k5]) (H.put p0 (.obj (.comp ⟨pc, none, at_, pos, w, now, none, some a, none, ⟨k1, k2, k3, k4, k5⟩, was, idle⟩ 0)))) :
    (∃ fn, Tryz.prog.funcs[16]? = some fn ∧ fn.body.isSome = true) ∧ CSpec Tryz.prog 16 [.c (.ptr p0 0)] H K := by
  have e : evF Tryz.prog ownK5 10 20 16 [.c (.ptr 0 0)] ⟨cat [(true, .comp ⟨pc, none, at_, pos, w, now, none, some a, none, ⟨k1, k2, k3, k4, k5⟩, was, idle⟩ cap)] 0, []⟩ (fun v H₁ => match lowV v with
    | true => (shComp2 H₁ 0 fun x' c => match chkAll [(true, .comp ⟨pc, none, at_, pos, w, now, none, some a, none, ⟨k1, k2, k3, k4, k5⟩, was, idle⟩ cap)] [c] [] with
        | true => K v (H.put p0 (.obj (.comp x'.1 x'.2)))
        | false => False)
    | false => False) := cast (by kernel_rfl) h
  exact ask_ok ownK5_ok (mk := fun r : PComp × Nat => .comp r.1 r.2) (x := (⟨pc, none, at_, pos, w, now, none, some a, none, ⟨k1, k2, k3, k4, k5⟩, was, idle⟩, cap)) (fun _ _ _ => shComp2_ok) (rest := []) rfl hp e

theorem compWork1010 {H : LH} {K : LV → LH → Prop} {p0 cap : Nat} {pc at_ pos w now k1 k2 k3 k4 k5 idle : Int} {was : PWk} {seen : PSeenL} {a : PAdv} (hp : H.get p0 = some (.obj (.comp ⟨pc, some seen, at_, pos, w, now, none, some a, none, ⟨k1, k2, k3, k4, k5⟩, was, idle⟩ cap))) (h : K (.agg [cI k1, cI k2, cI k3, cI k4, cI k5]) (H.put p0 (.obj (.comp ⟨pc, some seen, at_, pos, w, now, none, some a, none, ⟨k1, k2, k3, k4, k5⟩, was, idle⟩ cap)))) :
    (∃ fn, Tryz.prog.funcs[16]? = some fn ∧ fn.body.isSome = true) ∧ CSpec Tryz.prog 16 [.c (.ptr p0 0)] H K := by
  have e : evF Tryz.prog ownK5 10 20 16 [.c (.ptr 0 0)] ⟨cat [(true, .comp ⟨pc, some seen, at_, pos, w, now, none, some a, none, ⟨k1, k2, k3, k4, k5⟩, was, idle⟩ cap)] 0, []⟩ (fun v H₁ => match lowV v with
    | true => (shComp2 H₁ 0 fun x' c => match chkAll [(true, .comp ⟨pc, some seen, at_, pos, w, now, none, some a, none, ⟨k1, k2, k3, k4, k5⟩, was, idle⟩ cap)] [c] [] with
        | true => K v (H.put p0 (.obj (.comp x'.1 x'.2)))
        | false => False)
    | false => False) := cast (by kernel_rfl) (show (seen.len = seen.len ∧ cap = cap) ∧ K (.agg [cI k1, cI k2, cI k3, cI k4, cI k5]) (H.put p0 (.obj (.comp ⟨pc, some seen, at_, pos, w, now, none, some a, none, ⟨k1, k2, k3, k4, k5⟩, was, idle⟩ cap))) from ⟨⟨rfl, rfl⟩, h⟩)
  exact ask_ok ownK5_ok (mk := fun r : PComp × Nat => .comp r.1 r.2) (x := (⟨pc, some seen, at_, pos, w, now, none, some a, none, ⟨k1, k2, k3, k4, k5⟩, was, idle⟩, cap)) (fun _ _ _ => shComp2_ok) (rest := []) rfl hp e

theorem compWork0110 {H : LH} {K : LV → LH → Prop} {p0 cap : Nat} {pc at_ pos w now k1 k2 k3 k4 k5 idle : Int} {was : PWk} {m : PMove} {a : PAdv} (hp : H.get p0 = some (.obj (.comp ⟨pc, none, at_, pos, w, now, some m, some a, none, ⟨k1, k2, k3, k4, k5⟩, was, idle⟩ cap))) (h : K (.agg [cI k1, cI k2, cI k3, cI k4, cI k5]) (H.put p0 (.obj (.comp ⟨pc, none, at_, pos, w, now, some m, some a, none, ⟨k1, k2, k3, k4, k5⟩, was, idle⟩ 0)))) :
    (∃ fn, Tryz.prog.funcs[16]? = some fn ∧ fn.body.isSome = true) ∧ CSpec Tryz.prog 16 [.c (.ptr p0 0)] H K := by
  have e : evF Tryz.prog ownK5 10 20 16 [.c (.ptr 0 0)] ⟨cat [(true, .comp ⟨pc, none, at_, pos, w, now, some m, some a, none, ⟨k1, k2, k3, k4, k5⟩, was, idle⟩ cap)] 0, []⟩ (fun v H₁ => match lowV v with
    | true => (shComp2 H₁ 0 fun x' c => match chkAll [(true, .comp ⟨pc, none, at_, pos, w, now, some m, some a, none, ⟨k1, k2, k3, k4, k5⟩, was, idle⟩ cap)] [c] [] with
        | true => K v (H.put p0 (.obj (.comp x'.1 x'.2)))
        | false => False)
    | false => False) := cast (by kernel_rfl) h
  exact ask_ok ownK5_ok (mk := fun r : PComp × Nat => .comp r.1 r.2) (x := (⟨pc, none, at_, pos, w, now, some m, some a, none, ⟨k1, k2, k3, k4, k5⟩, was, idle⟩, cap)) (fun _ _ _ => shComp2_ok) (rest := []) rfl hp e

theorem compWork1110 {H : LH} {K : LV → LH → Prop} {p0 cap : Nat} {pc at_ pos w now k1 k2 k3 k4 k5 idle : Int} {was : PWk} {seen : PSeenL} {m : PMove} {a : PAdv} (hp : H.get p0 = some (.obj (.comp ⟨pc, some seen, at_, pos, w, now, some m, some a, none, ⟨k1, k2, k3, k4, k5⟩, was, idle⟩ cap))) (h : K (.agg [cI k1, cI k2, cI k3, cI k4, cI k5]) (H.put p0 (.obj (.comp ⟨pc, some seen, at_, pos, w, now, some m, some a, none, ⟨k1, k2, k3, k4, k5⟩, was, idle⟩ cap)))) :
    (∃ fn, Tryz.prog.funcs[16]? = some fn ∧ fn.body.isSome = true) ∧ CSpec Tryz.prog 16 [.c (.ptr p0 0)] H K := by
  have e : evF Tryz.prog ownK5 10 20 16 [.c (.ptr 0 0)] ⟨cat [(true, .comp ⟨pc, some seen, at_, pos, w, now, some m, some a, none, ⟨k1, k2, k3, k4, k5⟩, was, idle⟩ cap)] 0, []⟩ (fun v H₁ => match lowV v with
    | true => (shComp2 H₁ 0 fun x' c => match chkAll [(true, .comp ⟨pc, some seen, at_, pos, w, now, some m, some a, none, ⟨k1, k2, k3, k4, k5⟩, was, idle⟩ cap)] [c] [] with
        | true => K v (H.put p0 (.obj (.comp x'.1 x'.2)))
        | false => False)
    | false => False) := cast (by kernel_rfl) (show (seen.len = seen.len ∧ cap = cap) ∧ K (.agg [cI k1, cI k2, cI k3, cI k4, cI k5]) (H.put p0 (.obj (.comp ⟨pc, some seen, at_, pos, w, now, some m, some a, none, ⟨k1, k2, k3, k4, k5⟩, was, idle⟩ cap))) from ⟨⟨rfl, rfl⟩, h⟩)
  exact ask_ok ownK5_ok (mk := fun r : PComp × Nat => .comp r.1 r.2) (x := (⟨pc, some seen, at_, pos, w, now, some m, some a, none, ⟨k1, k2, k3, k4, k5⟩, was, idle⟩, cap)) (fun _ _ _ => shComp2_ok) (rest := []) rfl hp e

theorem compWork0001 {H : LH} {K : LV → LH → Prop} {p0 cap : Nat} {pc at_ pos w now k1 k2 k3 k4 k5 idle : Int} {was : PWk} {s : PSettle} (hp : H.get p0 = some (.obj (.comp ⟨pc, none, at_, pos, w, now, none, none, some s, ⟨k1, k2, k3, k4, k5⟩, was, idle⟩ cap))) (h : K (.agg [cI k1, cI k2, cI k3, cI k4, cI k5]) (H.put p0 (.obj (.comp ⟨pc, none, at_, pos, w, now, none, none, some s, ⟨k1, k2, k3, k4, k5⟩, was, idle⟩ 0)))) :
    (∃ fn, Tryz.prog.funcs[16]? = some fn ∧ fn.body.isSome = true) ∧ CSpec Tryz.prog 16 [.c (.ptr p0 0)] H K := by
  have e : evF Tryz.prog ownK5 10 20 16 [.c (.ptr 0 0)] ⟨cat [(true, .comp ⟨pc, none, at_, pos, w, now, none, none, some s, ⟨k1, k2, k3, k4, k5⟩, was, idle⟩ cap)] 0, []⟩ (fun v H₁ => match lowV v with
    | true => (shComp2 H₁ 0 fun x' c => match chkAll [(true, .comp ⟨pc, none, at_, pos, w, now, none, none, some s, ⟨k1, k2, k3, k4, k5⟩, was, idle⟩ cap)] [c] [] with
        | true => K v (H.put p0 (.obj (.comp x'.1 x'.2)))
        | false => False)
    | false => False) := cast (by kernel_rfl) h
  exact ask_ok ownK5_ok (mk := fun r : PComp × Nat => .comp r.1 r.2) (x := (⟨pc, none, at_, pos, w, now, none, none, some s, ⟨k1, k2, k3, k4, k5⟩, was, idle⟩, cap)) (fun _ _ _ => shComp2_ok) (rest := []) rfl hp e

theorem compWork1001 {H : LH} {K : LV → LH → Prop} {p0 cap : Nat} {pc at_ pos w now k1 k2 k3 k4 k5 idle : Int} {was : PWk} {seen : PSeenL} {s : PSettle} (hp : H.get p0 = some (.obj (.comp ⟨pc, some seen, at_, pos, w, now, none, none, some s, ⟨k1, k2, k3, k4, k5⟩, was, idle⟩ cap))) (h : K (.agg [cI k1, cI k2, cI k3, cI k4, cI k5]) (H.put p0 (.obj (.comp ⟨pc, some seen, at_, pos, w, now, none, none, some s, ⟨k1, k2, k3, k4, k5⟩, was, idle⟩ cap)))) :
    (∃ fn, Tryz.prog.funcs[16]? = some fn ∧ fn.body.isSome = true) ∧ CSpec Tryz.prog 16 [.c (.ptr p0 0)] H K := by
  have e : evF Tryz.prog ownK5 10 20 16 [.c (.ptr 0 0)] ⟨cat [(true, .comp ⟨pc, some seen, at_, pos, w, now, none, none, some s, ⟨k1, k2, k3, k4, k5⟩, was, idle⟩ cap)] 0, []⟩ (fun v H₁ => match lowV v with
    | true => (shComp2 H₁ 0 fun x' c => match chkAll [(true, .comp ⟨pc, some seen, at_, pos, w, now, none, none, some s, ⟨k1, k2, k3, k4, k5⟩, was, idle⟩ cap)] [c] [] with
        | true => K v (H.put p0 (.obj (.comp x'.1 x'.2)))
        | false => False)
    | false => False) := cast (by kernel_rfl) (show (seen.len = seen.len ∧ cap = cap) ∧ K (.agg [cI k1, cI k2, cI k3, cI k4, cI k5]) (H.put p0 (.obj (.comp ⟨pc, some seen, at_, pos, w, now, none, none, some s, ⟨k1, k2, k3, k4, k5⟩, was, idle⟩ cap))) from ⟨⟨rfl, rfl⟩, h⟩)
  exact ask_ok ownK5_ok (mk := fun r : PComp × Nat => .comp r.1 r.2) (x := (⟨pc, some seen, at_, pos, w, now, none, none, some s, ⟨k1, k2, k3, k4, k5⟩, was, idle⟩, cap)) (fun _ _ _ => shComp2_ok) (rest := []) rfl hp e

theorem compWork0101 {H : LH} {K : LV → LH → Prop} {p0 cap : Nat} {pc at_ pos w now k1 k2 k3 k4 k5 idle : Int} {was : PWk} {m : PMove} {s : PSettle} (hp : H.get p0 = some (.obj (.comp ⟨pc, none, at_, pos, w, now, some m, none, some s, ⟨k1, k2, k3, k4, k5⟩, was, idle⟩ cap))) (h : K (.agg [cI k1, cI k2, cI k3, cI k4, cI k5]) (H.put p0 (.obj (.comp ⟨pc, none, at_, pos, w, now, some m, none, some s, ⟨k1, k2, k3, k4, k5⟩, was, idle⟩ 0)))) :
    (∃ fn, Tryz.prog.funcs[16]? = some fn ∧ fn.body.isSome = true) ∧ CSpec Tryz.prog 16 [.c (.ptr p0 0)] H K := by
  have e : evF Tryz.prog ownK5 10 20 16 [.c (.ptr 0 0)] ⟨cat [(true, .comp ⟨pc, none, at_, pos, w, now, some m, none, some s, ⟨k1, k2, k3, k4, k5⟩, was, idle⟩ cap)] 0, []⟩ (fun v H₁ => match lowV v with
    | true => (shComp2 H₁ 0 fun x' c => match chkAll [(true, .comp ⟨pc, none, at_, pos, w, now, some m, none, some s, ⟨k1, k2, k3, k4, k5⟩, was, idle⟩ cap)] [c] [] with
        | true => K v (H.put p0 (.obj (.comp x'.1 x'.2)))
        | false => False)
    | false => False) := cast (by kernel_rfl) h
  exact ask_ok ownK5_ok (mk := fun r : PComp × Nat => .comp r.1 r.2) (x := (⟨pc, none, at_, pos, w, now, some m, none, some s, ⟨k1, k2, k3, k4, k5⟩, was, idle⟩, cap)) (fun _ _ _ => shComp2_ok) (rest := []) rfl hp e

theorem compWork1101 {H : LH} {K : LV → LH → Prop} {p0 cap : Nat} {pc at_ pos w now k1 k2 k3 k4 k5 idle : Int} {was : PWk} {seen : PSeenL} {m : PMove} {s : PSettle} (hp : H.get p0 = some (.obj (.comp ⟨pc, some seen, at_, pos, w, now, some m, none, some s, ⟨k1, k2, k3, k4, k5⟩, was, idle⟩ cap))) (h : K (.agg [cI k1, cI k2, cI k3, cI k4, cI k5]) (H.put p0 (.obj (.comp ⟨pc, some seen, at_, pos, w, now, some m, none, some s, ⟨k1, k2, k3, k4, k5⟩, was, idle⟩ cap)))) :
    (∃ fn, Tryz.prog.funcs[16]? = some fn ∧ fn.body.isSome = true) ∧ CSpec Tryz.prog 16 [.c (.ptr p0 0)] H K := by
  have e : evF Tryz.prog ownK5 10 20 16 [.c (.ptr 0 0)] ⟨cat [(true, .comp ⟨pc, some seen, at_, pos, w, now, some m, none, some s, ⟨k1, k2, k3, k4, k5⟩, was, idle⟩ cap)] 0, []⟩ (fun v H₁ => match lowV v with
    | true => (shComp2 H₁ 0 fun x' c => match chkAll [(true, .comp ⟨pc, some seen, at_, pos, w, now, some m, none, some s, ⟨k1, k2, k3, k4, k5⟩, was, idle⟩ cap)] [c] [] with
        | true => K v (H.put p0 (.obj (.comp x'.1 x'.2)))
        | false => False)
    | false => False) := cast (by kernel_rfl) (show (seen.len = seen.len ∧ cap = cap) ∧ K (.agg [cI k1, cI k2, cI k3, cI k4, cI k5]) (H.put p0 (.obj (.comp ⟨pc, some seen, at_, pos, w, now, some m, none, some s, ⟨k1, k2, k3, k4, k5⟩, was, idle⟩ cap))) from ⟨⟨rfl, rfl⟩, h⟩)
  exact ask_ok ownK5_ok (mk := fun r : PComp × Nat => .comp r.1 r.2) (x := (⟨pc, some seen, at_, pos, w, now, some m, none, some s, ⟨k1, k2, k3, k4, k5⟩, was, idle⟩, cap)) (fun _ _ _ => shComp2_ok) (rest := []) rfl hp e

theorem compWork0011 {H : LH} {K : LV → LH → Prop} {p0 cap : Nat} {pc at_ pos w now k1 k2 k3 k4 k5 idle : Int} {was : PWk} {a : PAdv} {s : PSettle} (hp : H.get p0 = some (.obj (.comp ⟨pc, none, at_, pos, w, now, none, some a, some s, ⟨k1, k2, k3, k4, k5⟩, was, idle⟩ cap))) (h : K (.agg [cI k1, cI k2, cI k3, cI k4, cI k5]) (H.put p0 (.obj (.comp ⟨pc, none, at_, pos, w, now, none, some a, some s, ⟨k1, k2, k3, k4, k5⟩, was, idle⟩ 0)))) :
    (∃ fn, Tryz.prog.funcs[16]? = some fn ∧ fn.body.isSome = true) ∧ CSpec Tryz.prog 16 [.c (.ptr p0 0)] H K := by
  have e : evF Tryz.prog ownK5 10 20 16 [.c (.ptr 0 0)] ⟨cat [(true, .comp ⟨pc, none, at_, pos, w, now, none, some a, some s, ⟨k1, k2, k3, k4, k5⟩, was, idle⟩ cap)] 0, []⟩ (fun v H₁ => match lowV v with
    | true => (shComp2 H₁ 0 fun x' c => match chkAll [(true, .comp ⟨pc, none, at_, pos, w, now, none, some a, some s, ⟨k1, k2, k3, k4, k5⟩, was, idle⟩ cap)] [c] [] with
        | true => K v (H.put p0 (.obj (.comp x'.1 x'.2)))
        | false => False)
    | false => False) := cast (by kernel_rfl) h
  exact ask_ok ownK5_ok (mk := fun r : PComp × Nat => .comp r.1 r.2) (x := (⟨pc, none, at_, pos, w, now, none, some a, some s, ⟨k1, k2, k3, k4, k5⟩, was, idle⟩, cap)) (fun _ _ _ => shComp2_ok) (rest := []) rfl hp e

theorem compWork1011 {H : LH} {K : LV → LH → Prop} {p0 cap : Nat} {pc at_ pos w now k1 k2 k3 k4 k5 idle : Int} {was : PWk} {seen : PSeenL} {a : PAdv} {s : PSettle} (hp : H.get p0 = some (.obj (.comp ⟨pc, some seen, at_, pos, w, now, none, some a, some s, ⟨k1, k2, k3, k4, k5⟩, was, idle⟩ cap))) (h : K (.agg [cI k1, cI k2, cI k3, cI k4, cI k5]) (H.put p0 (.obj (.comp ⟨pc, some seen, at_, pos, w, now, none, some a, some s, ⟨k1, k2, k3, k4, k5⟩, was, idle⟩ cap)))) :
    (∃ fn, Tryz.prog.funcs[16]? = some fn ∧ fn.body.isSome = true) ∧ CSpec Tryz.prog 16 [.c (.ptr p0 0)] H K := by
  have e : evF Tryz.prog ownK5 10 20 16 [.c (.ptr 0 0)] ⟨cat [(true, .comp ⟨pc, some seen, at_, pos, w, now, none, some a, some s, ⟨k1, k2, k3, k4, k5⟩, was, idle⟩ cap)] 0, []⟩ (fun v H₁ => match lowV v with
    | true => (shComp2 H₁ 0 fun x' c => match chkAll [(true, .comp ⟨pc, some seen, at_, pos, w, now, none, some a, some s, ⟨k1, k2, k3, k4, k5⟩, was, idle⟩ cap)] [c] [] with
        | true => K v (H.put p0 (.obj (.comp x'.1 x'.2)))
        | false => False)
    | false => False) := cast (by kernel_rfl) (show (seen.len = seen.len ∧ cap = cap) ∧ K (.agg [cI k1, cI k2, cI k3, cI k4, cI k5]) (H.put p0 (.obj (.comp ⟨pc, some seen, at_, pos, w, now, none, some a, some s, ⟨k1, k2, k3, k4, k5⟩, was, idle⟩ cap))) from ⟨⟨rfl, rfl⟩, h⟩)
  exact ask_ok ownK5_ok (mk := fun r : PComp × Nat => .comp r.1 r.2) (x := (⟨pc, some seen, at_, pos, w, now, none, some a, some s, ⟨k1, k2, k3, k4, k5⟩, was, idle⟩, cap)) (fun _ _ _ => shComp2_ok) (rest := []) rfl hp e

theorem compWork0111 {H : LH} {K : LV → LH → Prop} {p0 cap : Nat} {pc at_ pos w now k1 k2 k3 k4 k5 idle : Int} {was : PWk} {m : PMove} {a : PAdv} {s : PSettle} (hp : H.get p0 = some (.obj (.comp ⟨pc, none, at_, pos, w, now, some m, some a, some s, ⟨k1, k2, k3, k4, k5⟩, was, idle⟩ cap))) (h : K (.agg [cI k1, cI k2, cI k3, cI k4, cI k5]) (H.put p0 (.obj (.comp ⟨pc, none, at_, pos, w, now, some m, some a, some s, ⟨k1, k2, k3, k4, k5⟩, was, idle⟩ 0)))) :
    (∃ fn, Tryz.prog.funcs[16]? = some fn ∧ fn.body.isSome = true) ∧ CSpec Tryz.prog 16 [.c (.ptr p0 0)] H K := by
  have e : evF Tryz.prog ownK5 10 20 16 [.c (.ptr 0 0)] ⟨cat [(true, .comp ⟨pc, none, at_, pos, w, now, some m, some a, some s, ⟨k1, k2, k3, k4, k5⟩, was, idle⟩ cap)] 0, []⟩ (fun v H₁ => match lowV v with
    | true => (shComp2 H₁ 0 fun x' c => match chkAll [(true, .comp ⟨pc, none, at_, pos, w, now, some m, some a, some s, ⟨k1, k2, k3, k4, k5⟩, was, idle⟩ cap)] [c] [] with
        | true => K v (H.put p0 (.obj (.comp x'.1 x'.2)))
        | false => False)
    | false => False) := cast (by kernel_rfl) h
  exact ask_ok ownK5_ok (mk := fun r : PComp × Nat => .comp r.1 r.2) (x := (⟨pc, none, at_, pos, w, now, some m, some a, some s, ⟨k1, k2, k3, k4, k5⟩, was, idle⟩, cap)) (fun _ _ _ => shComp2_ok) (rest := []) rfl hp e

theorem compWork1111 {H : LH} {K : LV → LH → Prop} {p0 cap : Nat} {pc at_ pos w now k1 k2 k3 k4 k5 idle : Int} {was : PWk} {seen : PSeenL} {m : PMove} {a : PAdv} {s : PSettle} (hp : H.get p0 = some (.obj (.comp ⟨pc, some seen, at_, pos, w, now, some m, some a, some s, ⟨k1, k2, k3, k4, k5⟩, was, idle⟩ cap))) (h : K (.agg [cI k1, cI k2, cI k3, cI k4, cI k5]) (H.put p0 (.obj (.comp ⟨pc, some seen, at_, pos, w, now, some m, some a, some s, ⟨k1, k2, k3, k4, k5⟩, was, idle⟩ cap)))) :
    (∃ fn, Tryz.prog.funcs[16]? = some fn ∧ fn.body.isSome = true) ∧ CSpec Tryz.prog 16 [.c (.ptr p0 0)] H K := by
  have e : evF Tryz.prog ownK5 10 20 16 [.c (.ptr 0 0)] ⟨cat [(true, .comp ⟨pc, some seen, at_, pos, w, now, some m, some a, some s, ⟨k1, k2, k3, k4, k5⟩, was, idle⟩ cap)] 0, []⟩ (fun v H₁ => match lowV v with
    | true => (shComp2 H₁ 0 fun x' c => match chkAll [(true, .comp ⟨pc, some seen, at_, pos, w, now, some m, some a, some s, ⟨k1, k2, k3, k4, k5⟩, was, idle⟩ cap)] [c] [] with
        | true => K v (H.put p0 (.obj (.comp x'.1 x'.2)))
        | false => False)
    | false => False) := cast (by kernel_rfl) (show (seen.len = seen.len ∧ cap = cap) ∧ K (.agg [cI k1, cI k2, cI k3, cI k4, cI k5]) (H.put p0 (.obj (.comp ⟨pc, some seen, at_, pos, w, now, some m, some a, some s, ⟨k1, k2, k3, k4, k5⟩, was, idle⟩ cap))) from ⟨⟨rfl, rfl⟩, h⟩)
  exact ask_ok ownK5_ok (mk := fun r : PComp × Nat => .comp r.1 r.2) (x := (⟨pc, some seen, at_, pos, w, now, some m, some a, some s, ⟨k1, k2, k3, k4, k5⟩, was, idle⟩, cap)) (fun _ _ _ => shComp2_ok) (rest := []) rfl hp e

theorem h_compWork_ok : HOK 16 h_compWork := by
  intro args H K h
  unfold h_compWork at h
  split at h
  · rename_i p0
    split at h
    · rename_i x cap hp
      obtain ⟨pc, seen, at_, pos, w, now, m, a, s, ⟨k1, k2, k3, k4, k5⟩, was, idle⟩ := x
      cases seen <;> cases m <;> cases a <;> cases s
      · exact compWork0000 hp h
      · exact compWork0001 hp h
      · exact compWork0010 hp h
      · exact compWork0011 hp h
      · exact compWork0100 hp h
      · exact compWork0101 hp h
      · exact compWork0110 hp h
      · exact compWork0111 hp h
      · exact compWork1000 hp h
      · exact compWork1001 hp h
      · exact compWork1010 hp h
      · exact compWork1011 hp h
      · exact compWork1100 hp h
      · exact compWork1101 hp h
      · exact compWork1110 hp h
      · exact compWork1111 hp h
    · exact h.elim
  · exact h.elim

def h_compIdle : Hd := fun args H K => match args with
  | [.c (.ptr p0 0)] => match H.get p0 with
    | some (.obj (.comp x cap)) => K (.c (cI x.idle)) (H.put p0 (.obj (.comp x (capOf x cap))))
    | _ => False
  | _ => False

theorem compIdle0000 {H : LH} {K : LV → LH → Prop} {p0 cap : Nat} {pc at_ pos w now k1 k2 k3 k4 k5 idle : Int} {was : PWk} (hp : H.get p0 = some (.obj (.comp ⟨pc, none, at_, pos, w, now, none, none, none, ⟨k1, k2, k3, k4, k5⟩, was, idle⟩ cap))) (h : K (.c (cI idle)) (H.put p0 (.obj (.comp ⟨pc, none, at_, pos, w, now, none, none, none, ⟨k1, k2, k3, k4, k5⟩, was, idle⟩ 0)))) :
    (∃ fn, Tryz.prog.funcs[26]? = some fn ∧ fn.body.isSome = true) ∧ CSpec Tryz.prog 26 [.c (.ptr p0 0)] H K := by
  have e : evF Tryz.prog ownK5 10 20 26 [.c (.ptr 0 0)] ⟨cat [(true, .comp ⟨pc, none, at_, pos, w, now, none, none, none, ⟨k1, k2, k3, k4, k5⟩, was, idle⟩ cap)] 0, []⟩ (fun v H₁ => match lowV v with
    | true => (shComp2 H₁ 0 fun x' c => match chkAll [(true, .comp ⟨pc, none, at_, pos, w, now, none, none, none, ⟨k1, k2, k3, k4, k5⟩, was, idle⟩ cap)] [c] [] with
        | true => K v (H.put p0 (.obj (.comp x'.1 x'.2)))
        | false => False)
    | false => False) := cast (by kernel_rfl) h
  exact ask_ok ownK5_ok (mk := fun r : PComp × Nat => .comp r.1 r.2) (x := (⟨pc, none, at_, pos, w, now, none, none, none, ⟨k1, k2, k3, k4, k5⟩, was, idle⟩, cap)) (fun _ _ _ => shComp2_ok) (rest := []) rfl hp e

theorem compIdle1000 {H : LH} {K : LV → LH → Prop} {p0 cap : Nat} {pc at_ pos w now k1 k2 k3 k4 k5 idle : Int} {was : PWk} {seen : PSeenL} (hp : H.get p0 = some (.obj (.comp ⟨pc, some seen, at_, pos, w, now, none, none, none, ⟨k1, k2, k3, k4, k5⟩, was, idle⟩ cap))) (h : K (.c (cI idle)) (H.put p0 (.obj (.comp ⟨pc, some seen, at_, pos, w, now, none, none, none, ⟨k1, k2, k3, k4, k5⟩, was, idle⟩ cap)))) :
    (∃ fn, Tryz.prog.funcs[26]? = some fn ∧ fn.body.isSome = true) ∧ CSpec Tryz.prog 26 [.c (.ptr p0 0)] H K := by
  have e : evF Tryz.prog ownK5 10 20 26 [.c (.ptr 0 0)] ⟨cat [(true, .comp ⟨pc, some seen, at_, pos, w, now, none, none, none, ⟨k1, k2, k3, k4, k5⟩, was, idle⟩ cap)] 0, []⟩ (fun v H₁ => match lowV v with
    | true => (shComp2 H₁ 0 fun x' c => match chkAll [(true, .comp ⟨pc, some seen, at_, pos, w, now, none, none, none, ⟨k1, k2, k3, k4, k5⟩, was, idle⟩ cap)] [c] [] with
        | true => K v (H.put p0 (.obj (.comp x'.1 x'.2)))
        | false => False)
    | false => False) := cast (by kernel_rfl) (show (seen.len = seen.len ∧ cap = cap) ∧ K (.c (cI idle)) (H.put p0 (.obj (.comp ⟨pc, some seen, at_, pos, w, now, none, none, none, ⟨k1, k2, k3, k4, k5⟩, was, idle⟩ cap))) from ⟨⟨rfl, rfl⟩, h⟩)
  exact ask_ok ownK5_ok (mk := fun r : PComp × Nat => .comp r.1 r.2) (x := (⟨pc, some seen, at_, pos, w, now, none, none, none, ⟨k1, k2, k3, k4, k5⟩, was, idle⟩, cap)) (fun _ _ _ => shComp2_ok) (rest := []) rfl hp e

theorem compIdle0100 {H : LH} {K : LV → LH → Prop} {p0 cap : Nat} {pc at_ pos w now k1 k2 k3 k4 k5 idle : Int} {was : PWk} {m : PMove} (hp : H.get p0 = some (.obj (.comp ⟨pc, none, at_, pos, w, now, some m, none, none, ⟨k1, k2, k3, k4, k5⟩, was, idle⟩ cap))) (h : K (.c (cI idle)) (H.put p0 (.obj (.comp ⟨pc, none, at_, pos, w, now, some m, none, none, ⟨k1, k2, k3, k4, k5⟩, was, idle⟩ 0)))) :
    (∃ fn, Tryz.prog.funcs[26]? = some fn ∧ fn.body.isSome = true) ∧ CSpec Tryz.prog 26 [.c (.ptr p0 0)] H K := by
  have e : evF Tryz.prog ownK5 10 20 26 [.c (.ptr 0 0)] ⟨cat [(true, .comp ⟨pc, none, at_, pos, w, now, some m, none, none, ⟨k1, k2, k3, k4, k5⟩, was, idle⟩ cap)] 0, []⟩ (fun v H₁ => match lowV v with
    | true => (shComp2 H₁ 0 fun x' c => match chkAll [(true, .comp ⟨pc, none, at_, pos, w, now, some m, none, none, ⟨k1, k2, k3, k4, k5⟩, was, idle⟩ cap)] [c] [] with
        | true => K v (H.put p0 (.obj (.comp x'.1 x'.2)))
        | false => False)
    | false => False) := cast (by kernel_rfl) h
  exact ask_ok ownK5_ok (mk := fun r : PComp × Nat => .comp r.1 r.2) (x := (⟨pc, none, at_, pos, w, now, some m, none, none, ⟨k1, k2, k3, k4, k5⟩, was, idle⟩, cap)) (fun _ _ _ => shComp2_ok) (rest := []) rfl hp e

theorem compIdle1100 {H : LH} {K : LV → LH → Prop} {p0 cap : Nat} {pc at_ pos w now k1 k2 k3 k4 k5 idle : Int} {was : PWk} {seen : PSeenL} {m : PMove} (hp : H.get p0 = some (.obj (.comp ⟨pc, some seen, at_, pos, w, now, some m, none, none, ⟨k1, k2, k3, k4, k5⟩, was, idle⟩ cap))) (h : K (.c (cI idle)) (H.put p0 (.obj (.comp ⟨pc, some seen, at_, pos, w, now, some m, none, none, ⟨k1, k2, k3, k4, k5⟩, was, idle⟩ cap)))) :
    (∃ fn, Tryz.prog.funcs[26]? = some fn ∧ fn.body.isSome = true) ∧ CSpec Tryz.prog 26 [.c (.ptr p0 0)] H K := by
  have e : evF Tryz.prog ownK5 10 20 26 [.c (.ptr 0 0)] ⟨cat [(true, .comp ⟨pc, some seen, at_, pos, w, now, some m, none, none, ⟨k1, k2, k3, k4, k5⟩, was, idle⟩ cap)] 0, []⟩ (fun v H₁ => match lowV v with
    | true => (shComp2 H₁ 0 fun x' c => match chkAll [(true, .comp ⟨pc, some seen, at_, pos, w, now, some m, none, none, ⟨k1, k2, k3, k4, k5⟩, was, idle⟩ cap)] [c] [] with
        | true => K v (H.put p0 (.obj (.comp x'.1 x'.2)))
        | false => False)
    | false => False) := cast (by kernel_rfl) (show (seen.len = seen.len ∧ cap = cap) ∧ K (.c (cI idle)) (H.put p0 (.obj (.comp ⟨pc, some seen, at_, pos, w, now, some m, none, none, ⟨k1, k2, k3, k4, k5⟩, was, idle⟩ cap))) from ⟨⟨rfl, rfl⟩, h⟩)
  exact ask_ok ownK5_ok (mk := fun r : PComp × Nat => .comp r.1 r.2) (x := (⟨pc, some seen, at_, pos, w, now, some m, none, none, ⟨k1, k2, k3, k4, k5⟩, was, idle⟩, cap)) (fun _ _ _ => shComp2_ok) (rest := []) rfl hp e

theorem compIdle0010 {H : LH} {K : LV → LH → Prop} {p0 cap : Nat} {pc at_ pos w now k1 k2 k3 k4 k5 idle : Int} {was : PWk} {a : PAdv} (hp : H.get p0 = some (.obj (.comp ⟨pc, none, at_, pos, w, now, none, some a, none, ⟨k1, k2, k3, k4, k5⟩, was, idle⟩ cap))) (h : K (.c (cI idle)) (H.put p0 (.obj (.comp ⟨pc, none, at_, pos, w, now, none, some a, none, ⟨k1, k2, k3, k4, k5⟩, was, idle⟩ 0)))) :
    (∃ fn, Tryz.prog.funcs[26]? = some fn ∧ fn.body.isSome = true) ∧ CSpec Tryz.prog 26 [.c (.ptr p0 0)] H K := by
  have e : evF Tryz.prog ownK5 10 20 26 [.c (.ptr 0 0)] ⟨cat [(true, .comp ⟨pc, none, at_, pos, w, now, none, some a, none, ⟨k1, k2, k3, k4, k5⟩, was, idle⟩ cap)] 0, []⟩ (fun v H₁ => match lowV v with
    | true => (shComp2 H₁ 0 fun x' c => match chkAll [(true, .comp ⟨pc, none, at_, pos, w, now, none, some a, none, ⟨k1, k2, k3, k4, k5⟩, was, idle⟩ cap)] [c] [] with
        | true => K v (H.put p0 (.obj (.comp x'.1 x'.2)))
        | false => False)
    | false => False) := cast (by kernel_rfl) h
  exact ask_ok ownK5_ok (mk := fun r : PComp × Nat => .comp r.1 r.2) (x := (⟨pc, none, at_, pos, w, now, none, some a, none, ⟨k1, k2, k3, k4, k5⟩, was, idle⟩, cap)) (fun _ _ _ => shComp2_ok) (rest := []) rfl hp e

theorem compIdle1010 {H : LH} {K : LV → LH → Prop} {p0 cap : Nat} {pc at_ pos w now k1 k2 k3 k4 k5 idle : Int} {was : PWk} {seen : PSeenL} {a : PAdv} (hp : H.get p0 = some (.obj (.comp ⟨pc, some seen, at_, pos, w, now, none, some a, none, ⟨k1, k2, k3, k4, k5⟩, was, idle⟩ cap))) (h : K (.c (cI idle)) (H.put p0 (.obj (.comp ⟨pc, some seen, at_, pos, w, now, none, some a, none, ⟨k1, k2, k3, k4, k5⟩, was, idle⟩ cap)))) :
    (∃ fn, Tryz.prog.funcs[26]? = some fn ∧ fn.body.isSome = true) ∧ CSpec Tryz.prog 26 [.c (.ptr p0 0)] H K := by
  have e : evF Tryz.prog ownK5 10 20 26 [.c (.ptr 0 0)] ⟨cat [(true, .comp ⟨pc, some seen, at_, pos, w, now, none, some a, none, ⟨k1, k2, k3, k4, k5⟩, was, idle⟩ cap)] 0, []⟩ (fun v H₁ => match lowV v with
    | true => (shComp2 H₁ 0 fun x' c => match chkAll [(true, .comp ⟨pc, some seen, at_, pos, w, now, none, some a, none, ⟨k1, k2, k3, k4, k5⟩, was, idle⟩ cap)] [c] [] with
        | true => K v (H.put p0 (.obj (.comp x'.1 x'.2)))
        | false => False)
    | false => False) := cast (by kernel_rfl) (show (seen.len = seen.len ∧ cap = cap) ∧ K (.c (cI idle)) (H.put p0 (.obj (.comp ⟨pc, some seen, at_, pos, w, now, none, some a, none, ⟨k1, k2, k3, k4, k5⟩, was, idle⟩ cap))) from ⟨⟨rfl, rfl⟩, h⟩)
  exact ask_ok ownK5_ok (mk := fun r : PComp × Nat => .comp r.1 r.2) (x := (⟨pc, some seen, at_, pos, w, now, none, some a, none, ⟨k1, k2, k3, k4, k5⟩, was, idle⟩, cap)) (fun _ _ _ => shComp2_ok) (rest := []) rfl hp e

theorem compIdle0110 {H : LH} {K : LV → LH → Prop} {p0 cap : Nat} {pc at_ pos w now k1 k2 k3 k4 k5 idle : Int} {was : PWk} {m : PMove} {a : PAdv} (hp : H.get p0 = some (.obj (.comp ⟨pc, none, at_, pos, w, now, some m, some a, none, ⟨k1, k2, k3, k4, k5⟩, was, idle⟩ cap))) (h : K (.c (cI idle)) (H.put p0 (.obj (.comp ⟨pc, none, at_, pos, w, now, some m, some a, none, ⟨k1, k2, k3, k4, k5⟩, was, idle⟩ 0)))) :
    (∃ fn, Tryz.prog.funcs[26]? = some fn ∧ fn.body.isSome = true) ∧ CSpec Tryz.prog 26 [.c (.ptr p0 0)] H K := by
  have e : evF Tryz.prog ownK5 10 20 26 [.c (.ptr 0 0)] ⟨cat [(true, .comp ⟨pc, none, at_, pos, w, now, some m, some a, none, ⟨k1, k2, k3, k4, k5⟩, was, idle⟩ cap)] 0, []⟩ (fun v H₁ => match lowV v with
    | true => (shComp2 H₁ 0 fun x' c => match chkAll [(true, .comp ⟨pc, none, at_, pos, w, now, some m, some a, none, ⟨k1, k2, k3, k4, k5⟩, was, idle⟩ cap)] [c] [] with
        | true => K v (H.put p0 (.obj (.comp x'.1 x'.2)))
        | false => False)
    | false => False) := cast (by kernel_rfl) h
  exact ask_ok ownK5_ok (mk := fun r : PComp × Nat => .comp r.1 r.2) (x := (⟨pc, none, at_, pos, w, now, some m, some a, none, ⟨k1, k2, k3, k4, k5⟩, was, idle⟩, cap)) (fun _ _ _ => shComp2_ok) (rest := []) rfl hp e

theorem compIdle1110 {H : LH} {K : LV → LH → Prop} {p0 cap : Nat} {pc at_ pos w now k1 k2 k3 k4 k5 idle : Int} {was : PWk} {seen : PSeenL} {m : PMove} {a : PAdv} (hp : H.get p0 = some (.obj (.comp ⟨pc, some seen, at_, pos, w, now, some m, some a, none, ⟨k1, k2, k3, k4, k5⟩, was, idle⟩ cap))) (h : K (.c (cI idle)) (H.put p0 (.obj (.comp ⟨pc, some seen, at_, pos, w, now, some m, some a, none, ⟨k1, k2, k3, k4, k5⟩, was, idle⟩ cap)))) :
    (∃ fn, Tryz.prog.funcs[26]? = some fn ∧ fn.body.isSome = true) ∧ CSpec Tryz.prog 26 [.c (.ptr p0 0)] H K := by
  have e : evF Tryz.prog ownK5 10 20 26 [.c (.ptr 0 0)] ⟨cat [(true, .comp ⟨pc, some seen, at_, pos, w, now, some m, some a, none, ⟨k1, k2, k3, k4, k5⟩, was, idle⟩ cap)] 0, []⟩ (fun v H₁ => match lowV v with
    | true => (shComp2 H₁ 0 fun x' c => match chkAll [(true, .comp ⟨pc, some seen, at_, pos, w, now, some m, some a, none, ⟨k1, k2, k3, k4, k5⟩, was, idle⟩ cap)] [c] [] with
        | true => K v (H.put p0 (.obj (.comp x'.1 x'.2)))
        | false => False)
    | false => False) := cast (by kernel_rfl) (show (seen.len = seen.len ∧ cap = cap) ∧ K (.c (cI idle)) (H.put p0 (.obj (.comp ⟨pc, some seen, at_, pos, w, now, some m, some a, none, ⟨k1, k2, k3, k4, k5⟩, was, idle⟩ cap))) from ⟨⟨rfl, rfl⟩, h⟩)
  exact ask_ok ownK5_ok (mk := fun r : PComp × Nat => .comp r.1 r.2) (x := (⟨pc, some seen, at_, pos, w, now, some m, some a, none, ⟨k1, k2, k3, k4, k5⟩, was, idle⟩, cap)) (fun _ _ _ => shComp2_ok) (rest := []) rfl hp e

theorem compIdle0001 {H : LH} {K : LV → LH → Prop} {p0 cap : Nat} {pc at_ pos w now k1 k2 k3 k4 k5 idle : Int} {was : PWk} {s : PSettle} (hp : H.get p0 = some (.obj (.comp ⟨pc, none, at_, pos, w, now, none, none, some s, ⟨k1, k2, k3, k4, k5⟩, was, idle⟩ cap))) (h : K (.c (cI idle)) (H.put p0 (.obj (.comp ⟨pc, none, at_, pos, w, now, none, none, some s, ⟨k1, k2, k3, k4, k5⟩, was, idle⟩ 0)))) :
    (∃ fn, Tryz.prog.funcs[26]? = some fn ∧ fn.body.isSome = true) ∧ CSpec Tryz.prog 26 [.c (.ptr p0 0)] H K := by
  have e : evF Tryz.prog ownK5 10 20 26 [.c (.ptr 0 0)] ⟨cat [(true, .comp ⟨pc, none, at_, pos, w, now, none, none, some s, ⟨k1, k2, k3, k4, k5⟩, was, idle⟩ cap)] 0, []⟩ (fun v H₁ => match lowV v with
    | true => (shComp2 H₁ 0 fun x' c => match chkAll [(true, .comp ⟨pc, none, at_, pos, w, now, none, none, some s, ⟨k1, k2, k3, k4, k5⟩, was, idle⟩ cap)] [c] [] with
        | true => K v (H.put p0 (.obj (.comp x'.1 x'.2)))
        | false => False)
    | false => False) := cast (by kernel_rfl) h
  exact ask_ok ownK5_ok (mk := fun r : PComp × Nat => .comp r.1 r.2) (x := (⟨pc, none, at_, pos, w, now, none, none, some s, ⟨k1, k2, k3, k4, k5⟩, was, idle⟩, cap)) (fun _ _ _ => shComp2_ok) (rest := []) rfl hp e

theorem compIdle1001 {H : LH} {K : LV → LH → Prop} {p0 cap : Nat} {pc at_ pos w now k1 k2 k3 k4 k5 idle : Int} {was : PWk} {seen : PSeenL} {s : PSettle} (hp : H.get p0 = some (.obj (.comp ⟨pc, some seen, at_, pos, w, now, none, none, some s, ⟨k1, k2, k3, k4, k5⟩, was, idle⟩ cap))) (h : K (.c (cI idle)) (H.put p0 (.obj (.comp ⟨pc, some seen, at_, pos, w, now, none, none, some s, ⟨k1, k2, k3, k4, k5⟩, was, idle⟩ cap)))) :
    (∃ fn, Tryz.prog.funcs[26]? = some fn ∧ fn.body.isSome = true) ∧ CSpec Tryz.prog 26 [.c (.ptr p0 0)] H K := by
  have e : evF Tryz.prog ownK5 10 20 26 [.c (.ptr 0 0)] ⟨cat [(true, .comp ⟨pc, some seen, at_, pos, w, now, none, none, some s, ⟨k1, k2, k3, k4, k5⟩, was, idle⟩ cap)] 0, []⟩ (fun v H₁ => match lowV v with
    | true => (shComp2 H₁ 0 fun x' c => match chkAll [(true, .comp ⟨pc, some seen, at_, pos, w, now, none, none, some s, ⟨k1, k2, k3, k4, k5⟩, was, idle⟩ cap)] [c] [] with
        | true => K v (H.put p0 (.obj (.comp x'.1 x'.2)))
        | false => False)
    | false => False) := cast (by kernel_rfl) (show (seen.len = seen.len ∧ cap = cap) ∧ K (.c (cI idle)) (H.put p0 (.obj (.comp ⟨pc, some seen, at_, pos, w, now, none, none, some s, ⟨k1, k2, k3, k4, k5⟩, was, idle⟩ cap))) from ⟨⟨rfl, rfl⟩, h⟩)
  exact ask_ok ownK5_ok (mk := fun r : PComp × Nat => .comp r.1 r.2) (x := (⟨pc, some seen, at_, pos, w, now, none, none, some s, ⟨k1, k2, k3, k4, k5⟩, was, idle⟩, cap)) (fun _ _ _ => shComp2_ok) (rest := []) rfl hp e

theorem compIdle0101 {H : LH} {K : LV → LH → Prop} {p0 cap : Nat} {pc at_ pos w now k1 k2 k3 k4 k5 idle : Int} {was : PWk} {m : PMove} {s : PSettle} (hp : H.get p0 = some (.obj (.comp ⟨pc, none, at_, pos, w, now, some m, none, some s, ⟨k1, k2, k3, k4, k5⟩, was, idle⟩ cap))) (h : K (.c (cI idle)) (H.put p0 (.obj (.comp ⟨pc, none, at_, pos, w, now, some m, none, some s, ⟨k1, k2, k3, k4, k5⟩, was, idle⟩ 0)))) :
    (∃ fn, Tryz.prog.funcs[26]? = some fn ∧ fn.body.isSome = true) ∧ CSpec Tryz.prog 26 [.c (.ptr p0 0)] H K := by
  have e : evF Tryz.prog ownK5 10 20 26 [.c (.ptr 0 0)] ⟨cat [(true, .comp ⟨pc, none, at_, pos, w, now, some m, none, some s, ⟨k1, k2, k3, k4, k5⟩, was, idle⟩ cap)] 0, []⟩ (fun v H₁ => match lowV v with
    | true => (shComp2 H₁ 0 fun x' c => match chkAll [(true, .comp ⟨pc, none, at_, pos, w, now, some m, none, some s, ⟨k1, k2, k3, k4, k5⟩, was, idle⟩ cap)] [c] [] with
        | true => K v (H.put p0 (.obj (.comp x'.1 x'.2)))
        | false => False)
    | false => False) := cast (by kernel_rfl) h
  exact ask_ok ownK5_ok (mk := fun r : PComp × Nat => .comp r.1 r.2) (x := (⟨pc, none, at_, pos, w, now, some m, none, some s, ⟨k1, k2, k3, k4, k5⟩, was, idle⟩, cap)) (fun _ _ _ => shComp2_ok) (rest := []) rfl hp e

theorem compIdle1101 {H : LH} {K : LV → LH → Prop} {p0 cap : Nat} {pc at_ pos w now k1 k2 k3 k4 k5 idle : Int} {was : PWk} {seen : PSeenL} {m : PMove} {s : PSettle} (hp : H.get p0 = some (.obj (.comp ⟨pc, some seen, at_, pos, w, now, some m, none, some s, ⟨k1, k2, k3, k4, k5⟩, was, idle⟩ cap))) (h : K (.c (cI idle)) (H.put p0 (.obj (.comp ⟨pc, some seen, at_, pos, w, now, some m, none, some s, ⟨k1, k2, k3, k4, k5⟩, was, idle⟩ cap)))) :
    (∃ fn, Tryz.prog.funcs[26]? = some fn ∧ fn.body.isSome = true) ∧ CSpec Tryz.prog 26 [.c (.ptr p0 0)] H K := by
  have e : evF Tryz.prog ownK5 10 20 26 [.c (.ptr 0 0)] ⟨cat [(true, .comp ⟨pc, some seen, at_, pos, w, now, some m, none, some s, ⟨k1, k2, k3, k4, k5⟩, was, idle⟩ cap)] 0, []⟩ (fun v H₁ => match lowV v with
    | true => (shComp2 H₁ 0 fun x' c => match chkAll [(true, .comp ⟨pc, some seen, at_, pos, w, now, some m, none, some s, ⟨k1, k2, k3, k4, k5⟩, was, idle⟩ cap)] [c] [] with
        | true => K v (H.put p0 (.obj (.comp x'.1 x'.2)))
        | false => False)
    | false => False) := cast (by kernel_rfl) (show (seen.len = seen.len ∧ cap = cap) ∧ K (.c (cI idle)) (H.put p0 (.obj (.comp ⟨pc, some seen, at_, pos, w, now, some m, none, some s, ⟨k1, k2, k3, k4, k5⟩, was, idle⟩ cap))) from ⟨⟨rfl, rfl⟩, h⟩)
  exact ask_ok ownK5_ok (mk := fun r : PComp × Nat => .comp r.1 r.2) (x := (⟨pc, some seen, at_, pos, w, now, some m, none, some s, ⟨k1, k2, k3, k4, k5⟩, was, idle⟩, cap)) (fun _ _ _ => shComp2_ok) (rest := []) rfl hp e

theorem compIdle0011 {H : LH} {K : LV → LH → Prop} {p0 cap : Nat} {pc at_ pos w now k1 k2 k3 k4 k5 idle : Int} {was : PWk} {a : PAdv} {s : PSettle} (hp : H.get p0 = some (.obj (.comp ⟨pc, none, at_, pos, w, now, none, some a, some s, ⟨k1, k2, k3, k4, k5⟩, was, idle⟩ cap))) (h : K (.c (cI idle)) (H.put p0 (.obj (.comp ⟨pc, none, at_, pos, w, now, none, some a, some s, ⟨k1, k2, k3, k4, k5⟩, was, idle⟩ 0)))) :
    (∃ fn, Tryz.prog.funcs[26]? = some fn ∧ fn.body.isSome = true) ∧ CSpec Tryz.prog 26 [.c (.ptr p0 0)] H K := by
  have e : evF Tryz.prog ownK5 10 20 26 [.c (.ptr 0 0)] ⟨cat [(true, .comp ⟨pc, none, at_, pos, w, now, none, some a, some s, ⟨k1, k2, k3, k4, k5⟩, was, idle⟩ cap)] 0, []⟩ (fun v H₁ => match lowV v with
    | true => (shComp2 H₁ 0 fun x' c => match chkAll [(true, .comp ⟨pc, none, at_, pos, w, now, none, some a, some s, ⟨k1, k2, k3, k4, k5⟩, was, idle⟩ cap)] [c] [] with
        | true => K v (H.put p0 (.obj (.comp x'.1 x'.2)))
        | false => False)
    | false => False) := cast (by kernel_rfl) h
  exact ask_ok ownK5_ok (mk := fun r : PComp × Nat => .comp r.1 r.2) (x := (⟨pc, none, at_, pos, w, now, none, some a, some s, ⟨k1, k2, k3, k4, k5⟩, was, idle⟩, cap)) (fun _ _ _ => shComp2_ok) (rest := []) rfl hp e

theorem compIdle1011 {H : LH} {K : LV → LH → Prop} {p0 cap : Nat} {pc at_ pos w now k1 k2 k3 k4 k5 idle : Int} {was : PWk} {seen : PSeenL} {a : PAdv} {s : PSettle} (hp : H.get p0 = some (.obj (.comp ⟨pc, some seen, at_, pos, w, now, none, some a, some s, ⟨k1, k2, k3, k4, k5⟩, was, idle⟩ cap))) (h : K (.c (cI idle)) (H.put p0 (.obj (.comp ⟨pc, some seen, at_, pos, w, now, none, some a, some s, ⟨k1, k2, k3, k4, k5⟩, was, idle⟩ cap)))) :
    (∃ fn, Tryz.prog.funcs[26]? = some fn ∧ fn.body.isSome = true) ∧ CSpec Tryz.prog 26 [.c (.ptr p0 0)] H K := by
  have e : evF Tryz.prog ownK5 10 20 26 [.c (.ptr 0 0)] ⟨cat [(true, .comp ⟨pc, some seen, at_, pos, w, now, none, some a, some s, ⟨k1, k2, k3, k4, k5⟩, was, idle⟩ cap)] 0, []⟩ (fun v H₁ => match lowV v with
    | true => (shComp2 H₁ 0 fun x' c => match chkAll [(true, .comp ⟨pc, some seen, at_, pos, w, now, none, some a, some s, ⟨k1, k2, k3, k4, k5⟩, was, idle⟩ cap)] [c] [] with
        | true => K v (H.put p0 (.obj (.comp x'.1 x'.2)))
        | false => False)
    | false => False) := cast (by kernel_rfl) (show (seen.len = seen.len ∧ cap = cap) ∧ K (.c (cI idle)) (H.put p0 (.obj (.comp ⟨pc, some seen, at_, pos, w, now, none, some a, some s, ⟨k1, k2, k3, k4, k5⟩, was, idle⟩ cap))) from ⟨⟨rfl, rfl⟩, h⟩)
  exact ask_ok ownK5_ok (mk := fun r : PComp × Nat => .comp r.1 r.2) (x := (⟨pc, some seen, at_, pos, w, now, none, some a, some s, ⟨k1, k2, k3, k4, k5⟩, was, idle⟩, cap)) (fun _ _ _ => shComp2_ok) (rest := []) rfl hp e

theorem compIdle0111 {H : LH} {K : LV → LH → Prop} {p0 cap : Nat} {pc at_ pos w now k1 k2 k3 k4 k5 idle : Int} {was : PWk} {m : PMove} {a : PAdv} {s : PSettle} (hp : H.get p0 = some (.obj (.comp ⟨pc, none, at_, pos, w, now, some m, some a, some s, ⟨k1, k2, k3, k4, k5⟩, was, idle⟩ cap))) (h : K (.c (cI idle)) (H.put p0 (.obj (.comp ⟨pc, none, at_, pos, w, now, some m, some a, some s, ⟨k1, k2, k3, k4, k5⟩, was, idle⟩ 0)))) :
    (∃ fn, Tryz.prog.funcs[26]? = some fn ∧ fn.body.isSome = true) ∧ CSpec Tryz.prog 26 [.c (.ptr p0 0)] H K := by
  have e : evF Tryz.prog ownK5 10 20 26 [.c (.ptr 0 0)] ⟨cat [(true, .comp ⟨pc, none, at_, pos, w, now, some m, some a, some s, ⟨k1, k2, k3, k4, k5⟩, was, idle⟩ cap)] 0, []⟩ (fun v H₁ => match lowV v with
    | true => (shComp2 H₁ 0 fun x' c => match chkAll [(true, .comp ⟨pc, none, at_, pos, w, now, some m, some a, some s, ⟨k1, k2, k3, k4, k5⟩, was, idle⟩ cap)] [c] [] with
        | true => K v (H.put p0 (.obj (.comp x'.1 x'.2)))
        | false => False)
    | false => False) := cast (by kernel_rfl) h
  exact ask_ok ownK5_ok (mk := fun r : PComp × Nat => .comp r.1 r.2) (x := (⟨pc, none, at_, pos, w, now, some m, some a, some s, ⟨k1, k2, k3, k4, k5⟩, was, idle⟩, cap)) (fun _ _ _ => shComp2_ok) (rest := []) rfl hp e

theorem compIdle1111 {H : LH} {K : LV → LH → Prop} {p0 cap : Nat} {pc at_ pos w now k1 k2 k3 k4 k5 idle : Int} {was : PWk} {seen : PSeenL} {m : PMove} {a : PAdv} {s : PSettle} (hp : H.get p0 = some (.obj (.comp ⟨pc, some seen, at_, pos, w, now, some m, some a, some s, ⟨k1, k2, k3, k4, k5⟩, was, idle⟩ cap))) (h : K (.c (cI idle)) (H.put p0 (.obj (.comp ⟨pc, some seen, at_, pos, w, now, some m, some a, some s, ⟨k1, k2, k3, k4, k5⟩, was, idle⟩ cap)))) :
    (∃ fn, Tryz.prog.funcs[26]? = some fn ∧ fn.body.isSome = true) ∧ CSpec Tryz.prog 26 [.c (.ptr p0 0)] H K := by
  have e : evF Tryz.prog ownK5 10 20 26 [.c (.ptr 0 0)] ⟨cat [(true, .comp ⟨pc, some seen, at_, pos, w, now, some m, some a, some s, ⟨k1, k2, k3, k4, k5⟩, was, idle⟩ cap)] 0, []⟩ (fun v H₁ => match lowV v with
    | true => (shComp2 H₁ 0 fun x' c => match chkAll [(true, .comp ⟨pc, some seen, at_, pos, w, now, some m, some a, some s, ⟨k1, k2, k3, k4, k5⟩, was, idle⟩ cap)] [c] [] with
        | true => K v (H.put p0 (.obj (.comp x'.1 x'.2)))
        | false => False)
    | false => False) := cast (by kernel_rfl) (show (seen.len = seen.len ∧ cap = cap) ∧ K (.c (cI idle)) (H.put p0 (.obj (.comp ⟨pc, some seen, at_, pos, w, now, some m, some a, some s, ⟨k1, k2, k3, k4, k5⟩, was, idle⟩ cap))) from ⟨⟨rfl, rfl⟩, h⟩)
  exact ask_ok ownK5_ok (mk := fun r : PComp × Nat => .comp r.1 r.2) (x := (⟨pc, some seen, at_, pos, w, now, some m, some a, some s, ⟨k1, k2, k3, k4, k5⟩, was, idle⟩, cap)) (fun _ _ _ => shComp2_ok) (rest := []) rfl hp e

theorem h_compIdle_ok : HOK 26 h_compIdle := by
  intro args H K h
  unfold h_compIdle at h
  split at h
  · rename_i p0
    split at h
    · rename_i x cap hp
      obtain ⟨pc, seen, at_, pos, w, now, m, a, s, ⟨k1, k2, k3, k4, k5⟩, was, idle⟩ := x
      cases seen <;> cases m <;> cases a <;> cases s
      · exact compIdle0000 hp h
      · exact compIdle0001 hp h
      · exact compIdle0010 hp h
      · exact compIdle0011 hp h
      · exact compIdle0100 hp h
      · exact compIdle0101 hp h
      · exact compIdle0110 hp h
      · exact compIdle0111 hp h
      · exact compIdle1000 hp h
      · exact compIdle1001 hp h
      · exact compIdle1010 hp h
      · exact compIdle1011 hp h
      · exact compIdle1100 hp h
      · exact compIdle1101 hp h
      · exact compIdle1110 hp h
      · exact compIdle1111 hp h
    · exact h.elim
  · exact h.elim

def tabK6 : List (FuncId × Hd) := [(14, h_compNew), (16, h_compWork), (26, h_compIdle)] ++ tabK5
def ownK6 : FuncId → Option Hd := look tabK6
theorem allK6 : AllOK tabK6 := ⟨h_compNew_ok, h_compWork_ok, h_compIdle_ok, allK5⟩
theorem ownK6_ok : OwnOK Tryz.prog ownK6 := look_ok allK6

end Go.Proofs.YtfjnkneoddankaaGreat
