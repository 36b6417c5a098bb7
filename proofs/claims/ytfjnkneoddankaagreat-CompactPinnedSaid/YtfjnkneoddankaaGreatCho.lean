/-
  Which chunk is evacuated: policy.May, policy.Choose.
-/
import Derived.Test.YtfjnkneoddankaaGreatCan5
import Derived.Test.YtfjnkneoddankaaGreatEvReab
set_option linter.unusedVariables false
set_option linter.unusedSimpArgs false
set_option maxRecDepth 100000
namespace Go.FL

def mayM (c6 a c e : Int) (o : Bool) : Bool :=
  bif decide (a = 1) then bif !o then bif decide (0 < c) then bif decide (e ≤ 0) then true else decide (IntKind.wrap IntKind.i64 (1000 * e) < IntKind.wrap IntKind.i64 (c6 * c)) else false else false else false

def chAny (may : Nat → Bool) (lv : Nat → Int) (x : Int) : Nat → Nat → Bool
  | 0, _ => false
  | n + 1, k => bif may k then bif decide (lv k ≤ x) then true else chAny may lv x n (k + 1) else chAny may lv x n (k + 1)

def chStep (may : Nat → Bool) (lv : Nat → Int) (i : Nat) (best : Int) : Int :=
  bif may i then bif chAny may lv (lv i) i 0 then best else bif decide (0 ≤ best) then bif decide (lv best.toNat ≤ lv i) then best else i else i else best

def chRun (may : Nat → Bool) (lv : Nat → Int) : Nat → Nat → Int → Int
  | 0, _, b => b
  | n + 1, i, b => chRun may lv n (i + 1) (chStep may lv i b)

def chooseM (c6 : Int) (n : Nat) (st us lv : Nat → Int) (op : Nat → Bool) : Int := chRun (fun i => mayM c6 (st i) (us i) (lv i) (op i)) lv n 0 (-1)

theorem chAny_succ (may : Nat → Bool) (lv : Nat → Int) (x : Int) (n k : Nat) : chAny may lv x (n + 1) k = bif may k then bif decide (lv k ≤ x) then true else chAny may lv x n (k + 1) else chAny may lv x n (k + 1) := rfl

theorem chRun_succ (may : Nat → Bool) (lv : Nat → Int) (n i : Nat) (b : Int) : chRun may lv (n + 1) i b = chRun may lv n (i + 1) (chStep may lv i b) := rfl

theorem chStep_lt (may : Nat → Bool) (lv : Nat → Int) (i n : Nat) (b : Int) (hi : i < n) (hb : b < n) : chStep may lv i b < n := by
  have : (i : Int) < n := by exact_mod_cast hi
  unfold chStep
  simp only [Bool.cond_eq_ite]
  repeat' split
  all_goals assumption

section
variable {P : Program}

/-- A function that reads one block of rows, and changes none. -/
theorem CSpec.read {f : FuncId} {args args₁ : List LV} {H : LH} {K K₁ : LV → LH → Prop} {b : Nat} {e : TypeId} {w n cap : Nat} {cs : List LCol} (hb : H.get b = some (.rows e w n cap cs))
    (hargs : ∀ s s₁ vs, hd s₁ 0 = hd s b → RelVs s args vs → RelVs s₁ args₁ vs) (h : CSpec P f args₁ ⟨[.rows e w n cap cs], []⟩ K₁)
    (hK : ∀ v H', K₁ v H' → 0 ∉ H'.wr ∧ (∀ s s' u, RelV s v u → RelV s' v u) ∧ K v H) : CSpec P f args H K := by
  intro s vs wd hr hH
  rw [LH.get_eq] at hb
  have hbl := (List.getElem?_eq_some_iff.1 hb).1
  obtain ⟨r, fo, hs⟩ : ∃ r fo, s[b]? = some (r, fo) := ⟨_, _, List.getElem?_eq_getElem (by rw [hH.len]; exact hbl)⟩
  have hown : ∀ m y, ownB [(r, fo)] m y → m = 0 ∧ ownB s b y := by
    rintro m y ⟨q, g, hm, hy⟩
    cases m with
    | zero => simp at hm; obtain ⟨rfl, rfl⟩ := hm; exact ⟨rfl, _, _, hs, hy⟩
    | succ m => simp at hm
  have hrel : Rel [(r, fo)] ⟨[.rows e w n cap cs], []⟩ wd := by
    refine ⟨rfl, ?_, ?_, ?_⟩
    · intro m b' q g hm hq
      cases m with
      | zero =>
        simp at hm hq
        obtain ⟨rfl, rfl⟩ := hq
        subst hm
        cases hH.blk _ _ _ _ hb hs with
        | rows c ho hnc hc hw hl => exact .rows c ho hnc hc hw fun i hi => rowAt_free (hl i hi)
      | succ m => simp at hm
    · intro m k y hm hk
      rw [(hown m y hm).1, (hown k y hk).1]
    · intro m y hm
      exact hH.bnd b y (hown m y hm).2
  have h0 : hd [(r, fo)] 0 = hd s b := by unfold hd; rw [hs]; rfl
  refine (h [(r, fo)] vs wd (hargs _ _ _ h0 hr) hrel).mono ?_
  intro en w' he
  cases en with
  | panicked c => exact he.elim
  | outgrown => exact he.elim
  | returned v' =>
    obtain ⟨s', v, H', hk, hv, hH', hp⟩ := he
    obtain ⟨h1, h2, h3⟩ := hK v H' hk
    have hold : ∀ y, y < wd.heap.size → w'.heap[y]? = wd.heap[y]? := by
      intro y hy
      refine hp.frame y hy fun m hm ho => ?_
      have := (hown m y ho).1
      subst this
      exact h1 hm
    refine ⟨s, v, H, h3, h2 _ _ _ hv, ⟨hH.len, ?_, hH.dis, fun m y hm => Nat.lt_of_lt_of_le (hH.bnd m y hm) hp.size⟩, ⟨.refl s, Nat.le_refl _, fun m y hm _ => ⟨ownB_lt hm, hm⟩, fun _ _ _ => rfl, fun _ hm => hm, hp.size, fun y hy _ => hold y hy, hp.tape, hp.os, hp.output⟩⟩
    intro m b' q g hm hq
    exact (hH.blk _ _ _ _ hm hq).local fun y hy => hold y (hH.bnd m y ⟨q, g, hq, hy⟩)

end
end Go.FL

namespace Go.Proofs.YtfjnkneoddankaaGreat
open Go Go.FL Go.Proofs

theorem may_ev (c1 c2 c3 c4 c5 c6 c7 a b c d e : Int) (o : Bool) (K : Bool → Prop) :
    evF Tryz.prog own0 10 20 121 [.agg [.int .i64 c1, .int .i64 c2, .int .i64 c3, .int .i64 c4, .int .i64 c5, .int .i64 c6, .int .i64 c7], .agg [.int .i64 a, .int .i64 b, .int .i64 c, .int .i64 d, .int .i64 e, .bool o]] ⟨[], []⟩ (fun v _ => match v with | .c (.bool x) => K x | _ => False) =
    (bif decide (a = 1) then bif !o then bif decide (0 < c) then bif decide (e ≤ 0) then K true else K (decide (IntKind.wrap IntKind.i64 (1000 * e) < IntKind.wrap IntKind.i64 (c6 * c))) else K false else K false else K false) := by kernel_rfl

def h_may : Hd := fun args H K => match args with
  | [.agg [.int .i64 c1, .int .i64 c2, .int .i64 c3, .int .i64 c4, .int .i64 c5, .int .i64 c6, .int .i64 c7], .agg [.int .i64 a, .int .i64 b, .int .i64 c, .int .i64 d, .int .i64 e, .bool o]] => K (.c (.bool (mayM c6 a c e o))) H
  | _ => False

theorem h_may_ok : HOK 121 h_may := by
  intro args H K h
  unfold h_may at h
  split at h
  · rename_i c1 c2 c3 c4 c5 c6 c7 a b c d e o
    have e := (may_ev c1 c2 c3 c4 c5 c6 c7 a b c d e o (fun x => K (.c (.bool x)) H)).mpr (by
      unfold mayM at h
      revert h
      cases decide (a = 1) <;> cases o <;> cases decide (0 < c) <;> cases decide (e ≤ 0) <;> exact fun h => h)
    refine pure_ok (fuel := 10) (d := 20) own0_ok rfl e ?_
    intro v H₁ hv
    split at hv
    · exact ⟨rfl, hv⟩
    · exact hv.elim
  · exact h.elim

def tabK2 : List (FuncId × Hd) := (121, h_may) :: tabK1
def ownK2 : FuncId → Option Hd := look tabK2
theorem allK2 : AllOK tabK2 := ⟨h_may_ok, allK1⟩
theorem ownK2_ok : OwnOK Tryz.prog ownK2 := look_ok allK2

abbrev chF : FuncId := 90

abbrev chRows (n cap : Nat) (st cl us sp lv : Nat → Int) (op : Nat → Bool) : LB := .rows 138 6 n cap [.int .i64 st, .int .i64 cl, .int .i64 us, .int .i64 sp, .int .i64 lv, .bool op]
abbrev cfgB (c1 c2 c3 c4 c5 c6 c7 : Int) : LB := .cells 24 [.int .i64 c1, .int .i64 c2, .int .i64 c3, .int .i64 c4, .int .i64 c5, .int .i64 c6, .int .i64 c7]
abbrev chTi (n cap : Nat) (best i k : Int) : Tm := [(1, .c (.slice 0 0 n cap)), (2, .c (.ptr 1 0)), (5, .c (cI best)), (6, .c (cI i)), (7, .c (.ptr 2 0)), (9, .c (.slice 0 0 n cap)), (10, .c (cI n)), (11, .c (cI i)), (20, .c (cI i)), (21, .c (cI k))]
abbrev chTo (n cap : Nat) (best i : Int) : Tm := [(1, .c (.slice 0 0 n cap)), (2, .c (.ptr 1 0)), (5, .c (cI best)), (9, .c (.slice 0 0 n cap)), (10, .c (cI n)), (11, .c (cI i))]
abbrev chTx (n cap : Nat) (best i : Int) : Tm := [(1, .c (.slice 0 0 n cap)), (2, .c (.ptr 1 0)), (5, .c (cI best)), (6, .c (cI i)), (9, .c (.slice 0 0 n cap)), (10, .c (cI n)), (11, .c (cI i))]
abbrev seenB (a1 a2 a3 a4 a5 : Int) (a6 : Bool) : LB := .cells 138 [.int .i64 a1, .int .i64 a2, .int .i64 a3, .int .i64 a4, .int .i64 a5, .bool a6]

theorem chi_ev (c1 c2 c3 c4 c5 c6 c7 : Int) (n cap : Nat) (st cl us sp lv : Nat → Int) (op : Nat → Bool) (best i k a1 a2 a3 a4 a5 : Int) (a6 : Bool) (wr : List Nat) (q : X → Tm → LH → Prop) :
    evC Tryz.prog (evF Tryz.prog ownK2 10 20) (tmpsF Tryz.prog chF) noLo 10 (loopF Tryz.prog chF 1) (chTi n cap best i k) ⟨[chRows n cap st cl us sp lv op, cfgB c1 c2 c3 c4 c5 c6 c7, seenB a1 a2 a3 a4 a5 a6], wr⟩ (fun x T H => q x (Tm.norm [1,2,5,6,7,9,10,11,20,21] T) H) =
    (bif decide (k < i) then bif decide (0 ≤ k ∧ k < ↑n) then (k.toNat < n) ∧ (bif mayM c6 (st k.toNat) (us k.toNat) (lv k.toNat) (op k.toNat) then
        bif decide (0 ≤ k ∧ k < ↑n) then (k.toNat < n) ∧ (bif decide (lv k.toNat ≤ a5) then q (.exit 1) (chTi n cap best i k) ⟨[chRows n cap st cl us sp lv op, cfgB c1 c2 c3 c4 c5 c6 c7, seenB a1 a2 a3 a4 a5 a6], wr⟩
          else q .normal (chTi n cap best i (IntKind.wrap .i64 (k + 1))) ⟨[chRows n cap st cl us sp lv op, cfgB c1 c2 c3 c4 c5 c6 c7, seenB a1 a2 a3 a4 a5 a6], wr⟩) else False
        else q .normal (chTi n cap best i (IntKind.wrap .i64 (k + 1))) ⟨[chRows n cap st cl us sp lv op, cfgB c1 c2 c3 c4 c5 c6 c7, seenB a1 a2 a3 a4 a5 a6], wr⟩) else False
    else q (.exit 2) (chTi n cap best i k) ⟨[chRows n cap st cl us sp lv op, cfgB c1 c2 c3 c4 c5 c6 c7, seenB a1 a2 a3 a4 a5 a6], wr⟩) := by kernel_rfl

def lhChI : LHd := fun T H K => match Tm.norm [1,2,5,6,7,9,10,11,20,21] T with
  | [(1, .c (.slice 0 0 n cap)), (2, .c (.ptr 1 0)), (5, .c (.int .i64 best)), (6, .c (.int .i64 i)), (7, .c (.ptr 2 0)), (9, .c (.slice 0 0 n2 cap2)), (10, .c (.int .i64 n3)), (11, .c (.int .i64 i2)), (20, .c (.int .i64 i3)), (21, .c (.int .i64 k))] => match H.bl with
    | [.rows e 6 n4 cap3 [.int .i64 st, .int .i64 cl, .int .i64 us, .int .i64 sp, .int .i64 lv, .bool op], .cells t [.int .i64 c1, .int .i64 c2, .int .i64 c3, .int .i64 c4, .int .i64 c5, .int .i64 c6, .int .i64 c7], .cells t2 [.int .i64 a1, .int .i64 a2, .int .i64 a3, .int .i64 a4, .int .i64 a5, .bool a6]] =>
      ((n2 = n ∧ cap2 = cap ∧ n3 = n ∧ i2 = i ∧ i3 = i ∧ k = 0 ∧ n4 = n ∧ cap3 = cap) ∧ (e = 138 ∧ t = 24 ∧ t2 = 138) ∧ 0 ≤ i ∧ i ≤ n ∧ n ≤ 1048576) ∧
      (bif chAny (fun j => mayM c6 (st j) (us j) (lv j) (op j)) lv a5 i.toNat 0 then K (.exit 1) (chTx n cap best i) ⟨[chRows n cap st cl us sp lv op, cfgB c1 c2 c3 c4 c5 c6 c7, seenB a1 a2 a3 a4 a5 a6], H.wr⟩
        else K (.exit 2) (chTx n cap best i) ⟨[chRows n cap st cl us sp lv op, cfgB c1 c2 c3 c4 c5 c6 c7, seenB a1 a2 a3 a4 a5 a6], H.wr⟩)
    | _ => False
  | _ => False

theorem lhChI_ok : BodyOK Tryz.prog (tmpsF Tryz.prog chF) (.loop (loopF Tryz.prog chF 1)) lhChI := by
  refine loopN_ok (evC_ok fnOK mixed (evF_ok fnOK mixed ownK2_ok 10 20) _ (lo := noLo) 10 _ LoOK.no) ?_
  intro T H K h
  unfold lhChI at h
  split at h
  case h_2 => exact h.elim
  rename_i x n cap best i n2 cap2 n3 i2 i3 k hT
  split at h
  case h_2 => exact h.elim
  rename_i x' e n4 cap3 st cl us sp lv op t c1 c2 c3 c4 c5 c6 c7 t2 a1 a2 a3 a4 a5 a6 hH
  obtain ⟨⟨⟨rfl, rfl, rfl, rfl, rfl, rfl, rfl, rfl⟩, ⟨rfl, rfl, rfl⟩, h0, hin, hn⟩, h⟩ := h
  generalize hr : chAny (fun j => mayM c6 (st j) (us j) (lv j) (op j)) lv a5 i3.toNat 0 = r at h
  refine ⟨[1,2,5,6,7,9,10,11,20,21], [1,2,5,6,9,10,11], fun m T' H' => ∃ j : Nat, m = i3.toNat - j ∧ (j : Int) ≤ i3 ∧ T' = chTi n4 cap3 best i3 (j : Int) ∧ H' = ⟨[chRows n4 cap3 st cl us sp lv op, cfgB c1 c2 c3 c4 c5 c6 c7, seenB a1 a2 a3 a4 a5 a6], H.wr⟩ ∧
    chAny (fun j => mayM c6 (st j) (us j) (lv j) (op j)) lv a5 (i3.toNat - j) j = r, ⟨i3.toNat, 0, rfl, h0, hT, by cases H; simp only at hH; subst hH; rfl, hr⟩, ?_⟩
  rintro m T' H' ⟨j, rfl, hj, rfl, rfl, hrun⟩
  rw [chi_ev]
  by_cases hlt : (j : Int) < i3
  · have h1 : decide ((j : Int) < i3) = true := by simpa using hlt
    have h2 : decide (0 ≤ (j : Int) ∧ (j : Int) < (n4 : Int)) = true := by simp; omega
    obtain ⟨q, hq⟩ : ∃ q, i3.toNat - j = q + 1 := ⟨i3.toNat - (j + 1), by omega⟩
    have hq' : q = i3.toNat - (j + 1) := by omega
    rw [hq, chAny_succ] at hrun
    have hjn : j < n4 := by omega
    have hi : IntKind.i64.wrap ((j : Int) + 1) = ((j + 1 : Nat) : Int) := by rw [IntKind.wrap_i64]; omega
    simp only [h1, h2, cond_true, Int.toNat_natCast]
    have hnext : chAny (fun j => mayM c6 (st j) (us j) (lv j) (op j)) lv a5 q (j + 1) = r → loopK (fun m T' H' => ∃ j : Nat, m = i3.toNat - j ∧ (j : Int) ≤ i3 ∧ T' = chTi n4 cap3 best i3 (j : Int) ∧ H' = ⟨[chRows n4 cap3 st cl us sp lv op, cfgB c1 c2 c3 c4 c5 c6 c7, seenB a1 a2 a3 a4 a5 a6], H.wr⟩ ∧
        chAny (fun j => mayM c6 (st j) (us j) (lv j) (op j)) lv a5 (i3.toNat - j) j = r) K [1,2,5,6,9,10,11] (i3.toNat - j) .normal (chTi n4 cap3 best i3 (IntKind.wrap .i64 (j + 1))) ⟨[chRows n4 cap3 st cl us sp lv op, cfgB c1 c2 c3 c4 c5 c6 c7, seenB a1 a2 a3 a4 a5 a6], H.wr⟩ := by
      intro hc
      refine ⟨i3.toNat - (j + 1), by omega, j + 1, rfl, by omega, by rw [hi], rfl, ?_⟩
      rw [← hq']; exact hc
    refine ⟨hjn, ?_⟩
    cases hm : mayM c6 (st j) (us j) (lv j) (op j) with
    | false =>
      simp only [hm, cond_false] at hrun
      exact hnext hrun
    | true =>
      simp only [hm, cond_true] at hrun
      simp only [cond_true]
      refine ⟨hjn, ?_⟩
      cases hl : decide (lv j ≤ a5) with
      | false =>
        simp only [hl, cond_false] at hrun
        exact hnext hrun
      | true =>
        simp only [hl, cond_true] at hrun
        subst hrun
        exact ⟨H.wr, fun _ hn => hn, h⟩
  · have h1 : decide ((j : Int) < i3) = false := by simpa using hlt
    have hz : i3.toNat - j = 0 := by omega
    rw [hz] at hrun
    have hrun : false = r := hrun
    subst hrun
    simp only [h1, cond_false]
    exact ⟨H.wr, fun _ hn => hn, h⟩

theorem chb_ev (c1 c2 c3 c4 c5 c6 c7 : Int) (n cap : Nat) (st cl us sp lv : Nat → Int) (op : Nat → Bool) (best i : Int) (wr : List Nat) (q : X → Tm → LH → Prop) :
    evC Tryz.prog (evF Tryz.prog ownK2 10 20) (tmpsF Tryz.prog chF) (fun _ => some lhChI) 10 (loopF Tryz.prog chF 0) (chTo n cap best i) ⟨[chRows n cap st cl us sp lv op, cfgB c1 c2 c3 c4 c5 c6 c7], wr⟩ (fun x T H => q x (Tm.norm [1,2,5,9,10,11] T) H) =
    (bif decide (i < ↑n) then bif decide (0 ≤ i ∧ i < ↑n) then (i.toNat < n) ∧ (bif !mayM c6 (st i.toNat) (us i.toNat) (lv i.toNat) (op i.toNat) then
        q .normal (chTo n cap best (IntKind.wrap .i64 (i + 1))) ⟨[chRows n cap st cl us sp lv op, cfgB c1 c2 c3 c4 c5 c6 c7, seenB (st i.toNat) (cl i.toNat) (us i.toNat) (sp i.toNat) (lv i.toNat) (op i.toNat)], 2 :: wr⟩
      else ((n = n ∧ cap = cap ∧ (n : Int) = n ∧ i = i ∧ i = i ∧ (0 : Int) = 0 ∧ n = n ∧ cap = cap) ∧ (138 = 138 ∧ 24 = 24 ∧ 138 = 138) ∧ 0 ≤ i ∧ i ≤ n ∧ n ≤ 1048576) ∧
        (bif chAny (fun j => mayM c6 (st j) (us j) (lv j) (op j)) lv (lv i.toNat) i.toNat 0 then
          q .normal (chTo n cap best (IntKind.wrap .i64 (i + 1))) ⟨[chRows n cap st cl us sp lv op, cfgB c1 c2 c3 c4 c5 c6 c7, seenB (st i.toNat) (cl i.toNat) (us i.toNat) (sp i.toNat) (lv i.toNat) (op i.toNat)], 2 :: wr⟩
        else bif decide (0 ≤ best) then bif decide (0 ≤ best ∧ best < ↑n) then (best.toNat < n) ∧ (bif decide (0 ≤ i ∧ i < ↑n) then (i.toNat < n) ∧ (bif decide (lv best.toNat ≤ lv i.toNat) then
              q .normal (chTo n cap best (IntKind.wrap .i64 (i + 1))) ⟨[chRows n cap st cl us sp lv op, cfgB c1 c2 c3 c4 c5 c6 c7, seenB (st i.toNat) (cl i.toNat) (us i.toNat) (sp i.toNat) (lv i.toNat) (op i.toNat)], 2 :: wr⟩
            else q .normal (chTo n cap i (IntKind.wrap .i64 (i + 1))) ⟨[chRows n cap st cl us sp lv op, cfgB c1 c2 c3 c4 c5 c6 c7, seenB (st i.toNat) (cl i.toNat) (us i.toNat) (sp i.toNat) (lv i.toNat) (op i.toNat)], 2 :: wr⟩) else False) else False
          else q .normal (chTo n cap i (IntKind.wrap .i64 (i + 1))) ⟨[chRows n cap st cl us sp lv op, cfgB c1 c2 c3 c4 c5 c6 c7, seenB (st i.toNat) (cl i.toNat) (us i.toNat) (sp i.toNat) (lv i.toNat) (op i.toNat)], 2 :: wr⟩)) else False
    else q (.exit 0) (chTo n cap best i) ⟨[chRows n cap st cl us sp lv op, cfgB c1 c2 c3 c4 c5 c6 c7], wr⟩) := by kernel_rfl

def lhCh : LHd := fun T H K => match Tm.norm [1,2,5,9,10,11] T with
  | [(1, .c (.slice 0 0 n cap)), (2, .c (.ptr 1 0)), (5, .c (.int .i64 best)), (9, .c (.slice 0 0 n2 cap2)), (10, .c (.int .i64 n3)), (11, .c (.int .i64 i))] => match H.bl with
    | [.rows e 6 n4 cap3 [.int .i64 st, .int .i64 cl, .int .i64 us, .int .i64 sp, .int .i64 lv, .bool op], .cells t [.int .i64 c1, .int .i64 c2, .int .i64 c3, .int .i64 c4, .int .i64 c5, .int .i64 c6, .int .i64 c7]] =>
      ((n2 = n ∧ cap2 = cap ∧ n3 = n ∧ i = 0 ∧ n4 = n ∧ cap3 = cap) ∧ (e = 138 ∧ t = 24) ∧ best = -1 ∧ n ≤ 1048576) ∧
      K (.exit 0) [(5, .c (cI (chooseM c6 n st us lv op)))] ⟨[chRows n cap st cl us sp lv op, cfgB c1 c2 c3 c4 c5 c6 c7], 2 :: H.wr⟩
    | _ => False
  | _ => False

theorem chLoI : LoOK Tryz.prog (tmpsF Tryz.prog chF) (fun _ => some lhChI) (loopsC (loopF Tryz.prog chF 0)) := by
  have h : loopsC (loopF Tryz.prog chF 0) = [loopF Tryz.prog chF 1] := by kernel_rfl
  rw [h]
  intro c hc hd he
  have hc : c = loopF Tryz.prog chF 1 := by simpa using hc
  subst hc
  cases he
  exact lhChI_ok

theorem lhCh_ok : BodyOK Tryz.prog (tmpsF Tryz.prog chF) (.loop (loopF Tryz.prog chF 0)) lhCh := by
  refine loopR_ok (evC_ok fnOK mixed (evF_ok fnOK mixed ownK2_ok 10 20) _ 10 _ chLoI) ?_
  intro T H K h
  unfold lhCh at h
  split at h
  case h_2 => exact h.elim
  rename_i x n cap best n2 cap2 n3 i hT
  split at h
  case h_2 => exact h.elim
  rename_i x' e n4 cap3 st cl us sp lv op t c1 c2 c3 c4 c5 c6 c7 hH
  obtain ⟨⟨⟨rfl, rfl, rfl, rfl, rfl, rfl⟩, ⟨rfl, rfl⟩, rfl, hn⟩, h⟩ := h
  have hlen : H.bl.length = 2 := by rw [hH]; rfl
  rw [hlen]
  unfold chooseM at h
  generalize hr : chRun (fun i => mayM c6 (st i) (us i) (lv i) (op i)) lv n4 0 (-1) = r at h
  refine ⟨[1,2,5,9,10,11], fun m T' H' => ∃ (j : Nat) (b : Int) (wr : List Nat), m = n4 - j ∧ j ≤ n4 ∧ b < n4 ∧ T' = chTo n4 cap3 b (j : Int) ∧ H' = ⟨[chRows n4 cap3 st cl us sp lv op, cfgB c1 c2 c3 c4 c5 c6 c7], wr⟩ ∧ (∀ k ∈ wr, k ∈ 2 :: H.wr) ∧
    chRun (fun i => mayM c6 (st i) (us i) (lv i) (op i)) lv (n4 - j) j b = r, ⟨n4, 0, -1, H.wr, rfl, by omega, by omega, hT, by cases H; simp only at hH; subst hH; rfl, fun k hk => by simp [hk], hr⟩, ?_⟩
  rintro m T' H' ⟨j, b, wr, rfl, hj, hb, rfl, rfl, hwr, hrun⟩
  rw [chb_ev]
  have hw2 : ∀ k ∈ 2 :: wr, k ∈ 2 :: H.wr := by
    intro k hk
    rcases List.mem_cons.1 hk with rfl | hk
    · simp
    · exact hwr k hk
  by_cases hlt : j < n4
  · have h1 : decide ((j : Int) < (n4 : Int)) = true := by simpa using hlt
    have h2 : decide (0 ≤ (j : Int) ∧ (j : Int) < (n4 : Int)) = true := by simp; omega
    obtain ⟨q, hq⟩ : ∃ q, n4 - j = q + 1 := ⟨n4 - (j + 1), by omega⟩
    have hq' : q = n4 - (j + 1) := by omega
    rw [hq, chRun_succ] at hrun
    have hi : IntKind.i64.wrap ((j : Int) + 1) = ((j + 1 : Nat) : Int) := by rw [IntKind.wrap_i64]; omega
    have hbs := chStep_lt (fun i => mayM c6 (st i) (us i) (lv i) (op i)) lv j n4 b hlt hb
    simp only [h1, h2, cond_true, Int.toNat_natCast]
    generalize hst : chStep (fun i => mayM c6 (st i) (us i) (lv i) (op i)) lv j b = b' at hrun hbs
    have hnext : ∀ b2 : Int, b2 = b' → loopKR 2 (fun m T' H' => ∃ (j : Nat) (b : Int) (wr : List Nat), m = n4 - j ∧ j ≤ n4 ∧ b < n4 ∧ T' = chTo n4 cap3 b (j : Int) ∧ H' = ⟨[chRows n4 cap3 st cl us sp lv op, cfgB c1 c2 c3 c4 c5 c6 c7], wr⟩ ∧ (∀ k ∈ wr, k ∈ 2 :: H.wr) ∧
        chRun (fun i => mayM c6 (st i) (us i) (lv i) (op i)) lv (n4 - j) j b = r) K (n4 - j) .normal (chTo n4 cap3 b2 (IntKind.wrap .i64 (j + 1))) ⟨[chRows n4 cap3 st cl us sp lv op, cfgB c1 c2 c3 c4 c5 c6 c7, seenB (st j) (cl j) (us j) (sp j) (lv j) (op j)], 2 :: wr⟩ := by
      rintro b2 rfl
      refine ⟨n4 - (j + 1), by omega, [0, 1], chTo n4 cap3 b2 ((j + 1 : Nat) : Int), ⟨[chRows n4 cap3 st cl us sp lv op, cfgB c1 c2 c3 c4 c5 c6 c7], 2 :: wr⟩, ⟨rfl, ⟨⟨rfl, rfl⟩, ⟨rfl, rfl⟩, trivial⟩, ?_, fun _ hk => hk⟩, j + 1, b2, 2 :: wr, rfl, by omega, hbs, rfl, rfl, hw2, by rw [← hq']; exact hrun⟩
      rw [hi]
      exact ⟨⟨rfl, rfl⟩, ⟨rfl, rfl⟩, ⟨rfl, rfl⟩, ⟨rfl, rfl⟩, ⟨rfl, rfl⟩, ⟨rfl, rfl⟩, trivial⟩
    unfold chStep at hst
    refine ⟨hlt, ?_⟩
    cases hm : mayM c6 (st j) (us j) (lv j) (op j) with
    | false =>
      simp only [hm, cond_false] at hst
      simp only [Bool.not_false, cond_true]
      exact hnext _ hst
    | true =>
      simp only [hm, cond_true] at hst
      simp only [Bool.not_true, cond_false]
      refine ⟨⟨⟨trivial, trivial, trivial, trivial, trivial, trivial, trivial, trivial⟩, ⟨trivial, trivial, trivial⟩, by omega, by omega, hn⟩, ?_⟩
      cases ha : chAny (fun j => mayM c6 (st j) (us j) (lv j) (op j)) lv (lv j) j 0 with
      | true =>
        simp only [ha, cond_true] at hst
        exact hnext _ hst
      | false =>
        simp only [ha, cond_false] at hst
        simp only [cond_false]
        by_cases hb0 : 0 ≤ b
        · have h3 : decide (0 ≤ b) = true := by simpa using hb0
          have h4 : decide (0 ≤ b ∧ b < (n4 : Int)) = true := by simp; omega
          simp only [h3, cond_true] at hst
          simp only [h3, h4, cond_true]
          refine ⟨by omega, hlt, ?_⟩
          cases hl : decide (lv b.toNat ≤ lv j) with
          | true =>
            simp only [hl, cond_true] at hst
            exact hnext _ hst
          | false =>
            simp only [hl, cond_false] at hst
            exact hnext _ hst
        · have h3 : decide (0 ≤ b) = false := by simpa using hb0
          simp only [h3, cond_false] at hst
          simp only [h3, cond_false]
          exact hnext _ hst
  · have h1 : decide ((j : Int) < (n4 : Int)) = false := by simpa using hlt
    have hz : n4 - j = 0 := by omega
    rw [hz] at hrun
    have hrun : b = r := hrun
    subst hrun
    simp only [h1, cond_false]
    exact ⟨[0, 1], [(5, .c (cI b))], ⟨[chRows n4 cap3 st cl us sp lv op, cfgB c1 c2 c3 c4 c5 c6 c7], 2 :: H.wr⟩, ⟨rfl, ⟨⟨rfl, rfl⟩, ⟨rfl, rfl⟩, trivial⟩, ⟨⟨rfl, rfl⟩, trivial⟩, hwr⟩, h⟩

def chLo : Nat → Option LHd := fun k => match Nat.beq k 3 with
  | true => some lhCh
  | false => some lhChI

theorem chLoOK : LoOK Tryz.prog (tmpsF Tryz.prog chF) chLo (loopsF Tryz.prog chF) := by
  have h : loopsF Tryz.prog chF = [loopF Tryz.prog chF 0, loopF Tryz.prog chF 1] := by kernel_rfl
  have h0 : chLo (keyC (loopF Tryz.prog chF 0)) = some lhCh := by kernel_rfl
  have h1 : chLo (keyC (loopF Tryz.prog chF 1)) = some lhChI := by kernel_rfl
  rw [h]
  intro c hc hd he
  rcases List.mem_cons.1 hc with rfl | hc
  · rw [h0] at he; cases he; exact lhCh_ok
  · have hc : c = loopF Tryz.prog chF 1 := by simpa using hc
    subst hc
    rw [h1] at he; cases he; exact lhChI_ok

theorem choose_ev (c1 c2 c3 c4 c5 c6 c7 : Int) (n cap : Nat) (st cl us sp lv : Nat → Int) (op : Nat → Bool) (K : Int → Prop) :
    evL Tryz.prog ownK2 chLo 10 20 chF [.agg [.int .i64 c1, .int .i64 c2, .int .i64 c3, .int .i64 c4, .int .i64 c5, .int .i64 c6, .int .i64 c7], .c (.slice 0 0 n cap)] ⟨[chRows n cap st cl us sp lv op], []⟩ (fun v H' => match v with
      | .c (.int .i64 x) => (H'.wr = [2]) ∧ K x
      | _ => False) =
    (((n = n ∧ cap = cap ∧ (n : Int) = n ∧ (0 : Int) = 0 ∧ n = n ∧ cap = cap) ∧ (138 = 138 ∧ 24 = 24) ∧ (-1 : Int) = -1 ∧ n ≤ 1048576) ∧ ([2] = [2]) ∧ K (chooseM c6 n st us lv op)) := by kernel_rfl

def h_choose : Hd := fun args H K => match args with
  | [.agg [.int .i64 c1, .int .i64 c2, .int .i64 c3, .int .i64 c4, .int .i64 c5, .int .i64 c6, .int .i64 c7], .c (.slice b 0 n cap)] => match H.get b with
    | some (.rows e 6 n' cap' [.int .i64 st, .int .i64 cl, .int .i64 us, .int .i64 sp, .int .i64 lv, .bool op]) => ((n' = n ∧ cap' = cap) ∧ e = 138 ∧ n ≤ 1048576) ∧ K (.c (cI (chooseM c6 n st us lv op))) H
    | _ => False
  | _ => False

theorem h_choose_ok : HOK 90 h_choose := by
  intro args H K h
  unfold h_choose at h
  split at h
  case h_2 => exact h.elim
  rename_i c1 c2 c3 c4 c5 c6 c7 b n cap
  split at h
  case h_2 => exact h.elim
  rename_i e n' cap' st cl us sp lv op hb
  obtain ⟨⟨⟨rfl, rfl⟩, rfl, hn⟩, h⟩ := h
  have e := (choose_ev c1 c2 c3 c4 c5 c6 c7 n' cap' st cl us sp lv op (fun x => K (.c (cI x)) H)).mpr ⟨⟨⟨rfl, rfl, rfl, rfl, rfl, rfl⟩, ⟨rfl, rfl⟩, rfl, hn⟩, rfl, h⟩
  obtain ⟨h1, h2⟩ := evL_ok fnOK mixed ownK2_ok chLoOK e
  refine ⟨h1, CSpec.read hb ?_ h2 ?_⟩
  · intro s s₁ vs h0 hr
    match vs, hr with
    | [u, v], ⟨hu, ⟨r, hv, hv2⟩, _⟩ =>
      refine ⟨?_, ⟨r, by rw [h0]; exact hv, hv2⟩, trivial⟩
      obtain ⟨cs, rfl, hu⟩ := hu
      exact ⟨cs, rfl, RelL.low rfl hu⟩
  · intro v H' hk
    split at hk
    · rename_i x
      obtain ⟨hw, hk⟩ := hk
      refine ⟨by rw [hw]; simp, fun s s' u hu => hu, hk⟩
    · exact hk.elim

def tabK3 : List (FuncId × Hd) := (90, h_choose) :: tabK2
def ownK3 : FuncId → Option Hd := look tabK3
theorem allK3 : AllOK tabK3 := ⟨h_choose_ok, allK2⟩
theorem ownK3_ok : OwnOK Tryz.prog ownK3 := look_ok allK3

end Go.Proofs.YtfjnkneoddankaaGreat
