/-
  Where no chunk is sparse nothing is moved, and no chunk's word is another one, however many rounds pass: the row. No condition.
-/
import Derived.Test.YtfjnkneoddankaaGreatPkCompactStill5
import Derived.Test.YtfjnkneoddankaaGreatPkCompactStill6
set_option linter.unusedVariables false
set_option linter.unusedSimpArgs false
set_option maxRecDepth 1000000
namespace Go.Proofs.YtfjnkneoddankaaGreat
open Go Go.FL Go.Proofs Go.ChangeShapes Go.WideShapes Go.ChangeAt Go.RowKit

theorem still_ev (p : Option Addr) (n cap : Nat) (f : Nat → Int) (b : Int) (K : Bool → Prop) : evL Tryz.prog ownL stLo 10 20 stF [.c (.vsl p n cap 1 [.int .i64 f]), .c (.int .i64 b)] ⟨[], []⟩ (fun v _ => match v with | .c (.bool x) => K x | _ => False) =
    ((27 = 27 ∧ (0 : Int) = 0) ∧
    (((IntKind.u64 = IntKind.u64 ∧ (1 : Nat) = 1 ∧ (8 : Nat) ≤ 8) ∧ ((stM0 f n).n : Int) = ((stM0 f n).n : Int) ∧ (0 : Int) ≤ ((stM0 f n).n : Int) ∧ ((stM0 f n).n : Int) ≤ 1048576) ∧
    ((27 = 27 ∧ 32 = 32 ∧ (0 : Int) = 0 ∧ Int.toNat ((stM0 f n).n : Int) = Int.toNat ((stM0 f n).n : Int) ∧ Int.toNat ((stM0 f n).n : Int) = Int.toNat ((stM0 f n).n : Int) ∧ Int.toNat ((stM0 f n).n : Int) ≤ 1048576) ∧
    ∀ g' : Nat → Int, (∀ j, j < Int.toNat ((stM0 f n).n : Int) → g' j = (stM0 f n).peek (j : Int)) →
      (((0 ≤ cutA 1 b 7 ∧ cutA 1 b 7 ≤ 1000) ∧ roundsOk (cfB 0) (cutA 1 b 7) comp0 (stM0 f n) = true) ∧ ∀ _ : Nat,
        bif !decide (roundsWant (cutA 1 b 7) comp0 ≤ (roundsX (cfB 0) (cutA 1 b 7) comp0 (stM0 f n)).1.work.rd) then K false else
        (((27 = 27 ∧ 32 = 32 ∧ (1 : Int) = 1 ∧ Int.toNat ((stM0 f n).n : Int) = Int.toNat ((stM0 f n).n : Int) ∧ Int.toNat ((stM0 f n).n : Int) = Int.toNat ((stM0 f n).n : Int) ∧ 1 ≤ Int.toNat ((stM0 f n).n : Int) ∧ Int.toNat ((stM0 f n).n : Int) ≤ 1048576) ∧
          ∀ j, 1 ≤ j → j < Int.toNat ((stM0 f n).n : Int) → (roundsX (cfB 0) (cutA 1 b 7) comp0 (stM0 f n)).2.peek (j : Int) = g' j) ∧
        (bif decide ((roundsX (cfB 0) (cutA 1 b 7) comp0 (stM0 f n)).1.work.ev = 0) then bif decide ((roundsX (cfB 0) (cutA 1 b 7) comp0 (stM0 f n)).1.work.mv = 0) then K (decide ((roundsX (cfB 0) (cutA 1 b 7) comp0 (stM0 f n)).1.work.lf = 0)) else K false else K false)))))) := by kernel_rfl

def miChk (w : Nat → Int) (n : Nat) : Bool := Nat.beq n 363 && ((List.range 363).all (fun a => decide (0 ≤ w a) && decide (w a < 18446744073709551616)) && (decide (w 0 = 0) && (decide (w 6 = 0) && (decide (w 1 % 131072 ≤ 30) &&
  ((List.range 30).all (fun i => decide (w (8 + 2 * i) % 131072 ≤ 30)) && ((List.range 4).all (fun k => decide (w (2 + k) ≤ 8)) && (List.range 8).all (fun k => decide (w (67 + 3 * k) = 0) && decide (w (68 + 3 * k) = 0))))))))

theorem arM_chk : miChk (arM 1 30 8 34).w (arM 1 30 8 34).n = true := by kernel_rfl

theorem MM_of_chk {m : PMem} (h : miChk m.w m.n = true) : MM 0 0 m := by
  unfold miChk at h
  simp only [Bool.and_eq_true, List.all_eq_true, List.mem_range, decide_eq_true_eq] at h
  obtain ⟨h0, h1, h2, h3, h4, h5, h6, h7⟩ := h
  refine ⟨Nat.eq_of_beq_eq_true h0, ⟨h1, h2, h3, h4, h5, h6, fun k hk => ?_, fun k hk => ?_⟩⟩
  · have := (h7 k hk).1
    unfold qS qU
    rw [this]; omega
  · have := h7 k hk
    unfold qU
    rw [this.1, this.2]
    simp

theorem make_mm {sp who size : Int} {own : Bool} {m : PMem} (h : MM 0 0 m) (hz : 1 ≤ size ∧ size ≤ 16) : MM 0 0 (makeM (cfB sp) who m size own).2 :=
  (Wq.run (step := allocStep (cfB sp) who) (run := makeRun (cfB sp) who) (makeRun_succ (cfB sp) who) (Q := fun _ m' => MM 0 0 m') (make_ok h hz fun _ _ h => h) (by omega : 60 ≤ 400))

theorem mk_mm {sp who : Int} (f : Nat → Int) : ∀ (k i : Nat) (m : PMem), MM 0 0 m → MM 0 0 (mkRun (cfB sp) who f k i m)
  | 0, i, m, h => by rw [mkRun_zero]; exact h
  | k + 1, i, m, h => by
    rw [mkRun_succ]
    obtain ⟨t, h1, h2⟩ := cutA_in 1 15 (by decide) (f i)
    have h2 : cutA 1 (f i) 15 = ((1 + t : Nat) : Int) := h2
    exact mk_mm f k (i + 1) _ (make_mm h (by rw [h2]; omega))

theorem still_spec [Fz] (p : Option Addr) (n cap : Nat) (f : Nat → Int) (b : Int) : (∃ fn, Tryz.prog.funcs[stF]? = some fn ∧ fn.body.isSome = true) ∧ CSpec Tryz.prog stF [.c (.vsl p n cap 1 [.int .i64 f]), .c (.int .i64 b)] ⟨[], []⟩ (fun v _ => match v with
      | .c (.bool b) => isTrue b
      | _ => False) := by
  refine evL_use ownL_ok stLoOK (still_ev p n cap f b isTrue) ?_
  have hM : MM 0 0 (stM0 f n) := mk_mm f _ _ _ (MM_of_chk arM_chk)
  generalize stM0 f n = M at hM
  obtain ⟨t, ht1, ht2⟩ := cutA_in 1 7 (by decide) b
  have ht2 : cutA 1 b 7 = ((1 + t : Nat) : Int) := ht2
  rw [ht2]
  have hn := hM.n
  have hz : QM M.w 0 M := ⟨hn, by
    funext a
    rw [upd_eq]
    split
    · rename_i h; rw [h]; exact hM.mi.ep
    · rfl⟩
  have hwant : roundsWant ((1 + t : Nat) : Int) comp0 = ((1 + t : Nat) : Int) := by
    show IntKind.wrap .i64 (0 + ((1 + t : Nat) : Int)) = _
    rw [Int.zero_add]
    exact IntWalk.i64_in _ (by omega)
  obtain ⟨x', m', e1, e2, e3, e4, e5, e6⟩ := st_rounds hM.mi 0 0 0 (1 + t) 0 none ⟨0, 0, 0, 0, 0⟩ ⟨0, 0, 0, 0, 0⟩ 0 ((1 + t : Nat) : Int) M (3000 * ((1 + t : Nat) : Int)).toNat hz (by omega) (fun sn hs => by cases hs) (by
    show (0 : Int) ≤ 0 ∧ (0 : Int) + ((1 + t : Nat) : Int) = _ ∧ _
    omega) (by omega)
  have eO : roundsO (cfB 0) ((1 + t : Nat) : Int) comp0 M = some (x', m') := by
    unfold roundsO
    rw [hwant]
    exact e1
  have eX : roundsX (cfB 0) ((1 + t : Nat) : Int) comp0 M = (x', m') := by unfold roundsX; rw [eO]; rfl
  have eK : roundsOk (cfB 0) ((1 + t : Nat) : Int) comp0 M = true := by unfold roundsOk; rw [eO]; rfl
  rw [eX, eK, hwant, hn]
  have d1 : decide (((1 + t : Nat) : Int) ≤ x'.work.rd) = true := by rw [e3]; simp
  refine ⟨⟨rfl, rfl⟩, ⟨⟨rfl, rfl, Nat.le_refl _⟩, rfl, by omega, by omega⟩, ⟨rfl, rfl, rfl, rfl, rfl, by omega⟩, fun g' hg => ⟨⟨⟨by omega, by omega⟩, rfl⟩, fun _ => ?_⟩⟩
  rw [d1]
  simp only [Bool.not_true, cond_false]
  refine ⟨⟨by simp, fun j h1 h2 => ?_⟩, ?_⟩
  · have h2 : j < 363 := h2
    rw [hg j h2, PMem.peek_in (m := m') (by omega) (by rw [e2.n]; omega), PMem.peek_in (m := M) (by omega) (by rw [hn]; omega), e2.w, Int.toNat_natCast, upd_other _ _ (by omega)]
  · have d2 : decide (x'.work.ev = 0) = true := by simpa using e4
    have d3 : decide (x'.work.mv = 0) = true := by simpa using e5
    have d4 : decide (x'.work.lf = 0) = true := by simpa using e6
    show (bif decide (x'.work.ev = 0) then bif decide (x'.work.mv = 0) then isTrue (decide (x'.work.lf = 0)) else _ else _)
    rw [d2, d3, d4]
    trivial

theorem still_calls {W : World} {v : Value} {p : Option Addr} {n cap : Nat} {f : Nat → Int} (b : Int) (hv : ∀ s, @RelC (fzOf W) s (.vsl p n cap 1 [.int .i64 f]) v) :
    Calls Tryz.prog stF #[v, .int .i64 b] W fun e W' => e = .returned (.bool true) ∧ Below W.heap.size W W' :=
  @bool_calls (fzOf W) _ _ [v, .int .i64 b] _ (@still_spec (fzOf W) p n cap f b) ⟨hv [], rfl, trivial⟩ fun _ _ h => h

theorem compactStill_lifted (os : Os) (started : os.Started) (H : Type) (enc : TypeId × Value → H) :
    ReturnsInHanded {} Tryz.checked os 3 .any (Rows.compactStillSpec.pre6 enc Tryz.prog Tryz.f3 Rows.compactStillRow.domain false) (Rows.compactStillSpec.post enc Tryz.prog Tryz.f3 false true false false) := by
  refine returnsInHanded_of_change (C := Tryz.checked) Tryz.own started (by kernel_rfl) Tryz.func3
    (ChangeSpec.witness6 (enc := enc) (C := Tryz.checked) false ⟨#[], #[.slice none 0 0, .int .i64 0], []⟩ 8 (by kernel_rfl) (by kernel_rfl) (by kernel_rfl) (by kernel_rfl)) ?_
  intro W base args ds gs before hval0 hW hcnd _
  haveI : Fz := fzOf W
  have hval : ∀ (j : Nat) t v, Tryz.f3.params[j]? = some t → args[j]? = some v → Value.okWide Tryz.prog W .any base t v := hval0
  have hW0 := hW
  obtain ⟨p, q, hA0, hV, hpq, hfz, hnd⟩ := hW0
  have hA : DataW.TrodAll enc Tryz.prog W 0 (fun _ => true) true Tryz.f3.params.toList args.toList ds p := hA0
  rw [Tryz.params3] at hA hval
  obtain ⟨v0, v1, d0, d1, p0, p1, rfl, rfl, rfl, h0, h1⟩ := trodAll_two hA
  obtain ⟨b, rfl, _, _, _⟩ := open_int Tryz.underlying3 (hval 1 3 v1 rfl rfl) h1
  obtain ⟨a, n, cap, f, rfl, _, _, hv, _⟩ := open_vints (W := W) Tryz.underlying22 Tryz.underlying3 (by kernel_rfl) (slice_one Tryz.underlying22 (hval 0 22 v0 rfl rfl)) h0
  refine (still_calls b hv).mono fun e W' ⟨he, hb⟩ => ?_
  refine ⟨_, he, law_post Tryz.laidOut Tryz.underlying4 (by kernel_rfl) ?_ rfl ?_ hW hb⟩
  · rw [Tryz.params3]
    intro t ht
    have ht : t = 22 ∨ t = 3 := by simpa using ht
    rcases ht with rfl | rfl
    · exact ⟨by kernel_rfl, of_decide_eq_true (by kernel_rfl)⟩
    · exact ⟨by kernel_rfl, of_decide_eq_true (by kernel_rfl)⟩
  · obtain ⟨rfl, rfl⟩ := trodVars_none hV
    rfl

theorem compactStill_holds : Rows.CompactStillSaid :=
  OpenClaim.holds_of_wide 3 Tryz.f3 rfl rfl rfl rfl rfl rfl rfl ⟨rfl, rfl, rfl, rfl, rfl⟩ rfl rfl rfl rfl rfl (by kernel_rfl) Tryz.func3 (by kernel_rfl)
    (of_decide_eq_true (by kernel_rfl)) (by unfold Func.isWrapper; rw [if_neg (of_decide_eq_false (by kernel_rfl))]; exact ⟨rfl, rfl⟩)
    (fun os started H enc _ => compactStill_lifted os started H enc)

end Go.Proofs.YtfjnkneoddankaaGreat
