/-
  An act that is alone takes effect at a step while it is done: behind those that were done ahead, not behind its last one: the row. No condition.
-/
import Derived.Test.YtmhakaeahefmbaaPkActStamps3
import Derived.Test.YtmhakaeahefmbaaPkActStamps4
set_option linter.unusedVariables false
set_option linter.unusedSimpArgs false
set_option maxRecDepth 1000000
namespace Go.Proofs.Ytmhakaeahefmbaa
open Go Go.FL Go.Proofs Go.ChangeShapes Go.WideShapes Go.ChangeAt Go.RowKit

/-- A memory in which nothing is yet. -/
def invChk (w t : Nat → Int) (n : Nat) (steps : Int) : Bool := Nat.beq n 363 && (decide (0 ≤ steps ∧ steps ≤ 1000) && ((List.range 363).all (fun a => decide (0 ≤ w a ∧ w a < 18446744073709551616)) &&
  (decide (w 0 = 0) && (decide (w 1 % 131072 ≤ 6) && ((List.range 6).all (fun i => decide (w (8 + 2 * i) % 131072 ≤ 6 ∧ w (7 + 2 * i) % 8 = 0)) && ((List.range 4).all (fun k => decide (w (2 + k) ≤ 8)) &&
  ((List.range 8).all (fun k => decide (w (19 + 3 * k) = 0)) && (List.range 320).all (fun k => decide (w (43 + k) = 0)))))))))

theorem arM_inv : invChk (arM 1 6 8 40).w (arM 1 6 8 40).t (arM 1 6 8 40).n (arM 1 6 8 40).steps = true := by kernel_rfl

theorem Inv_of_chk {m : PMem} (h : invChk m.w m.t m.n m.steps = true) : Inv 6 0 1000 m := by
  unfold invChk at h
  simp only [Bool.and_eq_true, List.all_eq_true, List.mem_range, decide_eq_true_eq] at h
  obtain ⟨h0, hs, h1, h2, h3, h4, h5, h6, h7⟩ := h
  have hno : ∀ i, i < 6 → ¬ Prs m.w i := by
    intro i hi hp
    have := (h4 i hi).2
    unfold Prs oS at hp
    omega
  refine ⟨Nat.eq_of_beq_eq_true h0, ⟨h1, h2, h3, fun i hi => (h4 i hi).1, h5, fun k hk => ?_, fun k j hk hj _ => ?_, fun i hi => .inl (h4 i hi).2, fun i hi hp => absurd hp (hno i hi), fun i hi hp => absurd hp (hno i hi), fun i j hi _ _ hp => absurd hp (hno i hi), fun i j hi hp => absurd (.inl hp) (hno i hi)⟩, ⟨Int.le_refl _, hs.1⟩, hs.2, trivial⟩
  · have := h6 k hk
    unfold kS kU
    rw [this]
    exact ⟨by decide, by decide, fun _ => by decide⟩
  · have := h7 (40 * k + j) (by omega)
    rw [show 43 + 40 * k + j = 43 + (40 * k + j) by omega]; exact this

theorem stamps_true (l : ActL) (n : Nat) (hl : ∀ i, i < n → 0 ≤ l.f3 i ∧ l.f3 i < 18446744073709551616) : ∀ (k i : Nat) (last : PDone) (m : PMem) (L B : Int), i + k ≤ n → k ≤ 1000 → Inv 6 L B m → B + 70 * k ≤ 1000000 → 0 ≤ last.h ∧ last.h < 18446744073709551616 →
    smRun (cfA 600) 0 l k i last m = true := by
  intro k
  induction k with
  | zero => intro i last m L B _ _ _ _ _; rfl
  | succ k ih =>
    intro i last m L B hik hk h hB hlast
    have hh : 0 ≤ smH l i last ∧ smH l i last < 18446744073709551616 := by
      have := hl i (by omega)
      unfold smH
      cases decide (last.h = 0)
      · cases decide (Int.tmod (i : Int) 2 = 1)
        · exact this
        · exact hlast
      · exact this
    obtain ⟨a1, a2, a3, a4, a5⟩ := do_ok (sp := 600) h (by omega) (cutKind (l.f1 i)) (l.f2 i) (smH l i last) (l.f4 i) (cutVal (l.f5 i)) (cutVal (l.f6 i)) (l.f7 i) (cutKind_in _) hh (cutVal_in _) (cutVal_in _)
    unfold smRun
    have hD : smD (cfA 600) 0 m l i (smH l i last) = doM (cfA 600) 0 m (cutKind (l.f1 i)) (l.f2 i) (smH l i last) (l.f4 i) (cutVal (l.f5 i)) (cutVal (l.f6 i)) (l.f7 i) := rfl
    rw [hD]
    generalize doM (cfA 600) 0 m (cutKind (l.f1 i)) (l.f2 i) (smH l i last) (l.f4 i) (cutVal (l.f5 i)) (cutVal (l.f6 i)) (l.f7 i) = D at a1 a2 a3 a4 a5
    have d1 : decide (D.1.st < m.steps) = false := by simp; omega
    have d2 : decide (D.2.steps < D.1.st) = false := by simp; omega
    have d3 : decide (D.1.st = m.steps) = false := by simp; omega
    rw [d1, d2, d3, Bool.and_false]
    simp only [cond_false]
    refine ih (i + 1) _ _ L (B + 70) (by omega) (by omega) a1 (by omega) ?_
    cases decide (D.1.h = 0)
    · exact ⟨a4, a5⟩
    · exact hlast

theorem stamps_spec [Fz] (p : Option Addr) (n cap : Nat) (l : ActL) (hl : ∀ i, i < n → 0 ≤ l.f3 i ∧ l.f3 i < 18446744073709551616) : (∃ fn, Try.prog.funcs[smF]? = some fn ∧ fn.body.isSome = true) ∧ CSpec Try.prog smF [.c (.vsl p n cap 7 l.cols)] ⟨[], []⟩ (fun v _ => match v with
      | .c (.bool b) => isTrue b
      | _ => False) :=
  evL_use own11_ok smLo (stamps_ev p n cap l isTrue) ⟨⟨⟨rfl, rfl, rfl, rfl⟩, stamps_true l n hl (min n 60) 0 ⟨0, 0, 0, 0⟩ (arM 1 6 8 40) 0 1000 (by omega) (by omega) (Inv_of_chk arM_inv) (by omega) ⟨Int.le_refl _, by decide⟩⟩, fun _ _ => trivial⟩

theorem lit_u64 {n : Int} (h : (Lit.int .u64 n).wf = true) : 0 ≤ n ∧ n < 18446744073709551616 := by
  have h2 : (decide (IntKind.u64.min ≤ n) && decide (n ≤ IntKind.u64.max)) = true := h
  simp only [Bool.and_eq_true, decide_eq_true_eq] at h2
  have e1 : IntKind.u64.min = 0 := rfl
  have e2 : IntKind.u64.max = 18446744073709551615 := rfl
  rw [e1, e2] at h2
  omega

theorem stamps_calls {W : World} {v : Value} {p : Option Addr} {n cap : Nat} {l : ActL} (hv : ∀ s, @RelC (fzOf W) s (.vsl p n cap 7 l.cols) v) (hl : ∀ i, i < n → 0 ≤ l.f3 i ∧ l.f3 i < 18446744073709551616) :
    Calls Try.prog smF #[v] W fun e W' => e = .returned (.bool true) ∧ Below W.heap.size W W' :=
  @bool_calls (fzOf W) _ _ [v] _ (@stamps_spec (fzOf W) p n cap l hl) ⟨hv [], trivial⟩ fun _ _ h => h

theorem actStamps_lifted (os : Os) (started : os.Started) (H : Type) (enc : TypeId × Value → H) :
    ReturnsInHanded {} Try.checked os 6 .any (Rows.actStampsSpec.pre6 enc Try.prog Try.f6 Rows.actStampsRow.domain false) (Rows.actStampsSpec.post enc Try.prog Try.f6 false true false false) := by
  refine returnsInHanded_of_change (C := Try.checked) Try.own started (by kernel_rfl) Try.func6
    (ChangeSpec.witness6 (enc := enc) (C := Try.checked) false ⟨#[], #[.slice none 0 0], []⟩ 8 (by kernel_rfl) (by kernel_rfl) (by kernel_rfl) (by kernel_rfl)) ?_
  intro W base args ds gs before hval0 hW hcnd _
  haveI : Fz := fzOf W
  have hval : ∀ (j : Nat) t v, Try.f6.params[j]? = some t → args[j]? = some v → Value.okWide Try.prog W .any base t v := hval0
  have hW0 := hW
  obtain ⟨p, q, hA0, hV, hpq, hfz, hnd⟩ := hW0
  have hA : DataW.TrodAll enc Try.prog W 0 (fun _ => true) true Try.f6.params.toList args.toList ds p := hA0
  rw [Try.params6] at hA hval
  obtain ⟨v0, d0, rfl, rfl, h0⟩ := trodAll_one hA
  obtain ⟨a, n, cap, l, rfl, hv, hl⟩ := open_vacts (W := W) (slice_one Try.underlying22 (hval 0 22 v0 rfl rfl)) h0
  refine (stamps_calls hv (fun i hi => lit_u64 (hl i hi))).mono fun e W' ⟨he, hb⟩ => ?_
  refine ⟨_, he, law_post Try.laidOut Try.underlying4 (by kernel_rfl) ?_ rfl ?_ hW hb⟩
  · rw [Try.params6]
    intro t ht
    have ht : t = 22 := by simpa using ht
    subst ht
    exact ⟨by kernel_rfl, of_decide_eq_true (by kernel_rfl)⟩
  · obtain ⟨rfl, rfl⟩ := trodVars_none hV
    rfl

theorem actStamps_holds : Rows.ActStampsSaid :=
  OpenClaim.holds_of_wide 6 Try.f6 rfl rfl rfl rfl rfl rfl rfl ⟨rfl, rfl, rfl, rfl, rfl⟩ rfl rfl rfl rfl rfl (by kernel_rfl) Try.func6 (by kernel_rfl)
    (of_decide_eq_true (by kernel_rfl)) (by unfold Func.isWrapper; rw [if_neg (of_decide_eq_false (by kernel_rfl))]; exact ⟨rfl, rfl⟩)
    (fun os started H enc _ => actStamps_lifted os started H enc)

end Go.Proofs.Ytmhakaeahefmbaa
