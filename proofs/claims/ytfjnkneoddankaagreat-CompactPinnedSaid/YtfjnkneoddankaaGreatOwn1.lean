/-
  The table of contracts; frames for what makes an object and for what asks one.
-/
import Derived.Test.YtfjnkneoddankaaGreatCanM
set_option linter.unusedVariables false
set_option linter.unusedSimpArgs false
set_option maxRecDepth 100000
namespace Go.Proofs.YtfjnkneoddankaaGreat
open Go Go.FL Go.Proofs

def look : List (FuncId × Hd) → FuncId → Option Hd
  | [], _ => none
  | (g, h) :: r, f => match Nat.beq g f with
    | true => some h
    | false => look r f

def AllOK : List (FuncId × Hd) → Prop
  | [] => True
  | (g, h) :: r => HOK g h ∧ AllOK r

theorem look_ok : ∀ {l : List (FuncId × Hd)}, AllOK l → OwnOK Tryz.prog (look l)
  | [], _, f, h, hf => by simp [look] at hf
  | (g, h) :: r, hl, f, h', hf => by
    simp only [look] at hf
    split at hf
    · rename_i hb
      have := Nat.eq_of_beq_eq_true hb
      subst this
      cases hf
      exact hl.1
    · exact look_ok hl.2 f h' hf

def tab1 : List (FuncId × Hd) := [(54, h_eLoad), (56, h_eStore), (49, h_eCas), (79, h_eAdd), (18, h_eNow),
  (13, h_mPeek), (89, h_mWhen), (66, h_fit), (82, h_putHandle), (61, h_handle), (69, h_putSlot), (62, h_slotOf),
  (91, h_putChunk), (22, h_chunkOf), (34, h_putHead), (31, h_headOf), (102, h_putCell), (101, h_cellOf), (70, h_putTop), (116, h_topOf),
  (63, h_lSlot), (23, h_lChunk), (24, h_lBase), (58, h_lLen), (21, h_lOf), (36, h_lClass), (80, h_lRoom), (112, h_live)]

def own1 : FuncId → Option Hd := look tab1

theorem all1 : AllOK tab1 := ⟨h_eLoad_ok, h_eStore_ok, h_eCas_ok, h_eAdd_ok, h_eNow_ok, h_mPeek_ok, h_mWhen_ok, h_fit_ok, h_putHandle_ok, h_handle_ok, h_putSlot_ok, h_slotOf_ok,
  h_putChunk_ok, h_chunkOf_ok, h_putHead_ok, h_headOf_ok, h_putCell_ok, h_cellOf_ok, h_putTop_ok, h_topOf_ok, h_lSlot_ok, h_lChunk_ok, h_lBase_ok, h_lLen_ok, h_lOf_ok, h_lClass_ok, h_lRoom_ok, h_live_ok, trivial⟩

theorem own1_ok : OwnOK Tryz.prog own1 := look_ok all1

/-- A new object. -/
theorem new_ok {own : FuncId → Option Hd} (hown : OwnOK Tryz.prog own) {fuel d : Nat} {f : FuncId} {R : Type} {mk : R → Ob} {sh : LH → Nat → (R → List Nat → Prop) → Prop}
    (hsh : ∀ H n k, sh H n k → ∃ x c, k x c ∧ Clus H c (true, mk x)) {args : List LV} {H : LH} {K : LV → LH → Prop} (hlow : lowVs args = true)
    (hev : evF Tryz.prog own fuel d f args ⟨[], []⟩ (fun v H₁ => match v with
      | .c (.ptr i 0) => (sh H₁ i fun x c => match chkAll [] [] [c] && headOK i c with
        | true => K (.c (.ptr H.len 0)) (H.new (.obj (mk x)))
        | false => False)
      | _ => False)) :
    (∃ fn, Tryz.prog.funcs[f]? = some fn ∧ fn.body.isSome = true) ∧ CSpec Tryz.prog f args H K := by
  refine objs_ok hown (ns := []) (xs := []) rfl (by simp) List.nodup_nil (fun s s₁ vs _ h => RelVs.low hlow h) hev ?_
  intro v₁ H₁ hk
  split at hk
  · rename_i i
    obtain ⟨x, c, hk, hc⟩ := hsh _ _ _ hk
    split at hk
    · rename_i hchk
      simp only [Bool.and_eq_true] at hchk
      refine ⟨[], [], [c], [(true, mk x)], _, hchk.1, trivial, ⟨hc, trivial⟩, ?_, hk⟩
      intro s₁ s' v' _ hd' hr
      have hi : c[0]? = some i := by
        have := hchk.2
        unfold headOK at this
        split at this
        · have := Nat.eq_of_beq_eq_true this; simp [this]
        · cases this
      have := hd' 0 c i rfl hi
      obtain ⟨r, h1, h2⟩ := hr
      rw [Nat.add_zero] at this
      exact ⟨r, by rw [this]; exact h1, h2⟩
    · exact hk.elim
  · exact hk.elim

/-- One object, asked: a plain value. -/
theorem ask_ok {own : FuncId → Option Hd} (hown : OwnOK Tryz.prog own) {fuel d : Nat} {f : FuncId} {R : Type} {mk : R → Ob} {sh : LH → Nat → (R → List Nat → Prop) → Prop}
    (hsh : ∀ H n k, sh H n k → ∃ x c, k x c ∧ Clus H c (true, mk x)) {H : LH} {K : LV → LH → Prop} {p : Nat} {x : R} {rest : List LV} (hlow : lowVs rest = true)
    (hp : H.get p = some (.obj (mk x)))
    (hev : evF Tryz.prog own fuel d f (.c (.ptr 0 0) :: rest) ⟨cat [(true, mk x)] 0, []⟩ (fun v H₁ => match lowV v with
      | true => (sh H₁ 0 fun x' c => match chkAll [(true, mk x)] [c] [] with
          | true => K v (H.put p (.obj (mk x')))
          | false => False)
      | false => False)) :
    (∃ fn, Tryz.prog.funcs[f]? = some fn ∧ fn.body.isSome = true) ∧ CSpec Tryz.prog f (.c (.ptr p 0) :: rest) H K := by
  refine objs_ok hown (ns := [p]) (xs := [(true, mk x)]) rfl ?_ (by simp) ?_ hev ?_
  · intro i n x' hi hx
    match i, hi, hx with
    | 0, hi, hx => simp at hi hx; subst hi; subst hx; exact get_obj hp
    | i + 1, hi, hx => simp at hi
  · intro s s₁ vs hh hr
    have e0 := hh 0 p rfl
    simp only [base] at e0
    exact rel_args1 (rel_ptr e0) hr hlow
  · intro v₁ H₁ hk
    split at hk
    · rename_i hv
      obtain ⟨x', c, hk, hc⟩ := hsh _ _ _ hk
      split at hk
      · rename_i hchk
        exact ⟨[c], [(true, mk x')], [], [], v₁, hchk, ⟨hc, trivial⟩, trivial, fun _ _ _ _ _ h => RelV.low hv h, hk⟩
      · exact hk.elim
    · exact hk.elim

/-- A step of nobody. -/
def orNil (h : Hd) : Hd := fun args H K => match args with
  | [.c .nilp, .agg [.int .i64 c1, .int .i64 c2, .int .i64 c3, .int .i64 c4, .int .i64 c5, .int .i64 c6, .int .i64 c7, .ptr m 0, .int .i64 who]] => match H.get m with
    | some (.obj (.mem pm)) => K (.c (.bool false)) (H.put m (.obj (.mem pm)))
    | _ => False
  | _ => h args H K

theorem orNil_ok {own : FuncId → Option Hd} (hown : OwnOK Tryz.prog own) {fuel d : Nat} {f : FuncId} {h : Hd} (hh : HOK f h)
    (hn : ∀ (c : PCfg) (who : Int) (pm : PMem) (K : Bool → PMem → Prop), K false pm → evF Tryz.prog own fuel d f [.c .nilp, envV c 0 who] ⟨cat [(false, .mem pm)] 0, []⟩ (fun v H₁ => match v with
      | .c (.bool r) => shF H₁ 0 fun o c2 => match o with
        | .mem pm' => match chkAll [(false, .mem pm)] [c2] [] with
          | true => K r pm'
          | false => False
        | _ => False
      | _ => False)) : HOK f (orNil h) := by
  intro args H K hk
  unfold orNil at hk
  split at hk
  · rename_i c1 c2 c3 c4 c5 c6 c7 m who
    split at hk
    · rename_i pm hm
      have e := hn ⟨c1, c2, c3, c4, c5, c6, c7⟩ who pm (fun r pm' => K (.c (.bool r)) (H.put m (.obj (.mem pm')))) hk
      refine objs_ok hown (ns := [m]) (xs := [(false, .mem pm)]) rfl ?_ (by simp) ?_ e ?_
      · intro i n x' hi hx
        match i, hi, hx with
        | 0, hi, hx => simp at hi hx; subst hi; subst hx; exact get_obj hm
        | i + 1, hi, hx => simp at hi
      · intro s s₁ vs hh hr
        match vs, hr with
        | [u, v], ⟨h1, h2, _⟩ =>
          have e0 := hh 0 m rfl
          simp only [base, Nat.zero_add] at e0
          exact ⟨h1, rel_env (c := ⟨c1, c2, c3, c4, c5, c6, c7⟩) e0 h2, trivial⟩
        | [], h => exact h.elim
        | [_], h => exact h.2.elim
        | _ :: _ :: _ :: _, h => exact h.2.2.elim
      · intro v₁ H₁ hk
        split at hk
        · rename_i r
          obtain ⟨o, c2, hk, hc2⟩ := shF_ok hk
          split at hk
          · rename_i pm'
            split at hk
            · rename_i hchk
              exact ⟨[c2], [(false, .mem pm')], [], [], .c (.bool r), hchk, ⟨hc2, trivial⟩, trivial, fun _ _ _ _ _ h => h, hk⟩
            · exact hk.elim
          · exact hk.elim
        · exact hk.elim
    · exact hk.elim
  · exact hh args H K hk

end Go.Proofs.YtfjnkneoddankaaGreat
