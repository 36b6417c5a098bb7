/-
  One operation, a region in the order of the text: sound.
-/
import Derived.Test.YtfjnkneoddankaaGreatEvApp
set_option linter.unusedVariables false
set_option linter.unusedSimpArgs false
set_option linter.unusedSectionVars false
namespace Go.FL

section
variable {P : Program}

theorem makeSliceA_run {s : Mp} {t : TypeId} {l c : LV} {u v : Value} {H : LH} {K : LV → LH → Prop} {w : World} (hl : RelV s l u) (hc : RelV s c v) (hH : Rel s H w)
    (h : makeSliceA P t l c H K) : ∃ s' y r H' w', K y H' ∧ RelV s' y r ∧ Rel s' H' w' ∧ Post s H w s' H' w' ∧ (Instr.makeSlice t u v).run P w = .ok r w' := by
  unfold makeSliceA at h
  split at h
  · rename_i e hu
    split at h
    · rename_i k info he hi
      split at h
      · rename_i k' k1 n k2 m hz
        obtain ⟨⟨⟨rfl, hs, hb⟩, rfl, h0, h1⟩, hK⟩ := h
        have hl : u = .int k1 n := hl
        have hc : v = .int k2 n := hc
        subst hl; subst hc
        have hrep : ((Array.range n.toNat).map fun i => (#[Value.int k' 0])[i % 1]!) = ((List.range n.toNat).map fun _ => Value.int k' 0).toArray := by
          apply Array.ext'
          simp only [Array.toList_map, Array.toList_range, Nat.mod_one]
          rfl
        obtain ⟨h2, h3⟩ := hH.new (b := .ints e k' n.toNat fun _ => 0) (o := .cells ((List.range n.toNat).map fun _ => Value.int k' 0).toArray e (0, 0)) (.ints (by simp))
        refine ⟨_, _, .slice (some ⟨w.heap.size, 0, none⟩) n.toNat n.toNat, _, _, hK, ⟨w.heap.size, ?_, rfl⟩, h2, h3, ?_⟩
        · rw [LH.len_eq, ← hH.len]; simp [hd]
        · have hw : IntKind.i64.wrap n = n := by
            unfold IntKind.wrap; simp [IntKind.bits, IntKind.signed, IntKind.max, IntKind.min] <;> omega
          have hbn : (info.bytes : Int) * n ≤ 2 ^ 48 := by
            have : (info.bytes : Int) ≤ 8 := by exact_mod_cast hb
            calc (info.bytes : Int) * n ≤ 8 * 1048576 := by
                  apply Int.mul_le_mul this h1 h0 (by omega)
              _ ≤ 2 ^ 48 := by decide
          have htl : decide (2 ^ 48 < (info.bytes : Int) * n) = false := by
            simp only [decide_eq_false_iff_not]; omega
          have hlt : decide (n < 0) = false := by simp; omega
          simp only [Instr.makeSlice, Sem.run_bind, run_underlying hu, Result.andThen_ok, asInt, asIntOf, Sem.run_pure, typeInfo_run hi, hw, gt_iff_lt, htl, hlt, Int.lt_irrefl, decide_false, Bool.or_self, Bool.or_false, Bool.false_eq_true, if_false, run_askRoom, sizeOf, hs, zeroValue, hz,
            Nat.mul_one]
          by_cases hn0 : n.toNat = 0
          · rw [if_pos hn0]
            simp only [Sem.run_pure, Result.andThen_ok, newRow, Sem.run_bind, run_newObj, hn0, Array.range_zero', List.range_zero, List.map_nil, Array.map_empty]
          · rw [if_neg hn0]
            simp only [Sem.run_bind, Sem.run_pure, Result.andThen_ok, Value.cells, newRow, run_newObj, typeInfo_run hi, hz]
            rw [← hrep]
            rfl
      · exact h.elim
    · exact h.elim
  · exact h.elim

theorem relVs_map {s : Mp} {nt : Nat} {T : Tm} {a : Act} (hT : RelT s nt T a) : ∀ l : List Operand, RelVs s (l.map (opnd T)) (l.map a.eval)
  | [] => trivial
  | x :: l => ⟨opnd_rel hT x, relVs_map hT l⟩

variable {call : FuncId → List LV → LH → (LV → LH → Prop) → Prop}

/-- The kinds of results: a value; nothing; a call. -/
theorem wp_value {o : Oper} {a : Act} {w w' : World} {next : Act → World → Prop} {Q : Exit → Act → World → Prop} {v : Value} (h : (execOp a.eval o).run P w = .ok (.value v) w')
    (hn : next (a.put o.dst v) w') : o.wp P a w next Q := by
  unfold Oper.wp; rw [h]; exact hn

theorem wp_call {o : Oper} {a : Act} {w : World} {next : Act → World → Prop} {Q : Exit → Act → World → Prop} {f : FuncId} {vs : List Value} {args : List LV} {s : Mp} {H : LH} {K : LV → LH → Prop}
    (h : (execOp a.eval o).run P w = .ok (.enter f vs.toArray) w) (hc : CSpec P f args H K) (hr : RelVs s args vs) (hH : Rel s H w)
    (hn : ∀ s' v v' H' w', K v H' → RelV s' v v' → Rel s' H' w' → Post s H w s' H' w' → next (a.put o.dst v') w') : o.wp P a w next Q := by
  unfold Oper.wp; rw [h]
  show Calls P f vs.toArray w _
  refine (hc s vs w hr hH).mono fun e w' he => ?_
  cases e with
  | returned v' =>
    obtain ⟨s', v, H', h1, h2, h3, h4⟩ := he
    exact hn s' v v' H' w' h1 h2 h3 h4
  | panicked c => exact he.elim
  | outgrown => exact he.elim

theorem opA_ok (hP : FnOK P) (hcall : CallOK P call) {o : Oper} {T : Tm} {H : LH} {K : LV → LH → Prop} {s : Mp} {nt : Nat} {a : Act} {w : World} {next : Act → World → Prop}
    {Q : Exit → Act → World → Prop} (h : opA P call o T H K) (hT : RelT s nt T a) (hH : Rel s H w)
    (hn : ∀ s' v v' H' w', K v H' → RelV s' v v' → Rel s' H' w' → Post s H w s' H' w' → next (a.put o.dst v') w') : o.wp P a w next Q := by
  -- a value, the world as it was
  have still : ∀ {z : LV} {r : Value}, K z H → RelV s z r → (execOp a.eval o).run P w = .ok (.value r) w → o.wp P a w next Q := fun hK hr hrun =>
    wp_value hrun (hn s _ _ H w hK hr hH Post.rfl')
  unfold opA at h
  split at h
  · rename_i x ho; exact still h (opnd_rel hT x) (by simp [execOp, ho])
  · rename_i x ho; exact still h (opnd_rel hT x) (by simp [execOp, ho])
  · rename_i c x y ho
    have hc := opnd_rel hT c
    split at h
    · rename_i q hq
      rw [hq] at hc
      have hc : a.eval c = .bool q := hc
      split at h
      · exact still h (opnd_rel hT x) (by simp [execOp, ho, hc, asBool])
      · exact still h (opnd_rel hT y) (by simp [execOp, ho, hc, asBool])
    · exact h.elim
  · rename_i e ho
    split at h
    · rename_i l hl
      obtain ⟨v, hv, hr⟩ := zeroT_run (P := P) (s := s) hl
      obtain ⟨h2, h3⟩ := hH.new (b := .cells e l) (o := .cells v.cells e (0, 0)) (.cells v.cells (by simp) (hr.mono (.app _ _)))
      refine wp_value (v := .pointer (some ⟨w.heap.size, 0, none⟩)) (w' := { w with heap := w.heap.push (.cells v.cells e (0, 0)) }) ?_ (hn _ _ _ _ _ h ⟨w.heap.size, ?_, rfl⟩ h2 h3)
      · simp [execOp, ho, Instr.alloc, hv, newVar, newRow]
      · rw [LH.len_eq, ← hH.len]; simp [hd]
    · exact h.elim
  · rename_i e x ho
    split at h
    · rename_i l hl
      have hr := (opnd_rel hT x).cells hl
      obtain ⟨h2, h3⟩ := hH.new (b := .cells e l) (o := .cells (a.eval x).cells e (0, 0)) (.cells _ (by simp) (hr.mono (.app _ _)))
      refine wp_value (v := .pointer (some ⟨w.heap.size, 0, none⟩)) (w' := { w with heap := w.heap.push (.cells (a.eval x).cells e (0, 0)) }) ?_ (hn _ _ _ _ _ h ⟨w.heap.size, ?_, rfl⟩ h2 h3)
      · simp [execOp, ho, Instr.box, newVar, newRow]
      · rw [LH.len_eq, ← hH.len]; simp [hd]
    · exact h.elim
  · rename_i t parts ho
    obtain ⟨z, r, h1, h2, h3⟩ := buildA_run (P := P) (s := s) (vs := parts.map fun p => (p.1, a.eval p.2)) (by simp) (by
      have := relVs_map hT (parts.toList.map (·.2))
      simpa [Function.comp_def] using this) h
    exact still h1 h2 (by simp [execOp, ho, h3])
  · rename_i t x ho
    obtain ⟨y, v, h1, h2, h3⟩ := loadA_run (opnd_rel hT x) hH h
    exact still h1 h2 (by simp [execOp, ho, h3])
  · rename_i t x y ho
    obtain ⟨H', w', h1, h2, h3, h4⟩ := storeA_run (opnd_rel hT x) (opnd_rel hT y) hH h
    unfold Oper.wp
    have : (execOp a.eval o).run P w = .ok .skip w' := by simp [execOp, ho, h4]
    rw [this]
    exact hn s .un undef H' w' h1 trivial h2 h3
  · rename_i x ho
    have hx := opnd_rel hT x
    split at h
    · rename_i n off hq
      rw [hq] at hx
      obtain ⟨r, hr, he⟩ := hx
      exact still h ⟨r, hr, rfl⟩ (by simp [execOp, ho, he])
    · rename_i n r' wd c hq
      rw [hq] at hx
      obtain ⟨r, hr, he⟩ := hx
      exact still h ⟨r, hr, rfl⟩ (by simp [execOp, ho, he])
    · exact h.elim
  · rename_i op t x y ty ho
    obtain ⟨z, r, h1, h2, h3⟩ := binA_run (opnd_rel hT x) (opnd_rel hT y) h
    exact still h1 h2 (by simp only [execOp, ho]; rw [Sem.run_bind, h3]; rfl)
  · rename_i op t x ho
    obtain ⟨z, r, h1, h2, h3⟩ := unA_run (P := P) (opnd_rel hT x) h
    exact still h1 h2 (by simp [execOp, ho, h3])
  · rename_i src dst x ho
    obtain ⟨z, r, h1, h2, h3⟩ := convA_run (opnd_rel hT x) h
    exact still h1 h2 (by simp [execOp, ho, h3])
  · rename_i t x ho
    have hx := opnd_rel hT x
    split at h
    · rename_i y hy
      rw [hy] at hx
      split at h
      · exact h.elim
      · rename_i d hd hu
        refine still h ⟨a.eval x, rfl, hx⟩ ?_
        have : (Instr.makeInterface t (a.eval x)).run P w = .ok (.iface t (a.eval x)) w := by
          simp only [Instr.makeInterface, Sem.run_bind, run_underlying hu, Result.andThen_ok]
          first
            | rfl
            | (split
               · exact absurd rfl (hd _)
               · rfl)
        simp [execOp, ho, this]
      · exact h.elim
    · exact h.elim
  · rename_i t x f ho
    obtain ⟨z, r, h1, h2, h3⟩ := fieldAddrA_run (opnd_rel hT x) h
    exact still h1 h2 (by simp [execOp, ho, h3])
  · rename_i t x f ho
    obtain ⟨z, r, h1, h2, h3⟩ := fieldA_run (opnd_rel hT x) h
    exact still h1 h2 (by simp [execOp, ho, h3])
  · rename_i t x i ho
    obtain ⟨z, r, h1, h2, h3⟩ := indexAddrA_run (opnd_rel hT x) (opnd_rel hT i) h
    exact still h1 h2 (by simp [execOp, ho, h3])
  · rename_i x i ho
    have hx := opnd_rel hT x
    split at h
    · rename_i l hl
      rw [hl] at hx
      obtain ⟨vs, hv, hr⟩ := hx
      split at h
      · rename_i p hp
        rw [lget_eq] at hp
        have : ∀ {l : List LP} {us : List Value}, RelPs s l us → ∀ {i : Nat}, l[i]? = some p → ∃ u, us[i]? = some u ∧ RelP s p u := by
          intro l
          induction l with
          | nil => intro us _ i hi; simp at hi
          | cons q l ih =>
            intro us hr i hi
            cases us with
            | nil => exact hr.elim
            | cons u us =>
              cases i with
              | zero => simp at hi; subst hi; exact ⟨u, rfl, hr.1⟩
              | succ i => simpa using ih hr.2 (by simpa using hi)
        obtain ⟨u, hu, hpr⟩ := this hr hp
        rw [Array.getElem?_toList] at hu
        exact still h hpr.lv (by simp [execOp, ho, hv, Instr.extract, hu])
      · exact h.elim
    · exact h.elim
  · rename_i t l c ho
    obtain ⟨s', y, r, H', w', h1, h2, h3, h4, h5⟩ := makeSliceA_run (opnd_rel hT l) (opnd_rel hT c) hH h
    exact wp_value (by simp [execOp, ho, h5]) (hn _ _ _ _ _ h1 h2 h3 h4)
  · rename_i t n parts ho
    obtain ⟨s', y, r, H', w', h1, h2, h3, h4, h5⟩ := buildSliceA_run (P := P) (vs := parts.map fun p => (p.1, a.eval p.2)) (by simp) (by
      have := relVs_map hT (parts.toList.map (·.2))
      simpa [Function.comp_def] using this) hH h
    exact wp_value (by simp [execOp, ho, h5]) (hn _ _ _ _ _ h1 h2 h3 h4)
  · rename_i c ho
    unfold callA at h
    split at h
    · rename_i f hce
      have hf := opnd_rel hT f
      split at h
      · rename_i g hg
        rw [hg] at hf
        have hf : a.eval f = .func (.func g) #[] #[] := hf
        obtain ⟨⟨fn, h1, h2⟩, hsp⟩ := hcall _ _ _ _ h
        refine wp_call (s := s) (f := g) (vs := c.args.toList.map a.eval) ?_ hsp (relVs_map hT _) hH hn
        have : c.args.map a.eval = (c.args.toList.map a.eval).toArray := by apply Array.ext'; simp
        simp only [execOp, ho, resolve, hce, Deferred.ofValue, hf, Sem.run_bind, Sem.run_pure, Result.andThen_ok, invoke, Array.append_empty, Array.empty_append, this]
        exact hP g fn h1 h2 _ w
      · exact h.elim
    · rename_i r name hce
      have hr := opnd_rel hT r
      split at h
      · rename_i t v hg
        rw [hg] at hr
        obtain ⟨u, hu, hrel⟩ := hr
        split at h
        · rename_i g hm
          obtain ⟨⟨fn, h1, h2⟩, hsp⟩ := hcall _ _ _ _ h
          refine wp_call (s := s) (f := g) (vs := u :: c.args.toList.map a.eval) ?_ hsp ⟨hrel, relVs_map hT _⟩ hH hn
          have hme := methodA_run (P := P) (v := u) hm (P.types.size + Made.depth - 1) w
          have hfuel : P.types.size + Made.depth - 1 + 1 = P.types.size + Made.depth := by
            have : 0 < Made.depth := by decide
            omega
          rw [hfuel] at hme
          have harr : (#[u] ++ c.args.map a.eval) = (u :: c.args.toList.map a.eval).toArray := by apply Array.ext'; simp
          have hext : ((#[a.eval r] ++ c.args.map a.eval).extract 1 (#[a.eval r] ++ c.args.map a.eval).size) = c.args.map a.eval := by
            apply Array.ext'
            simp [List.take_of_length_le]
          have h0 : (#[a.eval r] ++ c.args.map a.eval)[0]? = some (.iface t u) := by rw [hu, ← Array.getElem?_toList, Array.toList_append]; rfl
          simp only [execOp, ho, resolve, hce, Sem.run_bind, Sem.run_pure, Result.andThen_ok, invoke, hext, h0, callMethod, run_program, hme, harr]
          exact hP g fn h1 h2 _ w
        · exact h.elim
      · exact h.elim
    · rename_i b hce
      split at h
      · split at h
        · rename_i t ts x xs hat hargs
          have h0 : c.argTypes[0]? = some t := by rw [← Array.getElem?_toList, hat]; rfl
          have h1 : (c.args.map a.eval)[0]? = some (a.eval x) := by
            have : c.args[0]? = some x := by rw [← Array.getElem?_toList, hargs]; rfl
            simp [this]
          obtain ⟨z, r, h2, h3, h4⟩ := lenA_run (P := P) (ty := o.type) (opnd_rel hT x) h0 h1 h
          exact still h2 h3 (by simp [execOp, ho, resolve, hce, invoke, builtin, h4])
        · exact h.elim
      · split at h
        · rename_i z hz
          have hargs := relVs_map hT c.args.toList
          unfold minmax at hz
          split at hz
          · cases hz
          · rename_i x xs hxs
            rw [hxs] at hargs
            generalize hg : c.args.toList.map a.eval = vs at hargs
            cases vs with
            | nil => exact hargs.elim
            | cons v vs =>
              obtain ⟨u, h2, h3⟩ := minmax_run (P := P) true hargs.1 hargs.2 hz
              refine still h h2 ?_
              simp only [if_true] at h3
              simp [execOp, ho, resolve, hce, invoke, builtin, Builtin.min_, hg, h3]
        · exact h.elim
      · split at h
        · rename_i z hz
          have hargs := relVs_map hT c.args.toList
          unfold minmax at hz
          split at hz
          · cases hz
          · rename_i x xs hxs
            rw [hxs] at hargs
            generalize hg : c.args.toList.map a.eval = vs at hargs
            cases vs with
            | nil => exact hargs.elim
            | cons v vs =>
              obtain ⟨u, h2, h3⟩ := minmax_run (P := P) false hargs.1 hargs.2 hz
              refine still h h2 ?_
              simp only [Bool.false_eq_true, if_false] at h3
              simp [execOp, ho, resolve, hce, invoke, builtin, Builtin.max_, hg, h3]
        · exact h.elim
      · split at h
        · rename_i t t' x y hat hargs
          have h0 : c.argTypes = #[t, t'] := by apply Array.ext'; simpa using hat
          have h1 : c.args.map a.eval = #[a.eval x, a.eval y] := by apply Array.ext'; simp [hargs]
          obtain ⟨s', z, r, H', w', h2, h3, h4, h5, h6⟩ := appendA_run (P := P) (ty := o.type) (opnd_rel hT x) (opnd_rel hT y) hH h
          exact wp_value (by simp [execOp, ho, resolve, hce, invoke, builtin, h0, h1, h6]) (hn _ _ _ _ _ h2 h3 h4 h5)
        · exact h.elim
      · exact h.elim
  · exact h.elim

end
end Go.FL
