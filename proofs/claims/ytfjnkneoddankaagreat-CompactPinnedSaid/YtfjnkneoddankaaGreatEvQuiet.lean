/-
  Quiet operations: what they yield hangs on their operands alone, or on one block.
-/
import Derived.Test.YtfjnkneoddankaaGreatEvOp
set_option linter.unusedVariables false
set_option linter.unusedSimpArgs false
set_option linter.unusedSectionVars false
namespace Go.FL

section
variable {P : Program} {call : FuncId → List LV → LH → (LV → LH → Prop) → Prop}

theorem quietA_ok {o : Oper} {T : Tm} {H : LH} {K : LV → LH → Prop} {s : Mp} {nt : Nat} {a : Act} {w : World} (hq : quietOp o.op = true) (h : opA P call o T H K) (hT : RelT s nt T a) (hH : Rel s H w) :
    ∃ y v, K y H ∧ RelV s y v ∧ ((noLoad o.op = true ∧ ∀ w', (execOp a.eval o).run P w' = .ok (.value v) w') ∨
      (noLoad o.op = false ∧ ∃ n r ob, loadsOf o T = some n ∧ hd s n = some r ∧ w.heap[r]? = some ob ∧ ∀ w' : World, w'.heap[r]? = some ob → (execOp a.eval o).run P w' = .ok (.value v) w')) := by
  have still : ∀ {z : LV} {r : Value}, K z H → RelV s z r → noLoad o.op = true → (∀ w', (execOp a.eval o).run P w' = .ok (.value r) w') → ∃ y v, K y H ∧ RelV s y v ∧ ((noLoad o.op = true ∧ ∀ w', (execOp a.eval o).run P w' = .ok (.value v) w') ∨
      (noLoad o.op = false ∧ ∃ n r ob, loadsOf o T = some n ∧ hd s n = some r ∧ w.heap[r]? = some ob ∧ ∀ w' : World, w'.heap[r]? = some ob → (execOp a.eval o).run P w' = .ok (.value v) w')) :=
    fun hK hr hl hrun => ⟨_, _, hK, hr, .inl ⟨hl, hrun⟩⟩
  unfold opA at h
  split at h
  · rename_i x ho; exact still h (opnd_rel hT x) (by rw [ho]; rfl) (fun w => by simp [execOp, ho])
  · rename_i x ho; exact still h (opnd_rel hT x) (by rw [ho]; rfl) (fun w => by simp [execOp, ho])
  · rename_i c x y ho
    have hc := opnd_rel hT c
    split at h
    · rename_i q hq
      rw [hq] at hc
      have hc : a.eval c = .bool q := hc
      split at h
      · exact still h (opnd_rel hT x) (by rw [ho]; rfl) (fun w => by simp [execOp, ho, hc, asBool])
      · exact still h (opnd_rel hT y) (by rw [ho]; rfl) (fun w => by simp [execOp, ho, hc, asBool])
    · exact h.elim
  · rename_i e ho; rw [ho] at hq; cases hq
  · rename_i e x ho; rw [ho] at hq; cases hq
  · rename_i t parts ho
    obtain ⟨z, r, h1, h2, h3⟩ := buildA_run (P := P) (s := s) (vs := parts.map fun p => (p.1, a.eval p.2)) (by simp) (by
      have := relVs_map hT (parts.toList.map (·.2))
      simpa [Function.comp_def] using this) h
    exact still h1 h2 (by rw [ho]; rfl) (fun w => by simp [execOp, ho, h3])
  · rename_i t x ho
    obtain ⟨y, v, n, r, ob, h1, h2, h3, h4, h5, h6⟩ := loadA_run' (opnd_rel hT x) hH h
    refine ⟨y, v, h1, h2, .inr ⟨by rw [ho]; rfl, n, r, ob, ?_, h4, h5, fun w' hw' => ?_⟩⟩
    · simp only [loadsOf, ho]; exact h3
    · simp [execOp, ho, h6 w' hw']
  · rename_i t x y ho; rw [ho] at hq; cases hq
  · rename_i x ho
    have hx := opnd_rel hT x
    split at h
    · rename_i n off hq
      rw [hq] at hx
      obtain ⟨r, hr, he⟩ := hx
      exact still h ⟨r, hr, rfl⟩ (by rw [ho]; rfl) (fun w => by simp [execOp, ho, he])
    · rename_i n r' wd c hq
      rw [hq] at hx
      obtain ⟨r, hr, he⟩ := hx
      exact still h ⟨r, hr, rfl⟩ (by rw [ho]; rfl) (fun w => by simp [execOp, ho, he])
    · exact h.elim
  · rename_i op t x y ty ho
    obtain ⟨z, r, h1, h2, h3⟩ := binA_run (opnd_rel hT x) (opnd_rel hT y) h
    exact still h1 h2 (by rw [ho]; rfl) (fun w => by simp only [execOp, ho]; rw [Sem.run_bind, h3]; rfl)
  · rename_i op t x ho
    obtain ⟨z, r, h1, h2, h3⟩ := unA_run (P := P) (opnd_rel hT x) h
    exact still h1 h2 (by rw [ho]; rfl) (fun w => by simp [execOp, ho, h3])
  · rename_i src dst x ho
    obtain ⟨z, r, h1, h2, h3⟩ := convA_run (opnd_rel hT x) h
    exact still h1 h2 (by rw [ho]; rfl) (fun w => by simp [execOp, ho, h3])
  · rename_i t x ho
    have hx := opnd_rel hT x
    split at h
    · rename_i y hy
      rw [hy] at hx
      split at h
      · exact h.elim
      · rename_i d hd hu
        refine still h ⟨a.eval x, rfl, hx⟩ (by rw [ho]; rfl) (fun w => ?_)
        have : (Instr.makeInterface t (a.eval x)).run P w = .ok (.iface t (a.eval x)) w := by
          simp only [Instr.makeInterface, Sem.run_bind, run_underlying hu, Result.andThen_ok]
          first
            | rfl
            | (split
               · exact absurd rfl (hd _)
               · rfl)
        simp [execOp, ho, this]
      · exact h.elim
    · exact h.elim
  · rename_i t x f ho
    obtain ⟨z, r, h1, h2, h3⟩ := fieldAddrA_run (opnd_rel hT x) h
    exact still h1 h2 (by rw [ho]; rfl) (fun w => by simp [execOp, ho, h3])
  · rename_i t x f ho
    obtain ⟨z, r, h1, h2, h3⟩ := fieldA_run (opnd_rel hT x) h
    exact still h1 h2 (by rw [ho]; rfl) (fun w => by simp [execOp, ho, h3])
  · rename_i t x i ho
    obtain ⟨z, r, h1, h2, h3⟩ := indexAddrA_run (opnd_rel hT x) (opnd_rel hT i) h
    exact still h1 h2 (by rw [ho]; rfl) (fun w => by simp [execOp, ho, h3])
  · rename_i x i ho
    have hx := opnd_rel hT x
    split at h
    · rename_i l hl
      rw [hl] at hx
      obtain ⟨vs, hv, hr⟩ := hx
      split at h
      · rename_i p hp
        rw [lget_eq] at hp
        have : ∀ {l : List LP} {us : List Value}, RelPs s l us → ∀ {i : Nat}, l[i]? = some p → ∃ u, us[i]? = some u ∧ RelP s p u := by
          intro l
          induction l with
          | nil => intro us _ i hi; simp at hi
          | cons q l ih =>
            intro us hr i hi
            cases us with
            | nil => exact hr.elim
            | cons u us =>
              cases i with
              | zero => simp at hi; subst hi; exact ⟨u, rfl, hr.1⟩
              | succ i => simpa using ih hr.2 (by simpa using hi)
        obtain ⟨u, hu, hpr⟩ := this hr hp
        rw [Array.getElem?_toList] at hu
        exact still h hpr.lv (by rw [ho]; rfl) (fun w => by simp [execOp, ho, hv, Instr.extract, hu])
      · exact h.elim
    · exact h.elim
  · rename_i t l c ho; rw [ho] at hq; cases hq
  · rename_i t n parts ho; rw [ho] at hq; cases hq
  · rename_i c ho
    unfold callA at h
    split at h
    · rename_i f hce
      exfalso
      rw [ho] at hq
      cases c; cases hce; cases hq
    · rename_i r name hce
      exfalso
      rw [ho] at hq
      cases c; cases hce; cases hq
    · rename_i b hce
      split at h
      · split at h
        · rename_i t ts x xs hat hargs
          have h0 : c.argTypes[0]? = some t := by rw [← Array.getElem?_toList, hat]; rfl
          have h1 : (c.args.map a.eval)[0]? = some (a.eval x) := by
            have : c.args[0]? = some x := by rw [← Array.getElem?_toList, hargs]; rfl
            simp [this]
          obtain ⟨z, r, h2, h3, h4⟩ := lenA_run (P := P) (ty := o.type) (opnd_rel hT x) h0 h1 h
          exact still h2 h3 (by rw [ho]; rfl) (fun w => by simp [execOp, ho, resolve, hce, invoke, builtin, h4])
        · exact h.elim
      · split at h
        · rename_i z hz
          have hargs := relVs_map hT c.args.toList
          unfold minmax at hz
          split at hz
          · cases hz
          · rename_i x xs hxs
            rw [hxs] at hargs
            generalize hg : c.args.toList.map a.eval = vs at hargs
            cases vs with
            | nil => exact hargs.elim
            | cons v vs =>
              obtain ⟨u, h2, h3⟩ := minmax_run (P := P) true hargs.1 hargs.2 hz
              refine still h h2 (by rw [ho]; rfl) (fun w => ?_)
              simp only [if_true] at h3
              simp [execOp, ho, resolve, hce, invoke, builtin, Builtin.min_, hg, h3]
        · exact h.elim
      · split at h
        · rename_i z hz
          have hargs := relVs_map hT c.args.toList
          unfold minmax at hz
          split at hz
          · cases hz
          · rename_i x xs hxs
            rw [hxs] at hargs
            generalize hg : c.args.toList.map a.eval = vs at hargs
            cases vs with
            | nil => exact hargs.elim
            | cons v vs =>
              obtain ⟨u, h2, h3⟩ := minmax_run (P := P) false hargs.1 hargs.2 hz
              refine still h h2 (by rw [ho]; rfl) (fun w => ?_)
              simp only [Bool.false_eq_true, if_false] at h3
              simp [execOp, ho, resolve, hce, invoke, builtin, Builtin.max_, hg, h3]
        · exact h.elim
      · rename_i hb
        exfalso
        rw [ho] at hq
        cases c; cases hce; cases hq
      · exact h.elim
  · exact h.elim

theorem putA_ok {nt : Nat} {dst : Option Tmp} {v : LV} {T : Tm} {K : Tm → Prop} {s : Mp} {a : Act} {v' : Value} (h : putA nt dst v T K) (hT : RelT s nt T a) (hv : RelV s v v') :
    ∃ T', K T' ∧ RelT s nt T' (a.put dst v') := by
  unfold putA at h
  split at h
  · exact ⟨T, h, hT⟩
  · rename_i d
    split at h
    · rename_i hd
      have hd : d < nt := Nat.le_of_ble_eq_true hd
      have key : RelT s nt ((d, v) :: T) (a.put (some d) v') := by
        refine ⟨⟨by simp [Act.put, hT.1.1], hT.1.2⟩, fun t => ?_⟩
        simp only [Tm.get]
        split
        · rename_i he
          have he : d = t := by simpa using he
          subst he
          simp only [Act.put, Array.getD_eq_getD_getElem?]
          rw [Array.getElem?_setIfInBounds_self_of_lt (by rw [hT.1.1]; exact hd)]
          exact hv
        · rename_i he
          have he : ¬ d = t := Nat.ne_of_beq_eq_false he
          simp only [Act.put, Array.getD_eq_getD_getElem?]
          rw [Array.getElem?_setIfInBounds_ne he]
          simpa [Array.getD_eq_getD_getElem?] using hT.2 t
      split at h <;> exact ⟨_, h, key⟩
    · exact h.elim

theorem guardA_ok {ops : Array Oper} {nt : Nat} {g : Option (Nat × Bool)} {T : Tm} {K : Bool → Tm → Prop} {s : Mp} {a : Act} (h : guardA ops.toList g T K) (hT : RelT s nt T a) :
    ∃ b T', K b T' ∧ RelT s nt T' a ∧ ∀ o : Oper, o.guard = g → Region.wanted o (yielded ops a.tmps) = b := by
  unfold guardA at h
  split at h
  · exact ⟨true, T, h, hT, fun o ho => by simp [Region.wanted, ho]⟩
  · rename_i j want
    split at h
    · exact h.elim
    rename_i oj hoj
    rw [lget_eq, Array.getElem?_toList] at hoj
    split at h
    · exact h.elim
    rename_i d hd
    split at h
    · rename_i b hb
      have hv := hT.2 d
      rw [hb] at hv
      have hv : a.tmps.getD d undef = .bool b := hv
      have hv' : a.tmps[d]? = some (.bool b) := by
        rw [Array.getD_eq_getD_getElem?] at hv
        cases hx : a.tmps[d]? with
        | none => rw [hx] at hv; simp [undef] at hv
        | some x => rw [hx] at hv; simpa using hv
      have hy : yielded ops a.tmps j = some b := by simp [yielded, hoj, hd, hv']
      have keyT : RelT s nt ((d, .c (.bool b)) :: T) a := by
        refine ⟨hT.1, fun t => ?_⟩
        simp only [Tm.get]
        split
        · rename_i he
          have he : d = t := by simpa using he
          subst he
          exact hv
        · exact hT.2 t
      split at h
      · exact ⟨want, _, h, keyT, fun o ho => by simp [Region.wanted, ho, hy]⟩
      · exact ⟨!want, _, h, keyT, fun o ho => by simp [Region.wanted, ho, hy]⟩
    · rename_i hb
      have hv := hT.2 d
      rw [hb] at hv
      obtain ⟨vs, hv, hvs⟩ := hv
      have hv0 : vs = #[] := by
        cases hl : vs.toList with
        | nil => exact Array.ext' hl
        | cons x r => rw [hl] at hvs; exact hvs.elim
      subst hv0
      have hy : yielded ops a.tmps j = none := by
        simp only [yielded, hoj, hd, Option.bind_some]
        rw [Array.getD_eq_getD_getElem?] at hv
        cases hx : a.tmps[d]? with
        | none => rfl
        | some x => rw [hx] at hv; simp only [Option.getD_some] at hv; subst hv; rfl
      exact ⟨false, _, h, hT, fun o ho => by simp [Region.wanted, ho, hy]⟩
    · exact h.elim

/-- A region in the order of the text. -/
theorem regA_ok (hP : FnOK P) (hcall : CallOK P call) {ops : Array Oper} {nt : Nat} {Q : Exit → Act → World → Prop} : ∀ {l : List Oper} {T : Tm} {H : LH} {K : Tm → LH → Prop} {s : Mp} {a : Act} {w : World},
    regA P call nt ops.toList l T H K → RelT s nt T a → Rel s H w →
    (∀ s' T' H' a' w', K T' H' → RelT s' nt T' a' → Rel s' H' w' → Post s H w s' H' w' → Q .normal a' w') → wpList P ops Q l a w
  | [], T, H, K, s, a, w, h, hT, hH, hn => hn s T H a w h hT hH Post.rfl'
  | o :: l, T, H, K, s, a, w, h, hT, hH, hn => by
    simp only [regA, execA] at h
    obtain ⟨b, T1, h, hT1, hw⟩ := guardA_ok h hT
    have hw := hw o rfl
    unfold wpList
    cases b with
    | true =>
      rw [if_pos hw]
      refine .inl (opA_ok hP hcall h hT1 hH ?_)
      intro s' v v' H' w' hK hv hH' hp
      obtain ⟨T', hK, hT'⟩ := putA_ok hK (hT1.mono hp.hext) hv
      exact regA_ok hP hcall hK hT' hH' fun s'' T'' H'' a'' w'' h1 h2 h3 h4 => hn s'' T'' H'' a'' w'' h1 h2 h3 (hp.trans h4)
    | false =>
      rw [if_neg (by simp [hw])]
      obtain ⟨T', hK, hT'⟩ := putA_ok (v' := undef) h hT1 ⟨#[], rfl, trivial⟩
      exact regA_ok hP hcall hK hT' hH hn

end
end Go.FL
