/-
  Every operation of the evaluator is sound.
-/
import Derived.Test.YtfjnkneoddankaaGreatEvOps
set_option linter.unusedVariables false
set_option linter.unusedSimpArgs false
set_option linter.unusedSectionVars false
namespace Go.FL

section
variable {P : Program}

theorem intA_run {s : Mp} {op : BinOp} {k : IntKind} {a b : Int} {K : LV → Prop} {t : TypeId} (hsh : isShift op = false) (h : intA op k a b K) :
    ∃ y v, K y ∧ RelV s y v ∧ ∀ w, (binOp op t (.int k a) (.int k b)).run P w = .ok v w := by
  unfold intA at h
  cases op <;> simp only [isShift, Bool.true_eq_false, reduceCtorEq] at hsh h
  case add => exact ⟨_, _, h, rfl, fun w => by simp [binOp, Op.intArith]⟩
  case sub => exact ⟨_, _, h, rfl, fun w => by simp [binOp, Op.intArith]⟩
  case mul => exact ⟨_, _, h, rfl, fun w => by simp [binOp, Op.intArith]⟩
  case quo =>
    split at h
    · exact h.elim
    · rename_i h0
      have h0 : ¬ b = 0 := by simpa using h0
      exact ⟨_, _, h, rfl, fun w => by simp [binOp, Op.intDiv, h0]⟩
  case rem =>
    split at h
    · exact h.elim
    · rename_i h0
      have h0 : ¬ b = 0 := by simpa using h0
      exact ⟨_, _, h, rfl, fun w => by simp [binOp, Op.intDiv, h0]⟩
  case and => exact ⟨_, _, h, rfl, fun w => by simp [binOp, Op.intBits]⟩
  case or => exact ⟨_, _, h, rfl, fun w => by simp [binOp, Op.intBits]⟩
  case xor => exact ⟨_, _, h, rfl, fun w => by simp [binOp, Op.intBits]⟩
  case andNot => exact ⟨_, _, h, rfl, fun w => by simp [binOp, Op.intBits]⟩
  case eql => exact ⟨_, _, h, rfl, fun w => by simp [binOp, Op.intCmp]; rfl⟩
  case neq => exact ⟨_, _, h, rfl, fun w => by simp [binOp, Op.intCmp]; rfl⟩
  case lss => exact ⟨_, _, h, rfl, fun w => by simp [binOp, Op.intCmp]⟩
  case leq => exact ⟨_, _, h, rfl, fun w => by simp [binOp, Op.intCmp]⟩
  case gtr => exact ⟨_, _, h, rfl, fun w => by simp [binOp, Op.intCmp]⟩
  case geq => exact ⟨_, _, h, rfl, fun w => by simp [binOp, Op.intCmp]⟩

theorem shiftA_run {s : Mp} {op : BinOp} {k k' : IntKind} {a b : Int} {K : LV → Prop} {t : TypeId} (hsh : isShift op = true) (h : shiftA op k a b K) :
    ∃ y v, K y ∧ RelV s y v ∧ ∀ w, (binOp op t (.int k a) (.int k' b)).run P w = .ok v w := by
  unfold shiftA at h
  split at h
  · exact h.elim
  · rename_i h0
    have h0 : ¬ b < 0 := by simpa using h0
    cases op <;> simp only [isShift, Bool.false_eq_true, reduceCtorEq] at hsh h
    case shl => exact ⟨_, _, h, rfl, fun w => by simp [binOp, Op.shift, h0]⟩
    case shr => exact ⟨_, _, h, rfl, fun w => by simp [binOp, Op.shift, h0]⟩

theorem eqGuard_nilc {op : BinOp} {t : TypeId} {x y : Operand} (h : (isConst x || isConst y) = true) : eqGuard op t x y .nilIface .nilIface = pure () := by
  cases x <;> cases y <;> first
    | exact eqGuard_nil_constR ..
    | exact eqGuard_nil_constL ..
    | (simp [isConst] at h)

theorem eqGuard_one {op : BinOp} {t : TypeId} {x y : Operand} {s : Mp} {d : TypeDesc} {a b : LC} {u v : Value} {q : Bool} (ha : RelC s a u) (hb : RelC s b v)
    (hq : nilA d a b = some q) (hc : (isConst x || isConst y) = true) : eqGuard op t x y u v = pure () := by
  cases a <;> simp only [RelC] at ha
  case nilp => subst ha; exact eqGuard_at_pointer ..
  case ptr => obtain ⟨_, _, rfl⟩ := ha; exact eqGuard_at_pointer ..
  case idx => obtain ⟨_, _, rfl⟩ := ha; exact eqGuard_at_pointer ..
  case nils => subst ha; exact eqGuard_at_slice ..
  case slice => obtain ⟨_, _, rfl⟩ := ha; exact eqGuard_at_slice ..
  case iface => obtain ⟨_, rfl, _⟩ := ha; exact eqGuard_at_iface ..
  case nilf => subst ha; exact eqGuard_at_nilFunc ..
  case fn => subst ha; exact eqGuard_at_func ..
  case int => subst ha; exact eqGuard_at_int ..
  case bool => subst ha; exact eqGuard_at_bool ..
  case str => subst ha; exact eqGuard_at_string ..
  case any => cases d <;> simp [nilA] at hq
  case nili =>
    subst ha
    cases b <;> simp only [RelC] at hb <;> first
      | (subst hb; exact eqGuard_nilc hc)
      | (obtain ⟨_, rfl, _⟩ := hb; exact eqGuard_nil_iface ..)
      | (cases d <;> simp [nilA] at hq)

theorem nilA_equalIn {s : Mp} {t : TypeId} {d : TypeDesc} {a b : LC} {u v : Value} {q : Bool} (m : Nat) (ht : P.underlying t = some d) (ha : RelC s a u) (hb : RelC s b v)
    (hq : nilA d a b = some q) (w : World) : (Op.equalIn (m + 1) t u v).run P w = .ok q w := by
  unfold nilA at hq
  split at hq <;> (try split at hq) <;> (try (cases hq; done)) <;> cases hq <;> simp only [RelC] at ha hb
  all_goals
    (try obtain ⟨_, _, rfl⟩ := ha)
    (try obtain ⟨_, rfl, _⟩ := ha)
    (try obtain ⟨_, _, rfl⟩ := hb)
    (try obtain ⟨_, rfl, _⟩ := hb)
    (try subst ha)
    (try subst hb)
    simp [Op.equalIn, run_underlying ht]

theorem bool_equalIn {t : TypeId} (m : Nat) (ht : P.underlying t = some .bool) (a b : Bool) (w : World) : (Op.equalIn (m + 1) t (.bool a) (.bool b)).run P w = .ok (a == b) w := by
  simp [Op.equalIn, run_underlying ht]

theorem binOp_eqlOf {t : TypeId} {u v : Value} {q : Bool} {w : World} (h : (Op.equal t u v).run P w = .ok q w)
    (h2 : binOp .eql t u v = (do pure (.bool (← Op.equal t u v)) : Sem Value)) (h3 : binOp .neq t u v = (do pure (.bool (!(← Op.equal t u v))) : Sem Value)) :
    (binOp .eql t u v).run P w = .ok (.bool q) w ∧ (binOp .neq t u v).run P w = .ok (.bool !q) w := by
  rw [h2, h3]
  simp only [Sem.run_bind, h, Result.andThen_ok, Sem.run_pure]
  exact ⟨trivial, trivial⟩

/-- nil against something, of a type that has one. -/
theorem nilA_run {s : Mp} {t : TypeId} {d : TypeDesc} {ox oy : Operand} {a b : LC} {u v : Value} {q : Bool} (ht : P.underlying t = some d) (ha : RelC s a u) (hb : RelC s b v)
    (hq : nilA d a b = some q) (hc : (isConst ox || isConst oy) = true) :
    (∀ op, eqGuard op t ox oy u v = pure ()) ∧
    ∀ w : World, (binOp .eql t u v).run P w = .ok (.bool q) w ∧ (binOp .neq t u v).run P w = .ok (.bool !q) w := by
  refine ⟨fun op => eqGuard_one ha hb hq hc, fun w => ?_⟩
  have he : (Op.equal t u v).run P w = .ok q w := nilA_equalIn 9999 ht ha hb hq w
  unfold nilA at hq
  split at hq <;> (try split at hq) <;> (try (cases hq; done)) <;> simp only [RelC] at ha hb
  all_goals
    (try obtain ⟨_, _, rfl⟩ := ha)
    (try obtain ⟨_, rfl, _⟩ := ha)
    (try obtain ⟨_, _, rfl⟩ := hb)
    (try obtain ⟨_, rfl, _⟩ := hb)
    (try subst ha)
    (try subst hb)
    exact binOp_eqlOf he rfl rfl

theorem binA_run {s : Mp} {op : BinOp} {t : TypeId} {ox oy : Operand} {x y : LV} {u v : Value} {K : LV → Prop} (hx : RelV s x u) (hy : RelV s y v) (h : binA P op t ox oy x y K) :
    ∃ z r, K z ∧ RelV s z r ∧ ∀ w, (do eqGuard op t ox oy u v; binOp op t u v : Sem Value).run P w = .ok r w := by
  unfold binA at h
  split at h
  · rename_i k a k' b
    have hx : u = .int k a := hx
    have hy : v = .int k' b := hy
    subst hx; subst hy
    split at h
    · rename_i hsh
      obtain ⟨z, r, h1, h2, h3⟩ := shiftA_run (P := P) (s := s) (k' := k') (t := t) hsh h
      exact ⟨z, r, h1, h2, fun w => by rw [eqGuard_at_int]; simpa using h3 w⟩
    · rename_i hsh
      split at h
      · rename_i hk
        have hk : k = k' := by simpa using hk
        subst hk
        obtain ⟨z, r, h1, h2, h3⟩ := intA_run (P := P) (s := s) (t := t) hsh h
        exact ⟨z, r, h1, h2, fun w => by rw [eqGuard_at_int]; simpa using h3 w⟩
      · exact h.elim
  · rename_i a b
    have hx : u = .bool a := hx
    have hy : v = .bool b := hy
    subst hx; subst hy
    split at h
    · rename_i ht
      split at h
      · exact ⟨_, .bool (a == b), h, rfl, fun w => by rw [eqGuard_at_bool]; exact (binOp_eqlOf (bool_equalIn 9999 ht a b w) rfl rfl).1⟩
      · exact ⟨_, .bool (!(a == b)), h, rfl, fun w => by rw [eqGuard_at_bool]; exact (binOp_eqlOf (bool_equalIn 9999 ht a b w) rfl rfl).2⟩
      · exact h.elim
    · exact h.elim
  · split at h
    · rename_i d hd
      split at h
      · rename_i q hq
        split at h
        · rename_i hc
          obtain ⟨h1, h3⟩ := nilA_run (P := P) hd hx hy hq hc
          split at h
          · exact ⟨_, _, h, rfl, fun w => by rw [h1]; exact (h3 w).1⟩
          · exact ⟨_, _, h, rfl, fun w => by rw [h1]; exact (h3 w).2⟩
          · exact h.elim
        · exact h.elim
      · exact h.elim
    · exact h.elim
  · exact h.elim

theorem unA_run {s : Mp} {op : UnOp} {x : LV} {u : Value} {K : LV → Prop} (hx : RelV s x u) (h : unA op x K) :
    ∃ z r, K z ∧ RelV s z r ∧ ∀ w, (Op.unary op u).run P w = .ok r w := by
  unfold unA at h
  split at h
  · have hx : u = _ := hx
    subst hx
    exact ⟨_, _, h, rfl, fun w => rfl⟩
  · have hx : u = _ := hx
    subst hx
    exact ⟨_, _, h, rfl, fun w => rfl⟩
  · exact h.elim

theorem convA_run {s : Mp} {a b : TypeId} {x : LV} {u : Value} {K : LV → Prop} (hx : RelV s x u) (h : convA P a b x K) :
    ∃ z r, K z ∧ RelV s z r ∧ ∀ w, (convert a b u).run P w = .ok r w := by
  unfold convA at h
  split at h
  · have hx : u = _ := hx
    subst hx
    split at h
    · rename_i ha hb
      exact ⟨_, _, h, rfl, fun w => by simp [convert, run_underlying ha, run_underlying hb, Conv.intToInt]⟩
    · exact h.elim
  · exact h.elim

theorem fieldT_spec {t : TypeId} {f : Nat} {fd : Field} (h : fieldT P t f = some fd) : ∃ fs, P.underlying t = some (.struct fs) ∧ fs[f]? = some fd := by
  unfold fieldT at h
  split at h
  · rename_i fs hu
    exact ⟨fs, hu, by rw [lget_eq] at h; simpa [Array.getElem?_toList] using h⟩
  · cases h

theorem fieldAddrA_run {s : Mp} {t : TypeId} {f : Nat} {x : LV} {u : Value} {K : LV → Prop} (hx : RelV s x u) (h : fieldAddrA P t x f K) :
    ∃ z r, K z ∧ RelV s z r ∧ ∀ w, (Instr.fieldAt t u f).run P w = .ok r w := by
  unfold fieldAddrA at h
  split at h
  · exact h.elim
  rename_i fd hfd
  obtain ⟨fs, hu, hf⟩ := fieldT_spec hfd
  split at h
  · exact h.elim
  · exact h.elim
  rename_i m hm
  have hsz := fun w => sizeT_run (P := P) hm w
  split at h
  · obtain ⟨r, hr, rfl⟩ := hx
    exact ⟨_, _, h, ⟨r, hr, rfl⟩, fun w => by simp [Instr.fieldAt, run_underlying hu, hf, Instr.sureAddr, fieldPlace, hsz, add_plain]⟩
  · obtain ⟨r, hr, rfl⟩ := hx
    exact ⟨_, _, h, ⟨r, hr, rfl⟩, fun w => by simp [Instr.fieldAt, run_underlying hu, hf, Instr.sureAddr, fieldPlace, hsz, add_plain, Nat.add_assoc]⟩
  · exact h.elim

theorem loadRow_part {s : Mp} {t : TypeId} {l : List LC} {off : Nat} {K : LV → Prop} {cs : Array Value} (hl : RelL s l cs.toList) (h : loadRow P t l off K) :
    ∃ x v, K x ∧ RelV s x v ∧ ∀ w, (part t cs off).run P w = .ok v w := by
  unfold loadRow at h
  split at h
  · rename_i hagg
    split at h
    · rename_i n hn
      split at h
      · rename_i cs' hcs
        obtain ⟨hle, rfl⟩ := lsub_eq _ _ _ hcs
        refine ⟨_, .agg (cs.extract off (off + n)), h, ⟨_, rfl, ?_⟩, ?_⟩
        · have := (hl.drop off).take n
          simpa [Array.toList_extract, List.extract_eq_take_drop] using this
        · intro w; simp [part, aggT_run hagg, sizeT_run hn]
      · exact h.elim
    · exact h.elim
  · rename_i hagg
    split at h
    · rename_i x hx
      rw [lget_eq] at hx
      obtain ⟨v, hv, hrel⟩ := hl.get hx
      rw [Array.getElem?_toList] at hv
      exact ⟨_, v, h, hrel, fun w => by simp [part, aggT_run hagg, hv]⟩
    · exact h.elim
  · exact h.elim

theorem fieldA_run {s : Mp} {t : TypeId} {f : Nat} {x : LV} {u : Value} {K : LV → Prop} (hx : RelV s x u) (h : fieldA P t x f K) :
    ∃ z r, K z ∧ RelV s z r ∧ ∀ w, (Instr.field t u f).run P w = .ok r w := by
  unfold fieldA at h
  split at h
  · exact h.elim
  rename_i fd hfd
  obtain ⟨fs, hu, hf⟩ := fieldT_spec hfd
  split at h
  · obtain ⟨cs, rfl, hl⟩ := hx
    obtain ⟨z, r, h1, h2, h3⟩ := loadRow_part hl h
    exact ⟨z, r, h1, h2, fun w => by simp [Instr.field, run_underlying hu, hf, asAgg, h3]⟩
  · exact h.elim

theorem indexAddrA_run {s : Mp} {t : TypeId} {x i : LV} {u j : Value} {K : LV → Prop} (hx : RelV s x u) (hi : RelV s i j) (h : indexAddrA P t x i K) :
    ∃ z r, K z ∧ RelV s z r ∧ ∀ w, (Instr.indexAt t u j).run P w = .ok r w := by
  unfold indexAddrA at h
  split at h
  · have hi : j = _ := hi
    subst hi
    split at h
    · rename_i ht
      obtain ⟨r, hr, rfl⟩ := hx
      split at h
      · rename_i wd hwd
        split at h
        · rename_i hlt
          have hlt := of_decide_eq_true hlt
          refine ⟨_, _, h, ⟨r, hr, rfl⟩, fun w => ?_⟩
          have hs := fun w => sizeT_run (P := P) hwd w
          simp [Instr.indexAt, asIntOf, run_underlying ht, hlt, hs, add_plain, Nat.add_comm]
        · exact h.elim
      · exact h.elim
    · rename_i ht
      obtain ⟨r, hr, rfl⟩ := hx
      split at h
      · rename_i wd hwd
        split at h
        · rename_i hlt
          have hlt := of_decide_eq_true hlt
          refine ⟨_, _, h, ⟨r, hr, rfl⟩, fun w => ?_⟩
          have hs := fun w => sizeT_run (P := P) hwd w
          simp [Instr.indexAt, asIntOf, run_underlying ht, Instr.sureAddr, hlt, hs, add_plain, Nat.add_comm]
        · exact h.elim
      · exact h.elim
    · exact h.elim
  · exact h.elim

end
end Go.FL
