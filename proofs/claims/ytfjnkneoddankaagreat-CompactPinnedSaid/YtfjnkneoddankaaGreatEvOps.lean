/-
  The evaluator's operations are sound: what they say of their abstract result holds of the real one.
-/
import Derived.Test.YtfjnkneoddankaaGreatEvRel
import Derived.Laws.CopyRow
import Derived.Laws.Cells
import Derived.Tactics
set_option linter.unusedVariables false
set_option linter.unusedSimpArgs false
set_option linter.unusedSectionVars false
namespace Go.FL

section
variable {P : Program}

/-- What the evaluator asks of the program beyond its code: a function with a body is entered. -/
def FnOK (P : Program) : Prop := ∀ f fn, P.funcs[f]? = some fn → fn.body.isSome = true → ∀ args w, (callFunc f args).run P w = .ok (.enter f args) w

def CSpec (P : Program) (f : FuncId) (args : List LV) (H : LH) (K : LV → LH → Prop) : Prop :=
  ∀ s vs w, RelVs s args vs → Rel s H w → Calls P f vs.toArray w fun
    | .returned v', w' => ∃ s' v H', K v H' ∧ RelV s' v v' ∧ Rel s' H' w' ∧ Post s H w s' H' w'
    | _, _ => False

def CallOK (P : Program) (call : FuncId → List LV → LH → (LV → LH → Prop) → Prop) : Prop :=
  ∀ f args H K, call f args H K → (∃ fn, P.funcs[f]? = some fn ∧ fn.body.isSome = true) ∧ CSpec P f args H K

theorem aggT_run {t : TypeId} {b : Bool} (h : aggT P t = some b) (w : World) : (isAgg t).run P w = .ok b w := by
  unfold aggT at h
  unfold isAgg
  split at h
  · rename_i fs hu; cases h; simp [run_underlying hu]
  · rename_i n e hu; cases h; simp [run_underlying hu]
  · rename_i d h1 h2 hu
    cases h
    simp only [Sem.run_bind, run_underlying hu, Result.andThen_ok]
    first
      | rfl
      | (split
         · exact absurd rfl (h1 _)
         · exact absurd rfl (h2 _ _)
         · rfl)
  · cases h

theorem typeInfo_run {t : TypeId} {i : TypeInfo} (h : P.info? t = some i) (w : World) : (typeInfo t).run P w = .ok i w := by
  simp [typeInfo, h]

theorem sizeT_run {t : TypeId} {n : Nat} (h : sizeT P t = some n) (w : World) : (sizeOf t).run P w = .ok n w := by
  unfold sizeT at h
  split at h
  · rename_i i hi; cases h; simp [sizeOf, typeInfo_run hi]
  · cases h

theorem zeroT_run {s : Mp} {t : TypeId} {l : List LC} (h : zeroT P t = some l) : ∃ v, (∀ w, (zeroValue t).run P w = .ok v w) ∧ RelL s l v.cells.toList := by
  unfold zeroT at h
  split at h
  · rename_i i hi
    split at h
    · rename_i v hv
      exact ⟨v, fun w => by simp [zeroValue, typeInfo_run hi, hv], (ofConst_rel s v).cells h⟩
    · cases h
  · cases h

theorem cell_of {w : World} {r : Nat} {c : Array Value} {e : TypeId} (h : w.heap[r]? = some (.cells c e (0, 0))) (o : Nat) :
    w.cell? ⟨r, o, none⟩ = c[o]? := by simp [World.cell?, h]

theorem add_plain (r o n : Nat) : (⟨r, o, none⟩ : Addr).add n = ⟨r, o + n, none⟩ := by
  unfold Addr.add; split <;> simp_all

/-- A load of a part of a row. -/
theorem loadRow_run {s : Mp} {t : TypeId} {l : List LC} {off base : Nat} {K : LV → Prop} {r : Nat} {c : Array Value} {e : TypeId} {vs : List Value}
    (hl : RelL s l vs) (hc : ∀ (i : Nat) (v : Value), vs[i]? = some v → c[base + i]? = some v)
    (h : loadRow P t l off K) : ∃ x v, K x ∧ RelV s x v ∧ ∀ w : World, w.heap[r]? = some (.cells c e (0, 0)) → (loadVar t ⟨r, base + off, none⟩).run P w = .ok v w := by
  unfold loadRow at h
  split at h
  · rename_i hagg
    split at h
    · rename_i n hn
      split at h
      · rename_i cs hcs
        obtain ⟨hle, rfl⟩ := lsub_eq _ _ _ hcs
        have hr := (hl.drop off).take n
        have hlen : ((vs.drop off).take n).length = n := by
          rw [hr.length]; simp; omega
        refine ⟨_, .agg ((vs.drop off).take n).toArray, h, ⟨_, rfl, by simpa using hr⟩, fun w hb => ?_⟩
        simp only [loadVar, Sem.run_bind, aggT_run hagg, Result.andThen_ok, if_true, sizeT_run hn]
        have := run_loadCells_list (P := P) w ⟨r, base + off, none⟩ ((vs.drop off).take n) (fun j v hj => by
          rw [add_plain, cell_of hb, Nat.add_assoc]
          refine hc (off + j) v ?_
          rw [List.getElem?_take] at hj
          split at hj
          · simpa using hj
          · cases hj)
        rw [hlen] at this
        rw [this]
        rfl
      · exact h.elim
    · exact h.elim
  · rename_i hagg
    split at h
    · rename_i x hx
      rw [lget_eq] at hx
      obtain ⟨v, hv, hrel⟩ := hl.get hx
      refine ⟨_, v, h, hrel, fun w hb => ?_⟩
      simp only [loadVar, Sem.run_bind, aggT_run hagg, Result.andThen_ok, Bool.false_eq_true, if_false, run_load, cell_of hb, hc off v hv]
    · exact h.elim
  · exact h.elim

theorem LH.get_eq (H : LH) (n : Nat) : H.get n = H.bl[n]? := lget_eq _ _

theorem hd_some {s : Mp} {n r : Nat} (h : hd s n = some r) : ∃ f, s[n]? = some (r, f) := by
  unfold hd at h
  cases hx : s[n]? with
  | none => rw [hx] at h; cases h
  | some p => rw [hx] at h; cases h; exact ⟨p.2, rfl⟩

theorem hd_of {s : Mp} {n r : Nat} {f : List Nat} (h : s[n]? = some (r, f)) : hd s n = some r := by unfold hd; rw [h]; rfl

theorem loadA_run' {s : Mp} {t : TypeId} {x : LV} {H : LH} {K : LV → Prop} {w : World} {u : Value} (hx : RelV s x u) (hH : Rel s H w) (h : loadA P t x H K) :
    ∃ y v n r o, K y ∧ RelV s y v ∧ addrOf x = some n ∧ hd s n = some r ∧ w.heap[r]? = some o ∧ ∀ w' : World, w'.heap[r]? = some o → (Instr.loadAt t u).run P w' = .ok v w' := by
  unfold loadA at h
  split at h
  · rename_i n off
    obtain ⟨r, hr, rfl⟩ := hx
    obtain ⟨f, hsf⟩ := hd_some hr
    split at h
    · rename_i e l hg
      rw [LH.get_eq] at hg
      cases hH.blk _ _ _ _ hg hsf with
      | cells c ho hl =>
        obtain ⟨y, v, hK, hrel, hrun⟩ := loadRow_run (base := 0) (r := r) (e := e) hl (fun i v hi => by simpa [Array.getElem?_toList] using hi) h
        refine ⟨y, v, n, r, _, hK, hrel, rfl, hr, ho, fun w' hw' => ?_⟩
        have hrun := hrun w' hw'
        rw [Nat.zero_add] at hrun
        simp only [Instr.loadAt, Instr.sureAddr, Sem.run_bind, Sem.run_pure, Result.andThen_ok, hrun]
    · exact h.elim
  · rename_i n row wd col
    obtain ⟨r, hr, rfl⟩ := hx
    obtain ⟨f, hsf⟩ := hd_some hr
    split at h
    · rename_i e l hg
      rw [LH.get_eq] at hg
      cases hH.blk _ _ _ _ hg hsf with
      | cells c ho hl =>
        obtain ⟨y, v, hK, hrel, hrun⟩ := loadRow_run (base := 0) (r := r) (e := e) hl (fun i v hi => by simpa [Array.getElem?_toList] using hi) h
        refine ⟨y, v, n, r, _, hK, hrel, rfl, hr, ho, fun w' hw' => ?_⟩
        have hrun := hrun w' hw'
        rw [Nat.zero_add] at hrun
        simp only [Instr.loadAt, Instr.sureAddr, Sem.run_bind, Sem.run_pure, Result.andThen_ok, hrun]
    · rename_i e k m g hg
      rw [LH.get_eq] at hg
      cases hH.blk _ _ _ _ hg hsf with
      | ints ho =>
        split at h
        · rename_i hagg
          split at h
          · obtain ⟨hlt, hK⟩ := h
            refine ⟨_, .int k (g row), n, r, _, hK, rfl, rfl, hr, ho, fun w' hw' => ?_⟩
            simp only [Instr.loadAt, Instr.sureAddr, Sem.run_bind, Sem.run_pure, Result.andThen_ok, loadVar, aggT_run hagg, Bool.false_eq_true, if_false, run_load, cell_of hw']
            simp [hlt]
          · exact h.elim
        · exact h.elim
    · rename_i e w' m cap cs hg
      rw [LH.get_eq] at hg
      cases hH.blk _ _ _ _ hg hsf with
      | rows c ho hnc hc hw0 hl =>
        split at h
        · rename_i hw
          have hw : wd = w' := by simpa using hw
          subst hw
          obtain ⟨hlt, h⟩ := h
          have hrow := hl row hlt
          obtain ⟨y, v, hK, hrel, hrun⟩ := loadRow_run (base := row * wd) (r := r) (e := e) (c := c) hrow (fun i v hi => by
            rw [List.getElem?_take] at hi
            split at hi
            · rw [List.getElem?_drop] at hi
              simpa [Array.getElem?_toList] using hi
            · cases hi) h
          refine ⟨y, v, n, r, _, hK, hrel, rfl, hr, ho, fun w' hw' => ?_⟩
          have hrun := hrun w' hw'
          simp only [Instr.loadAt, Instr.sureAddr, Sem.run_bind, Sem.run_pure, Result.andThen_ok, hrun]
        · exact h.elim
    · exact h.elim
  · exact h.elim

theorem loadA_run {s : Mp} {t : TypeId} {x : LV} {H : LH} {K : LV → Prop} {w : World} {u : Value} (hx : RelV s x u) (hH : Rel s H w) (h : loadA P t x H K) :
    ∃ y v, K y ∧ RelV s y v ∧ (Instr.loadAt t u).run P w = .ok v w := by
  obtain ⟨y, v, n, r, o, h1, h2, _, _, h5, h6⟩ := loadA_run' hx hH h
  exact ⟨y, v, h1, h2, h6 w h5⟩

/-! ### Changes of the heap -/

theorem Rel.len_heap {s : Mp} {H : LH} {w : World} (h : Rel s H w) : ∀ (n r : Nat), hd s n = some r → r < w.heap.size := by
  intro n r hr
  obtain ⟨f, hf⟩ := hd_some hr
  exact h.bnd n r ⟨r, f, hf, .inl rfl⟩

theorem LH.len_eq (H : LH) : H.len = H.bl.length := llen_eq _

theorem getElem?_snoc {α : Type} (l : List α) (x : α) (n : Nat) (y : α) (h : (l ++ [x])[n]? = some y) : (l[n]? = some y) ∨ (n = l.length ∧ y = x) := by
  rcases Nat.lt_or_ge n l.length with hlt | hge
  · rw [List.getElem?_append_left hlt] at h; exact .inl h
  · rw [List.getElem?_append_right hge] at h
    right
    rcases Nat.lt_or_ge (n - l.length) 1 with h1 | h1
    · have : n = l.length := by omega
      subst this; simp at h; exact ⟨rfl, h.symm⟩
    · rw [List.getElem?_eq_none (by simpa using h1)] at h; cases h

theorem ownB_snoc {s : Mp} {r n y : Nat} (h : ownB (s ++ [(r, [])]) n y) : ownB s n y ∨ (n = s.length ∧ y = r) := by
  obtain ⟨q, f, hn, hy⟩ := h
  rcases getElem?_snoc _ _ _ _ hn with h1 | ⟨h1, h2⟩
  · exact .inl ⟨q, f, h1, hy⟩
  · cases h2
    right
    exact ⟨h1, by simpa using hy⟩

/-- A new block. -/
theorem Rel.new {s : Mp} {H : LH} {w : World} (h : Rel s H w) {b : LB} {o : Obj} (hb : RelB (s ++ [(w.heap.size, [])]) b w.heap.size [] (w.heap.push o)) :
    Rel (s ++ [(w.heap.size, [])]) (H.new b) { w with heap := w.heap.push o } ∧ Post s H w (s ++ [(w.heap.size, [])]) (H.new b) { w with heap := w.heap.push o } := by
  have hpush : ∀ y, y < w.heap.size → (w.heap.push o)[y]? = w.heap[y]? := fun y hy => by
    simp only [Array.getElem?_push]; rw [if_neg (by omega)]
  refine ⟨⟨by simp [LH.new, h.len], ?_, ?_, ?_⟩, ⟨.app _ _, by simp, ?_, ?_, fun _ h => h, by simp, fun y hy _ => hpush y hy, rfl, rfl, rfl⟩⟩
  · intro n b' r f hn hs
    simp only [LH.new] at hn
    rcases getElem?_snoc _ _ _ _ hs with hs | ⟨hs', he⟩
    · have hlt := (List.getElem?_eq_some_iff.1 hs).1
      rw [List.getElem?_append_left (by rw [← h.len]; exact hlt)] at hn
      exact ((h.blk n b' r f hn hs).mono (.app _ _)).local fun y hy => hpush y (h.bnd n y ⟨r, f, hs, hy⟩)
    · cases he
      rcases getElem?_snoc _ _ _ _ hn with hn | ⟨_, rfl⟩
      · have h1 := (List.getElem?_eq_some_iff.1 hn).1
        have h2 := h.len
        omega
      · exact hb
  · intro n m y hn hm
    rcases ownB_snoc hn with h1 | ⟨h1, h2⟩ <;> rcases ownB_snoc hm with h3 | ⟨h3, h4⟩
    · exact h.dis n m y h1 h3
    · have := h.bnd n y h1; omega
    · have := h.bnd m y h3; omega
    · omega
  · intro n y hn
    rcases ownB_snoc hn with h1 | ⟨h1, h2⟩
    · have := h.bnd n y h1; simp; omega
    · simp; omega
  · intro n y hn hlt
    rcases ownB_snoc hn with h1 | ⟨h1, h2⟩
    · exact ⟨ownB_lt h1, h1⟩
    · omega
  · intro n hn _
    rw [List.getElem?_append_left hn]

/-- A row laid anew in place. -/
theorem Rel.put {s : Mp} {H : LH} {w : World} (h : Rel s H w) {n r : Nat} {f : List Nat} (hs : s[n]? = some (r, f)) {b : LB} {c c' : Array Value} {e : TypeId}
    (ho : w.heap[r]? = some (.cells c e (0, 0))) (hb : RelB s b r f (w.setRow r c').heap) :
    Rel s (H.put n b) (w.setRow r c') ∧ Post s H w s (H.put n b) (w.setRow r c') := by
  refine ⟨⟨by simp [LH.put, lset_eq, h.len], ?_, h.dis, fun n y hy => by simpa using h.bnd n y hy⟩, ⟨.refl s, Nat.le_refl _, fun n y hn _ => ⟨ownB_lt hn, hn⟩, fun _ _ _ => rfl, fun m hm => List.mem_cons_of_mem _ hm, by simp, ?_, rfl, rfl, rfl⟩⟩
  · intro m b' q g hm hsm
    simp only [LH.put, lset_eq, List.getElem?_set] at hm
    split at hm
    · rename_i hnm
      subst hnm
      split at hm
      · cases hm
        rw [hs] at hsm; cases hsm
        exact hb
      · cases hm
    · rename_i hnm
      refine (h.blk m b' q g hm hsm).local fun y hy => ?_
      rw [setRow_other]
      intro he
      subst he
      exact hnm (h.dis n m y ⟨y, f, hs, .inl rfl⟩ ⟨q, g, hsm, hy⟩)
  · intro y hy hno
    rw [setRow_other]
    intro he
    subst he
    exact hno n (by simp [LH.put]) ⟨y, f, hs, .inl rfl⟩

theorem RelL.oneCell {s : Mp} : ∀ {l : List LC} {vs : List Value}, RelL s l vs → ∀ v ∈ vs, v.oneCell' = true
  | [], [], _ => by simp
  | _ :: _, _ :: _, h => by
    intro v hv
    rcases List.mem_cons.1 hv with rfl | hv
    · have := h.1.oneCell
      cases v <;> first | rfl | (simp [oneC] at this)
    · exact RelL.oneCell h.2 v hv
  | [], _ :: _, h => h.elim
  | _ :: _, [], h => h.elim

theorem storeVar_run {t : TypeId} {n : Nat} {v : Value} {w : World} {r off : Nat} {c : Array Value} {e : TypeId} (hn : sizeT P t = some n) (hsz : v.cells.size = n)
    (ho : w.heap[r]? = some (.cells c e (0, 0))) (hle : off + n ≤ c.size) (h1 : ∀ x ∈ v.cells.toList, x.oneCell' = true) :
    (storeVar t ⟨r, off, none⟩ v).run P w = .ok () (w.setRow r (c.toList.take off ++ v.cells.toList ++ c.toList.drop (off + n)).toArray) := by
  simp only [storeVar, Sem.run_bind, sizeT_run hn, Result.andThen_ok, hsz, ne_eq, not_true_eq_false, if_false, Sem.run_pure]
  have := run_storeCells_at (P := P) r off e v.cells.toList 0 c w ho (by simpa [hsz] using hle) h1
  simpa [hsz] using this

theorem patch_get {α : Type} (L new : List α) (off : Nat) (h : off + new.length ≤ L.length) (j : Nat) :
    (L.take off ++ new ++ L.drop (off + new.length))[j]? = if j < off then L[j]? else if j < off + new.length then new[j - off]? else L[j]? := by
  simp only [List.append_assoc, List.getElem?_append, List.length_take, List.getElem?_take, List.getElem?_drop]
  have hm : min off L.length = off := by omega
  rw [hm]
  by_cases h1 : j < off
  · simp [h1]
  · rw [if_neg h1, if_neg h1]
    by_cases h2 : j < off + new.length
    · rw [if_pos (by omega), if_pos h2]
    · rw [if_neg (by omega), if_neg h2]
      congr 1
      omega

theorem row_get {α : Type} (L : List α) (w i j : Nat) : ((L.drop (i * w)).take w)[j]? = if j < w then L[i * w + j]? else none := by
  rw [List.getElem?_take]
  split
  · rw [List.getElem?_drop]
  · rfl

theorem row_patch {α : Type} (L new : List α) (w row col i : Nat) (hcol : col + new.length ≤ w) (hlen : (row + 1) * w ≤ L.length) :
    ((L.take (row * w + col) ++ new ++ L.drop (row * w + col + new.length)).drop (i * w)).take w =
      if i = row then ((L.drop (row * w)).take w).take col ++ new ++ ((L.drop (row * w)).take w).drop (col + new.length) else (L.drop (i * w)).take w := by
  have hs : (row + 1) * w = row * w + w := Nat.succ_mul _ _
  apply List.ext_getElem?
  intro j
  rw [row_get, patch_get _ _ _ (by omega)]
  by_cases hi : i = row
  · subst hi
    rw [if_pos rfl, patch_get _ _ _ (by simp; omega), row_get]
    by_cases hj : j < w
    · simp only [hj, if_true]
      by_cases h1 : j < col
      · rw [if_pos (by omega), if_pos h1]
      · rw [if_neg (by omega), if_neg h1]
        by_cases h2 : j < col + new.length
        · rw [if_pos (by omega), if_pos h2]; congr 1; omega
        · rw [if_neg (by omega), if_neg h2]
    · simp only [hj, if_false]
      rw [if_neg (by omega), if_neg (by omega)]
  · rw [if_neg hi, row_get]
    by_cases hj : j < w
    · simp only [hj, if_true]
      rcases Nat.lt_or_gt_of_ne hi with hlt | hgt
      · have : (i + 1) * w ≤ row * w := Nat.mul_le_mul_right _ hlt
        have h2 : (i + 1) * w = i * w + w := Nat.succ_mul _ _
        rw [if_pos (by omega)]
      · have : (row + 1) * w ≤ i * w := Nat.mul_le_mul_right _ hgt
        rw [if_neg (by omega), if_neg (by omega)]
    · simp only [hj, if_false]

/-- A row laid over a part of a block of rows. -/
theorem rows_patch {s : Mp} {cols cols' : List LCol} {new : List LC} {vs : List Value} {L : List Value} {w n row col : Nat} (hw : cols.length = w) (hlen : (row + 1) * w ≤ L.length)
    (hl : ∀ i, i < n → RelL s (rowAt cols i) ((L.drop (i * w)).take w)) (hv : RelL s new vs) (hset : setCols cols row col new = some cols')
    (i : Nat) (hi : i < n ∨ (i = row ∧ col = 0 ∧ new.length = w)) :
    RelL s (rowAt cols' i) (((L.take (row * w + col) ++ vs ++ L.drop (row * w + col + vs.length)).drop (i * w)).take w) := by
  obtain ⟨h1, h2, h3⟩ := setCols_eq hset
  have hvl := hv.length
  rw [row_patch L vs w row col i (by omega) hlen, h3]
  by_cases he : i = row
  · subst he
    rw [if_pos rfl, if_pos rfl]
    rcases hi with hi | ⟨_, hc, hnw⟩
    · have := hl i hi
      rw [hvl]
      exact ((this.take col).append hv).append (this.drop (col + new.length))
    · subst hc
      have e1 : (rowAt cols i).drop (0 + new.length) = [] := by rw [List.drop_eq_nil_of_le]; rw [rowAt_length]; omega
      have e2 : ((L.drop (i * w)).take w).drop (0 + vs.length) = [] := by rw [List.drop_eq_nil_of_le]; simp; omega
      rw [e1, e2]
      simpa using hv
  · rw [if_neg he, if_neg he]
    rcases hi with hi | ⟨hi, _⟩
    · exact hl i hi
    · exact absurd hi he

theorem storeA_run {s : Mp} {t : TypeId} {x y : LV} {H : LH} {K : LH → Prop} {w : World} {u v : Value} (hx : RelV s x u) (hy : RelV s y v) (hH : Rel s H w)
    (h : storeA P t x y H K) : ∃ H' w', K H' ∧ Rel s H' w' ∧ Post s H w s H' w' ∧ (Instr.storeAt t u v).run P w = .ok () w' := by
  unfold storeA at h
  split at h
  · exact h.elim
  rename_i cs hcs
  split at h
  · exact h.elim
  rename_i n hn
  split at h
  · exact h.elim
  rename_i hlen
  have hlen : cs.length = n := by simpa [llen_eq] using hlen
  have hv := hy.cells hcs
  have hvl : v.cells.size = n := by rw [← Array.length_toList, hv.length, hlen]
  have h1 := hv.oneCell
  -- both kinds of address
  have core : ∀ (b off r : Nat) (e : TypeId) (l l' : List LC), H.bl[b]? = some (.cells e l) → hd s b = some r → lover l off cs = some l' → K (H.put b (.cells e l')) →
      ∃ H' w', K H' ∧ Rel s H' w' ∧ Post s H w s H' w' ∧ (Instr.storeAt t (.pointer (some ⟨r, off, none⟩)) v).run P w = .ok () w' := by
    intro b off r e l l' hg hr hlo hK
    obtain ⟨f, hsf⟩ := hd_some hr
    cases hH.blk _ _ _ _ hg hsf with
    | cells c ho hl =>
      obtain ⟨hle, rfl⟩ := lover_eq _ _ _ hlo
      have hcl : c.size = l.length := by rw [← Array.length_toList, hl.length]
      have hb : RelB s (.cells e (l.take off ++ cs ++ l.drop (off + cs.length))) r [] (w.setRow r (c.toList.take off ++ v.cells.toList ++ c.toList.drop (off + n)).toArray).heap := by
        refine .cells _ (setRow_heap w r c _ e _ ho) ?_
        simp only [List.toList_toArray]
        rw [hlen]
        exact ((hl.take off).append hv).append (hl.drop (off + n))
      obtain ⟨h2, h3⟩ := hH.put hsf ho hb
      refine ⟨_, _, hK, h2, h3, ?_⟩
      simp only [Instr.storeAt, Instr.sureAddr, Sem.run_bind, Sem.run_pure, Result.andThen_ok]
      exact storeVar_run hn hvl ho (by omega) h1
  split at h
  · rename_i b off
    obtain ⟨r, hr, rfl⟩ := hx
    split at h
    · rename_i e l hg
      rw [LH.get_eq] at hg
      split at h
      · rename_i l' hlo
        exact core b off r e l l' hg hr hlo h
      · exact h.elim
    · exact h.elim
  · rename_i b row wd col
    obtain ⟨r, hr, rfl⟩ := hx
    split at h
    · rename_i e l hg
      rw [LH.get_eq] at hg
      split at h
      · rename_i l' hlo
        exact core b _ r e l l' hg hr hlo h
      · exact h.elim
    · rename_i e k m g hg
      rw [LH.get_eq] at hg
      split at h
      · rename_i k' i _
        split at h
        · rename_i hk
          have hk := of_decide_eq_true hk
          subst hk
          obtain ⟨hlt, hK⟩ := h
          obtain ⟨f, hsf⟩ := hd_some hr
          cases hH.blk _ _ _ _ hg hsf with
          | ints ho =>
            have hvc : v.cells.toList = [.int k' i] := by
              generalize v.cells.toList = z at hv
              match z, hv with
              | [a], ⟨ha, _⟩ => have : a = .int k' i := ha; rw [this]
              | [], h => exact h.elim
              | _ :: _ :: _, h => exact h.2.elim
            have hn1 : n = 1 := by rw [← hlen]; rfl
            subst hn1
            have hfun : (fun j => bif Nat.beq j row then i else g j) = fun j => if j = row then i else g j := by
              funext j
              exact bcond_eq _ _ _ _
            rw [hfun] at hK
            have hb : RelB s (.ints e k' m fun j => if j = row then i else g j) r [] (w.setRow r (((List.range m).map fun i => Value.int k' (g i)).toArray.toList.take (row * 1 + 0) ++ v.cells.toList ++ ((List.range m).map fun i => Value.int k' (g i)).toArray.toList.drop (row * 1 + 0 + 1)).toArray).heap := by
              refine .ints ?_
              rw [setRow_heap w r _ _ e _ ho]
              congr 2
              rw [hvc]
              simp only [List.toList_toArray, Nat.mul_one, Nat.add_zero]
              congr 1
              have hset : ((List.range m).map fun i => Value.int k' (g i)).take row ++ [Value.int k' i] ++ ((List.range m).map fun i => Value.int k' (g i)).drop (row + 1) = ((List.range m).map fun i => Value.int k' (g i)).set row (.int k' i) := by
                rw [List.set_eq_take_append_cons_drop, if_pos (by simpa using hlt)]
                simp
              rw [hset]
              apply List.ext_getElem?
              intro j
              rw [List.getElem?_set]
              simp only [List.getElem?_map, List.length_map, List.length_range]
              by_cases hj : row = j
              · subst hj
                simp [hlt]
              · rw [if_neg hj]
                cases hx : (List.range m)[j]? with
                | none => rfl
                | some q =>
                  have hq : q = j := by
                    obtain ⟨h5, h6⟩ := List.getElem?_eq_some_iff.1 hx
                    simpa using h6.symm
                  subst hq
                  simp [Ne.symm hj]
            obtain ⟨h2, h3⟩ := hH.put hsf ho hb
            refine ⟨_, _, hK, h2, h3, ?_⟩
            simp only [Instr.storeAt, Instr.sureAddr, Sem.run_bind, Sem.run_pure, Result.andThen_ok]
            exact storeVar_run hn hvl ho (by simp; omega) h1
        · exact h.elim
      · exact h.elim
    · rename_i e w' m cap cols hg
      rw [LH.get_eq] at hg
      split at h
      · rename_i hwd
        have hwd : wd = w' := by simpa using hwd
        subst hwd
        split at h
        · rename_i cols' hset
          obtain ⟨hlt, hK⟩ := h
          obtain ⟨f, hsf⟩ := hd_some hr
          cases hH.blk _ _ _ _ hg hsf with
          | rows c ho hnc hc hw0 hl =>
            obtain ⟨h5, h6, _⟩ := setCols_eq hset
            have hle : (row + 1) * wd ≤ cap * wd := Nat.mul_le_mul_right _ (by omega)
            have hsu : (row + 1) * wd = row * wd + wd := Nat.succ_mul _ _
            have hvn : v.cells.toList.length = n := by simpa using hvl
            have hb : RelB s (.rows e wd m cap cols') r [] (w.setRow r (c.toList.take (row * wd + col) ++ v.cells.toList ++ c.toList.drop (row * wd + col + n)).toArray).heap := by
              refine .rows _ (setRow_heap w r c _ e _ ho) hnc ?_ (by omega) ?_
              · simp; omega
              · intro i hi
                have := rows_patch (L := c.toList) (row := row) (col := col) hw0 (by simpa [hc] using hle) hl hv hset i (.inl hi)
                rw [hvn] at this
                simpa using this
            obtain ⟨h2, h3⟩ := hH.put hsf ho hb
            refine ⟨_, _, hK, h2, h3, ?_⟩
            simp only [Instr.storeAt, Instr.sureAddr, Sem.run_bind, Sem.run_pure, Result.andThen_ok]
            exact storeVar_run hn hvl ho (by omega) h1
        · exact h.elim
      · exact h.elim
    · exact h.elim
  · exact h.elim

end
end Go.FL
