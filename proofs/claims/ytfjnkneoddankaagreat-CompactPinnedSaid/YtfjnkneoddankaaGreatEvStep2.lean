/-
  The evaluator's larger operations, calls, regions in the order of the text.
-/
import Derived.Test.YtfjnkneoddankaaGreatEvStep
set_option linter.unusedVariables false
set_option linter.unusedSimpArgs false
set_option linter.unusedSectionVars false
namespace Go.FL

section
variable {P : Program}

theorem placesA_run : ∀ {fs : List Field} {ps : List (Nat × Nat)}, placesA P fs = some ps → ∀ w : World,
    (fs.mapM fun f => (do pure (f.offset, ← sizeOf f.type) : Sem (Nat × Nat))).run P w = .ok ps w
  | [], ps, h, w => by cases h; simp
  | f :: fs, ps, h, w => by
    simp only [placesA] at h
    split at h
    · cases h
    · rename_i n hn
      split at h
      · cases h
      · rename_i l hl
        cases h
        have ih := placesA_run hl w
        simp only [List.mapM_cons, Sem.run_bind, sizeT_run hn, Result.andThen_ok, Sem.run_pure, ih]

theorem foldl_lay (off : Nat) : ∀ (vs : List Value) (i : Nat) (cells : Array Value), off + i + vs.length ≤ cells.size →
    ((vs.zipIdx i).foldl (fun cs (c, j) => cs.setIfInBounds (off + j) c) cells).toList = cells.toList.take (off + i) ++ vs ++ cells.toList.drop (off + i + vs.length)
  | [], i, cells, _ => by simp
  | v :: vs, i, cells, h => by
    simp only [List.zipIdx_cons, List.foldl_cons]
    rw [foldl_lay off vs (i + 1) _ (by simp at h ⊢; omega)]
    have hlt : off + i < cells.toList.length := by simp at h ⊢; omega
    simp only [Array.toList_setIfInBounds, List.length_cons]
    rw [List.set_eq_take_append_cons_drop, if_pos hlt]
    have h1 : (List.take (off + i) cells.toList ++ v :: List.drop (off + i + 1) cells.toList).take (off + (i + 1)) = cells.toList.take (off + i) ++ [v] := by
      rw [List.take_append]
      have : (List.take (off + i) cells.toList).length = off + i := by simp; simp at hlt; omega
      rw [this, List.take_of_length_le (by omega), show off + (i + 1) - (off + i) = 1 by omega]
      simp
    have h2 : (List.take (off + i) cells.toList ++ v :: List.drop (off + i + 1) cells.toList).drop (off + (i + 1) + vs.length) = cells.toList.drop (off + i + (vs.length + 1)) := by
      have : (List.take (off + i) cells.toList).length = off + i := by simp; simp at hlt; omega
      rw [List.drop_append, this, List.drop_of_length_le (by omega), show off + (i + 1) + vs.length - (off + i) = vs.length + 1 by omega]
      simp
      congr 1
      omega
    rw [h1, h2]
    simp

theorem fillA_run {s : Mp} {ps : List (Nat × Nat)} {place : Nat → Option (Nat × Nat)} (hp : ∀ i, place i = ps[i]?) : ∀ {parts : List (Nat × LV)} {vs : List (Nat × Value)} {l l' : List LC} {cells : Array Value},
    RelL s l cells.toList → (parts.map (·.1) = vs.map (·.1)) → RelVs s (parts.map (·.2)) (vs.map (·.2)) → fillA ps l parts = some l' →
    ∃ cells', Instr.fill place cells vs = some cells' ∧ RelL s l' cells'.toList
  | [], [], l, l', cells, hl, _, _, h => by cases h; exact ⟨cells, rfl, hl⟩
  | [], _ :: _, _, _, _, _, he, _, _ => by simp at he
  | _ :: _, [], _, _, _, _, he, _, _ => by simp at he
  | (i, x) :: parts, (j, v) :: vs, l, l', cells, hl, he, hr, h => by
    simp only [List.map_cons, List.cons.injEq] at he
    obtain ⟨rfl, he⟩ := he
    simp only [fillA] at h
    split at h
    · cases h
    rename_i off n hg
    rw [lget_eq] at hg
    split at h
    · cases h
    rename_i cs hcs
    split at h
    · cases h
    rename_i hlen
    have hlen : cs.length = n := by simpa [llen_eq] using hlen
    split at h
    · cases h
    rename_i l1 hlo
    obtain ⟨hle, rfl⟩ := lover_eq _ _ _ hlo
    have hv := RelV.cells hr.1 hcs
    have hvl : v.cells.size = n := by rw [← Array.length_toList, hv.length, hlen]
    have hcl : cells.size = l.length := by rw [← Array.length_toList, hl.length]
    have hfl : ∀ k, (v.cells.zipIdx.foldl (fun cs (c, j) => cs.setIfInBounds (off + j) c) cells) = k → k.toList = cells.toList.take off ++ v.cells.toList ++ cells.toList.drop (off + n) := by
      intro k hk
      subst hk
      have := foldl_lay off v.cells.toList 0 cells (by rw [Array.length_toList]; omega)
      rw [← Array.foldl_toList, Array.toList_zipIdx]
      simpa [hvl] using this
    have hrel : RelL s (l.take off ++ cs ++ l.drop (off + cs.length)) ((v.cells.zipIdx.foldl (fun cs (c, j) => cs.setIfInBounds (off + j) c) cells)).toList := by
      rw [hfl _ rfl, hlen]
      exact ((hl.take off).append hv).append (hl.drop (off + n))
    obtain ⟨cells', h1, h2⟩ := fillA_run hp hrel he hr.2 h
    refine ⟨cells', ?_, h2⟩
    have hng : ¬ (v.cells.size ≠ n || off + v.cells.size > cells.size) = true := by
      simp [hvl]; omega
    simp only [Instr.fill, hp, hg]
    rw [if_neg hng]
    exact h1

theorem buildA_run {s : Mp} {t : TypeId} {parts : List (Nat × LV)} {vs : Array (Nat × Value)} {K : LV → Prop} (he : parts.map (·.1) = vs.toList.map (·.1))
    (hr : RelVs s (parts.map (·.2)) (vs.toList.map (·.2))) (h : buildA P t parts K) : ∃ z r, K z ∧ RelV s z r ∧ ∀ w, (Instr.build t vs).run P w = .ok r w := by
  unfold buildA at h
  split at h
  · rename_i fs hu
    split at h
    · exact h.elim
    rename_i z hz
    split at h
    · exact h.elim
    rename_i ps hps
    split at h
    · rename_i l hl
      obtain ⟨v, hv, hvr⟩ := zeroT_run (P := P) (s := s) hz
      have hmap : ∀ w, (fs.mapM fun f => (do pure (f.offset, ← sizeOf f.type) : Sem (Nat × Nat))).run P w = .ok ps.toArray w := by
        intro w
        rw [Array.mapM_eq_mapM_toList]
        have := placesA_run (P := P) hps w
        simp only [Sem.run_map, this, Result.andThen_ok]
      obtain ⟨cells', h1, h2⟩ := fillA_run (s := s) (place := fun i => ps.toArray[i]?) (by simp) hvr he hr hl
      refine ⟨_, .agg cells', h, ⟨_, rfl, h2⟩, fun w => ?_⟩
      simp only [Instr.build, Sem.run_bind, hv, Result.andThen_ok, run_underlying hu, hmap, h1, Sem.run_pure]
    · exact h.elim
  · exact h.elim

theorem minmax_run {s : Mp} (isMin : Bool) : ∀ {r : List LV} {x z : LV} {v : Value} {vs : List Value}, RelV s x v → RelVs s r vs → minmax.go isMin x r = some z →
    ∃ u, RelV s z u ∧ ∀ w, ((vs.foldlM (if isMin then Builtin.min2 else Builtin.max2) v : Sem Value)).run P w = .ok u w
  | [], x, z, v, [], hx, _, h => by
    have h : x = z := by
      have : minmax.go isMin x [] = some x := by cases x <;> first | rfl | (rename_i c; cases c <;> rfl)
      rw [this] at h; exact Option.some.inj h
    subst h
    exact ⟨v, hx, fun w => by simp⟩
  | [], _, _, _, _ :: _, _, hr, _ => hr.elim
  | _ :: _, _, _, _, [], _, hr, _ => hr.elim
  | y :: r, x, z, v, u :: vs, hx, hr, h => by
    unfold minmax.go at h
    split at h
    · rename_i heq; cases heq
    · rename_i k a k' b r' heq
      cases heq
      have hv : v = .int k a := hx
      have hu : u = .int k' b := hr.1
      subst hv; subst hu
      split at h
      · obtain ⟨q, h1, h2⟩ := minmax_run true (x := .c (.int k (if b < a then b else a))) (v := .int k (if b < a then b else a)) rfl hr.2 h
        exact ⟨q, h1, fun w => by simpa [Builtin.min2] using h2 w⟩
      · obtain ⟨q, h1, h2⟩ := minmax_run false (x := .c (.int k (if b > a then b else a))) (v := .int k (if b > a then b else a)) rfl hr.2 h
        exact ⟨q, h1, fun w => by simpa [Builtin.max2] using h2 w⟩
    · cases h

theorem lenA_run {s : Mp} {t ty : TypeId} {x : LV} {u : Value} {K : LV → Prop} {at_ : Array TypeId} {args : Array Value} (hx : RelV s x u) (ha : at_[0]? = some t) (hg : args[0]? = some u)
    (h : lenA P t x K) : ∃ z r, K z ∧ RelV s z r ∧ ∀ w, (Builtin.len_ at_ ty args).run P w = .ok r w := by
  unfold lenA at h
  split at h
  · rename_i hu
    obtain ⟨r, hr, rfl⟩ := hx
    exact ⟨_, _, h, rfl, fun w => by simp [Builtin.len_, ha, hg, run_underlying hu, goInt]⟩
  · rename_i hu
    have hx : u = _ := hx
    subst hx
    exact ⟨_, _, h, rfl, fun w => by simp [Builtin.len_, ha, hg, run_underlying hu, goInt]⟩
  · rename_i hu
    have hx : u = _ := hx
    subst hx
    exact ⟨_, _, h, rfl, fun w => by simp [Builtin.len_, ha, hg, run_underlying hu, goInt]⟩
  · rename_i hu
    exact ⟨_, _, h, rfl, fun w => by simp [Builtin.len_, ha, hg, run_underlying hu, goInt]⟩
  · exact h.elim

theorem methodA_run {t : TypeId} {name : String} {f : FuncId} {v : Value} (h : methodA P t name = some f) (fuel : Nat) (w : World) :
    (method (fuel + 1) t v name).run P w = .ok (f, v) w := by
  unfold methodA at h
  split at h
  · rename_i e hu
    split at h
    · rename_i i hi
      have key : ∀ l : List Method, methodA.find name l = some f → ∃ m : Method, l.find? (fun m => m.name == name) = some m ∧ m.path.toList = [] ∧ m.func = some (f, true) := by
        intro l
        induction l with
        | nil => intro h; simp [methodA.find] at h
        | cons m r ih =>
          intro h
          simp only [methodA.find] at h
          split at h
          · rename_i hm
            split at h
            · rename_i f' h1 h2
              cases h
              exact ⟨m, by simp [List.find?, hm], h1, h2⟩
            · cases h
          · rename_i hm
            obtain ⟨m', h1, h2⟩ := ih h
            exact ⟨m', by simp [List.find?, hm, h1], h2⟩
      obtain ⟨m, h1, h2, h3⟩ := key _ h
      have h1' : i.methods.find? (fun m => m.name == name) = some m := by rw [← Array.find?_toList]; exact h1
      simp only [method, Sem.run_bind, typeInfo_run hi, Result.andThen_ok, h1', h2, follow, Sem.run_pure, h3]
      simp [receiverAt, run_underlying hu, Place.get]
    · cases h
  · cases h

end
end Go.FL
