/-
  Slice literals and one more element: sound.
-/
import Derived.Test.YtfjnkneoddankaaGreatEvStep2
import Derived.Laws.AppendOwn
import Derived.Great.BuildSlice
set_option linter.unusedVariables false
set_option linter.unusedSimpArgs false
set_option linter.unusedSectionVars false
namespace Go.FL

section
variable {P : Program}

theorem timesL_rel {s : Mp} {z : List LC} {vz : Array Value} (hz : RelL s z vz.toList) (w : Nat) (hw : vz.size = w) (hw0 : 0 < w) : ∀ n : Nat, RelL s (timesL n z) ((Array.range (n * w)).map (vz[· % vz.size]!)).toList := by
  intro n
  have hz' : z.length = w := by have := hz.length; simp at this; omega
  have key : ∀ n : Nat, ((Array.range (n * w)).map (vz[· % vz.size]!)).toList = (List.replicate n vz.toList).flatten := by
    intro n
    induction n with
    | zero => simp
    | succ n ih =>
      rw [List.replicate_succ', List.flatten_append, ← ih]
      simp only [Array.toList_map, Array.toList_range, Nat.succ_mul]
      rw [List.range_add, List.map_append]
      congr 1
      simp only [List.flatten_cons, List.flatten_nil, List.append_nil, List.map_map]
      apply List.ext_getElem?
      intro i
      simp only [List.getElem?_map]
      by_cases hi : i < w
      · rw [List.getElem?_range hi]
        simp only [Option.map_some, Function.comp]
        rw [hw, Nat.mul_comm n w, Nat.mul_add_mod, Nat.mod_eq_of_lt hi, Array.getElem?_toList, Array.getElem?_eq_getElem (by omega), getElem!_pos _ _ (by omega)]
      · rw [List.getElem?_eq_none (by simp; omega), List.getElem?_eq_none (by simp; omega)]
        rfl
  rw [key]
  clear key
  induction n with
  | zero => simp [timesL, RelL]
  | succ n ih =>
    simp only [timesL, List.replicate_succ, List.flatten_cons]
    exact hz.append ih

theorem fillS_run {s : Mp} {w : Nat} : ∀ {parts : List (Nat × LV)} {vs : List (Nat × Value)} {l l' : List LC} {cells : Array Value},
    RelL s l cells.toList → (parts.map (·.1) = vs.map (·.1)) → RelVs s (parts.map (·.2)) (vs.map (·.2)) → fillS w l parts = some l' →
    ∃ cells', Instr.fill (fun i => some (i * w, w)) cells vs = some cells' ∧ RelL s l' cells'.toList
  | [], [], l, l', cells, hl, _, _, h => by cases h; exact ⟨cells, rfl, hl⟩
  | [], _ :: _, _, _, _, _, he, _, _ => by simp at he
  | _ :: _, [], _, _, _, _, he, _, _ => by simp at he
  | (i, x) :: parts, (j, v) :: vs, l, l', cells, hl, he, hr, h => by
    simp only [List.map_cons, List.cons.injEq] at he
    obtain ⟨rfl, he⟩ := he
    simp only [fillS] at h
    split at h
    · cases h
    rename_i cs hcs
    split at h
    · cases h
    rename_i hlen
    have hlen : cs.length = w := by simpa [llen_eq] using hlen
    split at h
    · cases h
    rename_i l1 hlo
    obtain ⟨hle, rfl⟩ := lover_eq _ _ _ hlo
    have hv := RelV.cells hr.1 hcs
    have hvl : v.cells.size = w := by rw [← Array.length_toList, hv.length, hlen]
    have hcl : cells.size = l.length := by rw [← Array.length_toList, hl.length]
    have hfl : ∀ k, (v.cells.zipIdx.foldl (fun cs (c, j) => cs.setIfInBounds (i * w + j) c) cells) = k → k.toList = cells.toList.take (i * w) ++ v.cells.toList ++ cells.toList.drop (i * w + w) := by
      intro k hk
      subst hk
      have := foldl_lay (i * w) v.cells.toList 0 cells (by rw [Array.length_toList]; omega)
      rw [← Array.foldl_toList, Array.toList_zipIdx]
      simpa [hvl] using this
    have hrel : RelL s (l.take (i * w) ++ cs ++ l.drop (i * w + cs.length)) ((v.cells.zipIdx.foldl (fun cs (c, j) => cs.setIfInBounds (i * w + j) c) cells)).toList := by
      rw [hfl _ rfl, hlen]
      exact ((hl.take (i * w)).append hv).append (hl.drop (i * w + w))
    obtain ⟨cells', h1, h2⟩ := fillS_run hrel he hr.2 h
    refine ⟨cells', ?_, h2⟩
    have hng : ¬ (v.cells.size ≠ w || i * w + v.cells.size > cells.size) = true := by
      simp [hvl]; omega
    simp only [Instr.fill]
    rw [if_neg hng]
    exact h1

theorem buildSliceA_run {s : Mp} {t : TypeId} {n : Nat} {parts : List (Nat × LV)} {vs : Array (Nat × Value)} {H : LH} {K : LV → LH → Prop} {w : World} (he : parts.map (·.1) = vs.toList.map (·.1))
    (hr : RelVs s (parts.map (·.2)) (vs.toList.map (·.2))) (hH : Rel s H w) (h : buildSliceA P t n parts H K) :
    ∃ s' y r H' w', K y H' ∧ RelV s' y r ∧ Rel s' H' w' ∧ Post s H w s' H' w' ∧ (Instr.buildSlice t n vs).run P w = .ok r w' := by
  unfold buildSliceA at h
  split at h
  case h_2 => exact h.elim
  rename_i e hu
  split at h
  case h_2 => exact h.elim
  rename_i wd z hsz hz
  split at h
  case h_2 => exact h.elim
  rename_i hc
  simp only [Bool.and_eq_true] at hc
  have hc1 := Nat.eq_of_beq_eq_true hc.1
  rw [llen_eq] at hc1
  have hc2 := Nat.le_of_ble_eq_true hc.2
  split at h
  case h_2 => exact h.elim
  rename_i l hl
  obtain ⟨v, hv, hvr⟩ := zeroT_run (P := P) (s := s) hz
  have hvs : v.cells.size = wd + 1 := by rw [← Array.length_toList, hvr.length, hc1]
  obtain ⟨cells, h1, h2⟩ := fillS_run (timesL_rel hvr (wd + 1) hvs (by omega) n) he hr hl
  obtain ⟨h3, h4⟩ := hH.new (b := .cells e l) (o := .cells cells e (0, 0)) (.cells cells (by simp) (h2.mono (.app _ _)))
  refine ⟨_, _, .slice (some ⟨w.heap.size, 0, none⟩) n n, _, _, h, ⟨w.heap.size, ?_, rfl⟩, h3, h4, ?_⟩
  · rw [LH.len_eq, ← hH.len]; simp [hd]
  · have hbig : ¬ (n * (wd + 1) > 2 ^ 24) := by
      have : (4096 : Nat) ≤ 2 ^ 24 := by decide
      omega
    simp only [Instr.buildSlice, Sem.run_bind, run_underlying hu, Result.andThen_ok, sizeT_run hsz]
    rw [if_neg hbig]
    by_cases h0 : n * (wd + 1) = 0
    · have hn : n = 0 := by rcases Nat.mul_eq_zero.1 h0 with h | h <;> omega
      subst hn
      have hf : Instr.fill (fun i => some (i * (wd + 1), wd + 1)) ((Array.range (0 * (wd + 1))).map ((#[] : Array Value)[· % (#[] : Array Value).size]!)) vs.toList = some cells := by
        have e1 : ((Array.range (0 * (wd + 1))).map ((#[] : Array Value)[· % (#[] : Array Value).size]!)) = (Array.range (0 * (wd + 1))).map (v.cells[· % v.cells.size]!) := by simp
        rw [e1]; exact h1
      rw [if_pos h0]
      simp only [Sem.run_bind, Sem.run_pure, Result.andThen_ok, hf, newRow, run_newObj]
    · rw [if_neg h0]
      simp only [Sem.run_bind, hv, Result.andThen_ok, Sem.run_pure, h1, newRow, run_newObj]

theorem Rel.drew {s : Mp} {H : LH} {w : World} (h : Rel s H w) : Rel s H w.drew := ⟨h.len, h.blk, h.dis, h.bnd⟩

theorem Post.drew {s s' : Mp} {H H' : LH} {w w' : World} (h : Post s H w.drew s' H' w') : Post s H w s' H' w' :=
  ⟨h.hext, h.len, h.fresh, h.keep, h.wr, h.size, h.frame, h.tape, h.os, h.output⟩

/-- A new block of rows, behind old rows and one new one. -/
theorem grow_rows {s : Mp} {H : LH} {w : World} (hH : Rel s H w) {e : TypeId} {cs : List LCol} {n wd cap : Nat} {olds news : List Value} {z : Array Value} (hz : z.size = wd) (ho : olds.length = n * wd) (hnw : news.length = wd)
    (hcap : n + 1 ≤ cap) (hcs : cs.length = wd) (hl : ∀ i, i < n → RelL s (rowAt cs i) ((olds.drop (i * wd)).take wd)) (hlast : RelL s (rowAt cs n) news) :
    ∃ s', Rel s' (H.new (.rows e wd (n + 1) cap cs)) (w.drew.alloc (.cells (olds.toArray ++ news.toArray ++ Builtin.zeroCells z (cap - (n + 1))) e)) ∧
      Post s H w s' (H.new (.rows e wd (n + 1) cap cs)) (w.drew.alloc (.cells (olds.toArray ++ news.toArray ++ Builtin.zeroCells z (cap - (n + 1))) e)) ∧ hd s' H.len = some w.heap.size := by
  have hb : RelB (s ++ [(w.drew.heap.size, [])]) (.rows e wd (n + 1) cap cs) w.drew.heap.size [] (w.drew.heap.push (.cells (olds.toArray ++ news.toArray ++ Builtin.zeroCells z (cap - (n + 1))) e (0, 0))) := by
    refine .rows (olds.toArray ++ news.toArray ++ Builtin.zeroCells z (cap - (n + 1))) Array.getElem?_push_size hcap ?_ hcs ?_
    · simp only [Array.size_append, List.size_toArray, size_zeroCells, hz, ho, hnw]
      rw [← Nat.succ_mul, ← Nat.add_mul]
      congr 1
      omega
    · intro i hi
      have hgo : ((olds.toArray ++ news.toArray ++ Builtin.zeroCells z (cap - (n + 1))).toList.drop (i * wd)).take wd = if i = n then news else (olds.drop (i * wd)).take wd := by
        simp only [Array.toList_append, List.toList_toArray]
        by_cases he : i = n
        · subst he
          rw [if_pos rfl, ← ho, List.append_assoc, List.drop_left, ← hnw, List.take_left]
        · rw [if_neg he]
          have hlt : i < n := by omega
          have h1 : (i + 1) * wd ≤ n * wd := Nat.mul_le_mul_right _ hlt
          have h2 : (i + 1) * wd = i * wd + wd := Nat.succ_mul _ _
          rw [List.append_assoc, List.drop_append_of_le_length (by omega), List.take_append_of_le_length (by simp; omega)]
      rw [hgo]
      by_cases he : i = n
      · subst he; rw [if_pos rfl]; exact rowAt_free hlast
      · rw [if_neg he]; exact rowAt_free (hl i (by omega))
  obtain ⟨h1, h2⟩ := hH.drew.new hb
  refine ⟨_, h1, h2.drew, ?_⟩
  rw [LH.len_eq, ← hH.len]
  show ((s ++ [(w.heap.size, [])])[s.length]?).map (·.1) = _
  simp

theorem appendA_run {s : Mp} {t t' ty : TypeId} {x y : LV} {u v : Value} {H : LH} {K : LV → LH → Prop} {w : World} (hx : RelV s x u) (hy : RelV s y v) (hH : Rel s H w)
    (h : appendA P t t' x y H K) : ∃ s' z r H' w', K z H' ∧ RelV s' z r ∧ Rel s' H' w' ∧ Post s H w s' H' w' ∧ (Builtin.append_ #[t, t'] ty #[u, v]).run P w = .ok r w' := by
  unfold appendA at h
  split at h
  · exact h.elim
  rename_i htt
  have htt := Nat.eq_of_beq_eq_true htt
  subst htt
  split at h
  case h_2 => exact h.elim
  rename_i e hu
  split at h
  case h_2 => exact h.elim
  rename_i info hi
  split at h
  case h_2 => exact h.elim
  rename_i hc
  simp only [Bool.and_eq_true] at hc
  have hsz := Nat.le_of_ble_eq_true hc.1
  have hby := Nat.le_of_ble_eq_true hc.2
  split at h
  case h_2 => exact h.elim
  rename_i z m c0 hz
  split at h
  case h_2 => exact h.elim
  rename_i e0 l hzs hgm
  have hzs := Nat.eq_of_beq_eq_true hzs
  split at h
  case h_2 => exact h.elim
  rename_i new hnew
  obtain ⟨hle, hnew'⟩ := lsub_eq _ _ _ hnew
  obtain ⟨rm, hrm, rfl⟩ := hy
  obtain ⟨fm, hsm⟩ := hd_some hrm
  rw [LH.get_eq] at hgm
  obtain ⟨news, hnl, hnr, hnc⟩ : ∃ news : List Value, news.length = 1 * info.size ∧ RelL s new news ∧ ∀ j u, news[j]? = some u → w.cell? ((⟨rm, 0, none⟩ : Addr).add j) = some u := by
    cases hH.blk _ _ _ _ hgm hsm with
    | cells c ho hl =>
      refine ⟨c.toList.take info.size, ?_, ?_, ?_⟩
      · have := hl.length; simp at this ⊢; omega
      · rw [hnew']; simpa using hl.take info.size
      · intro j u hj
        rw [add_plain, cell_of ho]
        rw [List.getElem?_take] at hj
        split at hj
        · simpa using hj
        · cases hj
  have hnews1 := hnr.oneCell
  have hnl1 : news.length = info.size := by omega
  have fit : ∀ n old : Nat, n ≤ 1048576 → old < n + 1 → ((n + 1 : Nat) : Int) ≤ 9223372036854775807 ∧ Builtin.nextslicecap (n + 1) old * info.bytes ≤ 281474976710656 := by
    intro n old hn ho
    refine ⟨by omega, growslice_fits ho ?_⟩
    calc (n + 1) * info.bytes ≤ 1048577 * 4096 := Nat.mul_le_mul (by omega) hby
      _ ≤ 140737488355328 := by decide
  split at h
  case h_3 => exact h.elim
  · -- nil
    split at h
    case h_2 => exact h.elim
    rename_i cs hcs
    obtain ⟨h1, h2⟩ := newCols_eq hcs
    have hx : u = .slice none 0 0 := hx
    subst hx
    obtain ⟨s', h3, h4, h5⟩ := grow_rows (e := e) (n := 0) (cap := grownCap w 1 0 e) (olds := []) (news := news) (z := z.cells) (cs := cs) hH hzs (by simp) hnl1 (grownCap_ge w 1 0 e) (by rw [h1, ← hnr.length, hnl1]) (fun i hi => absurd hi (by omega)) (by rw [h2]; exact hnr)
    have hce : 1 + (grownCap w 1 0 e - 1) = grownCap w 1 0 e := by have := grownCap_ge w 1 0 e; omega
    have h := h (grownCap w 1 0 e - 1)
    rw [hce] at h
    refine ⟨s', _, _, _, _, h, ⟨w.heap.size, h5, rfl⟩, h3, h4, ?_⟩
    have := run_append_nil (P := P) (w := w) t ty e info z hu hi hz ⟨rm, 0, none⟩ 1 c0 news hnl hnc (by omega) (by omega) (by omega)
    simpa using this
  · rename_i b n cap
    obtain ⟨r, hr, rfl⟩ := hx
    obtain ⟨f, hsf⟩ := hd_some hr
    split at h
    case h_3 => exact h.elim
    · -- an empty literal
      split at h
      case h_2 => exact h.elim
      rename_i cs hcs
      obtain ⟨h1, h2⟩ := newCols_eq hcs
      obtain ⟨⟨rfl, rfl⟩, h⟩ := h
      obtain ⟨s', h3, h4, h5⟩ := grow_rows (e := e) (n := 0) (cap := grownCap w 1 0 e) (olds := []) (news := news) (z := z.cells) (cs := cs) hH hzs (by simp) hnl1 (grownCap_ge w 1 0 e) (by rw [h1, ← hnr.length, hnl1]) (fun i hi => absurd hi (by omega)) (by rw [h2]; exact hnr)
      have hce : 1 + (grownCap w 1 0 e - 1) = grownCap w 1 0 e := by have := grownCap_ge w 1 0 e; omega
      have h := h (grownCap w 1 0 e - 1)
      rw [hce] at h
      refine ⟨s', _, _, _, _, h, ⟨w.heap.size, h5, rfl⟩, h3, h4, ?_⟩
      have hf := fit 0 0 (by omega) (by omega)
      have := run_append_grow (P := P) (w := w) t ty e info z hu hi hz ⟨r, 0, none⟩ 0 0 [] (by simp) (by simp) ⟨rm, 0, none⟩ 1 c0 news hnl hnc (by omega) (by omega) (by simpa using hf.2)
      simpa using this
    · rename_i e' wd n' cap' cols hg
      rw [LH.get_eq] at hg
      split at h
      case h_2 => exact h.elim
      rename_i cs hew hcs
      simp only [Bool.and_eq_true] at hew
      have he := Nat.eq_of_beq_eq_true hew.1
      have hw := Nat.eq_of_beq_eq_true hew.2
      subst he
      subst hw
      obtain ⟨⟨⟨rfl, rfl⟩, hn⟩, h⟩ := h
      obtain ⟨h5, h6, h7⟩ := setCols_eq hcs
      cases hH.blk _ _ _ _ hg hsf with
      | rows c ho hnc' hcsz hw0 hl =>
        have hlen : new.length = info.size := by rw [← hnr.length, hnl1]
        split at h
        · rename_i hroom
          have hroom := of_decide_eq_true hroom
          have hsu : (n' + 1) * info.size = n' * info.size + info.size := Nat.succ_mul _ _
          have hle2 : (n' + 1) * info.size ≤ cap' * info.size := Nat.mul_le_mul_right _ hroom
          have hb : RelB s (.rows e info.size (n' + 1) cap' cs) r [] (w.setRow r (c.toList.take (n' * info.size) ++ news ++ c.toList.drop (n' * info.size + news.length)).toArray).heap := by
            refine .rows _ (setRow_heap w r c _ e _ ho) hroom ?_ (by omega) ?_
            · simp; omega
            · intro i hi
              have := rows_patch (L := c.toList) (row := n') (col := 0) hw0 (by simpa [hcsz] using hle2) hl hnr hcs i (by
                by_cases hin : i = n'
                · exact .inr ⟨hin, rfl, hlen⟩
                · exact .inl (by omega))
              simpa using this
          obtain ⟨h2, h3⟩ := hH.put hsf ho hb
          refine ⟨s, _, _, _, _, h, ⟨r, hr, rfl⟩, h2, h3, ?_⟩
          exact run_append_room (P := P) (w := w) t ty e info hu hi r n' cap' c ho ⟨rm, 0, none⟩ 1 c0 news hnl hnc hnews1 hroom (by rw [hnl1, hcsz]; omega)
        · rename_i hroom
          have hroom := of_decide_eq_false hroom
          have hcap : cap' = n' := by omega
          subst hcap
          have hol : (c.toList.take (cap' * info.size)).length = cap' * info.size := by simp; omega
          obtain ⟨s', h3, h4, h5⟩ := grow_rows (e := e) (n := cap') (cap := grownCap w (cap' + 1) cap' e) (olds := c.toList.take (cap' * info.size)) (news := news) (z := z.cells) (cs := cs) hH hzs hol hnl1 (grownCap_ge w (cap' + 1) cap' e) (by omega)
            (fun i hi => by
              rw [h7, if_neg (by omega)]
              have h8 : (i + 1) * info.size ≤ cap' * info.size := Nat.mul_le_mul_right _ hi
              have h9 : (i + 1) * info.size = i * info.size + info.size := Nat.succ_mul _ _
              rw [List.drop_take, List.take_take, Nat.min_eq_left (by omega)]
              exact hl i hi)
            (by
              rw [h7, if_pos rfl]
              have e1 : (rowAt cols cap').drop (0 + new.length) = [] := by rw [List.drop_eq_nil_of_le]; rw [rowAt_length]; omega
              rw [e1]
              simpa using hnr)
          have hce : cap' + 1 + (grownCap w (cap' + 1) cap' e - (cap' + 1)) = grownCap w (cap' + 1) cap' e := by have := grownCap_ge w (cap' + 1) cap' e; omega
          have h := h (grownCap w (cap' + 1) cap' e - (cap' + 1))
          rw [hce] at h
          refine ⟨s', _, _, _, _, h, ⟨w.heap.size, h5, rfl⟩, h3, h4, ?_⟩
          have hf := fit cap' cap' hn (by omega)
          exact run_append_grow (P := P) (w := w) t ty e info z hu hi hz ⟨r, 0, none⟩ cap' cap' _ hol (fun j u hj => by
            rw [add_plain, cell_of ho]
            rw [List.getElem?_take] at hj
            split at hj
            · simpa using hj
            · cases hj) ⟨rm, 0, none⟩ 1 c0 news hnl hnc (by omega) hf.1 hf.2

end
end Go.FL
