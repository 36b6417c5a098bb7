/-
  The evaluator is sound: code, functions, calls walked into.
-/
import Derived.Scope
import Derived.Test.YtmhakaeahefmbaaPkActStamps1
import Derived.KernelRfl
set_option linter.unusedVariables false
set_option linter.unusedSimpArgs false
set_option linter.unusedSectionVars false
namespace Go.FL
variable [Fz]

section
variable {P : Program} {call : FuncId → List LV → LH → (LV → LH → Prop) → Prop}

def X.toExit : X → Exit
  | .normal => .normal
  | .exit id => .exit id
  | .ret => .ret

theorem noSelA_spec : ∀ {l : List Oper}, noSelA l = true → ∀ (j : Nat) (o : Oper) cs b, l[j]? = some o → o.op ≠ .select cs b
  | [], _, j, o, cs, b, hj => by simp at hj
  | p :: r, h, j, o, cs, b, hj => by
    simp only [noSelA] at h
    split at h
    · cases h
    · rename_i hns
      cases j with
      | zero => simp at hj; subst hj; exact fun heq => hns _ _ heq
      | succ j => exact noSelA_spec h j o cs b (by simpa using hj)

/-- What is asked behind a piece of code. -/
def Aft (P : Program) (nt : Nat) (s : Mp) (H : LH) (w : World) (K : X → Tm → LH → Prop) (Q : Exit → Act → World → Prop) : Prop :=
  ∀ x s' T' H' a' w', K x T' H' → RelT s' nt T' a' → Rel s' H' w' → Post s H w s' H' w' → Q x.toExit a' w'

def BodyOK (P : Program) (nt : Nat) (c : Code) (body : Tm → LH → (X → Tm → LH → Prop) → Prop) : Prop :=
  ∀ (T : Tm) (H : LH) (K : X → Tm → LH → Prop) (s : Mp) (a : Act) (w : World) (Q : Exit → Act → World → Prop), body T H K → RelT s nt T a → Rel s H w → Aft P nt s H w K Q → c.wp P Q a w

theorem BodyOK.use {nt : Nat} {c : Code} {body : Tm → LH → (X → Tm → LH → Prop) → Prop} (hb : BodyOK P nt c body) {T : Tm} {H : LH} {K : X → Tm → LH → Prop} {s : Mp} {a : Act} {w : World} {Q : Exit → Act → World → Prop}
    (h : body T H K) (hT : RelT s nt T a) (hH : Rel s H w) (hQ : Aft P nt s H w K Q) : c.wp P Q a w := hb T H K s a w Q h hT hH hQ

theorem exists_least {p : Nat → Prop} (h : ∃ n, p n) : ∃ n, p n ∧ ∀ m, p m → n ≤ m := by
  obtain ⟨n, hn⟩ := h
  induction n using Nat.strongRecOn with
  | _ n ih =>
    by_cases hex : ∃ m, m < n ∧ p m
    · obtain ⟨m, hlt, hm⟩ := hex
      exact ih m hlt hm
    · exact ⟨n, hn, fun m hm => Nat.le_of_not_lt fun hlt => hex ⟨m, hlt, hm⟩⟩

open Classical in
/-- A loop by a family of states that falls. -/
theorem loop_fall {nt : Nat} {c : Code} {Q : Exit → Act → World → Prop} {a : Act} {w : World} (J : Nat → Act → World → Prop) (h0 : ∃ n, J n a w)
    (round : ∀ n a w, J n a w → c.wp P (Exit.then (fun a' w' => ∃ n', n' < n ∧ J n' a' w') Q) a w) : (Code.loop c).wp P Q a w := by
  let μ : Act → World → Nat := fun a' w' => if h : ∃ n, J n a' w' then Classical.choose (exists_least h) else 0
  have hμ : ∀ a' w' (h : ∃ n, J n a' w'), J (μ a' w') a' w' ∧ ∀ m, J m a' w' → μ a' w' ≤ m := by
    intro a' w' h
    have : μ a' w' = Classical.choose (exists_least h) := dif_pos h
    rw [this]
    exact Classical.choose_spec (exists_least h)
  refine wp_loop (fun a' w' => ∃ n, J n a' w') μ h0 ?_
  intro a' w' hex
  obtain ⟨h1, h2⟩ := hμ a' w' hex
  refine wp_mono (round _ _ _ h1) ?_
  intro e a'' w'' hq
  cases e with
  | normal =>
    obtain ⟨n', hlt, hJ⟩ := hq
    exact ⟨⟨n', hJ⟩, Nat.lt_of_le_of_lt ((hμ a'' w'' ⟨n', hJ⟩).2 n' hJ) hlt⟩
  | _ => exact hq

theorem loopInv_ok {nt : Nat} {c : Code} {body : Tm → LH → (X → Tm → LH → Prop) → Prop} (hb : BodyOK P nt c body) : BodyOK P nt (.loop c) (loopInv body) := by
  intro T H K s a w Q h hT hH hQ
  obtain ⟨I, ⟨n0, h0⟩, hround⟩ := h
  refine loop_fall (nt := nt) (fun n a' w' => ∃ T' H' s', I n T' H' ∧ RelT s' nt T' a' ∧ Rel s' H' w' ∧ Post s H w s' H' w') ⟨n0, T, H, s, h0, hT, hH, Post.rfl'⟩ ?_
  rintro n a' w' ⟨T', H', s', h1, h2, h3, h4⟩
  refine hb.use (hround _ _ _ h1) h2 h3 ?_
  intro x s'' T'' H'' a'' w'' hK hT'' hH'' hp
  cases x with
  | normal =>
    obtain ⟨n', hlt, hI⟩ := hK
    exact ⟨n', hlt, T'', H'', s'', hI, hT'', hH'', h4.trans hp⟩
  | exit id => exact hQ (.exit id) s'' T'' H'' a'' w'' hK hT'' hH'' (h4.trans hp)
  | ret => exact hQ .ret s'' T'' H'' a'' w'' hK hT'' hH'' (h4.trans hp)

theorem iterA_ok {nt : Nat} {c : Code} {body : Tm → LH → (X → Tm → LH → Prop) → Prop} (hb : BodyOK P nt c body) (n : Nat) : BodyOK P nt (.loop c) (iterA body n) := by
  intro T H K s a w Q h hT hH hQ
  refine loop_fall (nt := nt) (fun n a' w' => ∃ T' H' s', iterA body n T' H' K ∧ RelT s' nt T' a' ∧ Rel s' H' w' ∧ Post s H w s' H' w') ⟨n, T, H, s, h, hT, hH, Post.rfl'⟩ ?_
  rintro n a' w' ⟨T', H', s', h1, h2, h3, h4⟩
  cases n with
  | zero => exact h1.elim
  | succ n =>
    refine hb.use h1 h2 h3 ?_
    intro x s'' T'' H'' a'' w'' hK hT'' hH'' hp
    cases x with
    | normal => exact ⟨n, Nat.lt_succ_self n, T'', H'', s'', hK, hT'', hH'', h4.trans hp⟩
    | exit id => exact hQ (.exit id) s'' T'' H'' a'' w'' hK hT'' hH'' (h4.trans hp)
    | ret => exact hQ .ret s'' T'' H'' a'' w'' hK hT'' hH'' (h4.trans hp)

/-- The laws of the loops in a piece of code hold. -/
def LoOK (P : Program) (nt : Nat) (lo : Nat → Option LHd) (l : List Code) : Prop := ∀ c ∈ l, ∀ h, lo (keyC c) = some h → BodyOK P nt (.loop c) h

theorem LoOK.no {nt : Nat} {l : List Code} : LoOK P nt noLo l := fun _ _ _ h => by cases h

theorem LoOK.left {nt : Nat} {lo : Nat → Option LHd} {l l' : List Code} (h : LoOK P nt lo (l ++ l')) : LoOK P nt lo l := fun c hc => h c (List.mem_append_left _ hc)

theorem LoOK.right {nt : Nat} {lo : Nat → Option LHd} {l l' : List Code} (h : LoOK P nt lo (l ++ l')) : LoOK P nt lo l' := fun c hc => h c (List.mem_append_right _ hc)

theorem evC_ok (hP : FnOK P) (hm : P.follows .mixedOrders = true) (hcall : CallOK P call) (nt : Nat) {lo : Nat → Option LHd} (fuel : Nat) : ∀ c : Code, LoOK P nt lo (loopsC c) → BodyOK P nt c (evC P call nt lo fuel c)
  | .skip => fun _ _ _ _ _ _ _ _ h hT hH hQ => wp_skip (hQ .normal _ _ _ _ _ h hT hH Post.rfl')
  | .label l => fun _ _ _ _ _ _ _ _ h hT hH hQ => wp_label (hQ .normal _ _ _ _ _ h hT hH Post.rfl')
  | .exit id => fun _ _ _ _ _ _ _ _ h hT hH hQ => wp_exit (hQ (.exit id) _ _ _ _ _ h hT hH Post.rfl')
  | .ret => fun _ _ _ _ _ _ _ _ h hT hH hQ => wp_ret (hQ .ret _ _ _ _ _ h hT hH Post.rfl')
  | .goto l => fun _ _ _ _ _ _ _ _ h _ _ _ => h.elim
  | .scope c => by
    intro hlo T H K s a w Q h hT hH hQ
    simp only [evC] at h
    refine wp_scope_straight ((evC_ok hP hm hcall nt fuel c hlo).use h hT hH ?_)
    intro e s' T' H' a' w' hK hT' hH' hp
    cases e with
    | normal => exact hQ .normal s' T' H' a' w' hK hT' hH' hp
    | exit id => exact hQ (.exit id) s' T' H' a' w' hK hT' hH' hp
    | ret => exact hQ .ret s' T' H' a' w' hK hT' hH' hp
  | .refuse why => fun _ _ _ _ _ _ _ _ h _ _ _ => h.elim
  | .rangeFunc f ps x y => fun _ _ _ _ _ _ _ _ h _ _ _ => h.elim
  | .region id ops draw => by
    intro hlo T H K s a w Q h hT hH hQ
    simp only [evC] at h
    cases draw with
    | false =>
      exact wp_region_list (regA_ok hP hcall h hT hH fun s' T' H' a' w' h1 h2 h3 h4 => hQ .normal s' T' H' a' w' h1 h2 h3 h4)
    | true =>
      simp only at h
      split at h
      · rename_i hns
        have hsel := fun j o cs b (hj : ops[j]? = some o) => noSelA_spec hns j o cs b (by simpa using hj)
        let Q0 : Exit → Act → World → Prop := fun e a w => e = .normal ∧ Q .normal a w
        have hw' : ∀ w' : World, ({ w' with drawn := w'.drawn } : World) = w' := fun _ => rfl
        have hHd : Rel s H { w with drawn := w.drawn + 1 } := ⟨hH.len, hH.blk, hH.dis, hH.bnd, hH.frz⟩
        refine wp_mono (Q := Q0) ?_ (fun e a w hq => by obtain ⟨rfl, hq⟩ := hq; exact hq)
        refine wp_region_any hm (wpAnyS_any _ _ _ _ (drawA_ok hP hcall hsel (fun c a w h => by cases h.1) (ops.size + 1) (ls := []) (lds := []) ops.size h ?_ ?_ ?_ (by simp) ⟨fun q o hF => (hHd.frz q o hF).1, fun x hx => by simp at hx⟩ hT hHd ?_))
        · intro i
          simp [Array.getD_eq_getD_getElem?, Array.getElem?_replicate]
          split <;> rfl
        · refine ⟨by simp, fun i o _ hl => ?_⟩
          simp only [Array.getD_eq_getD_getElem?, Array.getElem?_replicate] at hl
          split at hl <;> cases hl
        · unfold cnt
          have := List.countP_le_length (p := fun b : Bool => !b) (l := (Array.replicate ops.size false).toList)
          simpa using this
        · intro s' T' H' a' w' h1 h2 h3 h4
          exact ⟨rfl, hQ .normal s' T' H' a' w' h1 h2 h3 ⟨h4.hext, h4.len, h4.fresh, h4.keep, h4.wr, h4.size, h4.frame, h4.tape, h4.os, h4.output⟩⟩
      · exact h.elim
  | .seq x y => by
    intro hlo T H K s a w Q h hT hH hQ
    simp only [evC] at h
    refine wp_seq ((evC_ok hP hm hcall nt fuel x hlo.left).use h hT hH ?_)
    intro e s' T' H' a' w' hK hT' hH' hp
    cases e with
    | normal => exact (evC_ok hP hm hcall nt fuel y hlo.right).use hK hT' hH' fun e s'' T'' H'' a'' w'' h1 h2 h3 h4 => hQ e s'' T'' H'' a'' w'' h1 h2 h3 (hp.trans h4)
    | exit id => exact hQ (.exit id) s' T' H' a' w' hK hT' hH' hp
    | ret => exact hQ .ret s' T' H' a' w' hK hT' hH' hp
  | .cond c x y => by
    intro hlo T H K s a w Q h hT hH hQ
    simp only [evC] at h
    have hc := opnd_rel hT c
    split at h
    · rename_i q hq
      rw [hq] at hc
      split at h
      · exact wp_cond_true hc ((evC_ok hP hm hcall nt fuel x hlo.left).use h hT hH hQ)
      · exact wp_cond_false hc ((evC_ok hP hm hcall nt fuel y hlo.right).use h hT hH hQ)
    · exact h.elim
  | .block id c => by
    intro hlo T H K s a w Q h hT hH hQ
    simp only [evC] at h
    refine wp_block ((evC_ok hP hm hcall nt fuel c hlo).use h hT hH ?_)
    intro e s' T' H' a' w' hK hT' hH' hp
    cases e with
    | normal => exact hQ .normal s' T' H' a' w' hK hT' hH' hp
    | ret => exact hQ .ret s' T' H' a' w' hK hT' hH' hp
    | exit id' =>
      show Exit.inBlock id Q (.exit id') a' w'
      simp only [Exit.inBlock]
      cases hb : Nat.beq id' id with
      | true =>
        have := Nat.eq_of_beq_eq_true hb
        rw [if_pos this]
        simp only [hb] at hK
        exact hQ .normal s' T' H' a' w' hK hT' hH' hp
      | false =>
        have := Nat.ne_of_beq_eq_false hb
        rw [if_neg this]
        simp only [hb] at hK
        exact hQ (.exit id') s' T' H' a' w' hK hT' hH' hp
  | .loop c => by
    intro hlo T H K s a w Q h hT hH hQ
    simp only [evC] at h
    split at h
    · rename_i hd he
      exact (hlo c (by simp [loopsC]) hd he).use h hT hH hQ
    · have hlo' : LoOK P nt lo (loopsC c) := fun c' hc' => hlo c' (by simp [loopsC, hc'])
      cases fuel with
      | zero => exact (loopInv_ok (evC_ok hP hm hcall nt 0 c hlo')).use h hT hH hQ
      | succ n => exact (iterA_ok (evC_ok hP hm hcall nt (n + 1) c hlo') (n + 1)).use h hT hH hQ

theorem asAddr_of {s : Mp} {x : LV} {u : Value} (h : RelV s x u) (hx : (∃ n, addrOf x = some n) ∨ isView x = true) : ∃ a, u = .pointer (some a) := by
  rcases hx with ⟨n, hx⟩ | hx
  · unfold addrOf at hx
    split at hx
    · obtain ⟨r, _, rfl⟩ := h; exact ⟨_, rfl⟩
    · obtain ⟨r, _, rfl⟩ := h; exact ⟨_, rfl⟩
    · cases hx
  · unfold isView at hx
    split at hx
    · obtain ⟨_, _, _, _, _, _, _, rfl⟩ := h; exact ⟨_, rfl⟩
    · cases hx

def resF (tmps : Array Value) : ResultVar → Sem Value
  | .tmp t => pure (tmps.getD t undef)
  | .cell x t => do loadVar t (← asAddr (tmps.getD x undef))

theorem results_eq (fn : Func) (tmps : Array Value) : results fn tmps = (do
    let vs ← fn.results.mapM (resF tmps)
    pure (if h : vs.size = 1 then vs[0] else .tuple vs)) := by
  unfold results
  congr 1

theorem resA_run {s : Mp} {nt : Nat} {T : Tm} {H : LH} {a : Act} {w : World} (hT : RelT s nt T a) (hH : Rel s H w) : ∀ {rs : List ResultVar} {K : List LV → Prop}, resA P T H rs K →
    ∃ l vs, K l ∧ RelVs s l vs ∧ (rs.mapM (resF a.tmps)).run P w = .ok vs w
  | [], K, h => ⟨[], [], h, trivial, by simp⟩
  | .tmp t :: r, K, h => by
    obtain ⟨l, vs, h1, h2, h3⟩ := resA_run hT hH (rs := r) h
    exact ⟨_, a.tmps.getD t undef :: vs, h1, ⟨hT.2 t, h2⟩, by simp only [List.mapM_cons, resF, Sem.run_bind, Sem.run_pure, Result.andThen_ok, h3]⟩
  | .cell x t :: r, K, h => by
    obtain ⟨y, v, q, ob, hK, hv, ha, ho, hrun⟩ := loadA_run' (hT.2 x) hH h
    obtain ⟨l, vs, h1, h2, h3⟩ := resA_run hT hH (rs := r) hK
    obtain ⟨ad, had⟩ := asAddr_of (hT.2 x) (ha.elim (fun h => .inl (h.elim fun n h => ⟨n, h.1⟩)) (fun h => .inr h.2.1))
    have hrun := hrun w ho
    rw [had] at hrun
    simp only [Instr.loadAt, Instr.sureAddr, Sem.run_bind, Sem.run_pure, Result.andThen_ok] at hrun
    exact ⟨_, v :: vs, h1, ⟨hv, h2⟩, by simp only [List.mapM_cons, resF, Sem.run_bind, Sem.run_pure, Result.andThen_ok, h3, had, asAddr, hrun]⟩

theorem parts_rel {s : Mp} : ∀ {l : List LV} {ps : List LP} {vs : List Value}, parts l = some ps → RelVs s l vs → RelPs s ps vs
  | [], ps, [], h, _ => by cases h; trivial
  | [], _, _ :: _, _, hr => hr.elim
  | _ :: _, _, [], _, hr => hr.elim
  | x :: l, ps, v :: vs, h, hr => by
    simp only [parts] at h
    split at h
    · cases h
    · rename_i p hp
      split at h
      · cases h
      · rename_i l' hl'
        cases h
        exact ⟨RelV.part hr.1 hp, parts_rel hl' hr.2⟩

theorem RelVs.length {s : Mp} : ∀ {l : List LV} {vs : List Value}, RelVs s l vs → vs.length = l.length
  | [], [], _ => rfl
  | _ :: _, _ :: _, h => by simp [RelVs.length h.2]
  | [], _ :: _, h => h.elim
  | _ :: _, [], h => h.elim

theorem params_get {s : Mp} : ∀ {l : List LV} {vs : List Value}, RelVs s l vs → ∀ (k t : Nat), RelV s (Tm.get (params l k) t) (if k ≤ t then (vs[t - k]?).getD undef else undef)
  | [], [], _, k, t => by simp [params, Tm.get, RelV]
  | [], _ :: _, h, _, _ => h.elim
  | _ :: _, [], h, _, _ => h.elim
  | x :: l, v :: vs, h, k, t => by
    simp only [params, Tm.get]
    split
    · rename_i hkt
      have := Nat.eq_of_beq_eq_true hkt
      subst this
      simpa using h.1
    · rename_i hkt
      have hne := Nat.ne_of_beq_eq_false hkt
      have ih := params_get h.2 (k + 1) t
      by_cases hle : k + 1 ≤ t
      · rw [if_pos hle] at ih
        rw [if_pos (by omega), show t - k = (t - (k + 1)) + 1 by omega]
        simpa using ih
      · rw [if_neg hle] at ih
        rw [if_neg (by omega)]
        exact ih

theorem evFn_ok (hP : FnOK P) (hm : P.follows .mixedOrders = true) (hcall : CallOK P call) {f : FuncId} {fn : Func} (hf : P.funcs[f]? = some fn) {lo : Nat → Option LHd} {fuel : Nat} {args : List LV} {H : LH} {K : LV → LH → Prop}
    (hlo : ∀ c, fn.body = some c → LoOK P fn.ntmps lo (loopsC c)) (h : evFn P call lo fuel fn args H K) : (∃ fn, P.funcs[f]? = some fn ∧ fn.body.isSome = true) ∧ CSpec P f args H K := by
  unfold evFn at h
  split at h
  · exact h.elim
  rename_i c hb
  refine ⟨⟨fn, hf, by rw [hb]; rfl⟩, ?_⟩
  split at h
  · exact h.elim
  rename_i hlen
  have hlen : args.length ≤ fn.ntmps := by have := Nat.le_of_ble_eq_true hlen; rwa [llen_eq] at this
  intro s vs w hr hH
  have hvl := hr.length
  refine calls_of_wp hf hb ?_
  refine (evC_ok hP hm hcall fn.ntmps fuel c (hlo c hb)).use h (s := s) ⟨⟨by simp; omega, rfl⟩, fun t => ?_⟩ hH ?_
  · have := params_get hr 0 t
    simp only [Nat.zero_le, if_true, Nat.sub_zero] at this
    have he : (vs.toArray ++ Array.replicate (fn.ntmps - vs.toArray.size) undef).getD t undef = (vs[t]?).getD undef := by
      rw [Array.getD_eq_getD_getElem?, Array.getElem?_append]
      simp only [List.size_toArray]
      split
      · simp
      · rename_i hge
        rw [List.getElem?_eq_none (by omega), Array.getElem?_replicate]
        split <;> rfl
    rw [he]
    exact this
  · intro x s' T' H' a' w' hK hT' hH' hp
    have main : resA P T' H' fn.results.toList (fun l => match l with
        | [v] => K v H'
        | l => match parts l with
          | some ps => K (.tup ps) H'
          | none => False) → a'.defers = [] ∧ ∃ v, (results fn a'.tmps).run P w' = .ok v w' ∧ ∃ s'' v'' H'', K v'' H'' ∧ RelV s'' v'' v ∧ Rel s'' H'' w' ∧ Post s H w s'' H'' w' := by
      intro hres
      obtain ⟨l, us, h1, h2, h3⟩ := resA_run hT' hH' hres
      refine ⟨hT'.1.2, ?_⟩
      have hmap : (fn.results.mapM (resF a'.tmps)).run P w' = .ok us.toArray w' := by
        rw [Array.mapM_eq_mapM_toList]
        simp only [Sem.run_map, h3, Result.andThen_ok]
      split at h1
      · rename_i v
        match us, h2 with
        | [u], h2 =>
          refine ⟨u, ?_, s', v, H', h1, h2.1, hH', hp⟩
          rw [results_eq, Sem.run_bind, hmap]
          rfl
        | [], h2 => exact h2.elim
        | _ :: _ :: _, h2 => exact h2.2.elim
      · rename_i hne
        split at h1
        · rename_i ps hps
          refine ⟨.tuple us.toArray, ?_, s', .tup ps, H', h1, ⟨_, rfl, by simpa using parts_rel hps h2⟩, hH', hp⟩
          rw [results_eq, Sem.run_bind, hmap]
          have hsz : ¬ us.toArray.size = 1 := by
            intro hs
            have : l.length = 1 := by rw [← h2.length]; simpa using hs
            match l, this with
            | [v], _ => exact hne v rfl
          simp only [Result.andThen_ok, dif_neg hsz, Sem.run_pure]
        · exact h1.elim
    cases x with
    | normal => exact main hK
    | ret => exact main hK
    | exit id => exact hK.elim

def OwnOK (P : Program) (own : FuncId → Option (List LV → LH → (LV → LH → Prop) → Prop)) : Prop :=
  ∀ f h, own f = some h → ∀ args H K, h args H K → (∃ fn, P.funcs[f]? = some fn ∧ fn.body.isSome = true) ∧ CSpec P f args H K

theorem evF_ok (hP : FnOK P) (hm : P.follows .mixedOrders = true) {own : FuncId → Option (List LV → LH → (LV → LH → Prop) → Prop)} (hown : OwnOK P own) (fuel : Nat) : ∀ d, CallOK P (evF P own fuel d)
  | 0 => fun f args H K h => h.elim
  | d + 1 => by
    intro f args H K h
    simp only [evF] at h
    split at h
    · rename_i g hg
      exact hown f g hg args H K h
    · split at h
      · exact h.elim
      · rename_i fn hfn
        rw [lget_eq, Array.getElem?_toList] at hfn
        exact evFn_ok hP hm (evF_ok hP hm hown fuel d) hfn (fun _ _ => LoOK.no) h

/-- A function whose loops go by their laws. -/
theorem evL_ok (hP : FnOK P) (hm : P.follows .mixedOrders = true) {own : FuncId → Option (List LV → LH → (LV → LH → Prop) → Prop)} (hown : OwnOK P own) {lo : Nat → Option LHd} {fuel d : Nat} {f : FuncId} {args : List LV} {H : LH} {K : LV → LH → Prop}
    (hlo : LoOK P (tmpsF P f) lo (loopsF P f)) (h : evL P own lo fuel d f args H K) : (∃ fn, P.funcs[f]? = some fn ∧ fn.body.isSome = true) ∧ CSpec P f args H K := by
  unfold evL at h
  split at h
  · exact h.elim
  · rename_i fn hfn
    refine evFn_ok hP hm (evF_ok hP hm hown fuel d) (by rw [lget_eq, Array.getElem?_toList] at hfn; exact hfn) ?_ h
    intro c hc
    have h1 : loopsF P f = loopsC c := by unfold loopsF; rw [hfn]; simp only; rw [hc]
    have h2 : tmpsF P f = fn.ntmps := by unfold tmpsF; rw [hfn]
    rw [h1, h2] at hlo
    exact hlo

theorem norm_get (ts : List Nat) (T : Tm) (t : Nat) : Tm.get (Tm.norm ts T) t = Tm.get T t ∨ Tm.get (Tm.norm ts T) t = .un := by
  induction ts with
  | nil => exact .inr rfl
  | cons u r ih =>
    simp only [Tm.norm, Tm.get]
    split
    · rename_i h
      have := Nat.eq_of_beq_eq_true h
      subst this
      exact .inl rfl
    · exact ih

theorem RelT.norm {s : Mp} {nt : Nat} {T : Tm} {a : Act} (h : RelT s nt T a) (ts : List Nat) : RelT s nt (Tm.norm ts T) a := by
  refine ⟨h.1, fun t => ?_⟩
  rcases norm_get ts T t with he | he <;> rw [he]
  · exact h.2 t
  · trivial

/-- Behind a round. -/
def loopK (I : Nat → Tm → LH → Prop) (K : X → Tm → LH → Prop) (ts' : List Nat) (n : Nat) : X → Tm → LH → Prop := fun x T H => match x with
  | .normal => ∃ n', n' < n ∧ I n' T H
  | x => ∃ wr, (∀ n ∈ H.wr, n ∈ wr) ∧ K x (Tm.norm ts' T) ⟨H.bl, wr⟩

/-- A loop by a family of states; behind it the temporaries that are wanted, and more blocks said to be written. -/
def loopN (ts ts' : List Nat) (I : Nat → Tm → LH → Prop) (body : Tm → LH → (X → Tm → LH → Prop) → Prop) (T : Tm) (H : LH) (K : X → Tm → LH → Prop) : Prop :=
  (∃ n, I n (Tm.norm ts T) H) ∧ ∀ n T H, I n T H → body T H fun x T H => loopK I K ts' n x (Tm.norm ts T) H

theorem Post.more {s s' : Mp} {H H' : LH} {w w' : World} (h : Post s H w s' H' w') {wr : List Nat} (hw : ∀ n ∈ H'.wr, n ∈ wr) : Post s H w s' ⟨H'.bl, wr⟩ w' :=
  ⟨h.hext, h.len, h.fresh, fun n hn hni => h.keep n hn fun hi => hni (hw n hi), fun n hn => hw n (h.wr n hn), h.size, fun y hy hno => h.frame y hy fun n hn => hno n (hw n hn), h.tape, h.os, h.output⟩

theorem loopN_ok {nt : Nat} {c : Code} {body : Tm → LH → (X → Tm → LH → Prop) → Prop} (hb : BodyOK P nt c body) {h : LHd} (hh : ∀ T H K, h T H K → ∃ ts ts' I, loopN ts ts' I body T H K) : BodyOK P nt (.loop c) h := by
  intro T H K s a w Q h0 hT hH hQ
  obtain ⟨ts, ts', I, ⟨n0, h0⟩, hround⟩ := hh T H K h0
  refine loop_fall (nt := nt) (fun n a' w' => ∃ T' H' s', I n T' H' ∧ RelT s' nt T' a' ∧ Rel s' H' w' ∧ Post s H w s' H' w') ⟨n0, _, H, s, h0, hT.norm ts, hH, Post.rfl'⟩ ?_
  rintro n a' w' ⟨T', H', s', h1, h2, h3, h4⟩
  refine hb.use (hround _ _ _ h1) h2 h3 ?_
  intro x s'' T'' H'' a'' w'' hK hT'' hH'' hp
  cases x with
  | normal =>
    obtain ⟨n', hlt, hI⟩ := hK
    exact ⟨n', hlt, _, H'', s'', hI, hT''.norm ts, hH'', h4.trans hp⟩
  | exit id =>
    obtain ⟨wr, hw, hK⟩ := hK
    exact hQ (.exit id) s'' _ _ a'' w'' hK ((hT''.norm ts).norm ts') (hH''.bl rfl) ((h4.trans hp).more hw)
  | ret =>
    obtain ⟨wr, hw, hK⟩ := hK
    exact hQ .ret s'' _ _ a'' w'' hK ((hT''.norm ts).norm ts') (hH''.bl rfl) ((h4.trans hp).more hw)

end
end Go.FL

/-
  A contract over objects, out of a walk over the blocks that they are made of.
-/
set_option linter.unusedVariables false
set_option linter.unusedSimpArgs false
set_option linter.unusedSectionVars false
namespace Go.FL
variable [Fz]

/-! ### Names that are other ones -/

def LC.ren (g : Nat → Nat) : LC → LC
  | .ptr n off => .ptr (g n) off
  | .idx n row w col => .idx (g n) row w col
  | .slice n off len cap => .slice (g n) off len cap
  | .iface t x => .iface t (x.ren g)
  | x => x

def LB.ren (g : Nat → Nat) : LB → LB
  | .cells e l => .cells e (l.map (·.ren g))
  | b => b

/-- All names of a cell are below. -/
def LC.low (k : Nat) : LC → Bool
  | .ptr n _ => Nat.blt n k
  | .idx n _ _ _ => Nat.blt n k
  | .slice n _ _ _ => Nat.blt n k
  | .iface _ x => x.low k
  | _ => true

def lowL (k : Nat) : List LC → Bool
  | [] => true
  | x :: r => match x.low k with
    | true => lowL k r
    | false => false

def LB.low (k : Nat) : LB → Bool
  | .cells _ l => lowL k l
  | _ => true

theorem RelC.ren {s s' : Mp} {g : Nat → Nat} {x : LC} (hg : ∀ n r, hd s n = some r → hd s' (g n) = some r) : ∀ {v : Value}, RelC s x v → RelC s' (x.ren g) v := by
  induction x with
  | ptr n off => rintro v ⟨r, h, rfl⟩; exact ⟨r, hg _ _ h, rfl⟩
  | idx n row w col => rintro v ⟨r, h, rfl⟩; exact ⟨r, hg _ _ h, rfl⟩
  | slice n off len cap => rintro v ⟨r, h, rfl⟩; exact ⟨r, hg _ _ h, rfl⟩
  | iface t x ih => rintro v ⟨u, rfl, h⟩; exact ⟨u, rfl, ih h⟩
  | _ => intro v h; exact h

theorem RelL.ren {s s' : Mp} {g : Nat → Nat} (hg : ∀ n r, hd s n = some r → hd s' (g n) = some r) : ∀ {l : List LC} {vs : List Value}, RelL s l vs → RelL s' (l.map (·.ren g)) vs
  | [], [], _ => trivial
  | _ :: _, _ :: _, h => ⟨h.1.ren hg, RelL.ren hg h.2⟩
  | [], _ :: _, h => h.elim
  | _ :: _, [], h => h.elim

theorem RelB.ren {s s' : Mp} {g : Nat → Nat} (hg : ∀ n r, hd s n = some r → hd s' (g n) = some r) {b : LB} {r : Nat} {f : List Nat} {h : Array Obj} (hb : RelB s b r f h) : RelB s' (b.ren g) r f h := by
  cases hb with
  | any => exact .any
  | cells c ho hl => exact .cells c ho (hl.ren hg)
  | ints ho => exact .ints ho
  | rows c ho hn hc hw hl => exact .rows c ho hn hc hw fun i hi => rowAt_free (hl i hi)
  | obj s₁ h0 hf hlen hd hb => exact .obj s₁ h0 hf hlen hd hb

/-- The other way: names below 'k' come back. -/
theorem RelC.unren {s s' : Mp} {g : Nat → Nat} {k : Nat} {x : LC} (hg : ∀ n r, n < k → hd s' (g n) = some r → hd s n = some r) (hx : x.low k = true) : ∀ {v : Value}, RelC s' (x.ren g) v → RelC s x v := by
  induction x with
  | ptr n off => rintro v ⟨r, h, rfl⟩; exact ⟨r, hg _ _ (by simpa [LC.low] using hx) h, rfl⟩
  | idx n row w col => rintro v ⟨r, h, rfl⟩; exact ⟨r, hg _ _ (by simpa [LC.low] using hx) h, rfl⟩
  | slice n off len cap => rintro v ⟨r, h, rfl⟩; exact ⟨r, hg _ _ (by simpa [LC.low] using hx) h, rfl⟩
  | iface t x ih => rintro v ⟨u, rfl, h⟩; exact ⟨u, rfl, ih hx h⟩
  | _ => intro v h; exact h

theorem RelL.unren {s s' : Mp} {g : Nat → Nat} {k : Nat} (hg : ∀ n r, n < k → hd s' (g n) = some r → hd s n = some r) : ∀ {l : List LC} {vs : List Value}, lowL k l = true → RelL s' (l.map (·.ren g)) vs → RelL s l vs
  | [], [], _, _ => trivial
  | x :: l, _ :: _, hx, h => by
    simp only [lowL] at hx
    split at hx
    · rename_i h1; exact ⟨h.1.unren hg h1, RelL.unren hg hx h.2⟩
    · cases hx
  | [], _ :: _, _, h => h.elim
  | _ :: _, [], _, h => h.elim

theorem RelB.unren {s s' : Mp} {g : Nat → Nat} {k : Nat} (hg : ∀ n r, n < k → hd s' (g n) = some r → hd s n = some r) {b : LB} (hx : b.low k = true) {r : Nat} {f : List Nat} {h : Array Obj} (hb : RelB s' (b.ren g) r f h) : RelB s b r f h := by
  cases b with
  | any => exact .any
  | cells e l => cases hb with | cells c ho hl => exact .cells c ho (RelL.unren hg hx hl)
  | ints e k' n f' => cases hb with | ints ho => exact .ints ho
  | rows e w n cap cs => cases hb with | rows c ho hn hc hw hl => exact .rows c ho hn hc hw fun i hi => rowAt_free (hl i hi)
  | obj x => cases hb with | obj s₁ h0 hf hlen hd hb => exact .obj s₁ h0 hf hlen hd hb

/-! ### Objects laid open, one behind the other -/

/-- An object, laid open (true), or left as it is. -/
def exB : Bool × Ob → List LB
  | (true, x) => ex x
  | (false, x) => [.obj x]

def cat : List (Bool × Ob) → Nat → List LB
  | [], _ => []
  | x :: r, k => (exB x).map (·.ren (· + k)) ++ cat r (k + (exB x).length)

def base : List (Bool × Ob) → Nat → Nat → Nat
  | [], _, k => k
  | _ :: _, 0, k => k
  | x :: r, i + 1, k => base r i (k + (exB x).length)

theorem ownB_app {s e : Mp} {m y : Nat} : ownB (s ++ e) m y ↔ (m < s.length ∧ ownB s m y) ∨ (s.length ≤ m ∧ ownB e (m - s.length) y) := by
  constructor
  · rintro ⟨r, f, h, hy⟩
    rcases Nat.lt_or_ge m s.length with hlt | hge
    · rw [List.getElem?_append_left hlt] at h; exact .inl ⟨hlt, r, f, h, hy⟩
    · rw [List.getElem?_append_right hge] at h; exact .inr ⟨hge, r, f, h, hy⟩
  · rintro (⟨hlt, r, f, h, hy⟩ | ⟨hge, r, f, h, hy⟩)
    · exact ⟨r, f, by rw [List.getElem?_append_left hlt]; exact h, hy⟩
    · exact ⟨r, f, by rw [List.getElem?_append_right hge]; exact h, hy⟩

theorem hd_app_left {s e : Mp} {n : Nat} (h : n < s.length) : hd (s ++ e) n = hd s n := by
  unfold hd; rw [List.getElem?_append_left h]

theorem hd_app_right {s e : Mp} {n : Nat} (h : s.length ≤ n) : hd (s ++ e) n = hd e (n - s.length) := by
  unfold hd; rw [List.getElem?_append_right h]

theorem hd_lt {s : Mp} {n r : Nat} (h : hd s n = some r) : n < s.length := by
  obtain ⟨f, h⟩ := hd_some h
  exact (List.getElem?_eq_some_iff.1 h).1

/-- What is known of the opened blocks. -/
structure Opened (s : Mp) (h : Array Obj) (ns : List Nat) (xs : List (Bool × Ob)) (k : Nat) (s₁ : Mp) : Prop where
  len : s₁.length = (cat xs k).length
  blk : ∀ (s0 s2 : Mp), s0.length = k → ∀ (i : Nat) (b : LB) (r : Nat) (f : List Nat), (cat xs k)[i]? = some b → s₁[i]? = some (r, f) → RelB (s0 ++ s₁ ++ s2) b r f h
  own : ∀ m y, ownB s₁ m y → ∃ (i n : Nat) (x : Bool × Ob), ns[i]? = some n ∧ xs[i]? = some x ∧ base xs i k ≤ m + k ∧ m + k < base xs i k + (exB x).length ∧ ownB s n y
  back : ∀ (i n y : Nat), ns[i]? = some n → ownB s n y → ∃ m, ownB s₁ m y
  heads : ∀ (i n : Nat), ns[i]? = some n → hd s₁ (base xs i k - k) = hd s n ∧ k ≤ base xs i k
  dis : Disj s₁

theorem base_ge : ∀ (xs : List (Bool × Ob)) (i k : Nat), k ≤ base xs i k
  | [], _, k => Nat.le_refl k
  | _ :: _, 0, k => Nat.le_refl k
  | x :: r, i + 1, k => Nat.le_trans (Nat.le_add_right _ _) (base_ge r i (k + (exB x).length))

/-- An object's blocks, whether it is laid open or not. -/
theorem unfold_obj {s : Mp} {x : Ob} {r : Nat} {f : List Nat} {h : Array Obj} (hb : RelB s (.obj x) r f h) (b : Bool) : ∃ sx : Mp, hd sx 0 = some r ∧ (∀ y, (y = r ∨ y ∈ f) ↔ ∃ n, ownB sx n y) ∧
    sx.length = (exB (b, x)).length ∧ Disj sx ∧ ∀ (i : Nat) (b' : LB) (q : Nat) (g : List Nat), (exB (b, x))[i]? = some b' → sx[i]? = some (q, g) → RelB sx b' q g h := by
  cases b with
  | true =>
    cases hb with
    | obj sx h0 hf hlen hdx hb => exact ⟨sx, h0, hf, hlen, hdx, hb⟩
  | false =>
    have h1 : ∀ n y, ownB [(r, f)] n y ↔ n = 0 ∧ (y = r ∨ y ∈ f) := by
      intro n y
      constructor
      · rintro ⟨q, g, hq, hy⟩
        cases n with
        | zero => simp at hq; obtain ⟨rfl, rfl⟩ := hq; exact ⟨rfl, hy⟩
        | succ n => simp at hq
      · rintro ⟨rfl, hy⟩; exact ⟨r, f, rfl, hy⟩
    refine ⟨[(r, f)], rfl, fun y => ?_, rfl, fun n m y hn hm => ?_, fun i b' q g hi hs => ?_⟩
    · constructor
      · intro hy; exact ⟨0, (h1 _ _).2 ⟨rfl, hy⟩⟩
      · rintro ⟨n, hn⟩; exact ((h1 _ _).1 hn).2
    · rw [((h1 _ _).1 hn).1, ((h1 _ _).1 hm).1]
    · cases i with
      | zero =>
        simp [exB] at hi hs
        obtain ⟨rfl, rfl⟩ := hs
        subst hi
        exact RelB.ren (g := id) (s := []) (fun n r h => by simp [hd] at h) (by cases hb with | obj sx h0 hf hlen hdx hb => exact .obj sx h0 hf hlen hdx hb)
      | succ i => simp at hs

theorem open_rel {s : Mp} {H : LH} {w : World} (hH : Rel s H w) : ∀ (ns : List Nat) (xs : List (Bool × Ob)) (k : Nat), ns.length = xs.length →
    (∀ (i n : Nat) (x : Bool × Ob), ns[i]? = some n → xs[i]? = some x → H.bl[n]? = some (.obj x.2)) → ns.Nodup → ∃ s₁, Opened s w.heap ns xs k s₁
  | [], [], k, _, _, _ => ⟨[], rfl, fun _ _ _ i b r f h => by simp [cat] at h, fun m y h => by obtain ⟨_, _, h, _⟩ := h; simp at h, fun i n y h => by simp at h, fun i n h => by simp at h,
      fun n m y h => by obtain ⟨_, _, h, _⟩ := h; simp at h⟩
  | [], _ :: _, _, h, _, _ => by simp at h
  | _ :: _, [], _, h, _, _ => by simp at h
  | n :: ns, x :: xs, k, hl, hg, hnd => by
    obtain ⟨sr, hr⟩ := open_rel hH ns xs (k + (exB x).length) (by simpa using hl) (fun i n' x' h1 h2 => hg (i + 1) n' x' (by simpa using h1) (by simpa using h2)) (List.nodup_cons.1 hnd).2
    have hn := hg 0 n x rfl rfl
    have hnl : n < s.length := by rw [hH.len]; exact (List.getElem?_eq_some_iff.1 hn).1
    obtain ⟨⟨r, f⟩, hs⟩ : ∃ p, s[n]? = some p := ⟨_, List.getElem?_eq_getElem hnl⟩
    obtain ⟨sx, h0, hf, hlen, hdx, hb⟩ := unfold_obj (hH.blk n _ r f hn hs) x.1
    have hlen : sx.length = (exB x).length := hlen
    · skip
      have hown : ∀ m y, ownB sx m y → ownB s n y := fun m y h => ⟨r, f, hs, (hf y).2 ⟨m, h⟩⟩
      have hpos : 0 < (exB x).length := by rw [← hlen]; exact hd_lt h0
      have hcl : ((exB x).map (·.ren (· + k))).length = sx.length := by simp [hlen]
      refine ⟨sx ++ sr, ?_, ?_, ?_, ?_, ?_, ?_⟩
      · simp [cat, hlen, hr.len]
      · intro s0 s2 hk i b q g hb' hs'
        rcases Nat.lt_or_ge i sx.length with hlt | hge
        · rw [List.getElem?_append_left hlt] at hs'
          simp only [cat] at hb'
          rw [List.getElem?_append_left (by rw [hcl]; exact hlt), List.getElem?_map] at hb'
          cases hx : (exB x)[i]? with
          | none => rw [hx] at hb'; cases hb'
          | some b0 =>
            rw [hx] at hb'; cases hb'
            refine (hb i b0 q g hx hs').ren ?_
            intro m z hm
            have hml := hd_lt hm
            rw [List.append_assoc, hd_app_right (by omega), hk, Nat.add_sub_cancel, List.append_assoc, hd_app_left hml]
            exact hm
        · rw [List.getElem?_append_right hge] at hs'
          simp only [cat] at hb'
          rw [List.getElem?_append_right (by rw [hcl]; exact hge), hcl] at hb'
          have := hr.blk (s0 ++ sx) s2 (by simp [hk, hlen]) _ _ _ _ hb' hs'
          simpa [List.append_assoc] using this
      · intro m y hy
        rcases ownB_app.1 hy with ⟨hlt, hy⟩ | ⟨hge, hy⟩
        · exact ⟨0, n, x, rfl, rfl, by simp [base], by simp [base]; omega, hown m y hy⟩
        · obtain ⟨i, n', x', h1, h2, h3, h4, h5⟩ := hr.own _ y hy
          refine ⟨i + 1, n', x', by simpa using h1, by simpa using h2, ?_, ?_, h5⟩
          · simp only [base]; rw [← hlen] at h3 ⊢; omega
          · simp only [base]; rw [← hlen] at h4 ⊢; omega
      · intro i n' y hi hy
        cases i with
        | zero =>
          simp at hi; subst hi
          obtain ⟨r', f', hs2, hy⟩ := hy
          rw [hs] at hs2; cases hs2
          obtain ⟨m, hm⟩ := (hf y).1 hy
          exact ⟨m, ownB_app.2 (.inl ⟨ownB_lt hm, hm⟩)⟩
        | succ i =>
          obtain ⟨m, hm⟩ := hr.back i n' y (by simpa using hi) hy
          exact ⟨m + sx.length, ownB_app.2 (.inr ⟨by omega, by simpa using hm⟩)⟩
      · intro i n' hi
        cases i with
        | zero =>
          simp at hi; subst hi
          refine ⟨?_, by simp [base]⟩
          simp only [base, Nat.sub_self]
          rw [hd_app_left (by omega), h0, hd_of hs]
        | succ i =>
          obtain ⟨h1, h2⟩ := hr.heads i n' (by simpa using hi)
          refine ⟨?_, base_ge _ _ _⟩
          simp only [base]
          rw [← hlen] at h1 h2 ⊢
          rw [hd_app_right (by omega), ← h1]
          congr 1
          omega
      · intro a b y ha hb'
        rcases ownB_app.1 ha with ⟨h1, h2⟩ | ⟨h1, h2⟩ <;> rcases ownB_app.1 hb' with ⟨h3, h4⟩ | ⟨h3, h4⟩
        · exact hdx a b y h2 h4
        · exfalso
          obtain ⟨i, n', x', h5, _, _, _, h6⟩ := hr.own _ y h4
          have := hH.dis n n' y (hown a y h2) h6
          subst this
          exact (List.nodup_cons.1 hnd).1 (List.mem_of_getElem? h5)
        · exfalso
          obtain ⟨i, n', x', h5, _, _, _, h6⟩ := hr.own _ y h2
          have := hH.dis n n' y (hown b y h4) h6
          subst this
          exact (List.nodup_cons.1 hnd).1 (List.mem_of_getElem? h5)
        · have := hr.dis _ _ y h2 h4
          omega

theorem Opened.rel {s : Mp} {w : World} {ns : List Nat} {xs : List (Bool × Ob)} {s₁ : Mp} {H : LH} (hH : Rel s H w) (h : Opened s w.heap ns xs 0 s₁) : Rel s₁ ⟨cat xs 0, []⟩ w :=
  ⟨h.len, fun n b r f hb hs => by simpa using h.blk [] [] rfl n b r f hb hs, h.dis, fun m y hy => by
    obtain ⟨i, n, x, _, _, _, _, h5⟩ := h.own m y hy
    exact hH.bnd n y h5, fun q o hF => ⟨(hH.frz q o hF).1, fun m hy => by
    obtain ⟨i, n, x, _, _, _, _, h5⟩ := h.own m q hy
    exact (hH.frz q o hF).2 n h5⟩⟩

end Go.FL

/-
  Objects shut again; the contract over objects.
-/
set_option linter.unusedVariables false
set_option linter.unusedSimpArgs false
set_option linter.unusedSectionVars false
namespace Go.FL
variable [Fz]

/-- The blocks of the names 'c' are those of an object. -/
def Clus (H : LH) (c : List Nat) (x : Bool × Ob) : Prop :=
  c.length = (exB x).length ∧ ∀ (j : Nat) (b : LB), (exB x)[j]? = some b → b.low c.length = true ∧ ∃ m : Nat, c[j]? = some m ∧ H.bl[m]? = some (b.ren fun i => c.getD i 0)

theorem fold_obj {s : Mp} {r : Nat} {f : List Nat} {h : Array Obj} {x : Ob} {b : Bool} {sx : Mp} (h0 : hd sx 0 = some r) (hf : ∀ y, (y = r ∨ y ∈ f) ↔ ∃ n, ownB sx n y) (hlen : sx.length = (exB (b, x)).length) (hdx : Disj sx)
    (hb : ∀ (i : Nat) (b' : LB) (q : Nat) (g : List Nat), (exB (b, x))[i]? = some b' → sx[i]? = some (q, g) → RelB sx b' q g h) : RelB s (.obj x) r f h := by
  cases b with
  | true => exact .obj sx h0 hf hlen hdx hb
  | false =>
    obtain ⟨g, hg⟩ := hd_some h0
    cases hb 0 _ r g rfl hg with
    | obj s2 h0' hf' hlen' hdx' hb' =>
      refine .obj s2 h0' ?_ hlen' hdx' hb'
      intro y
      rw [hf y, ← hf' y]
      constructor
      · rintro ⟨n, q, k, hn, hy⟩
        have hn0 : n = 0 := by
          have := (List.getElem?_eq_some_iff.1 hn).1
          rw [hlen] at this
          simp [exB] at this; omega
        subst hn0
        rw [hg] at hn; cases hn
        exact hy
      · intro hy; exact ⟨0, r, g, hg, hy⟩

/-- What belongs to a cluster. -/
def ent (s : Mp) (c : List Nat) : Nat × List Nat := ((hd s (c.getD 0 0)).getD 0, (c.map fun m => (s[m]?).getD (0, [])).flatMap fun p => p.1 :: p.2)

theorem clus_rel {s : Mp} {H : LH} {w : World} (hH : Rel s H w) {c : List Nat} {x : Bool × Ob} (hc : Clus H c x) (hnd : c.Nodup) {m0 : Nat} (h0 : c[0]? = some m0) (s' : Mp) :
    hd s m0 = some (ent s c).1 ∧ RelB s' (.obj x.2) (ent s c).1 (ent s c).2 w.heap ∧ ∀ y, (y = (ent s c).1 ∨ y ∈ (ent s c).2) ↔ ∃ m, m ∈ c ∧ ownB s m y := by
  obtain ⟨hcl, hcb⟩ := hc
  have hin : ∀ (j m : Nat), c[j]? = some m → ∃ p, s[m]? = some p := by
    intro j m hj
    have hjl : j < (exB x).length := by rw [← hcl]; exact (List.getElem?_eq_some_iff.1 hj).1
    obtain ⟨_, m', h1, h2⟩ := hcb j _ (List.getElem?_eq_getElem hjl)
    rw [hj] at h1; cases h1
    have := (List.getElem?_eq_some_iff.1 h2).1
    rw [← hH.len] at this
    exact ⟨_, List.getElem?_eq_getElem this⟩
  let sx : Mp := c.map fun m => (s[m]?).getD (0, [])
  have hsx : ∀ (j m : Nat) p, c[j]? = some m → s[m]? = some p → sx[j]? = some p := by
    intro j m p hj hm
    simp [sx, hj, hm]
  have hsx' : ∀ (j : Nat) p, sx[j]? = some p → ∃ m, c[j]? = some m ∧ s[m]? = some p := by
    intro j p hj
    simp only [sx, List.getElem?_map] at hj
    cases hx : c[j]? with
    | none => rw [hx] at hj; cases hj
    | some m =>
      rw [hx] at hj
      obtain ⟨p', hp'⟩ := hin j m hx
      simp [hp'] at hj
      subst hj
      exact ⟨m, rfl, hp'⟩
  have hown : ∀ j y, ownB sx j y ↔ ∃ m, c[j]? = some m ∧ ownB s m y := by
    intro j y
    constructor
    · rintro ⟨r, f, h, hy⟩
      obtain ⟨m, h1, h2⟩ := hsx' j _ h
      exact ⟨m, h1, r, f, h2, hy⟩
    · rintro ⟨m, h1, r, f, h2, hy⟩
      exact ⟨r, f, hsx j m _ h1 h2, hy⟩
  obtain ⟨⟨r, f0⟩, hp0⟩ := hin 0 m0 h0
  have hent : ent s c = (r, sx.flatMap fun p => p.1 :: p.2) := by
    unfold ent
    have : c.getD 0 0 = m0 := by simp [List.getD, h0]
    rw [this, hd_of hp0]
    rfl
  rw [hent]
  refine ⟨hd_of hp0, ?_, ?_⟩
  · have hmem : ∀ y, (y = r ∨ y ∈ sx.flatMap fun p => p.1 :: p.2) ↔ ∃ n, ownB sx n y := by
      intro y
      have h1 : y ∈ sx.flatMap (fun p => p.1 :: p.2) ↔ ∃ n, ownB sx n y := by
        rw [List.mem_flatMap]
        constructor
        · rintro ⟨⟨q, g⟩, hq, hy⟩
          obtain ⟨n, hn⟩ := List.getElem?_of_mem hq
          exact ⟨n, q, g, hn, by simpa using hy⟩
        · rintro ⟨n, q, g, hn, hy⟩
          exact ⟨(q, g), List.mem_of_getElem? hn, by simpa using hy⟩
      rw [h1]
      constructor
      · rintro (rfl | h)
        · exact ⟨0, (hown 0 y).2 ⟨m0, h0, y, f0, hp0, .inl rfl⟩⟩
        · exact h
      · exact .inr
    refine fold_obj (b := x.1) (hd_of (hsx 0 m0 _ h0 hp0)) hmem (by simp [sx, hcl]) ?_ ?_
    · intro a b y ha hb
      obtain ⟨m, h1, h2⟩ := (hown a y).1 ha
      obtain ⟨m', h3, h4⟩ := (hown b y).1 hb
      have := hH.dis m m' y h2 h4
      subst this
      obtain ⟨ha', ha''⟩ := List.getElem?_eq_some_iff.1 h1
      obtain ⟨hb', hb''⟩ := List.getElem?_eq_some_iff.1 h3
      exact (List.getElem_inj hnd).1 (ha''.trans hb''.symm)
    · intro i b' q g hi hs
      obtain ⟨m, h1, h2⟩ := hsx' i _ hs
      obtain ⟨hlow, m', h3, h4⟩ := hcb i b' hi
      rw [h1] at h3; cases h3
      refine RelB.unren (k := c.length) ?_ hlow (hH.blk m _ q g h4 h2)
      intro n z hn hz
      have hcn : c[n]? = some (c.getD n 0) := by simp [List.getElem?_eq_getElem hn, List.getD]
      obtain ⟨k, hk⟩ := hd_some hz
      exact hd_of (hsx n _ _ hcn hk)
  · intro y
    constructor
    · rintro (rfl | h)
      · exact ⟨m0, List.mem_of_getElem? h0, y, f0, hp0, .inl rfl⟩
      · rw [List.mem_flatMap] at h
        obtain ⟨⟨q, g⟩, hq, hy⟩ := h
        obtain ⟨n, hn⟩ := List.getElem?_of_mem hq
        obtain ⟨m, h1, h2⟩ := hsx' n _ hn
        exact ⟨m, List.mem_of_getElem? h1, q, g, h2, by simpa using hy⟩
    · rintro ⟨m, hm, hy⟩
      obtain ⟨j, hj⟩ := List.getElem?_of_mem hm
      obtain ⟨q, g, h2, hy⟩ := hy
      right
      rw [List.mem_flatMap]
      exact ⟨(q, g), List.mem_of_getElem? (hsx j m _ hj h2), by simpa using hy⟩

def putObs : LH → List Nat → List Ob → LH
  | H, n :: ns, x :: xs => putObs (H.put n (.obj x)) ns xs
  | H, _, _ => H

def newObs : LH → List Ob → LH
  | H, [] => H
  | H, y :: ys => newObs (H.new (.obj y)) ys

/-- How the blocks behind a walk are objects again. -/
structure CloseOK (xs : List (Bool × Ob)) (H₁ : LH) (cs : List (List Nat)) (xs' : List (Bool × Ob)) (ds : List (List Nat)) (ys : List (Bool × Ob)) : Prop where
  lc : cs.length = xs.length
  lx : xs'.length = xs.length
  ld : ds.length = ys.length
  clus : ∀ (i : Nat) (c : List Nat) (x' : Bool × Ob), cs[i]? = some c → xs'[i]? = some x' → Clus H₁ c x'
  head : ∀ (i : Nat) (c : List Nat), cs[i]? = some c → c[0]? = some (base xs i 0)
  own : ∀ (i : Nat) (c : List Nat) (x : Bool × Ob) (m : Nat), cs[i]? = some c → xs[i]? = some x → m ∈ c → m < (cat xs 0).length → base xs i 0 ≤ m ∧ m < base xs i 0 + (exB x).length
  dclus : ∀ (j : Nat) (d : List Nat) (y : Bool × Ob), ds[j]? = some d → ys[j]? = some y → Clus H₁ d y
  dhead : ∀ (j : Nat) (d : List Nat), ds[j]? = some d → ∃ m, d[0]? = some m
  down : ∀ (j : Nat) (d : List Nat) (m : Nat), ds[j]? = some d → m ∈ d → (cat xs 0).length ≤ m
  nodup : (cs.flatten ++ ds.flatten).Nodup

theorem putObs_bl : ∀ (ns : List Nat) (xs : List Ob) (H : LH), ns.length = xs.length → ns.Nodup → (∀ n ∈ ns, n < H.bl.length) → (putObs H ns xs).bl.length = H.bl.length ∧
    (∀ (i n : Nat) (x : Ob), ns[i]? = some n → xs[i]? = some x → (putObs H ns xs).bl[n]? = some (.obj x)) ∧ (∀ n : Nat, n ∉ ns → (putObs H ns xs).bl[n]? = H.bl[n]?) ∧
    (∀ n, n ∈ (putObs H ns xs).wr ↔ n ∈ ns ∨ n ∈ H.wr)
  | [], [], H, _, _, _ => ⟨rfl, by simp, fun _ _ => rfl, by simp [putObs]⟩
  | [], _ :: _, _, h, _, _ => by simp at h
  | _ :: _, [], _, h, _, _ => by simp at h
  | n :: ns, x :: xs, H, hl, hnd, hlt => by
    obtain ⟨h1, h2, h3, h4⟩ := putObs_bl ns xs (H.put n (.obj x)) (by simpa using hl) (List.nodup_cons.1 hnd).2 (fun m hm => by simpa [LH.put, lset_eq] using hlt m (by simp [hm]))
    have hn : n < H.bl.length := hlt n (by simp)
    have hnn := (List.nodup_cons.1 hnd).1
    simp only [putObs]
    refine ⟨by rw [h1]; simp [LH.put, lset_eq], ?_, ?_, ?_⟩
    · intro i m y hm hy
      cases i with
      | zero =>
        simp at hm hy
        subst hm; subst hy
        rw [h3 n hnn]
        simp [LH.put, lset_eq, hn]
      | succ i => exact h2 i m y (by simpa using hm) (by simpa using hy)
    · intro m hm
      simp only [List.mem_cons, not_or] at hm
      rw [h3 m hm.2]
      simp only [LH.put, lset_eq, List.getElem?_set]
      rw [if_neg (fun h => hm.1 h.symm)]
    · intro m
      rw [h4 m]
      simp only [LH.put, List.mem_cons]
      constructor
      · rintro (h | h | h)
        · exact .inl (.inr h)
        · exact .inl (.inl h)
        · exact .inr h
      · rintro ((h | h) | h)
        · exact .inr (.inl h)
        · exact .inl h
        · exact .inr (.inr h)

theorem newObs_bl : ∀ (ys : List Ob) (H : LH), (newObs H ys).bl = H.bl ++ ys.map .obj ∧ (newObs H ys).wr = H.wr
  | [], H => by simp [newObs]
  | y :: ys, H => by
    obtain ⟨h1, h2⟩ := newObs_bl ys (H.new (.obj y))
    simp only [newObs]
    rw [h1, h2]
    simp [LH.new]

def setE : Mp → List Nat → List (Nat × List Nat) → Mp
  | s, n :: ns, e :: es => setE (s.set n e) ns es
  | s, _, _ => s

theorem setE_get : ∀ (ns : List Nat) (es : List (Nat × List Nat)) (s : Mp), ns.length = es.length → ns.Nodup → (∀ n ∈ ns, n < s.length) → (setE s ns es).length = s.length ∧
    (∀ (i n : Nat) e, ns[i]? = some n → es[i]? = some e → (setE s ns es)[n]? = some e) ∧ (∀ n : Nat, n ∉ ns → (setE s ns es)[n]? = s[n]?)
  | [], [], s, _, _, _ => ⟨rfl, by simp, fun _ _ => rfl⟩
  | [], _ :: _, _, h, _, _ => by simp at h
  | _ :: _, [], _, h, _, _ => by simp at h
  | n :: ns, e :: es, s, hl, hnd, hlt => by
    obtain ⟨h1, h2, h3⟩ := setE_get ns es (s.set n e) (by simpa using hl) (List.nodup_cons.1 hnd).2 (fun m hm => by simpa using hlt m (by simp [hm]))
    have hn : n < s.length := hlt n (by simp)
    have hnn := (List.nodup_cons.1 hnd).1
    simp only [setE]
    refine ⟨by rw [h1]; simp, ?_, ?_⟩
    · intro i m y hm hy
      cases i with
      | zero =>
        simp at hm hy
        subst hm; subst hy
        rw [h3 n hnn]
        simp [hn]
      | succ i => exact h2 i m y (by simpa using hm) (by simpa using hy)
    · intro m hm
      simp only [List.mem_cons, not_or] at hm
      rw [h3 m hm.2, List.getElem?_set, if_neg (fun h => hm.1 h.symm)]

theorem nodup_flatten_disj {ls : List (List Nat)} (h : ls.flatten.Nodup) : ∀ (i j : Nat) (a b : List Nat) (m : Nat), ls[i]? = some a → ls[j]? = some b → m ∈ a → m ∈ b → i = j := by
  induction ls with
  | nil => intro i j a b m h1; simp at h1
  | cons l ls ih =>
    rw [List.flatten_cons, List.nodup_append] at h
    intro i j a b m h1 h2 ha hb
    have hmem : ∀ (k : Nat) (c : List Nat), ls[k]? = some c → m ∈ c → m ∈ ls.flatten := fun k c hk hc => List.mem_flatten.2 ⟨c, List.mem_of_getElem? hk, hc⟩
    cases i with
    | zero =>
      cases j with
      | zero => rfl
      | succ j =>
        simp at h1 h2
        subst h1
        exact absurd rfl (h.2.2 m ha m (hmem j b h2 hb))
    | succ i =>
      cases j with
      | zero =>
        simp at h1 h2
        subst h2
        exact absurd rfl (h.2.2 m hb m (hmem i a h1 ha))
      | succ j =>
        simp at h1 h2
        rw [ih h.2.1 i j a b m h1 h2 ha hb]

theorem nodup_of_flatten {ls : List (List Nat)} (h : ls.flatten.Nodup) {l : List Nat} (hl : l ∈ ls) : l.Nodup := by
  induction ls with
  | nil => simp at hl
  | cons a ls ih =>
    rw [List.flatten_cons, List.nodup_append] at h
    rcases List.mem_cons.1 hl with rfl | hl
    · exact h.1
    · exact ih h.2.1 hl

theorem CSpec.objs {P : Program} {f : FuncId} {args args₁ : List LV} {H : LH} {K K₁ : LV → LH → Prop} {ns : List Nat} {xs : List (Bool × Ob)} (hl : ns.length = xs.length)
    (hget : ∀ (i n : Nat) (x : Bool × Ob), ns[i]? = some n → xs[i]? = some x → H.bl[n]? = some (.obj x.2)) (hnd : ns.Nodup)
    (hargs : ∀ (s s₁ : Mp) (vs : List Value), (∀ (i n : Nat), ns[i]? = some n → hd s₁ (base xs i 0) = hd s n) → RelVs s args vs → RelVs s₁ args₁ vs)
    (hc : CSpec P f args₁ ⟨cat xs 0, []⟩ K₁)
    (hK : ∀ v₁ H₁, K₁ v₁ H₁ → ∃ cs xs' ds ys v, CloseOK xs H₁ cs xs' ds ys ∧
      (∀ (s₁ s' : Mp) (v' : Value), (∀ (i n : Nat), ns[i]? = some n → hd s' n = hd s₁ (base xs i 0)) → (∀ (j : Nat) (d : List Nat) (m : Nat), ds[j]? = some d → d[0]? = some m → hd s' (H.len + j) = hd s₁ m) → RelV s₁ v₁ v' → RelV s' v v') ∧
      K v (newObs (putObs H ns (xs'.map (·.2))) (ys.map (·.2)))) : CSpec P f args H K := by
  intro s vs w hr hH
  obtain ⟨s₁, hop⟩ := open_rel hH ns xs 0 hl hget hnd
  have hheads : ∀ (i n : Nat), ns[i]? = some n → hd s₁ (base xs i 0) = hd s n := fun i n hi => by simpa using (hop.heads i n hi).1
  have hlt : ∀ n ∈ ns, n < H.bl.length := by
    intro n hn
    obtain ⟨i, hi⟩ := List.getElem?_of_mem hn
    have hil : i < xs.length := by rw [← hl]; exact (List.getElem?_eq_some_iff.1 hi).1
    exact (List.getElem?_eq_some_iff.1 (hget i n _ hi (List.getElem?_eq_getElem hil))).1
  refine (hc s₁ vs w (hargs s s₁ vs hheads hr) (hop.rel hH)).mono ?_
  intro e w' he
  cases e with
  | panicked c => exact he.elim
  | outgrown => exact he.elim
  | returned v' =>
    obtain ⟨s₂, v₁, H₁, hk, hv, hR, hp⟩ := he
    obtain ⟨cs, xs', ds, ys, v, hcl, hvv, hKv⟩ := hK v₁ H₁ hk
    have hlc := hcl.lc; have hlx := hcl.lx; have hld := hcl.ld
    have hlt' : ∀ n ∈ ns, n < s.length := fun n hn => by rw [hH.len]; exact hlt n hn
    obtain ⟨e1, e2, e3⟩ := setE_get ns (cs.map (ent s₂)) s (by simp [hl, hlc]) hnd hlt'
    obtain ⟨p1, p2, p3, p4⟩ := putObs_bl ns (xs'.map (·.2)) H (by simp [hl, hlx]) hnd hlt
    obtain ⟨q1, q2⟩ := newObs_bl (ys.map (·.2)) (putObs H ns (xs'.map (·.2)))
    have hflat : (cs.flatten).Nodup := (List.nodup_append.1 hcl.nodup).1
    have hflatd : (ds.flatten).Nodup := (List.nodup_append.1 hcl.nodup).2.1
    have hcd : ∀ (i j : Nat) (c d : List Nat) (m : Nat), cs[i]? = some c → ds[j]? = some d → m ∈ c → m ∈ d → False := fun i j c d m h1 h2 h3 h4 =>
      (List.nodup_append.1 hcl.nodup).2.2 m (List.mem_flatten.2 ⟨c, List.mem_of_getElem? h1, h3⟩) m (List.mem_flatten.2 ⟨d, List.mem_of_getElem? h2, h4⟩) rfl
    have hcat : s₁.length = (cat xs 0).length := hop.len
    -- the new map
    let s' : Mp := setE s ns (cs.map (ent s₂)) ++ ds.map (ent s₂)
    have hs'l : (setE s ns (cs.map (ent s₂))).length = s.length := e1
    have hidx : ∀ (i n : Nat), ns[i]? = some n → ∃ c x x', cs[i]? = some c ∧ xs[i]? = some x ∧ xs'[i]? = some x' ∧ s'[n]? = some (ent s₂ c) := by
      intro i n hi
      have h1 : i < ns.length := (List.getElem?_eq_some_iff.1 hi).1
      have h2 : i < cs.length := by omega
      have h3 : i < xs.length := by omega
      have h4 : i < xs'.length := by omega
      refine ⟨_, _, _, List.getElem?_eq_getElem h2, List.getElem?_eq_getElem h3, List.getElem?_eq_getElem h4, ?_⟩
      show (setE s ns (cs.map (ent s₂)) ++ ds.map (ent s₂))[n]? = _
      rw [List.getElem?_append_left (by rw [hs'l]; exact hlt' n (List.mem_of_getElem? hi))]
      exact e2 i n _ hi (by simp [List.getElem?_eq_getElem h2])
    have hother : ∀ (n : Nat), n < s.length → n ∉ ns → s'[n]? = s[n]? := by
      intro n hn hno
      show (setE s ns (cs.map (ent s₂)) ++ ds.map (ent s₂))[n]? = _
      rw [List.getElem?_append_left (by rw [hs'l]; exact hn)]
      exact e3 n hno
    have hnew : ∀ (n : Nat) p, s.length ≤ n → s'[n]? = some p → ∃ d y, ds[n - s.length]? = some d ∧ ys[n - s.length]? = some y ∧ p = ent s₂ d := by
      intro n p hn hp
      have hp : (setE s ns (cs.map (ent s₂)) ++ ds.map (ent s₂))[n]? = some p := hp
      rw [List.getElem?_append_right (by rw [hs'l]; exact hn), hs'l, List.getElem?_map] at hp
      cases hx : ds[n - s.length]? with
      | none => rw [hx] at hp; cases hp
      | some d =>
        rw [hx] at hp; cases hp
        have h2 : n - s.length < ys.length := by rw [← hld]; exact (List.getElem?_eq_some_iff.1 hx).1
        exact ⟨d, _, rfl, List.getElem?_eq_getElem h2, rfl⟩
    have hcr : ∀ (i : Nat) (c : List Nat) (x' : Bool × Ob), cs[i]? = some c → xs'[i]? = some x' → hd s₂ (base xs i 0) = some (ent s₂ c).1 ∧ RelB s' (.obj x'.2) (ent s₂ c).1 (ent s₂ c).2 w'.heap ∧ ∀ y, (y = (ent s₂ c).1 ∨ y ∈ (ent s₂ c).2) ↔ ∃ m, m ∈ c ∧ ownB s₂ m y :=
      fun i c x' h1 h2 => clus_rel hR (hcl.clus i c x' h1 h2) (nodup_of_flatten hflat (List.mem_of_getElem? h1)) (hcl.head i c h1) s'
    have hdr : ∀ (j : Nat) (d : List Nat) (y : Bool × Ob), ds[j]? = some d → ys[j]? = some y → ∃ m0, d[0]? = some m0 ∧ hd s₂ m0 = some (ent s₂ d).1 ∧ RelB s' (.obj y.2) (ent s₂ d).1 (ent s₂ d).2 w'.heap ∧ ∀ z, (z = (ent s₂ d).1 ∨ z ∈ (ent s₂ d).2) ↔ ∃ m, m ∈ d ∧ ownB s₂ m z := by
      intro j d y h1 h2
      obtain ⟨m0, hm0⟩ := hcl.dhead j d h1
      obtain ⟨a1, a2, a3⟩ := clus_rel hR (hcl.dclus j d y h1 h2) (nodup_of_flatten hflatd (List.mem_of_getElem? h1)) hm0 s'
      exact ⟨m0, hm0, a1, a2, a3⟩
    -- who owns what
    have own1 : ∀ (i n : Nat) (c : List Nat) (y : Nat), ns[i]? = some n → cs[i]? = some c → (ownB s' n y ↔ ∃ m, m ∈ c ∧ ownB s₂ m y) := by
      intro i n c y hi hc'
      obtain ⟨c', x, x', h1, h2, h3, h4⟩ := hidx i n hi
      rw [hc'] at h1; cases h1
      rw [← (hcr i c x' hc' h3).2.2 y]
      constructor
      · rintro ⟨r, g, h5, hy⟩
        rw [h4] at h5
        have h5 := Option.some.inj h5
        rw [h5]; exact hy
      · intro hy; exact ⟨_, _, h4, hy⟩
    have own2 : ∀ (n y : Nat), n < s.length → n ∉ ns → (ownB s' n y ↔ ownB s n y) := by
      intro n y hn hno
      unfold ownB
      rw [hother n hn hno]
    have own3 : ∀ (n y : Nat), s.length ≤ n → ownB s' n y → ∃ d m, ds[n - s.length]? = some d ∧ m ∈ d ∧ ownB s₂ m y := by
      rintro n y hn ⟨r, g, h5, hy⟩
      obtain ⟨d, y', h1, h2, h3⟩ := hnew n _ hn h5
      obtain ⟨m0, _, _, _, h4⟩ := hdr _ d y' h1 h2
      rw [← h3] at h4
      obtain ⟨m, hm, ho⟩ := (h4 y).1 hy
      exact ⟨d, m, h1, hm, ho⟩
    -- an old block of a cluster is an old block of the object
    have oldOwn : ∀ (i n : Nat) (c : List Nat) (m y : Nat), ns[i]? = some n → cs[i]? = some c → m ∈ c → ownB s₂ m y → y < w.heap.size → ownB s n y := by
      intro i n c m y hi hc' hm ho hy
      obtain ⟨hml, ho1⟩ := hp.fresh m y ho hy
      obtain ⟨c', x, x', h1, h2, h3, h4⟩ := hidx i n hi
      rw [hc'] at h1; cases h1
      obtain ⟨k, n', xk, h5, h6, h7, h8, h9⟩ := hop.own m y ho1
      obtain ⟨h10, h11⟩ := hcl.own i c x m hc' h2 hm (by rw [← hcat]; exact hml)
      -- the ranges are apart
      have hki : k = i := by
        have rng : ∀ (zs : List (Bool × Ob)) (a b o : Nat) (u v : Bool × Ob), a < b → zs[a]? = some u → zs[b]? = some v → base zs a o + (exB u).length ≤ base zs b o := by
          intro zs
          induction zs with
          | nil => intro a b o u v _ h; simp at h
          | cons z zs ih =>
            intro a b o u v hab hu hv
            cases b with
            | zero => omega
            | succ b =>
              cases a with
              | zero =>
                simp at hu; subst hu
                simp only [base]
                exact base_ge zs b _
              | succ a =>
                simp only [base]
                exact ih a b _ u v (by omega) (by simpa using hu) (by simpa using hv)
        rcases Nat.lt_trichotomy k i with hlt | heq | hgt
        · have := rng xs k i 0 xk x hlt h6 h2; omega
        · exact heq
        · have := rng xs i k 0 x xk hgt h2 h6; omega
      subst hki
      rw [hi] at h5; cases h5
      exact h9
    have dNew : ∀ (j : Nat) (d : List Nat) (m y : Nat), ds[j]? = some d → m ∈ d → ownB s₂ m y → w.heap.size ≤ y := by
      intro j d m y hj hm ho
      rcases Nat.lt_or_ge y w.heap.size with hy | hy
      · have := (hp.fresh m y ho hy).1
        have := hcl.down j d m hj hm
        omega
      · exact hy
    have hframe : ∀ y, y < w.heap.size → (∀ n ∈ ns, ¬ ownB s n y) → w'.heap[y]? = w.heap[y]? := by
      intro y hy hno
      refine hp.frame y hy fun m _ ho => ?_
      obtain ⟨i, n, x, h1, _, _, _, h5⟩ := hop.own m y ho
      exact hno n (List.mem_of_getElem? h1) h5
    have hext : HExt s s' := by
      intro n r hr'
      have hn := hd_lt hr'
      by_cases hmem : n ∈ ns
      · obtain ⟨i, hi⟩ := List.getElem?_of_mem hmem
        obtain ⟨c, x, x', h1, h2, h3, h4⟩ := hidx i n hi
        have h5 := (hcr i c x' h1 h3).1
        have h6 := hp.hext (base xs i 0) r (by rw [hheads i n hi]; exact hr')
        rw [h5] at h6; cases h6
        exact hd_of h4
      · unfold hd at hr' ⊢
        rw [hother n hn hmem]; exact hr'
    have hHbl : ∀ (n : Nat), n < H.bl.length → (newObs (putObs H ns (xs'.map (·.2))) (ys.map (·.2))).bl[n]? = (putObs H ns (xs'.map (·.2))).bl[n]? := by
      intro n hn
      rw [q1, List.getElem?_append_left (by rw [p1]; exact hn)]
    have hs'len : s'.length = s.length + ds.length := by
      show (setE s ns (cs.map (ent s₂)) ++ ds.map (ent s₂)).length = _
      simp [hs'l]
    have hrel : Rel s' (newObs (putObs H ns (xs'.map (·.2))) (ys.map (·.2))) w' := by
      refine ⟨?_, ?_, ?_, ?_, ?_⟩
      · rw [hs'len, q1]; simp [p1, hH.len, hld]
      · intro n b r g hb hs'n
        rcases Nat.lt_or_ge n s.length with hn | hn
        · rw [hHbl n (by rw [← hH.len]; exact hn)] at hb
          by_cases hmem : n ∈ ns
          · obtain ⟨i, hi⟩ := List.getElem?_of_mem hmem
            obtain ⟨c, x, x', h1, h2, h3, h4⟩ := hidx i n hi
            rw [h4] at hs'n
            have := p2 i n x'.2 hi (by simp [h3])
            rw [this] at hb; cases hb
            have h5 := (hcr i c x' h1 h3).2.1
            have hs'n := Option.some.inj hs'n
            rw [hs'n] at h5
            exact h5
          · rw [hother n hn hmem] at hs'n
            rw [p3 n hmem] at hb
            refine ((hH.blk n b r g hb hs'n).mono hext).local fun y hy => ?_
            have hoy : ownB s n y := ⟨r, g, hs'n, hy⟩
            refine hframe y (hH.bnd n y hoy) fun n' hn' ho' => ?_
            have := hH.dis n n' y hoy ho'
            subst this
            exact hmem hn'
        · obtain ⟨d, y, h1, h2, h3⟩ := hnew n _ hn hs'n
          obtain ⟨m0, _, _, h4, _⟩ := hdr _ d y h1 h2
          rw [← h3] at h4
          rw [q1, List.getElem?_append_right (by rw [p1, ← hH.len]; exact hn), p1, ← hH.len, List.getElem?_map, List.getElem?_map, h2] at hb
          cases hb
          exact h4
      · intro a b y ha hb
        -- one of three kinds each
        have kinds : ∀ (n : Nat), ownB s' n y → (n < s.length ∧ n ∉ ns ∧ ownB s n y) ∨ (∃ (i : Nat) (c : List Nat) (m : Nat), ns[i]? = some n ∧ cs[i]? = some c ∧ m ∈ c ∧ ownB s₂ m y) ∨ (s.length ≤ n ∧ ∃ d m, ds[n - s.length]? = some d ∧ m ∈ d ∧ ownB s₂ m y) := by
          intro n hn
          rcases Nat.lt_or_ge n s.length with hlt2 | hge
          · by_cases hmem : n ∈ ns
            · obtain ⟨i, hi⟩ := List.getElem?_of_mem hmem
              obtain ⟨c, x, x', h1, h2, h3, h4⟩ := hidx i n hi
              obtain ⟨m, hm, ho⟩ := (own1 i n c y hi h1).1 hn
              exact .inr (.inl ⟨i, c, m, hi, h1, hm, ho⟩)
            · exact .inl ⟨hlt2, hmem, (own2 n y hlt2 hmem).1 hn⟩
          · obtain ⟨d, m, h1, h2, h3⟩ := own3 n y hge hn
            exact .inr (.inr ⟨hge, d, m, h1, h2, h3⟩)
        rcases kinds a ha with ⟨a1, a2, a3⟩ | ⟨i, c, m, a1, a2, a3, a4⟩ | ⟨a1, d, m, a2, a3, a4⟩ <;>
          rcases kinds b hb with ⟨b1, b2, b3⟩ | ⟨i', c', m', b1, b2, b3, b4⟩ | ⟨b1, d', m', b2, b3, b4⟩
        · exact hH.dis a b y a3 b3
        · have := oldOwn i' b c' m' y b1 b2 b3 b4 (hH.bnd a y a3)
          exact hH.dis a b y a3 this
        · have := dNew _ d' m' y b2 b3 b4
          have := hH.bnd a y a3; omega
        · have := oldOwn i a c m y a1 a2 a3 a4 (hH.bnd b y b3)
          exact hH.dis a b y this b3
        · have := hR.dis m m' y a4 b4
          subst this
          have := nodup_flatten_disj hflat i i' c c' m a2 b2 a3 b3
          subst this
          rw [a1] at b1; exact Option.some.inj b1
        · have := hR.dis m m' y a4 b4
          subst this
          exact (hcd i _ c d' m a2 b2 a3 b3).elim
        · have := dNew _ d m y a2 a3 a4
          have := hH.bnd b y b3; omega
        · have := hR.dis m m' y a4 b4
          subst this
          exact (hcd i' _ c' d m b2 a2 b3 a3).elim
        · have := hR.dis m m' y a4 b4
          subst this
          have := nodup_flatten_disj hflatd _ _ d d' m a2 b2 a3 b3
          omega
      · intro n y hn
        rcases Nat.lt_or_ge n s.length with hlt2 | hge
        · by_cases hmem : n ∈ ns
          · obtain ⟨i, hi⟩ := List.getElem?_of_mem hmem
            obtain ⟨c, x, x', h1, h2, h3, h4⟩ := hidx i n hi
            obtain ⟨m, hm, ho⟩ := (own1 i n c y hi h1).1 hn
            exact hR.bnd m y ho
          · exact Nat.lt_of_lt_of_le (hH.bnd n y ((own2 n y hlt2 hmem).1 hn)) hp.size
        · obtain ⟨d, m, h1, h2, h3⟩ := own3 n y hge hn
          exact hR.bnd m y h3
      · intro q o hF
        refine ⟨(hR.frz q o hF).1, fun n hn => ?_⟩
        rcases Nat.lt_or_ge n s.length with hlt2 | hge
        · by_cases hmem : n ∈ ns
          · obtain ⟨i, hi⟩ := List.getElem?_of_mem hmem
            obtain ⟨c, x, x', h1, h2, h3, h4⟩ := hidx i n hi
            obtain ⟨m, hm, ho⟩ := (own1 i n c q hi h1).1 hn
            exact (hR.frz q o hF).2 m ho
          · exact (hH.frz q o hF).2 n ((own2 n q hlt2 hmem).1 hn)
        · obtain ⟨d, m, h1, h2, h3⟩ := own3 n q hge hn
          exact (hR.frz q o hF).2 m h3
    refine ⟨s', v, _, hKv, ?_, hrel, ?_⟩
    · refine hvv s₂ s' v' ?_ ?_ hv
      · intro i n hi
        obtain ⟨c, x, x', h1, h2, h3, h4⟩ := hidx i n hi
        rw [(hcr i c x' h1 h3).1]
        exact hd_of h4
      · intro j d m hj hm
        have hjl : j < ys.length := by rw [← hld]; exact (List.getElem?_eq_some_iff.1 hj).1
        obtain ⟨m0, h1, h2, _, _⟩ := hdr j d _ hj (List.getElem?_eq_getElem hjl)
        rw [hm] at h1; cases h1
        rw [h2, LH.len_eq, ← hH.len]
        refine hd_of (f := (ent s₂ d).2) ?_
        show (setE s ns (cs.map (ent s₂)) ++ ds.map (ent s₂))[s.length + j]? = _
        rw [List.getElem?_append_right (by rw [hs'l]; omega), hs'l, Nat.add_sub_cancel_left, List.getElem?_map, hj]
        rfl
    · refine ⟨hext, by rw [hs'len]; omega, ?_, ?_, ?_, hp.size, ?_, hp.tape, hp.os, hp.output⟩
      · intro n y hn hy
        rcases Nat.lt_or_ge n s.length with hlt2 | hge
        · refine ⟨hlt2, ?_⟩
          by_cases hmem : n ∈ ns
          · obtain ⟨i, hi⟩ := List.getElem?_of_mem hmem
            obtain ⟨c, x, x', h1, h2, h3, h4⟩ := hidx i n hi
            obtain ⟨m, hm, ho⟩ := (own1 i n c y hi h1).1 hn
            exact oldOwn i n c m y hi h1 hm ho hy
          · exact (own2 n y hlt2 hmem).1 hn
        · obtain ⟨d, m, h1, h2, h3⟩ := own3 n y hge hn
          have := dNew _ d m y h1 h2 h3
          omega
      · intro n hn hw
        refine hother n hn fun hmem => hw ?_
        rw [q2]
        exact (p4 n).2 (.inl hmem)
      · intro n hn
        rw [q2]
        exact (p4 n).2 (.inr hn)
      · intro y hy hno
        refine hframe y hy fun n hn => hno n ?_
        rw [q2]
        exact (p4 n).2 (.inl hn)

end Go.FL

/-
  Blocks read as objects again.
-/
set_option linter.unusedVariables false
set_option linter.unusedSimpArgs false
set_option linter.unusedSectionVars false
set_option linter.unusedSectionVars false
namespace Go.FL
variable [Fz]

/-- api.Config. -/
structure PCfg where
  threads : Int
  slots : Int
  chunks : Int
  words : Int
  gens : Int
  sparse : Int
  tries : Int

def shF (H : LH) (n : Nat) (k : Ob → List Nat → Prop) : Prop := match H.get n with
  | some (.obj x) => k x [n]
  | _ => False

def shMem (H : LH) (n : Nat) (k : PMem → List Nat → Prop) : Prop := match H.get n with
  | some (.cells 71 [.slice i 0 n1 n2, .slice j 0 n3 n4, .int .i64 steps, .int .i64 who, .int .i64 la, .int .i64 lw, .bool lc]) =>
    match H.get i, H.get j with
    | some (.ints 34 .u64 n5 w), some (.ints 3 .i64 n6 t) => (n1 = n5 ∧ n2 = n5 ∧ n3 = n5 ∧ n4 = n5 ∧ n6 = n5) ∧ k ⟨n5, w, t, steps, who, la, lw, lc⟩ [n, i, j]
    | _, _ => False
  | _ => False

def shIn (H : LH) (n : Nat) (k : PIn → List Nat → Prop) : Prop := match H.get n with
  | some (.cells 65 [.int .i64 a, .int .u64 b]) => k ⟨a, b⟩ [n]
  | _ => False

def shGive (H : LH) (n : Nat) (k : PGive → List Nat → Prop) : Prop := match H.get n with
  | some (.cells 153 [.int .i64 a, .int .i64 b, .int .u64 c]) => k ⟨a, b, c⟩ [n]
  | _ => False

def shPlace (H : LH) (n : Nat) (k : PPlace → List Nat → Prop) : Prop := match H.get n with
  | some (.cells 146 [.int .i64 a, .int .i64 b, .int .u64 c, .int .i64 d, .int .u64 e, .int .i64 f, .int .i64 g, .bool h]) => k ⟨a, b, c, d, e, f, g, h⟩ [n]
  | _ => False

def shHelp (H : LH) (n : Nat) (k : PHelp → List Nat → Prop) : Prop := match H.get n with
  | some (.cells 164 [.int .i64 a, .int .u64 b, .int .i64 c, .int .i64 d, .int .u64 e, .bool f, .bool g]) => k ⟨a, b, c, d, e, f, g⟩ [n]
  | _ => False

def shAlloc (H : LH) (n : Nat) (k : PAlloc → List Nat → Prop) : Prop := match H.get n with
  | some (.cells 102 [.int .i64 size, .bool own, .int .i64 pc, .int .i64 tpc, .int .u64 ttop, .int .i64 tnext, .int .i64 tslot, .bool tok, .int .i64 at_, .int .i64 gen, p, .int .i64 sa, .int .i64 sc, g,
      .int .i64 e, .int .u64 h, .int .i64 v, .int .i64 st]) =>
    match p, g with
    | .nilp, .nilp => k ⟨size, own, pc, ⟨tpc, ttop, tnext, tslot, tok⟩, at_, gen, none, sa, sc, none, ⟨e, h, v, st⟩⟩ [n]
    | .ptr i 0, .nilp => match H.get i with
      | some (.obj (.place p)) => k ⟨size, own, pc, ⟨tpc, ttop, tnext, tslot, tok⟩, at_, gen, some p, sa, sc, none, ⟨e, h, v, st⟩⟩ [n, i]
      | _ => False
    | .nilp, .ptr j 0 => match H.get j with
      | some (.obj (.give g)) => k ⟨size, own, pc, ⟨tpc, ttop, tnext, tslot, tok⟩, at_, gen, none, sa, sc, some g, ⟨e, h, v, st⟩⟩ [n, j]
      | _ => False
    | .ptr i 0, .ptr j 0 => match H.get i, H.get j with
      | some (.obj (.place p)), some (.obj (.give g)) => k ⟨size, own, pc, ⟨tpc, ttop, tnext, tslot, tok⟩, at_, gen, some p, sa, sc, some g, ⟨e, h, v, st⟩⟩ [n, i, j]
      | _, _ => False
    | _, _ => False
  | _ => False

def shDrop (H : LH) (n : Nat) (k : PDrop → List Nat → Prop) : Prop := match H.get n with
  | some (.cells 107 [.int .u64 m, .bool own, .int .i64 hs, .int .i64 hg, .int .i64 pc, .int .u64 w, .int .i64 size, p, g, .int .i64 e, .int .u64 h, .int .i64 v, .int .i64 st]) =>
    match p, g with
    | .nilp, .nilp => k ⟨m, own, hs, hg, pc, w, size, none, none, ⟨e, h, v, st⟩⟩ [n]
    | .ptr i 0, .nilp => match H.get i with
      | some (.obj (.help p)) => k ⟨m, own, hs, hg, pc, w, size, some p, none, ⟨e, h, v, st⟩⟩ [n, i]
      | _ => False
    | .nilp, .ptr j 0 => match H.get j with
      | some (.obj (.give g)) => k ⟨m, own, hs, hg, pc, w, size, none, some g, ⟨e, h, v, st⟩⟩ [n, j]
      | _ => False
    | .ptr i 0, .ptr j 0 => match H.get i, H.get j with
      | some (.obj (.help p)), some (.obj (.give g)) => k ⟨m, own, hs, hg, pc, w, size, some p, some g, ⟨e, h, v, st⟩⟩ [n, i, j]
      | _, _ => False
    | _, _ => False
  | _ => False

def shAccess (H : LH) (n : Nat) (k : PAccess → List Nat → Prop) : Prop := match H.get n with
  | some (.cells 109 [.int .i64 x1, .int .u64 x2, .int .i64 x3, .int .i64 x4, .int .i64 x5, .bool own, .int .i64 hs, .int .i64 hg, .int .i64 pc, .int .u64 w, .int .u64 cell, .int .i64 seen, .int .i64 read, .int .i64 size, p,
      .int .i64 e, .int .u64 h, .int .i64 v, .int .i64 st]) =>
    match p with
    | .nilp => k ⟨⟨x1, x2, x3, x4, x5⟩, own, hs, hg, pc, w, cell, seen, read, size, none, ⟨e, h, v, st⟩⟩ [n]
    | .ptr i 0 => match H.get i with
      | some (.obj (.help p)) => k ⟨⟨x1, x2, x3, x4, x5⟩, own, hs, hg, pc, w, cell, seen, read, size, some p, ⟨e, h, v, st⟩⟩ [n, i]
      | _ => False
    | _ => False
  | _ => False

def shAct (H : LH) (n : Nat) (k : PAct → List Nat → Prop) : Prop := match H.get n with
  | some (.cells 67 [.int .i64 a, .int .u64 b, .int .i64 pc, .iface t (.ptr i 0), .int .i64 e, .int .u64 h, .int .i64 v, .int .i64 st]) =>
    match H.get i with
    | some (.obj (.alloc x)) => match Nat.beq t 83 with
      | true => k ⟨⟨a, b⟩, pc, .alloc x, ⟨e, h, v, st⟩⟩ [n, i]
      | false => False
    | some (.obj (.drop x)) => match Nat.beq t 85 with
      | true => k ⟨⟨a, b⟩, pc, .drop x, ⟨e, h, v, st⟩⟩ [n, i]
      | false => False
    | some (.obj (.access x)) => match Nat.beq t 87 with
      | true => k ⟨⟨a, b⟩, pc, .access x, ⟨e, h, v, st⟩⟩ [n, i]
      | false => False
    | _ => False
  | _ => False

theorem shF_ok {H : LH} {n : Nat} {k : Ob → List Nat → Prop} (h : shF H n k) : ∃ x c, k x c ∧ Clus H c (false, x) := by
  unfold shF at h
  split at h
  · rename_i x hg
    rw [LH.get_eq] at hg
    refine ⟨x, _, h, rfl, ?_⟩
    intro j b hj
    cases j with
    | zero => simp [exB] at hj; subst hj; exact ⟨rfl, n, rfl, hg⟩
    | succ j => simp [exB] at hj
  · exact h.elim

theorem clus1 {H : LH} {n : Nat} {x : Ob} {b : LB} (he : ex x = [b]) (hl : b.low 1 = true) (hg : H.get n = some (b.ren fun i => [n].getD i 0)) : Clus H [n] (true, x) := by
  refine ⟨by simp [exB, he], ?_⟩
  intro j b' hj
  simp only [exB, he] at hj
  cases j with
  | zero => simp at hj; subst hj; exact ⟨hl, n, rfl, by rw [← LH.get_eq]; exact hg⟩
  | succ j => simp at hj

theorem clus2 {H : LH} {n i : Nat} {x : Ob} {b b2 : LB} (he : ex x = [b, b2]) (hl : b.low 2 = true) (hl2 : b2.low 2 = true) (hg : H.get n = some (b.ren fun k => [n, i].getD k 0)) (hg2 : H.get i = some (b2.ren fun k => [n, i].getD k 0)) :
    Clus H [n, i] (true, x) := by
  refine ⟨by simp [exB, he], ?_⟩
  intro j b' hj
  simp only [exB, he] at hj
  match j, hj with
  | 0, hj => simp at hj; subst hj; exact ⟨hl, n, rfl, by rw [← LH.get_eq]; exact hg⟩
  | 1, hj => simp at hj; subst hj; exact ⟨hl2, i, rfl, by rw [← LH.get_eq]; exact hg2⟩
  | j + 2, hj => simp at hj

theorem clus3 {H : LH} {n i m : Nat} {x : Ob} {b b2 b3 : LB} (he : ex x = [b, b2, b3]) (hl : b.low 3 = true) (hl2 : b2.low 3 = true) (hl3 : b3.low 3 = true) (hg : H.get n = some (b.ren fun k => [n, i, m].getD k 0))
    (hg2 : H.get i = some (b2.ren fun k => [n, i, m].getD k 0)) (hg3 : H.get m = some (b3.ren fun k => [n, i, m].getD k 0)) : Clus H [n, i, m] (true, x) := by
  refine ⟨by simp [exB, he], ?_⟩
  intro j b' hj
  simp only [exB, he] at hj
  match j, hj with
  | 0, hj => simp at hj; subst hj; exact ⟨hl, n, rfl, by rw [← LH.get_eq]; exact hg⟩
  | 1, hj => simp at hj; subst hj; exact ⟨hl2, i, rfl, by rw [← LH.get_eq]; exact hg2⟩
  | 2, hj => simp at hj; subst hj; exact ⟨hl3, m, rfl, by rw [← LH.get_eq]; exact hg3⟩
  | j + 3, hj => simp at hj

theorem shMem_ok {H : LH} {n : Nat} {k : PMem → List Nat → Prop} (h : shMem H n k) : ∃ x c, k x c ∧ Clus H c (true, .mem x) := by
  unfold shMem at h
  split at h
  · rename_i hg
    split at h
    · rename_i hi hj
      obtain ⟨⟨rfl, rfl, rfl, rfl, rfl⟩, h⟩ := h
      exact ⟨_, _, h, clus3 rfl rfl rfl rfl hg hi hj⟩
    · exact h.elim
  · exact h.elim

theorem shIn_ok {H : LH} {n : Nat} {k : PIn → List Nat → Prop} (h : shIn H n k) : ∃ x c, k x c ∧ Clus H c (true, .in_ x) := by
  unfold shIn at h
  split at h
  · rename_i hg; exact ⟨_, _, h, clus1 rfl rfl hg⟩
  · exact h.elim

theorem shGive_ok {H : LH} {n : Nat} {k : PGive → List Nat → Prop} (h : shGive H n k) : ∃ x c, k x c ∧ Clus H c (true, .give x) := by
  unfold shGive at h
  split at h
  · rename_i hg; exact ⟨_, _, h, clus1 rfl rfl hg⟩
  · exact h.elim

theorem shPlace_ok {H : LH} {n : Nat} {k : PPlace → List Nat → Prop} (h : shPlace H n k) : ∃ x c, k x c ∧ Clus H c (true, .place x) := by
  unfold shPlace at h
  split at h
  · rename_i hg; exact ⟨_, _, h, clus1 rfl rfl hg⟩
  · exact h.elim

theorem shHelp_ok {H : LH} {n : Nat} {k : PHelp → List Nat → Prop} (h : shHelp H n k) : ∃ x c, k x c ∧ Clus H c (true, .help x) := by
  unfold shHelp at h
  split at h
  · rename_i hg; exact ⟨_, _, h, clus1 rfl rfl hg⟩
  · exact h.elim

theorem shAlloc_ok {H : LH} {n : Nat} {k : PAlloc → List Nat → Prop} (h : shAlloc H n k) : ∃ x c, k x c ∧ Clus H c (true, .alloc x) := by
  unfold shAlloc at h
  split at h
  · rename_i hg
    split at h
    · exact ⟨_, _, h, clus1 rfl rfl hg⟩
    · split at h
      · rename_i hi; exact ⟨_, _, h, clus2 rfl rfl rfl hg hi⟩
      · exact h.elim
    · split at h
      · rename_i hi; exact ⟨_, _, h, clus2 rfl rfl rfl hg hi⟩
      · exact h.elim
    · split at h
      · rename_i hi hj; exact ⟨_, _, h, clus3 rfl rfl rfl rfl hg hi hj⟩
      · exact h.elim
    · exact h.elim
  · exact h.elim

theorem shDrop_ok {H : LH} {n : Nat} {k : PDrop → List Nat → Prop} (h : shDrop H n k) : ∃ x c, k x c ∧ Clus H c (true, .drop x) := by
  unfold shDrop at h
  split at h
  · rename_i hg
    split at h
    · exact ⟨_, _, h, clus1 rfl rfl hg⟩
    · split at h
      · rename_i hi; exact ⟨_, _, h, clus2 rfl rfl rfl hg hi⟩
      · exact h.elim
    · split at h
      · rename_i hi; exact ⟨_, _, h, clus2 rfl rfl rfl hg hi⟩
      · exact h.elim
    · split at h
      · rename_i hi hj; exact ⟨_, _, h, clus3 rfl rfl rfl rfl hg hi hj⟩
      · exact h.elim
    · exact h.elim
  · exact h.elim

theorem shAccess_ok {H : LH} {n : Nat} {k : PAccess → List Nat → Prop} (h : shAccess H n k) : ∃ x c, k x c ∧ Clus H c (true, .access x) := by
  unfold shAccess at h
  split at h
  · rename_i hg
    split at h
    · exact ⟨_, _, h, clus1 rfl rfl hg⟩
    · split at h
      · rename_i hi; exact ⟨_, _, h, clus2 rfl rfl rfl hg hi⟩
      · exact h.elim
    · exact h.elim
  · exact h.elim

theorem shAct_ok {H : LH} {n : Nat} {k : PAct → List Nat → Prop} (h : shAct H n k) : ∃ x c, k x c ∧ Clus H c (true, .act x) := by
  unfold shAct at h
  split at h
  · rename_i hg
    split at h
    · rename_i hi
      split at h
      · rename_i ht; have ht := Nat.eq_of_beq_eq_true ht; subst ht; exact ⟨_, _, h, clus2 rfl rfl rfl hg hi⟩
      · exact h.elim
    · rename_i hi
      split at h
      · rename_i ht; have ht := Nat.eq_of_beq_eq_true ht; subst ht; exact ⟨_, _, h, clus2 rfl rfl rfl hg hi⟩
      · exact h.elim
    · rename_i hi
      split at h
      · rename_i ht; have ht := Nat.eq_of_beq_eq_true ht; subst ht; exact ⟨_, _, h, clus2 rfl rfl rfl hg hi⟩
      · exact h.elim
    · exact h.elim
  · exact h.elim

end Go.FL

/-
  A tree of choices, read as a proposition and as a value.
-/
set_option linter.unusedVariables false
namespace Go.FL

/-- The orders of a drawn region: each has to go well. -/
def twP (f : Prop → Prop) (p : Prop) : Prop := f p

/-- They all yield the same. -/
def twV {R : Type} (f : Prop → Prop) (r : R) : R := r

def app3 {A B C : Type} (K : A → B → C → Prop) (t : A × B × C) : Prop := K t.1 t.2.1 t.2.2

theorem cond3 {A B C : Type} {K : A → B → C → Prop} {b : Bool} {p q : Prop} {u v : A × B × C} (h1 : p = app3 K u) (h2 : q = app3 K v) : cond b p q = app3 K (cond b u v) := by
  cases b
  · exact h2
  · exact h1

theorem condH {A B C : Type} {K : A → B → C → Prop} {b : Bool} {q : Prop} {u v : A × B × C} (hb : b = false) (h2 : q = app3 K v) : cond b False q = app3 K (cond b u v) := by
  subst hb
  exact h2

theorem tw3 {A B C : Type} {K : A → B → C → Prop} {f : Prop → Prop} {p : Prop} {u : A × B × C} (hf : ∀ p, f p = p) (h : p = app3 K u) : twP f p = app3 K (twV f u) :=
  (hf p).trans h

end Go.FL

/-
  Steps of the program's objects, as the evaluator has them.
-/
set_option linter.unusedVariables false
set_option linter.unusedSimpArgs false
set_option maxRecDepth 100000
namespace Go.FL

def giveStepK {R : Type} (bot : R) (tw : (Prop → Prop) → R → R) (c : PCfg) (who : Int) (x : PGive) (m : PMem) (K : Bool → PGive → PMem → R) : R :=
  bif decide (x.pc = 0) then
   K false ⟨1, (x.slot), ((PMem.eLoad m who 1).fst)⟩ ((PMem.eLoad m who 1).snd)
  else
   bif decide (x.pc = 1) then
    K false ⟨2, (x.slot), (x.top)⟩ (PMem.eStore m who (wrI (lSlot c.threads c.slots c.chunks c.words c.gens c.sparse c.tries x.slot + 1)) (putTop (topOf x.top).fst 0))
   else
    K ((PMem.eCas m who 1 x.top (putTop x.slot (wrI ((topOf x.top).snd + 1)))).fst) ⟨0, (x.slot), (x.top)⟩ ((PMem.eCas m who 1 x.top (putTop x.slot (wrI ((topOf x.top).snd + 1)))).snd)

def giveStep (c : PCfg) (who : Int) (x : PGive) (m : PMem) : Bool × PGive × PMem := giveStepK (false, x, m) twV c who x m fun r x m => (r, x, m)

theorem giveStepK_eq (c : PCfg) (who : Int) (x : PGive) (m : PMem) (K : Bool → PGive → PMem → Prop) : giveStepK False twP c who x m K = K (giveStep c who x m).1 (giveStep c who x m).2.1 (giveStep c who x m).2.2 := by
  show _ = app3 K (giveStepK (false, x, m) twV c who x m fun r x m => (r, x, m))
  unfold giveStepK
  repeat' first
    | refine cond3 ?_ ?_
    | refine tw3 (fun p => by simp only [and_self]) ?_
    | exact rfl

def placeStepK {R : Type} (bot : R) (tw : (Prop → Prop) → R → R) (c : PCfg) (who : Int) (x : PPlace) (m : PMem) (K : Bool → PPlace → PMem → R) : R :=
  bif decide (x.pc = 0) then
   bif decide (wrI (wrI (PMem.eLoad m who (wrI (2 + x.cls))).fst - 1) < 0) then
    K false ⟨(x.cls), 3, ((PMem.eLoad m who (wrI (2 + x.cls))).fst), 0, (x.w), (x.sa), (x.sc), (x.ok)⟩ ((PMem.eLoad m who (wrI (2 + x.cls))).snd)
   else
    K false ⟨(x.cls), 1, ((PMem.eLoad m who (wrI (2 + x.cls))).fst), (wrI (wrI (PMem.eLoad m who (wrI (2 + x.cls))).fst - 1)), (x.w), (x.sa), (x.sc), (x.ok)⟩ ((PMem.eLoad m who (wrI (2 + x.cls))).snd)
  else
   bif decide (x.pc = 1) then
    bif !decide ((chunkOf (PMem.eLoad m who (lChunk c.threads c.slots c.chunks c.words c.gens c.sparse c.tries x.at_)).fst).fst = 1) then
     K false ⟨(x.cls), 3, (x.opn), 0, ((PMem.eLoad m who (lChunk c.threads c.slots c.chunks c.words c.gens c.sparse c.tries x.at_)).fst), (x.sa), (x.sc), (x.ok)⟩ ((PMem.eLoad m who (lChunk c.threads c.slots c.chunks c.words c.gens c.sparse c.tries x.at_)).snd)
    else
     bif !decide ((chunkOf (PMem.eLoad m who (lChunk c.threads c.slots c.chunks c.words c.gens c.sparse c.tries x.at_)).fst).snd.fst = x.cls) then
      K false ⟨(x.cls), 3, (x.opn), 0, ((PMem.eLoad m who (lChunk c.threads c.slots c.chunks c.words c.gens c.sparse c.tries x.at_)).fst), (x.sa), (x.sc), (x.ok)⟩ ((PMem.eLoad m who (lChunk c.threads c.slots c.chunks c.words c.gens c.sparse c.tries x.at_)).snd)
     else
      bif decide (c.words < wrI ((chunkOf (PMem.eLoad m who (lChunk c.threads c.slots c.chunks c.words c.gens c.sparse c.tries x.at_)).fst).snd.snd.fst + lRoom x.cls)) then
       K false ⟨(x.cls), 3, (x.opn), 0, ((PMem.eLoad m who (lChunk c.threads c.slots c.chunks c.words c.gens c.sparse c.tries x.at_)).fst), (x.sa), (x.sc), (x.ok)⟩ ((PMem.eLoad m who (lChunk c.threads c.slots c.chunks c.words c.gens c.sparse c.tries x.at_)).snd)
      else
       K false ⟨(x.cls), 2, (x.opn), (x.at_), ((PMem.eLoad m who (lChunk c.threads c.slots c.chunks c.words c.gens c.sparse c.tries x.at_)).fst), (x.sa), (x.sc), (x.ok)⟩ ((PMem.eLoad m who (lChunk c.threads c.slots c.chunks c.words c.gens c.sparse c.tries x.at_)).snd)
   else
    bif decide (x.pc = 2) then
     bif !(PMem.eCas m who (lChunk c.threads c.slots c.chunks c.words c.gens c.sparse c.tries x.at_) x.w (putChunk (chunkOf x.w).fst (chunkOf x.w).snd.fst (wrI ((chunkOf x.w).snd.snd.fst + lRoom x.cls)) (chunkOf x.w).snd.snd.snd)).fst then
      K false ⟨(x.cls), 0, (x.opn), (x.at_), (x.w), (x.sa), (x.sc), (x.ok)⟩ ((PMem.eCas m who (lChunk c.threads c.slots c.chunks c.words c.gens c.sparse c.tries x.at_) x.w (putChunk (chunkOf x.w).fst (chunkOf x.w).snd.fst (wrI ((chunkOf x.w).snd.snd.fst + lRoom x.cls)) (chunkOf x.w).snd.snd.snd)).snd)
     else
      K true ⟨(x.cls), 0, (x.opn), (x.at_), (x.w), (wrI (lBase c.threads c.slots c.chunks c.words c.gens c.sparse c.tries x.at_ + (chunkOf x.w).snd.snd.fst)), (x.at_), true⟩ ((PMem.eCas m who (lChunk c.threads c.slots c.chunks c.words c.gens c.sparse c.tries x.at_) x.w (putChunk (chunkOf x.w).fst (chunkOf x.w).snd.fst (wrI ((chunkOf x.w).snd.snd.fst + lRoom x.cls)) (chunkOf x.w).snd.snd.snd)).snd)
    else
     bif decide (x.pc = 3) then
      bif !decide ((chunkOf (PMem.eLoad m who (lChunk c.threads c.slots c.chunks c.words c.gens c.sparse c.tries x.at_)).fst).fst = 0) then
       K (decide (c.chunks ≤ wrI (x.at_ + 1))) ⟨(x.cls), 3, (x.opn), (wrI (x.at_ + 1)), ((PMem.eLoad m who (lChunk c.threads c.slots c.chunks c.words c.gens c.sparse c.tries x.at_)).fst), (x.sa), (x.sc), (x.ok)⟩ ((PMem.eLoad m who (lChunk c.threads c.slots c.chunks c.words c.gens c.sparse c.tries x.at_)).snd)
      else
       K false ⟨(x.cls), 4, (x.opn), (x.at_), ((PMem.eLoad m who (lChunk c.threads c.slots c.chunks c.words c.gens c.sparse c.tries x.at_)).fst), (x.sa), (x.sc), (x.ok)⟩ ((PMem.eLoad m who (lChunk c.threads c.slots c.chunks c.words c.gens c.sparse c.tries x.at_)).snd)
     else
      bif decide (x.pc = 4) then
       bif !(PMem.eCas m who (lChunk c.threads c.slots c.chunks c.words c.gens c.sparse c.tries x.at_) x.w (putChunk 1 x.cls 0 (wrI ((chunkOf x.w).snd.snd.snd + 1)))).fst then
        K (decide (c.chunks ≤ wrI (x.at_ + 1))) ⟨(x.cls), 3, (x.opn), (wrI (x.at_ + 1)), (x.w), (x.sa), (x.sc), (x.ok)⟩ ((PMem.eCas m who (lChunk c.threads c.slots c.chunks c.words c.gens c.sparse c.tries x.at_) x.w (putChunk 1 x.cls 0 (wrI ((chunkOf x.w).snd.snd.snd + 1)))).snd)
       else
        K false ⟨(x.cls), 5, (x.opn), (x.at_), (x.w), (x.sa), (x.sc), (x.ok)⟩ ((PMem.eCas m who (lChunk c.threads c.slots c.chunks c.words c.gens c.sparse c.tries x.at_) x.w (putChunk 1 x.cls 0 (wrI ((chunkOf x.w).snd.snd.snd + 1)))).snd)
      else
       bif decide (x.pc = 5) then
        bif (PMem.eCas m who (wrI (2 + x.cls)) x.opn (wrU (wrI (x.at_ + 1)))).fst then
         K false ⟨(x.cls), 0, (x.opn), (x.at_), (x.w), (x.sa), (x.sc), (x.ok)⟩ ((PMem.eCas m who (wrI (2 + x.cls)) x.opn (wrU (wrI (x.at_ + 1)))).snd)
        else
         K false ⟨(x.cls), 6, (x.opn), (x.at_), (x.w), (x.sa), (x.sc), (x.ok)⟩ ((PMem.eCas m who (wrI (2 + x.cls)) x.opn (wrU (wrI (x.at_ + 1)))).snd)
       else
        K false ⟨(x.cls), 0, (x.opn), (x.at_), (x.w), (x.sa), (x.sc), (x.ok)⟩ ((PMem.eCas m who (lChunk c.threads c.slots c.chunks c.words c.gens c.sparse c.tries x.at_) (putChunk 1 x.cls 0 (wrI ((chunkOf x.w).snd.snd.snd + 1))) (putChunk 0 0 0 (wrI ((chunkOf x.w).snd.snd.snd + 2)))).snd)

def placeStep (c : PCfg) (who : Int) (x : PPlace) (m : PMem) : Bool × PPlace × PMem := placeStepK (false, x, m) twV c who x m fun r x m => (r, x, m)

theorem placeStepK_eq (c : PCfg) (who : Int) (x : PPlace) (m : PMem) (K : Bool → PPlace → PMem → Prop) : placeStepK False twP c who x m K = K (placeStep c who x m).1 (placeStep c who x m).2.1 (placeStep c who x m).2.2 := by
  show _ = app3 K (placeStepK (false, x, m) twV c who x m fun r x m => (r, x, m))
  unfold placeStepK
  repeat' first
    | refine cond3 ?_ ?_
    | refine tw3 (fun p => by simp only [and_self]) ?_
    | exact rfl

def helpStepK {R : Type} (bot : R) (tw : (Prop → Prop) → R → R) (c : PCfg) (who : Int) (x : PHelp) (m : PMem) (K : Bool → PHelp → PMem → R) : R :=
  bif decide (x.size ≤ x.i) then
   bif decide (c.gens ≤ (slotOf x.w).snd.snd.fst) then
    K true ⟨(x.slot), (x.w), (x.size), (x.i), (x.cell), (x.read), ((PMem.eCas m who (lSlot c.threads c.slots c.chunks c.words c.gens c.sparse c.tries x.slot) x.w (putSlot 3 0 (slotOf x.w).snd.snd.fst 0)).fst)⟩ ((PMem.eCas m who (lSlot c.threads c.slots c.chunks c.words c.gens c.sparse c.tries x.slot) x.w (putSlot 3 0 (slotOf x.w).snd.snd.fst 0)).snd)
   else
    K true ⟨(x.slot), (x.w), (x.size), (x.i), (x.cell), (x.read), ((PMem.eCas m who (lSlot c.threads c.slots c.chunks c.words c.gens c.sparse c.tries x.slot) x.w (putSlot 0 0 (wrI ((slotOf x.w).snd.snd.fst + 1)) 0)).fst)⟩ ((PMem.eCas m who (lSlot c.threads c.slots c.chunks c.words c.gens c.sparse c.tries x.slot) x.w (putSlot 0 0 (wrI ((slotOf x.w).snd.snd.fst + 1)) 0)).snd)
  else
   bif !x.read then
    bif !(cellOf (PMem.eLoad m who (wrI (wrI ((slotOf x.w).snd.fst + 1) + x.i))).fst).snd.fst then
     K false ⟨(x.slot), (x.w), (x.size), (x.i), ((PMem.eLoad m who (wrI (wrI ((slotOf x.w).snd.fst + 1) + x.i))).fst), true, (x.won)⟩ ((PMem.eLoad m who (wrI (wrI ((slotOf x.w).snd.fst + 1) + x.i))).snd)
    else
     bif !!decide ((cellOf (PMem.eLoad m who (wrI (wrI ((slotOf x.w).snd.fst + 1) + x.i))).fst).snd.snd = (slotOf x.w).snd.snd.snd) then
      K false ⟨(x.slot), (x.w), (x.size), (wrI (x.i + 1)), ((PMem.eLoad m who (wrI (wrI ((slotOf x.w).snd.fst + 1) + x.i))).fst), (!decide ((cellOf (PMem.eLoad m who (wrI (wrI ((slotOf x.w).snd.fst + 1) + x.i))).fst).snd.snd = (slotOf x.w).snd.snd.snd)), (x.won)⟩ ((PMem.eLoad m who (wrI (wrI ((slotOf x.w).snd.fst + 1) + x.i))).snd)
     else
      K false ⟨(x.slot), (x.w), (x.size), (x.i), ((PMem.eLoad m who (wrI (wrI ((slotOf x.w).snd.fst + 1) + x.i))).fst), (!decide ((cellOf (PMem.eLoad m who (wrI (wrI ((slotOf x.w).snd.fst + 1) + x.i))).fst).snd.snd = (slotOf x.w).snd.snd.snd)), (x.won)⟩ ((PMem.eLoad m who (wrI (wrI ((slotOf x.w).snd.fst + 1) + x.i))).snd)
   else
    bif (PMem.eCas m who (wrI (wrI ((slotOf x.w).snd.fst + 1) + x.i)) x.cell (putCell (cellOf x.cell).fst true (slotOf x.w).snd.snd.snd)).fst then
     K false ⟨(x.slot), (x.w), (x.size), (wrI (x.i + 1)), (x.cell), false, (x.won)⟩ ((PMem.eCas m who (wrI (wrI ((slotOf x.w).snd.fst + 1) + x.i)) x.cell (putCell (cellOf x.cell).fst true (slotOf x.w).snd.snd.snd)).snd)
    else
     K false ⟨(x.slot), (x.w), (x.size), (x.i), (x.cell), false, (x.won)⟩ ((PMem.eCas m who (wrI (wrI ((slotOf x.w).snd.fst + 1) + x.i)) x.cell (putCell (cellOf x.cell).fst true (slotOf x.w).snd.snd.snd)).snd)

def helpStep (c : PCfg) (who : Int) (x : PHelp) (m : PMem) : Bool × PHelp × PMem := helpStepK (false, x, m) twV c who x m fun r x m => (r, x, m)

theorem helpStepK_eq (c : PCfg) (who : Int) (x : PHelp) (m : PMem) (K : Bool → PHelp → PMem → Prop) : helpStepK False twP c who x m K = K (helpStep c who x m).1 (helpStep c who x m).2.1 (helpStep c who x m).2.2 := by
  show _ = app3 K (helpStepK (false, x, m) twV c who x m fun r x m => (r, x, m))
  unfold helpStepK
  repeat' first
    | refine cond3 ?_ ?_
    | refine tw3 (fun p => by simp only [and_self]) ?_
    | exact rfl

end Go.FL

/-
  Steps of the program's objects, as the evaluator has them.
-/
set_option linter.unusedVariables false
set_option linter.unusedSimpArgs false
set_option maxRecDepth 100000
namespace Go.FL

def allocStep00K {R : Type} (bot : R) (tw : (Prop → Prop) → R → R) (c : PCfg) (who : Int) (x : PAlloc) (m : PMem) (K : Bool → PAlloc → PMem → R) : R :=
  bif decide (x.pc = 0) then
   bif decide (lClass x.size < 0) then
    K true ⟨(x.size), (x.own), (x.pc), ⟨(x.take.pc), (x.take.top), (x.take.next), (x.take.slot), (x.take.ok)⟩, (x.at_), (x.gen), none, (x.sa), (x.sc), none, ⟨5, 0, 0, (m.steps)⟩⟩ (m)
   else
    bif decide (x.take.pc = 0) then
     bif decide ((topOf (PMem.eLoad m who 1).fst).fst < 0) then
      bif !x.take.ok then
       K true ⟨(x.size), (x.own), 1, ⟨1, ((PMem.eLoad m who 1).fst), (x.take.next), ((topOf (PMem.eLoad m who 1).fst).fst), (x.take.ok)⟩, 0, (x.gen), none, (x.sa), (x.sc), none, ⟨7, 0, 0, ((PMem.eLoad m who 1).snd.steps)⟩⟩ ((PMem.eLoad m who 1).snd)
      else
       K false ⟨(x.size), (x.own), 1, ⟨1, ((PMem.eLoad m who 1).fst), (x.take.next), ((topOf (PMem.eLoad m who 1).fst).fst), (x.take.ok)⟩, ((topOf (PMem.eLoad m who 1).fst).fst), (x.gen), none, (x.sa), (x.sc), none, ⟨(x.out.e), (x.out.h), (x.out.v), (x.out.st)⟩⟩ ((PMem.eLoad m who 1).snd)
     else
      K false ⟨(x.size), (x.own), (x.pc), ⟨1, ((PMem.eLoad m who 1).fst), (x.take.next), ((topOf (PMem.eLoad m who 1).fst).fst), (x.take.ok)⟩, (x.at_), (x.gen), none, (x.sa), (x.sc), none, ⟨(x.out.e), (x.out.h), (x.out.v), (x.out.st)⟩⟩ ((PMem.eLoad m who 1).snd)
    else
     bif decide (x.take.pc = 1) then
      bif x.take.ok then
       bif !x.take.ok then
        K true ⟨(x.size), (x.own), 1, ⟨2, (x.take.top), ((topOf (PMem.eLoad m who (wrI (lSlot c.threads c.slots c.chunks c.words c.gens c.sparse c.tries x.take.slot + 1))).fst).fst), (x.take.slot), (x.take.ok)⟩, 0, (x.gen), none, (x.sa), (x.sc), none, ⟨7, 0, 0, ((PMem.eLoad m who (wrI (lSlot c.threads c.slots c.chunks c.words c.gens c.sparse c.tries x.take.slot + 1))).snd.steps)⟩⟩ ((PMem.eLoad m who (wrI (lSlot c.threads c.slots c.chunks c.words c.gens c.sparse c.tries x.take.slot + 1))).snd)
       else
        K false ⟨(x.size), (x.own), 1, ⟨2, (x.take.top), ((topOf (PMem.eLoad m who (wrI (lSlot c.threads c.slots c.chunks c.words c.gens c.sparse c.tries x.take.slot + 1))).fst).fst), (x.take.slot), (x.take.ok)⟩, (x.take.slot), (x.gen), none, (x.sa), (x.sc), none, ⟨(x.out.e), (x.out.h), (x.out.v), (x.out.st)⟩⟩ ((PMem.eLoad m who (wrI (lSlot c.threads c.slots c.chunks c.words c.gens c.sparse c.tries x.take.slot + 1))).snd)
      else
       K false ⟨(x.size), (x.own), (x.pc), ⟨2, (x.take.top), ((topOf (PMem.eLoad m who (wrI (lSlot c.threads c.slots c.chunks c.words c.gens c.sparse c.tries x.take.slot + 1))).fst).fst), (x.take.slot), (x.take.ok)⟩, (x.at_), (x.gen), none, (x.sa), (x.sc), none, ⟨(x.out.e), (x.out.h), (x.out.v), (x.out.st)⟩⟩ ((PMem.eLoad m who (wrI (lSlot c.threads c.slots c.chunks c.words c.gens c.sparse c.tries x.take.slot + 1))).snd)
     else
      bif (PMem.eCas m who 1 x.take.top (putTop x.take.next (wrI ((topOf x.take.top).snd + 1)))).fst then
       bif !(PMem.eCas m who 1 x.take.top (putTop x.take.next (wrI ((topOf x.take.top).snd + 1)))).fst then
        K true ⟨(x.size), (x.own), 1, ⟨0, (x.take.top), (x.take.next), (x.take.slot), ((PMem.eCas m who 1 x.take.top (putTop x.take.next (wrI ((topOf x.take.top).snd + 1)))).fst)⟩, 0, (x.gen), none, (x.sa), (x.sc), none, ⟨7, 0, 0, ((PMem.eCas m who 1 x.take.top (putTop x.take.next (wrI ((topOf x.take.top).snd + 1)))).snd.steps)⟩⟩ ((PMem.eCas m who 1 x.take.top (putTop x.take.next (wrI ((topOf x.take.top).snd + 1)))).snd)
       else
        K false ⟨(x.size), (x.own), 1, ⟨0, (x.take.top), (x.take.next), (x.take.slot), ((PMem.eCas m who 1 x.take.top (putTop x.take.next (wrI ((topOf x.take.top).snd + 1)))).fst)⟩, (x.take.slot), (x.gen), none, (x.sa), (x.sc), none, ⟨(x.out.e), (x.out.h), (x.out.v), (x.out.st)⟩⟩ ((PMem.eCas m who 1 x.take.top (putTop x.take.next (wrI ((topOf x.take.top).snd + 1)))).snd)
      else
       K false ⟨(x.size), (x.own), (x.pc), ⟨0, (x.take.top), (x.take.next), (x.take.slot), ((PMem.eCas m who 1 x.take.top (putTop x.take.next (wrI ((topOf x.take.top).snd + 1)))).fst)⟩, (x.at_), (x.gen), none, (x.sa), (x.sc), none, ⟨(x.out.e), (x.out.h), (x.out.v), (x.out.st)⟩⟩ ((PMem.eCas m who 1 x.take.top (putTop x.take.next (wrI ((topOf x.take.top).snd + 1)))).snd)
  else
   bif decide (x.pc = 1) then
    K false ⟨(x.size), (x.own), 2, ⟨(x.take.pc), (x.take.top), (x.take.next), (x.take.slot), (x.take.ok)⟩, (x.at_), ((slotOf (PMem.eLoad m who (lSlot c.threads c.slots c.chunks c.words c.gens c.sparse c.tries x.at_)).fst).snd.snd.fst), (some ⟨(lClass x.size), 0, 0, 0, 0, 0, 0, false⟩), (x.sa), (x.sc), none, ⟨(x.out.e), (x.out.h), (x.out.v), (x.out.st)⟩⟩ ((PMem.eLoad m who (lSlot c.threads c.slots c.chunks c.words c.gens c.sparse c.tries x.at_)).snd)
   else
    bif decide (x.pc = 2) then
     K false ⟨(x.size), (x.own), (x.pc), ⟨(x.take.pc), (x.take.top), (x.take.next), (x.take.slot), (x.take.ok)⟩, (x.at_), (x.gen), none, (x.sa), (x.sc), none, ⟨(x.out.e), (x.out.h), (x.out.v), (x.out.st)⟩⟩ (m)
    else
     bif decide (x.pc = 3) then
      K false ⟨(x.size), (x.own), 4, ⟨(x.take.pc), (x.take.top), (x.take.next), (x.take.slot), (x.take.ok)⟩, (x.at_), (x.gen), none, (x.sa), (x.sc), none, ⟨(x.out.e), (x.out.h), (x.out.v), (x.out.st)⟩⟩ (PMem.eAdd m who (wrI (lChunk c.threads c.slots c.chunks c.words c.gens c.sparse c.tries x.sc + 1)) (lRoom (lClass x.size)))
     else
      bif decide (x.pc = 4) then
       K false ⟨(x.size), (x.own), 5, ⟨(x.take.pc), (x.take.top), (x.take.next), (x.take.slot), (x.take.ok)⟩, (x.at_), (x.gen), none, (x.sa), (x.sc), none, ⟨(x.out.e), (x.out.h), (x.out.v), (x.out.st)⟩⟩ (PMem.eStore m who x.sa (putHead 1 x.size x.at_ x.gen x.own))
      else
       bif decide (x.pc = 5) then
        K false ⟨(x.size), (x.own), 6, ⟨(x.take.pc), (x.take.top), (x.take.next), (x.take.slot), (x.take.ok)⟩, (x.at_), (x.gen), none, (x.sa), (x.sc), none, ⟨0, (putHandle x.at_ x.gen), 0, ((PMem.eStore m who (lSlot c.threads c.slots c.chunks c.words c.gens c.sparse c.tries x.at_) (putSlot 1 x.sa x.gen 0)).steps)⟩⟩ (PMem.eStore m who (lSlot c.threads c.slots c.chunks c.words c.gens c.sparse c.tries x.at_) (putSlot 1 x.sa x.gen 0))
       else
        bif decide (x.pc = 6) then
         K true ⟨(x.size), (x.own), (x.pc), ⟨(x.take.pc), (x.take.top), (x.take.next), (x.take.slot), (x.take.ok)⟩, (x.at_), (x.gen), none, (x.sa), (x.sc), none, ⟨(x.out.e), (x.out.h), (x.out.v), (x.out.st)⟩⟩ (PMem.eStore m who x.sa (putHead 2 x.size x.at_ x.gen x.own))
        else
         K false ⟨(x.size), (x.own), (x.pc), ⟨(x.take.pc), (x.take.top), (x.take.next), (x.take.slot), (x.take.ok)⟩, (x.at_), (x.gen), none, (x.sa), (x.sc), none, ⟨(x.out.e), (x.out.h), (x.out.v), (x.out.st)⟩⟩ (m)

def allocStep00 (c : PCfg) (who : Int) (x : PAlloc) (m : PMem) : Bool × PAlloc × PMem := allocStep00K (false, x, m) twV c who x m fun r x m => (r, x, m)

theorem allocStep00K_eq (c : PCfg) (who : Int) (x : PAlloc) (m : PMem) (K : Bool → PAlloc → PMem → Prop) : allocStep00K False twP c who x m K = K (allocStep00 c who x m).1 (allocStep00 c who x m).2.1 (allocStep00 c who x m).2.2 := by
  show _ = app3 K (allocStep00K (false, x, m) twV c who x m fun r x m => (r, x, m))
  unfold allocStep00K
  repeat' first
    | refine cond3 ?_ ?_
    | refine tw3 (fun p => by simp only [and_self]) ?_
    | exact rfl

def allocStep10K {R : Type} (bot : R) (tw : (Prop → Prop) → R → R) (c : PCfg) (who : Int) (x : PAlloc) (p : PPlace) (m : PMem) (K : Bool → PAlloc → PMem → R) : R :=
  bif decide (x.pc = 0) then
   bif decide (lClass x.size < 0) then
    K true ⟨(x.size), (x.own), (x.pc), ⟨(x.take.pc), (x.take.top), (x.take.next), (x.take.slot), (x.take.ok)⟩, (x.at_), (x.gen), (some (p)), (x.sa), (x.sc), none, ⟨5, 0, 0, (m.steps)⟩⟩ (m)
   else
    bif decide (x.take.pc = 0) then
     bif decide ((topOf (PMem.eLoad m who 1).fst).fst < 0) then
      bif !x.take.ok then
       K true ⟨(x.size), (x.own), 1, ⟨1, ((PMem.eLoad m who 1).fst), (x.take.next), ((topOf (PMem.eLoad m who 1).fst).fst), (x.take.ok)⟩, 0, (x.gen), (some (p)), (x.sa), (x.sc), none, ⟨7, 0, 0, ((PMem.eLoad m who 1).snd.steps)⟩⟩ ((PMem.eLoad m who 1).snd)
      else
       K false ⟨(x.size), (x.own), 1, ⟨1, ((PMem.eLoad m who 1).fst), (x.take.next), ((topOf (PMem.eLoad m who 1).fst).fst), (x.take.ok)⟩, ((topOf (PMem.eLoad m who 1).fst).fst), (x.gen), (some (p)), (x.sa), (x.sc), none, ⟨(x.out.e), (x.out.h), (x.out.v), (x.out.st)⟩⟩ ((PMem.eLoad m who 1).snd)
     else
      K false ⟨(x.size), (x.own), (x.pc), ⟨1, ((PMem.eLoad m who 1).fst), (x.take.next), ((topOf (PMem.eLoad m who 1).fst).fst), (x.take.ok)⟩, (x.at_), (x.gen), (some (p)), (x.sa), (x.sc), none, ⟨(x.out.e), (x.out.h), (x.out.v), (x.out.st)⟩⟩ ((PMem.eLoad m who 1).snd)
    else
     bif decide (x.take.pc = 1) then
      bif x.take.ok then
       bif !x.take.ok then
        K true ⟨(x.size), (x.own), 1, ⟨2, (x.take.top), ((topOf (PMem.eLoad m who (wrI (lSlot c.threads c.slots c.chunks c.words c.gens c.sparse c.tries x.take.slot + 1))).fst).fst), (x.take.slot), (x.take.ok)⟩, 0, (x.gen), (some (p)), (x.sa), (x.sc), none, ⟨7, 0, 0, ((PMem.eLoad m who (wrI (lSlot c.threads c.slots c.chunks c.words c.gens c.sparse c.tries x.take.slot + 1))).snd.steps)⟩⟩ ((PMem.eLoad m who (wrI (lSlot c.threads c.slots c.chunks c.words c.gens c.sparse c.tries x.take.slot + 1))).snd)
       else
        K false ⟨(x.size), (x.own), 1, ⟨2, (x.take.top), ((topOf (PMem.eLoad m who (wrI (lSlot c.threads c.slots c.chunks c.words c.gens c.sparse c.tries x.take.slot + 1))).fst).fst), (x.take.slot), (x.take.ok)⟩, (x.take.slot), (x.gen), (some (p)), (x.sa), (x.sc), none, ⟨(x.out.e), (x.out.h), (x.out.v), (x.out.st)⟩⟩ ((PMem.eLoad m who (wrI (lSlot c.threads c.slots c.chunks c.words c.gens c.sparse c.tries x.take.slot + 1))).snd)
      else
       K false ⟨(x.size), (x.own), (x.pc), ⟨2, (x.take.top), ((topOf (PMem.eLoad m who (wrI (lSlot c.threads c.slots c.chunks c.words c.gens c.sparse c.tries x.take.slot + 1))).fst).fst), (x.take.slot), (x.take.ok)⟩, (x.at_), (x.gen), (some (p)), (x.sa), (x.sc), none, ⟨(x.out.e), (x.out.h), (x.out.v), (x.out.st)⟩⟩ ((PMem.eLoad m who (wrI (lSlot c.threads c.slots c.chunks c.words c.gens c.sparse c.tries x.take.slot + 1))).snd)
     else
      bif (PMem.eCas m who 1 x.take.top (putTop x.take.next (wrI ((topOf x.take.top).snd + 1)))).fst then
       bif !(PMem.eCas m who 1 x.take.top (putTop x.take.next (wrI ((topOf x.take.top).snd + 1)))).fst then
        K true ⟨(x.size), (x.own), 1, ⟨0, (x.take.top), (x.take.next), (x.take.slot), ((PMem.eCas m who 1 x.take.top (putTop x.take.next (wrI ((topOf x.take.top).snd + 1)))).fst)⟩, 0, (x.gen), (some (p)), (x.sa), (x.sc), none, ⟨7, 0, 0, ((PMem.eCas m who 1 x.take.top (putTop x.take.next (wrI ((topOf x.take.top).snd + 1)))).snd.steps)⟩⟩ ((PMem.eCas m who 1 x.take.top (putTop x.take.next (wrI ((topOf x.take.top).snd + 1)))).snd)
       else
        K false ⟨(x.size), (x.own), 1, ⟨0, (x.take.top), (x.take.next), (x.take.slot), ((PMem.eCas m who 1 x.take.top (putTop x.take.next (wrI ((topOf x.take.top).snd + 1)))).fst)⟩, (x.take.slot), (x.gen), (some (p)), (x.sa), (x.sc), none, ⟨(x.out.e), (x.out.h), (x.out.v), (x.out.st)⟩⟩ ((PMem.eCas m who 1 x.take.top (putTop x.take.next (wrI ((topOf x.take.top).snd + 1)))).snd)
      else
       K false ⟨(x.size), (x.own), (x.pc), ⟨0, (x.take.top), (x.take.next), (x.take.slot), ((PMem.eCas m who 1 x.take.top (putTop x.take.next (wrI ((topOf x.take.top).snd + 1)))).fst)⟩, (x.at_), (x.gen), (some (p)), (x.sa), (x.sc), none, ⟨(x.out.e), (x.out.h), (x.out.v), (x.out.st)⟩⟩ ((PMem.eCas m who 1 x.take.top (putTop x.take.next (wrI ((topOf x.take.top).snd + 1)))).snd)
  else
   bif decide (x.pc = 1) then
    K false ⟨(x.size), (x.own), 2, ⟨(x.take.pc), (x.take.top), (x.take.next), (x.take.slot), (x.take.ok)⟩, (x.at_), ((slotOf (PMem.eLoad m who (lSlot c.threads c.slots c.chunks c.words c.gens c.sparse c.tries x.at_)).fst).snd.snd.fst), (some ⟨(lClass x.size), 0, 0, 0, 0, 0, 0, false⟩), (x.sa), (x.sc), none, ⟨(x.out.e), (x.out.h), (x.out.v), (x.out.st)⟩⟩ ((PMem.eLoad m who (lSlot c.threads c.slots c.chunks c.words c.gens c.sparse c.tries x.at_)).snd)
   else
    bif decide (x.pc = 2) then
     bif (placeStep { threads := c.threads, slots := c.slots, chunks := c.chunks, words := c.words, gens := c.gens, sparse := c.sparse, tries := c.tries } who p m).fst then
      bif !(placeStep { threads := c.threads, slots := c.slots, chunks := c.chunks, words := c.words, gens := c.gens, sparse := c.sparse, tries := c.tries } who p m).snd.fst.ok then
       K false ⟨(x.size), (x.own), 7, ⟨(x.take.pc), (x.take.top), (x.take.next), (x.take.slot), (x.take.ok)⟩, (x.at_), (x.gen), (some ((placeStep { threads := c.threads, slots := c.slots, chunks := c.chunks, words := c.words, gens := c.gens, sparse := c.sparse, tries := c.tries } who p m).snd.1)), (bif (placeStep { threads := c.threads, slots := c.slots, chunks := c.chunks, words := c.words, gens := c.gens, sparse := c.sparse, tries := c.tries } who p m).snd.fst.ok then (placeStep { threads := c.threads, slots := c.slots, chunks := c.chunks, words := c.words, gens := c.gens, sparse := c.sparse, tries := c.tries } who p m).snd.fst.sa else 0), (bif (placeStep { threads := c.threads, slots := c.slots, chunks := c.chunks, words := c.words, gens := c.gens, sparse := c.sparse, tries := c.tries } who p m).snd.fst.ok then (placeStep { threads := c.threads, slots := c.slots, chunks := c.chunks, words := c.words, gens := c.gens, sparse := c.sparse, tries := c.tries } who p m).snd.fst.sc else 0), (some ⟨0, (x.at_), 0⟩), ⟨6, 0, 0, ((placeStep { threads := c.threads, slots := c.slots, chunks := c.chunks, words := c.words, gens := c.gens, sparse := c.sparse, tries := c.tries } who p m).snd.snd.steps)⟩⟩ ((placeStep { threads := c.threads, slots := c.slots, chunks := c.chunks, words := c.words, gens := c.gens, sparse := c.sparse, tries := c.tries } who p m).snd.snd)
      else
       K false ⟨(x.size), (x.own), 3, ⟨(x.take.pc), (x.take.top), (x.take.next), (x.take.slot), (x.take.ok)⟩, (x.at_), (x.gen), (some ((placeStep { threads := c.threads, slots := c.slots, chunks := c.chunks, words := c.words, gens := c.gens, sparse := c.sparse, tries := c.tries } who p m).snd.1)), (bif (placeStep { threads := c.threads, slots := c.slots, chunks := c.chunks, words := c.words, gens := c.gens, sparse := c.sparse, tries := c.tries } who p m).snd.fst.ok then (placeStep { threads := c.threads, slots := c.slots, chunks := c.chunks, words := c.words, gens := c.gens, sparse := c.sparse, tries := c.tries } who p m).snd.fst.sa else 0), (bif (placeStep { threads := c.threads, slots := c.slots, chunks := c.chunks, words := c.words, gens := c.gens, sparse := c.sparse, tries := c.tries } who p m).snd.fst.ok then (placeStep { threads := c.threads, slots := c.slots, chunks := c.chunks, words := c.words, gens := c.gens, sparse := c.sparse, tries := c.tries } who p m).snd.fst.sc else 0), none, ⟨(x.out.e), (x.out.h), (x.out.v), (x.out.st)⟩⟩ ((placeStep { threads := c.threads, slots := c.slots, chunks := c.chunks, words := c.words, gens := c.gens, sparse := c.sparse, tries := c.tries } who p m).snd.snd)
     else
      K false ⟨(x.size), (x.own), (x.pc), ⟨(x.take.pc), (x.take.top), (x.take.next), (x.take.slot), (x.take.ok)⟩, (x.at_), (x.gen), (some ((placeStep { threads := c.threads, slots := c.slots, chunks := c.chunks, words := c.words, gens := c.gens, sparse := c.sparse, tries := c.tries } who p m).snd.1)), (x.sa), (x.sc), none, ⟨(x.out.e), (x.out.h), (x.out.v), (x.out.st)⟩⟩ ((placeStep { threads := c.threads, slots := c.slots, chunks := c.chunks, words := c.words, gens := c.gens, sparse := c.sparse, tries := c.tries } who p m).snd.snd)
    else
     bif decide (x.pc = 3) then
      K false ⟨(x.size), (x.own), 4, ⟨(x.take.pc), (x.take.top), (x.take.next), (x.take.slot), (x.take.ok)⟩, (x.at_), (x.gen), (some (p)), (x.sa), (x.sc), none, ⟨(x.out.e), (x.out.h), (x.out.v), (x.out.st)⟩⟩ (PMem.eAdd m who (wrI (lChunk c.threads c.slots c.chunks c.words c.gens c.sparse c.tries x.sc + 1)) (lRoom (lClass x.size)))
     else
      bif decide (x.pc = 4) then
       K false ⟨(x.size), (x.own), 5, ⟨(x.take.pc), (x.take.top), (x.take.next), (x.take.slot), (x.take.ok)⟩, (x.at_), (x.gen), (some (p)), (x.sa), (x.sc), none, ⟨(x.out.e), (x.out.h), (x.out.v), (x.out.st)⟩⟩ (PMem.eStore m who x.sa (putHead 1 x.size x.at_ x.gen x.own))
      else
       bif decide (x.pc = 5) then
        K false ⟨(x.size), (x.own), 6, ⟨(x.take.pc), (x.take.top), (x.take.next), (x.take.slot), (x.take.ok)⟩, (x.at_), (x.gen), (some (p)), (x.sa), (x.sc), none, ⟨0, (putHandle x.at_ x.gen), 0, ((PMem.eStore m who (lSlot c.threads c.slots c.chunks c.words c.gens c.sparse c.tries x.at_) (putSlot 1 x.sa x.gen 0)).steps)⟩⟩ (PMem.eStore m who (lSlot c.threads c.slots c.chunks c.words c.gens c.sparse c.tries x.at_) (putSlot 1 x.sa x.gen 0))
       else
        bif decide (x.pc = 6) then
         K true ⟨(x.size), (x.own), (x.pc), ⟨(x.take.pc), (x.take.top), (x.take.next), (x.take.slot), (x.take.ok)⟩, (x.at_), (x.gen), (some (p)), (x.sa), (x.sc), none, ⟨(x.out.e), (x.out.h), (x.out.v), (x.out.st)⟩⟩ (PMem.eStore m who x.sa (putHead 2 x.size x.at_ x.gen x.own))
        else
         K false ⟨(x.size), (x.own), (x.pc), ⟨(x.take.pc), (x.take.top), (x.take.next), (x.take.slot), (x.take.ok)⟩, (x.at_), (x.gen), (some (p)), (x.sa), (x.sc), none, ⟨(x.out.e), (x.out.h), (x.out.v), (x.out.st)⟩⟩ (m)

def allocStep10 (c : PCfg) (who : Int) (x : PAlloc) (p : PPlace) (m : PMem) : Bool × PAlloc × PMem := allocStep10K (false, x, m) twV c who x p m fun r x m => (r, x, m)

theorem allocStep10K_eq (c : PCfg) (who : Int) (x : PAlloc) (p : PPlace) (m : PMem) (K : Bool → PAlloc → PMem → Prop) : allocStep10K False twP c who x p m K = K (allocStep10 c who x p m).1 (allocStep10 c who x p m).2.1 (allocStep10 c who x p m).2.2 := by
  show _ = app3 K (allocStep10K (false, x, m) twV c who x p m fun r x m => (r, x, m))
  unfold allocStep10K
  repeat' first
    | refine cond3 ?_ ?_
    | refine tw3 (fun p => by simp only [and_self]) ?_
    | exact rfl

def allocStep01K {R : Type} (bot : R) (tw : (Prop → Prop) → R → R) (c : PCfg) (who : Int) (x : PAlloc) (give : PGive) (m : PMem) (K : Bool → PAlloc → PMem → R) : R :=
  bif decide (x.pc = 0) then
   bif decide (lClass x.size < 0) then
    K true ⟨(x.size), (x.own), (x.pc), ⟨(x.take.pc), (x.take.top), (x.take.next), (x.take.slot), (x.take.ok)⟩, (x.at_), (x.gen), none, (x.sa), (x.sc), (some (give)), ⟨5, 0, 0, (m.steps)⟩⟩ (m)
   else
    bif decide (x.take.pc = 0) then
     bif decide ((topOf (PMem.eLoad m who 1).fst).fst < 0) then
      bif !x.take.ok then
       K true ⟨(x.size), (x.own), 1, ⟨1, ((PMem.eLoad m who 1).fst), (x.take.next), ((topOf (PMem.eLoad m who 1).fst).fst), (x.take.ok)⟩, 0, (x.gen), none, (x.sa), (x.sc), (some (give)), ⟨7, 0, 0, ((PMem.eLoad m who 1).snd.steps)⟩⟩ ((PMem.eLoad m who 1).snd)
      else
       K false ⟨(x.size), (x.own), 1, ⟨1, ((PMem.eLoad m who 1).fst), (x.take.next), ((topOf (PMem.eLoad m who 1).fst).fst), (x.take.ok)⟩, ((topOf (PMem.eLoad m who 1).fst).fst), (x.gen), none, (x.sa), (x.sc), (some (give)), ⟨(x.out.e), (x.out.h), (x.out.v), (x.out.st)⟩⟩ ((PMem.eLoad m who 1).snd)
     else
      K false ⟨(x.size), (x.own), (x.pc), ⟨1, ((PMem.eLoad m who 1).fst), (x.take.next), ((topOf (PMem.eLoad m who 1).fst).fst), (x.take.ok)⟩, (x.at_), (x.gen), none, (x.sa), (x.sc), (some (give)), ⟨(x.out.e), (x.out.h), (x.out.v), (x.out.st)⟩⟩ ((PMem.eLoad m who 1).snd)
    else
     bif decide (x.take.pc = 1) then
      bif x.take.ok then
       bif !x.take.ok then
        K true ⟨(x.size), (x.own), 1, ⟨2, (x.take.top), ((topOf (PMem.eLoad m who (wrI (lSlot c.threads c.slots c.chunks c.words c.gens c.sparse c.tries x.take.slot + 1))).fst).fst), (x.take.slot), (x.take.ok)⟩, 0, (x.gen), none, (x.sa), (x.sc), (some (give)), ⟨7, 0, 0, ((PMem.eLoad m who (wrI (lSlot c.threads c.slots c.chunks c.words c.gens c.sparse c.tries x.take.slot + 1))).snd.steps)⟩⟩ ((PMem.eLoad m who (wrI (lSlot c.threads c.slots c.chunks c.words c.gens c.sparse c.tries x.take.slot + 1))).snd)
       else
        K false ⟨(x.size), (x.own), 1, ⟨2, (x.take.top), ((topOf (PMem.eLoad m who (wrI (lSlot c.threads c.slots c.chunks c.words c.gens c.sparse c.tries x.take.slot + 1))).fst).fst), (x.take.slot), (x.take.ok)⟩, (x.take.slot), (x.gen), none, (x.sa), (x.sc), (some (give)), ⟨(x.out.e), (x.out.h), (x.out.v), (x.out.st)⟩⟩ ((PMem.eLoad m who (wrI (lSlot c.threads c.slots c.chunks c.words c.gens c.sparse c.tries x.take.slot + 1))).snd)
      else
       K false ⟨(x.size), (x.own), (x.pc), ⟨2, (x.take.top), ((topOf (PMem.eLoad m who (wrI (lSlot c.threads c.slots c.chunks c.words c.gens c.sparse c.tries x.take.slot + 1))).fst).fst), (x.take.slot), (x.take.ok)⟩, (x.at_), (x.gen), none, (x.sa), (x.sc), (some (give)), ⟨(x.out.e), (x.out.h), (x.out.v), (x.out.st)⟩⟩ ((PMem.eLoad m who (wrI (lSlot c.threads c.slots c.chunks c.words c.gens c.sparse c.tries x.take.slot + 1))).snd)
     else
      bif (PMem.eCas m who 1 x.take.top (putTop x.take.next (wrI ((topOf x.take.top).snd + 1)))).fst then
       bif !(PMem.eCas m who 1 x.take.top (putTop x.take.next (wrI ((topOf x.take.top).snd + 1)))).fst then
        K true ⟨(x.size), (x.own), 1, ⟨0, (x.take.top), (x.take.next), (x.take.slot), ((PMem.eCas m who 1 x.take.top (putTop x.take.next (wrI ((topOf x.take.top).snd + 1)))).fst)⟩, 0, (x.gen), none, (x.sa), (x.sc), (some (give)), ⟨7, 0, 0, ((PMem.eCas m who 1 x.take.top (putTop x.take.next (wrI ((topOf x.take.top).snd + 1)))).snd.steps)⟩⟩ ((PMem.eCas m who 1 x.take.top (putTop x.take.next (wrI ((topOf x.take.top).snd + 1)))).snd)
       else
        K false ⟨(x.size), (x.own), 1, ⟨0, (x.take.top), (x.take.next), (x.take.slot), ((PMem.eCas m who 1 x.take.top (putTop x.take.next (wrI ((topOf x.take.top).snd + 1)))).fst)⟩, (x.take.slot), (x.gen), none, (x.sa), (x.sc), (some (give)), ⟨(x.out.e), (x.out.h), (x.out.v), (x.out.st)⟩⟩ ((PMem.eCas m who 1 x.take.top (putTop x.take.next (wrI ((topOf x.take.top).snd + 1)))).snd)
      else
       K false ⟨(x.size), (x.own), (x.pc), ⟨0, (x.take.top), (x.take.next), (x.take.slot), ((PMem.eCas m who 1 x.take.top (putTop x.take.next (wrI ((topOf x.take.top).snd + 1)))).fst)⟩, (x.at_), (x.gen), none, (x.sa), (x.sc), (some (give)), ⟨(x.out.e), (x.out.h), (x.out.v), (x.out.st)⟩⟩ ((PMem.eCas m who 1 x.take.top (putTop x.take.next (wrI ((topOf x.take.top).snd + 1)))).snd)
  else
   bif decide (x.pc = 1) then
    K false ⟨(x.size), (x.own), 2, ⟨(x.take.pc), (x.take.top), (x.take.next), (x.take.slot), (x.take.ok)⟩, (x.at_), ((slotOf (PMem.eLoad m who (lSlot c.threads c.slots c.chunks c.words c.gens c.sparse c.tries x.at_)).fst).snd.snd.fst), (some ⟨(lClass x.size), 0, 0, 0, 0, 0, 0, false⟩), (x.sa), (x.sc), (some (give)), ⟨(x.out.e), (x.out.h), (x.out.v), (x.out.st)⟩⟩ ((PMem.eLoad m who (lSlot c.threads c.slots c.chunks c.words c.gens c.sparse c.tries x.at_)).snd)
   else
    bif decide (x.pc = 2) then
     K false ⟨(x.size), (x.own), (x.pc), ⟨(x.take.pc), (x.take.top), (x.take.next), (x.take.slot), (x.take.ok)⟩, (x.at_), (x.gen), none, (x.sa), (x.sc), (some (give)), ⟨(x.out.e), (x.out.h), (x.out.v), (x.out.st)⟩⟩ (m)
    else
     bif decide (x.pc = 3) then
      K false ⟨(x.size), (x.own), 4, ⟨(x.take.pc), (x.take.top), (x.take.next), (x.take.slot), (x.take.ok)⟩, (x.at_), (x.gen), none, (x.sa), (x.sc), (some (give)), ⟨(x.out.e), (x.out.h), (x.out.v), (x.out.st)⟩⟩ (PMem.eAdd m who (wrI (lChunk c.threads c.slots c.chunks c.words c.gens c.sparse c.tries x.sc + 1)) (lRoom (lClass x.size)))
     else
      bif decide (x.pc = 4) then
       K false ⟨(x.size), (x.own), 5, ⟨(x.take.pc), (x.take.top), (x.take.next), (x.take.slot), (x.take.ok)⟩, (x.at_), (x.gen), none, (x.sa), (x.sc), (some (give)), ⟨(x.out.e), (x.out.h), (x.out.v), (x.out.st)⟩⟩ (PMem.eStore m who x.sa (putHead 1 x.size x.at_ x.gen x.own))
      else
       bif decide (x.pc = 5) then
        K false ⟨(x.size), (x.own), 6, ⟨(x.take.pc), (x.take.top), (x.take.next), (x.take.slot), (x.take.ok)⟩, (x.at_), (x.gen), none, (x.sa), (x.sc), (some (give)), ⟨0, (putHandle x.at_ x.gen), 0, ((PMem.eStore m who (lSlot c.threads c.slots c.chunks c.words c.gens c.sparse c.tries x.at_) (putSlot 1 x.sa x.gen 0)).steps)⟩⟩ (PMem.eStore m who (lSlot c.threads c.slots c.chunks c.words c.gens c.sparse c.tries x.at_) (putSlot 1 x.sa x.gen 0))
       else
        bif decide (x.pc = 6) then
         K true ⟨(x.size), (x.own), (x.pc), ⟨(x.take.pc), (x.take.top), (x.take.next), (x.take.slot), (x.take.ok)⟩, (x.at_), (x.gen), none, (x.sa), (x.sc), (some (give)), ⟨(x.out.e), (x.out.h), (x.out.v), (x.out.st)⟩⟩ (PMem.eStore m who x.sa (putHead 2 x.size x.at_ x.gen x.own))
        else
         K ((giveStep { threads := c.threads, slots := c.slots, chunks := c.chunks, words := c.words, gens := c.gens, sparse := c.sparse, tries := c.tries } who give m).fst) ⟨(x.size), (x.own), (x.pc), ⟨(x.take.pc), (x.take.top), (x.take.next), (x.take.slot), (x.take.ok)⟩, (x.at_), (x.gen), none, (x.sa), (x.sc), (some ((giveStep { threads := c.threads, slots := c.slots, chunks := c.chunks, words := c.words, gens := c.gens, sparse := c.sparse, tries := c.tries } who give m).snd.1)), ⟨(x.out.e), (x.out.h), (x.out.v), (x.out.st)⟩⟩ ((giveStep { threads := c.threads, slots := c.slots, chunks := c.chunks, words := c.words, gens := c.gens, sparse := c.sparse, tries := c.tries } who give m).snd.snd)

def allocStep01 (c : PCfg) (who : Int) (x : PAlloc) (give : PGive) (m : PMem) : Bool × PAlloc × PMem := allocStep01K (false, x, m) twV c who x give m fun r x m => (r, x, m)

theorem allocStep01K_eq (c : PCfg) (who : Int) (x : PAlloc) (give : PGive) (m : PMem) (K : Bool → PAlloc → PMem → Prop) : allocStep01K False twP c who x give m K = K (allocStep01 c who x give m).1 (allocStep01 c who x give m).2.1 (allocStep01 c who x give m).2.2 := by
  show _ = app3 K (allocStep01K (false, x, m) twV c who x give m fun r x m => (r, x, m))
  unfold allocStep01K
  repeat' first
    | refine cond3 ?_ ?_
    | refine tw3 (fun p => by simp only [and_self]) ?_
    | exact rfl

def allocStep11K {R : Type} (bot : R) (tw : (Prop → Prop) → R → R) (c : PCfg) (who : Int) (x : PAlloc) (p : PPlace) (give : PGive) (m : PMem) (K : Bool → PAlloc → PMem → R) : R :=
  bif decide (x.pc = 0) then
   bif decide (lClass x.size < 0) then
    K true ⟨(x.size), (x.own), (x.pc), ⟨(x.take.pc), (x.take.top), (x.take.next), (x.take.slot), (x.take.ok)⟩, (x.at_), (x.gen), (some (p)), (x.sa), (x.sc), (some (give)), ⟨5, 0, 0, (m.steps)⟩⟩ (m)
   else
    bif decide (x.take.pc = 0) then
     bif decide ((topOf (PMem.eLoad m who 1).fst).fst < 0) then
      bif !x.take.ok then
       K true ⟨(x.size), (x.own), 1, ⟨1, ((PMem.eLoad m who 1).fst), (x.take.next), ((topOf (PMem.eLoad m who 1).fst).fst), (x.take.ok)⟩, 0, (x.gen), (some (p)), (x.sa), (x.sc), (some (give)), ⟨7, 0, 0, ((PMem.eLoad m who 1).snd.steps)⟩⟩ ((PMem.eLoad m who 1).snd)
      else
       K false ⟨(x.size), (x.own), 1, ⟨1, ((PMem.eLoad m who 1).fst), (x.take.next), ((topOf (PMem.eLoad m who 1).fst).fst), (x.take.ok)⟩, ((topOf (PMem.eLoad m who 1).fst).fst), (x.gen), (some (p)), (x.sa), (x.sc), (some (give)), ⟨(x.out.e), (x.out.h), (x.out.v), (x.out.st)⟩⟩ ((PMem.eLoad m who 1).snd)
     else
      K false ⟨(x.size), (x.own), (x.pc), ⟨1, ((PMem.eLoad m who 1).fst), (x.take.next), ((topOf (PMem.eLoad m who 1).fst).fst), (x.take.ok)⟩, (x.at_), (x.gen), (some (p)), (x.sa), (x.sc), (some (give)), ⟨(x.out.e), (x.out.h), (x.out.v), (x.out.st)⟩⟩ ((PMem.eLoad m who 1).snd)
    else
     bif decide (x.take.pc = 1) then
      bif x.take.ok then
       bif !x.take.ok then
        K true ⟨(x.size), (x.own), 1, ⟨2, (x.take.top), ((topOf (PMem.eLoad m who (wrI (lSlot c.threads c.slots c.chunks c.words c.gens c.sparse c.tries x.take.slot + 1))).fst).fst), (x.take.slot), (x.take.ok)⟩, 0, (x.gen), (some (p)), (x.sa), (x.sc), (some (give)), ⟨7, 0, 0, ((PMem.eLoad m who (wrI (lSlot c.threads c.slots c.chunks c.words c.gens c.sparse c.tries x.take.slot + 1))).snd.steps)⟩⟩ ((PMem.eLoad m who (wrI (lSlot c.threads c.slots c.chunks c.words c.gens c.sparse c.tries x.take.slot + 1))).snd)
       else
        K false ⟨(x.size), (x.own), 1, ⟨2, (x.take.top), ((topOf (PMem.eLoad m who (wrI (lSlot c.threads c.slots c.chunks c.words c.gens c.sparse c.tries x.take.slot + 1))).fst).fst), (x.take.slot), (x.take.ok)⟩, (x.take.slot), (x.gen), (some (p)), (x.sa), (x.sc), (some (give)), ⟨(x.out.e), (x.out.h), (x.out.v), (x.out.st)⟩⟩ ((PMem.eLoad m who (wrI (lSlot c.threads c.slots c.chunks c.words c.gens c.sparse c.tries x.take.slot + 1))).snd)
      else
       K false ⟨(x.size), (x.own), (x.pc), ⟨2, (x.take.top), ((topOf (PMem.eLoad m who (wrI (lSlot c.threads c.slots c.chunks c.words c.gens c.sparse c.tries x.take.slot + 1))).fst).fst), (x.take.slot), (x.take.ok)⟩, (x.at_), (x.gen), (some (p)), (x.sa), (x.sc), (some (give)), ⟨(x.out.e), (x.out.h), (x.out.v), (x.out.st)⟩⟩ ((PMem.eLoad m who (wrI (lSlot c.threads c.slots c.chunks c.words c.gens c.sparse c.tries x.take.slot + 1))).snd)
     else
      bif (PMem.eCas m who 1 x.take.top (putTop x.take.next (wrI ((topOf x.take.top).snd + 1)))).fst then
       bif !(PMem.eCas m who 1 x.take.top (putTop x.take.next (wrI ((topOf x.take.top).snd + 1)))).fst then
        K true ⟨(x.size), (x.own), 1, ⟨0, (x.take.top), (x.take.next), (x.take.slot), ((PMem.eCas m who 1 x.take.top (putTop x.take.next (wrI ((topOf x.take.top).snd + 1)))).fst)⟩, 0, (x.gen), (some (p)), (x.sa), (x.sc), (some (give)), ⟨7, 0, 0, ((PMem.eCas m who 1 x.take.top (putTop x.take.next (wrI ((topOf x.take.top).snd + 1)))).snd.steps)⟩⟩ ((PMem.eCas m who 1 x.take.top (putTop x.take.next (wrI ((topOf x.take.top).snd + 1)))).snd)
       else
        K false ⟨(x.size), (x.own), 1, ⟨0, (x.take.top), (x.take.next), (x.take.slot), ((PMem.eCas m who 1 x.take.top (putTop x.take.next (wrI ((topOf x.take.top).snd + 1)))).fst)⟩, (x.take.slot), (x.gen), (some (p)), (x.sa), (x.sc), (some (give)), ⟨(x.out.e), (x.out.h), (x.out.v), (x.out.st)⟩⟩ ((PMem.eCas m who 1 x.take.top (putTop x.take.next (wrI ((topOf x.take.top).snd + 1)))).snd)
      else
       K false ⟨(x.size), (x.own), (x.pc), ⟨0, (x.take.top), (x.take.next), (x.take.slot), ((PMem.eCas m who 1 x.take.top (putTop x.take.next (wrI ((topOf x.take.top).snd + 1)))).fst)⟩, (x.at_), (x.gen), (some (p)), (x.sa), (x.sc), (some (give)), ⟨(x.out.e), (x.out.h), (x.out.v), (x.out.st)⟩⟩ ((PMem.eCas m who 1 x.take.top (putTop x.take.next (wrI ((topOf x.take.top).snd + 1)))).snd)
  else
   bif decide (x.pc = 1) then
    K false ⟨(x.size), (x.own), 2, ⟨(x.take.pc), (x.take.top), (x.take.next), (x.take.slot), (x.take.ok)⟩, (x.at_), ((slotOf (PMem.eLoad m who (lSlot c.threads c.slots c.chunks c.words c.gens c.sparse c.tries x.at_)).fst).snd.snd.fst), (some ⟨(lClass x.size), 0, 0, 0, 0, 0, 0, false⟩), (x.sa), (x.sc), (some (give)), ⟨(x.out.e), (x.out.h), (x.out.v), (x.out.st)⟩⟩ ((PMem.eLoad m who (lSlot c.threads c.slots c.chunks c.words c.gens c.sparse c.tries x.at_)).snd)
   else
    bif decide (x.pc = 2) then
     bif (placeStep { threads := c.threads, slots := c.slots, chunks := c.chunks, words := c.words, gens := c.gens, sparse := c.sparse, tries := c.tries } who p m).fst then
      bif !(placeStep { threads := c.threads, slots := c.slots, chunks := c.chunks, words := c.words, gens := c.gens, sparse := c.sparse, tries := c.tries } who p m).snd.fst.ok then
       K false ⟨(x.size), (x.own), 7, ⟨(x.take.pc), (x.take.top), (x.take.next), (x.take.slot), (x.take.ok)⟩, (x.at_), (x.gen), (some ((placeStep { threads := c.threads, slots := c.slots, chunks := c.chunks, words := c.words, gens := c.gens, sparse := c.sparse, tries := c.tries } who p m).snd.1)), (bif (placeStep { threads := c.threads, slots := c.slots, chunks := c.chunks, words := c.words, gens := c.gens, sparse := c.sparse, tries := c.tries } who p m).snd.fst.ok then (placeStep { threads := c.threads, slots := c.slots, chunks := c.chunks, words := c.words, gens := c.gens, sparse := c.sparse, tries := c.tries } who p m).snd.fst.sa else 0), (bif (placeStep { threads := c.threads, slots := c.slots, chunks := c.chunks, words := c.words, gens := c.gens, sparse := c.sparse, tries := c.tries } who p m).snd.fst.ok then (placeStep { threads := c.threads, slots := c.slots, chunks := c.chunks, words := c.words, gens := c.gens, sparse := c.sparse, tries := c.tries } who p m).snd.fst.sc else 0), (some ⟨0, (x.at_), 0⟩), ⟨6, 0, 0, ((placeStep { threads := c.threads, slots := c.slots, chunks := c.chunks, words := c.words, gens := c.gens, sparse := c.sparse, tries := c.tries } who p m).snd.snd.steps)⟩⟩ ((placeStep { threads := c.threads, slots := c.slots, chunks := c.chunks, words := c.words, gens := c.gens, sparse := c.sparse, tries := c.tries } who p m).snd.snd)
      else
       K false ⟨(x.size), (x.own), 3, ⟨(x.take.pc), (x.take.top), (x.take.next), (x.take.slot), (x.take.ok)⟩, (x.at_), (x.gen), (some ((placeStep { threads := c.threads, slots := c.slots, chunks := c.chunks, words := c.words, gens := c.gens, sparse := c.sparse, tries := c.tries } who p m).snd.1)), (bif (placeStep { threads := c.threads, slots := c.slots, chunks := c.chunks, words := c.words, gens := c.gens, sparse := c.sparse, tries := c.tries } who p m).snd.fst.ok then (placeStep { threads := c.threads, slots := c.slots, chunks := c.chunks, words := c.words, gens := c.gens, sparse := c.sparse, tries := c.tries } who p m).snd.fst.sa else 0), (bif (placeStep { threads := c.threads, slots := c.slots, chunks := c.chunks, words := c.words, gens := c.gens, sparse := c.sparse, tries := c.tries } who p m).snd.fst.ok then (placeStep { threads := c.threads, slots := c.slots, chunks := c.chunks, words := c.words, gens := c.gens, sparse := c.sparse, tries := c.tries } who p m).snd.fst.sc else 0), (some (give)), ⟨(x.out.e), (x.out.h), (x.out.v), (x.out.st)⟩⟩ ((placeStep { threads := c.threads, slots := c.slots, chunks := c.chunks, words := c.words, gens := c.gens, sparse := c.sparse, tries := c.tries } who p m).snd.snd)
     else
      K false ⟨(x.size), (x.own), (x.pc), ⟨(x.take.pc), (x.take.top), (x.take.next), (x.take.slot), (x.take.ok)⟩, (x.at_), (x.gen), (some ((placeStep { threads := c.threads, slots := c.slots, chunks := c.chunks, words := c.words, gens := c.gens, sparse := c.sparse, tries := c.tries } who p m).snd.1)), (x.sa), (x.sc), (some (give)), ⟨(x.out.e), (x.out.h), (x.out.v), (x.out.st)⟩⟩ ((placeStep { threads := c.threads, slots := c.slots, chunks := c.chunks, words := c.words, gens := c.gens, sparse := c.sparse, tries := c.tries } who p m).snd.snd)
    else
     bif decide (x.pc = 3) then
      K false ⟨(x.size), (x.own), 4, ⟨(x.take.pc), (x.take.top), (x.take.next), (x.take.slot), (x.take.ok)⟩, (x.at_), (x.gen), (some (p)), (x.sa), (x.sc), (some (give)), ⟨(x.out.e), (x.out.h), (x.out.v), (x.out.st)⟩⟩ (PMem.eAdd m who (wrI (lChunk c.threads c.slots c.chunks c.words c.gens c.sparse c.tries x.sc + 1)) (lRoom (lClass x.size)))
     else
      bif decide (x.pc = 4) then
       K false ⟨(x.size), (x.own), 5, ⟨(x.take.pc), (x.take.top), (x.take.next), (x.take.slot), (x.take.ok)⟩, (x.at_), (x.gen), (some (p)), (x.sa), (x.sc), (some (give)), ⟨(x.out.e), (x.out.h), (x.out.v), (x.out.st)⟩⟩ (PMem.eStore m who x.sa (putHead 1 x.size x.at_ x.gen x.own))
      else
       bif decide (x.pc = 5) then
        K false ⟨(x.size), (x.own), 6, ⟨(x.take.pc), (x.take.top), (x.take.next), (x.take.slot), (x.take.ok)⟩, (x.at_), (x.gen), (some (p)), (x.sa), (x.sc), (some (give)), ⟨0, (putHandle x.at_ x.gen), 0, ((PMem.eStore m who (lSlot c.threads c.slots c.chunks c.words c.gens c.sparse c.tries x.at_) (putSlot 1 x.sa x.gen 0)).steps)⟩⟩ (PMem.eStore m who (lSlot c.threads c.slots c.chunks c.words c.gens c.sparse c.tries x.at_) (putSlot 1 x.sa x.gen 0))
       else
        bif decide (x.pc = 6) then
         K true ⟨(x.size), (x.own), (x.pc), ⟨(x.take.pc), (x.take.top), (x.take.next), (x.take.slot), (x.take.ok)⟩, (x.at_), (x.gen), (some (p)), (x.sa), (x.sc), (some (give)), ⟨(x.out.e), (x.out.h), (x.out.v), (x.out.st)⟩⟩ (PMem.eStore m who x.sa (putHead 2 x.size x.at_ x.gen x.own))
        else
         K ((giveStep { threads := c.threads, slots := c.slots, chunks := c.chunks, words := c.words, gens := c.gens, sparse := c.sparse, tries := c.tries } who give m).fst) ⟨(x.size), (x.own), (x.pc), ⟨(x.take.pc), (x.take.top), (x.take.next), (x.take.slot), (x.take.ok)⟩, (x.at_), (x.gen), (some (p)), (x.sa), (x.sc), (some ((giveStep { threads := c.threads, slots := c.slots, chunks := c.chunks, words := c.words, gens := c.gens, sparse := c.sparse, tries := c.tries } who give m).snd.1)), ⟨(x.out.e), (x.out.h), (x.out.v), (x.out.st)⟩⟩ ((giveStep { threads := c.threads, slots := c.slots, chunks := c.chunks, words := c.words, gens := c.gens, sparse := c.sparse, tries := c.tries } who give m).snd.snd)

def allocStep11 (c : PCfg) (who : Int) (x : PAlloc) (p : PPlace) (give : PGive) (m : PMem) : Bool × PAlloc × PMem := allocStep11K (false, x, m) twV c who x p give m fun r x m => (r, x, m)

theorem allocStep11K_eq (c : PCfg) (who : Int) (x : PAlloc) (p : PPlace) (give : PGive) (m : PMem) (K : Bool → PAlloc → PMem → Prop) : allocStep11K False twP c who x p give m K = K (allocStep11 c who x p give m).1 (allocStep11 c who x p give m).2.1 (allocStep11 c who x p give m).2.2 := by
  show _ = app3 K (allocStep11K (false, x, m) twV c who x p give m fun r x m => (r, x, m))
  unfold allocStep11K
  repeat' first
    | refine cond3 ?_ ?_
    | refine tw3 (fun p => by simp only [and_self]) ?_
    | exact rfl

def allocStep (c : PCfg) (who : Int) (x : PAlloc) (m : PMem) : Bool × PAlloc × PMem := match x.p, x.give with
  | none, none => allocStep00 c who x m
  | some p, none => allocStep10 c who x p m
  | none, some give => allocStep01 c who x give m
  | some p, some give => allocStep11 c who x p give m

def dropStep00K {R : Type} (bot : R) (tw : (Prop → Prop) → R → R) (c : PCfg) (who : Int) (x : PDrop) (m : PMem) (K : Bool → PDrop → PMem → R) : R :=
  bif decide (x.pc = 0) then
   bif !(handle x.n).snd.snd then
    K true ⟨(x.n), (x.own), ((handle x.n).fst), ((handle x.n).snd.fst), (x.pc), (x.w), (x.size), none, none, ⟨3, 0, 0, (m.steps)⟩⟩ (m)
   else
    bif decide (c.slots ≤ (handle x.n).fst) then
     K true ⟨(x.n), (x.own), ((handle x.n).fst), ((handle x.n).snd.fst), (x.pc), (x.w), (x.size), none, none, ⟨3, 0, 0, (m.steps)⟩⟩ (m)
    else
     bif !live (slotOf (PMem.eLoad m who (lSlot c.threads c.slots c.chunks c.words c.gens c.sparse c.tries (handle x.n).fst)).fst).fst (slotOf (PMem.eLoad m who (lSlot c.threads c.slots c.chunks c.words c.gens c.sparse c.tries (handle x.n).fst)).fst).snd.fst (slotOf (PMem.eLoad m who (lSlot c.threads c.slots c.chunks c.words c.gens c.sparse c.tries (handle x.n).fst)).fst).snd.snd.fst (slotOf (PMem.eLoad m who (lSlot c.threads c.slots c.chunks c.words c.gens c.sparse c.tries (handle x.n).fst)).fst).snd.snd.snd (handle x.n).fst (handle x.n).snd.fst then
      K true ⟨(x.n), (x.own), ((handle x.n).fst), ((handle x.n).snd.fst), (x.pc), ((PMem.eLoad m who (lSlot c.threads c.slots c.chunks c.words c.gens c.sparse c.tries (handle x.n).fst)).fst), (x.size), none, none, ⟨3, 0, 0, ((PMem.eLoad m who (lSlot c.threads c.slots c.chunks c.words c.gens c.sparse c.tries (handle x.n).fst)).snd.steps)⟩⟩ ((PMem.eLoad m who (lSlot c.threads c.slots c.chunks c.words c.gens c.sparse c.tries (handle x.n).fst)).snd)
     else
      K false ⟨(x.n), (x.own), ((handle x.n).fst), ((handle x.n).snd.fst), 1, ((PMem.eLoad m who (lSlot c.threads c.slots c.chunks c.words c.gens c.sparse c.tries (handle x.n).fst)).fst), (x.size), none, none, ⟨(x.out.e), (x.out.h), (x.out.v), (x.out.st)⟩⟩ ((PMem.eLoad m who (lSlot c.threads c.slots c.chunks c.words c.gens c.sparse c.tries (handle x.n).fst)).snd)
  else
   bif decide (x.pc = 1) then
    tw (fun p => (((p ∧ p) ∧ p) ∧ p)) (
     bif !(headOf (PMem.eLoad m who (slotOf x.w).snd.fst).fst).snd.snd.snd.snd == x.own then
      K true ⟨(x.n), (x.own), (x.hs), (x.hg), (x.pc), (x.w), (x.size), none, none, ⟨3, 0, 0, ((PMem.eLoad m who (slotOf x.w).snd.fst).snd.steps)⟩⟩ ((PMem.eLoad m who (slotOf x.w).snd.fst).snd)
     else
      bif decide ((slotOf x.w).fst = 4) then
       K false ⟨(x.n), (x.own), (x.hs), (x.hg), 4, (x.w), ((headOf (PMem.eLoad m who (slotOf x.w).snd.fst).fst).snd.fst), (some ⟨(x.hs), (x.w), ((headOf (PMem.eLoad m who (slotOf x.w).snd.fst).fst).snd.fst), 0, 0, false, false⟩), none, ⟨(x.out.e), (x.out.h), (x.out.v), (x.out.st)⟩⟩ ((PMem.eLoad m who (slotOf x.w).snd.fst).snd)
      else
       K false ⟨(x.n), (x.own), (x.hs), (x.hg), 2, (x.w), ((headOf (PMem.eLoad m who (slotOf x.w).snd.fst).fst).snd.fst), none, none, ⟨(x.out.e), (x.out.h), (x.out.v), (x.out.st)⟩⟩ ((PMem.eLoad m who (slotOf x.w).snd.fst).snd))
   else
    bif decide (x.pc = 2) then
     bif (PMem.eCas m who (lSlot c.threads c.slots c.chunks c.words c.gens c.sparse c.tries x.hs) x.w (putSlot 4 (slotOf x.w).snd.fst (slotOf x.w).snd.snd.fst (wrI ((slotOf x.w).snd.snd.snd + 1)))).fst then
      K false ⟨(x.n), (x.own), (x.hs), (x.hg), 3, (x.w), (x.size), (some ⟨(x.hs), (putSlot 4 (slotOf x.w).snd.fst (slotOf x.w).snd.snd.fst (wrI ((slotOf x.w).snd.snd.snd + 1))), (x.size), 0, 0, false, false⟩), none, ⟨(x.out.e), (x.out.h), (x.out.v), (x.out.st)⟩⟩ ((PMem.eCas m who (lSlot c.threads c.slots c.chunks c.words c.gens c.sparse c.tries x.hs) x.w (putSlot 4 (slotOf x.w).snd.fst (slotOf x.w).snd.snd.fst (wrI ((slotOf x.w).snd.snd.snd + 1)))).snd)
     else
      K false ⟨(x.n), (x.own), (x.hs), (x.hg), 0, (x.w), (x.size), none, none, ⟨(x.out.e), (x.out.h), (x.out.v), (x.out.st)⟩⟩ ((PMem.eCas m who (lSlot c.threads c.slots c.chunks c.words c.gens c.sparse c.tries x.hs) x.w (putSlot 4 (slotOf x.w).snd.fst (slotOf x.w).snd.snd.fst (wrI ((slotOf x.w).snd.snd.snd + 1)))).snd)
    else
     bif decide (x.pc = 3) then
      K false ⟨(x.n), (x.own), (x.hs), (x.hg), (x.pc), (x.w), (x.size), none, none, ⟨(x.out.e), (x.out.h), (x.out.v), (x.out.st)⟩⟩ (m)
     else
      bif decide (x.pc = 4) then
       K false ⟨(x.n), (x.own), (x.hs), (x.hg), (x.pc), (x.w), (x.size), none, none, ⟨(x.out.e), (x.out.h), (x.out.v), (x.out.st)⟩⟩ (m)
      else
       bif decide (x.pc = 5) then
        bif decide (c.words = 0) then
         bot
        else
         K (decide (c.gens ≤ x.hg)) ⟨(x.n), (x.own), (x.hs), (x.hg), 6, (x.w), (x.size), none, (some ⟨0, (x.hs), 0⟩), ⟨(x.out.e), (x.out.h), (x.out.v), (x.out.st)⟩⟩ (PMem.eAdd m who (wrI (lChunk c.threads c.slots c.chunks c.words c.gens c.sparse c.tries (lOf c.threads c.slots c.chunks c.words c.gens c.sparse c.tries (slotOf x.w).snd.fst) + 1)) (wrI (0 - lRoom (lClass x.size))))
       else
        K false ⟨(x.n), (x.own), (x.hs), (x.hg), (x.pc), (x.w), (x.size), none, none, ⟨(x.out.e), (x.out.h), (x.out.v), (x.out.st)⟩⟩ (m)

def dropStep00 (c : PCfg) (who : Int) (x : PDrop) (m : PMem) : Bool × PDrop × PMem := dropStep00K (false, x, m) twV c who x m fun r x m => (r, x, m)

theorem dropStep00K_eq (c : PCfg) (who : Int) (x : PDrop) (m : PMem) (hc : c.words ≠ 0) (K : Bool → PDrop → PMem → Prop) : dropStep00K False twP c who x m K = K (dropStep00 c who x m).1 (dropStep00 c who x m).2.1 (dropStep00 c who x m).2.2 := by
  show _ = app3 K (dropStep00K (false, x, m) twV c who x m fun r x m => (r, x, m))
  unfold dropStep00K
  repeat' first
    | refine condH (decide_eq_false hc) ?_
    | refine cond3 ?_ ?_
    | refine tw3 (fun p => by simp only [and_self]) ?_
    | exact rfl

def dropStep10K {R : Type} (bot : R) (tw : (Prop → Prop) → R → R) (c : PCfg) (who : Int) (x : PDrop) (help : PHelp) (m : PMem) (K : Bool → PDrop → PMem → R) : R :=
  bif decide (x.pc = 0) then
   bif !(handle x.n).snd.snd then
    K true ⟨(x.n), (x.own), ((handle x.n).fst), ((handle x.n).snd.fst), (x.pc), (x.w), (x.size), (some (help)), none, ⟨3, 0, 0, (m.steps)⟩⟩ (m)
   else
    bif decide (c.slots ≤ (handle x.n).fst) then
     K true ⟨(x.n), (x.own), ((handle x.n).fst), ((handle x.n).snd.fst), (x.pc), (x.w), (x.size), (some (help)), none, ⟨3, 0, 0, (m.steps)⟩⟩ (m)
    else
     bif !live (slotOf (PMem.eLoad m who (lSlot c.threads c.slots c.chunks c.words c.gens c.sparse c.tries (handle x.n).fst)).fst).fst (slotOf (PMem.eLoad m who (lSlot c.threads c.slots c.chunks c.words c.gens c.sparse c.tries (handle x.n).fst)).fst).snd.fst (slotOf (PMem.eLoad m who (lSlot c.threads c.slots c.chunks c.words c.gens c.sparse c.tries (handle x.n).fst)).fst).snd.snd.fst (slotOf (PMem.eLoad m who (lSlot c.threads c.slots c.chunks c.words c.gens c.sparse c.tries (handle x.n).fst)).fst).snd.snd.snd (handle x.n).fst (handle x.n).snd.fst then
      K true ⟨(x.n), (x.own), ((handle x.n).fst), ((handle x.n).snd.fst), (x.pc), ((PMem.eLoad m who (lSlot c.threads c.slots c.chunks c.words c.gens c.sparse c.tries (handle x.n).fst)).fst), (x.size), (some (help)), none, ⟨3, 0, 0, ((PMem.eLoad m who (lSlot c.threads c.slots c.chunks c.words c.gens c.sparse c.tries (handle x.n).fst)).snd.steps)⟩⟩ ((PMem.eLoad m who (lSlot c.threads c.slots c.chunks c.words c.gens c.sparse c.tries (handle x.n).fst)).snd)
     else
      K false ⟨(x.n), (x.own), ((handle x.n).fst), ((handle x.n).snd.fst), 1, ((PMem.eLoad m who (lSlot c.threads c.slots c.chunks c.words c.gens c.sparse c.tries (handle x.n).fst)).fst), (x.size), (some (help)), none, ⟨(x.out.e), (x.out.h), (x.out.v), (x.out.st)⟩⟩ ((PMem.eLoad m who (lSlot c.threads c.slots c.chunks c.words c.gens c.sparse c.tries (handle x.n).fst)).snd)
  else
   bif decide (x.pc = 1) then
    tw (fun p => (((p ∧ p) ∧ p) ∧ p)) (
     bif !(headOf (PMem.eLoad m who (slotOf x.w).snd.fst).fst).snd.snd.snd.snd == x.own then
      K true ⟨(x.n), (x.own), (x.hs), (x.hg), (x.pc), (x.w), (x.size), (some (help)), none, ⟨3, 0, 0, ((PMem.eLoad m who (slotOf x.w).snd.fst).snd.steps)⟩⟩ ((PMem.eLoad m who (slotOf x.w).snd.fst).snd)
     else
      bif decide ((slotOf x.w).fst = 4) then
       K false ⟨(x.n), (x.own), (x.hs), (x.hg), 4, (x.w), ((headOf (PMem.eLoad m who (slotOf x.w).snd.fst).fst).snd.fst), (some ⟨(x.hs), (x.w), ((headOf (PMem.eLoad m who (slotOf x.w).snd.fst).fst).snd.fst), 0, 0, false, false⟩), none, ⟨(x.out.e), (x.out.h), (x.out.v), (x.out.st)⟩⟩ ((PMem.eLoad m who (slotOf x.w).snd.fst).snd)
      else
       K false ⟨(x.n), (x.own), (x.hs), (x.hg), 2, (x.w), ((headOf (PMem.eLoad m who (slotOf x.w).snd.fst).fst).snd.fst), (some (help)), none, ⟨(x.out.e), (x.out.h), (x.out.v), (x.out.st)⟩⟩ ((PMem.eLoad m who (slotOf x.w).snd.fst).snd))
   else
    bif decide (x.pc = 2) then
     bif (PMem.eCas m who (lSlot c.threads c.slots c.chunks c.words c.gens c.sparse c.tries x.hs) x.w (putSlot 4 (slotOf x.w).snd.fst (slotOf x.w).snd.snd.fst (wrI ((slotOf x.w).snd.snd.snd + 1)))).fst then
      K false ⟨(x.n), (x.own), (x.hs), (x.hg), 3, (x.w), (x.size), (some ⟨(x.hs), (putSlot 4 (slotOf x.w).snd.fst (slotOf x.w).snd.snd.fst (wrI ((slotOf x.w).snd.snd.snd + 1))), (x.size), 0, 0, false, false⟩), none, ⟨(x.out.e), (x.out.h), (x.out.v), (x.out.st)⟩⟩ ((PMem.eCas m who (lSlot c.threads c.slots c.chunks c.words c.gens c.sparse c.tries x.hs) x.w (putSlot 4 (slotOf x.w).snd.fst (slotOf x.w).snd.snd.fst (wrI ((slotOf x.w).snd.snd.snd + 1)))).snd)
     else
      K false ⟨(x.n), (x.own), (x.hs), (x.hg), 0, (x.w), (x.size), (some (help)), none, ⟨(x.out.e), (x.out.h), (x.out.v), (x.out.st)⟩⟩ ((PMem.eCas m who (lSlot c.threads c.slots c.chunks c.words c.gens c.sparse c.tries x.hs) x.w (putSlot 4 (slotOf x.w).snd.fst (slotOf x.w).snd.snd.fst (wrI ((slotOf x.w).snd.snd.snd + 1)))).snd)
    else
     bif decide (x.pc = 3) then
      bif (helpStep { threads := c.threads, slots := c.slots, chunks := c.chunks, words := c.words, gens := c.gens, sparse := c.sparse, tries := c.tries } who help m).fst then
       K false ⟨(x.n), (x.own), (x.hs), (x.hg), 5, (x.w), (x.size), (some ((helpStep { threads := c.threads, slots := c.slots, chunks := c.chunks, words := c.words, gens := c.gens, sparse := c.sparse, tries := c.tries } who help m).snd.1)), none, ⟨0, 0, 0, (PMem.when_ (helpStep { threads := c.threads, slots := c.slots, chunks := c.chunks, words := c.words, gens := c.gens, sparse := c.sparse, tries := c.tries } who help m).snd.snd (lSlot c.threads c.slots c.chunks c.words c.gens c.sparse c.tries x.hs))⟩⟩ ((helpStep { threads := c.threads, slots := c.slots, chunks := c.chunks, words := c.words, gens := c.gens, sparse := c.sparse, tries := c.tries } who help m).snd.snd)
      else
       K false ⟨(x.n), (x.own), (x.hs), (x.hg), (x.pc), (x.w), (x.size), (some ((helpStep { threads := c.threads, slots := c.slots, chunks := c.chunks, words := c.words, gens := c.gens, sparse := c.sparse, tries := c.tries } who help m).snd.1)), none, ⟨(x.out.e), (x.out.h), (x.out.v), (x.out.st)⟩⟩ ((helpStep { threads := c.threads, slots := c.slots, chunks := c.chunks, words := c.words, gens := c.gens, sparse := c.sparse, tries := c.tries } who help m).snd.snd)
     else
      bif decide (x.pc = 4) then
       bif (helpStep { threads := c.threads, slots := c.slots, chunks := c.chunks, words := c.words, gens := c.gens, sparse := c.sparse, tries := c.tries } who help m).fst then
        K false ⟨(x.n), (x.own), (x.hs), (x.hg), 0, (x.w), (x.size), (some ((helpStep { threads := c.threads, slots := c.slots, chunks := c.chunks, words := c.words, gens := c.gens, sparse := c.sparse, tries := c.tries } who help m).snd.1)), none, ⟨(x.out.e), (x.out.h), (x.out.v), (x.out.st)⟩⟩ ((helpStep { threads := c.threads, slots := c.slots, chunks := c.chunks, words := c.words, gens := c.gens, sparse := c.sparse, tries := c.tries } who help m).snd.snd)
       else
        K false ⟨(x.n), (x.own), (x.hs), (x.hg), (x.pc), (x.w), (x.size), (some ((helpStep { threads := c.threads, slots := c.slots, chunks := c.chunks, words := c.words, gens := c.gens, sparse := c.sparse, tries := c.tries } who help m).snd.1)), none, ⟨(x.out.e), (x.out.h), (x.out.v), (x.out.st)⟩⟩ ((helpStep { threads := c.threads, slots := c.slots, chunks := c.chunks, words := c.words, gens := c.gens, sparse := c.sparse, tries := c.tries } who help m).snd.snd)
      else
       bif decide (x.pc = 5) then
        bif decide (c.words = 0) then
         bot
        else
         K (decide (c.gens ≤ x.hg)) ⟨(x.n), (x.own), (x.hs), (x.hg), 6, (x.w), (x.size), (some (help)), (some ⟨0, (x.hs), 0⟩), ⟨(x.out.e), (x.out.h), (x.out.v), (x.out.st)⟩⟩ (PMem.eAdd m who (wrI (lChunk c.threads c.slots c.chunks c.words c.gens c.sparse c.tries (lOf c.threads c.slots c.chunks c.words c.gens c.sparse c.tries (slotOf x.w).snd.fst) + 1)) (wrI (0 - lRoom (lClass x.size))))
       else
        K false ⟨(x.n), (x.own), (x.hs), (x.hg), (x.pc), (x.w), (x.size), (some (help)), none, ⟨(x.out.e), (x.out.h), (x.out.v), (x.out.st)⟩⟩ (m)

def dropStep10 (c : PCfg) (who : Int) (x : PDrop) (help : PHelp) (m : PMem) : Bool × PDrop × PMem := dropStep10K (false, x, m) twV c who x help m fun r x m => (r, x, m)

theorem dropStep10K_eq (c : PCfg) (who : Int) (x : PDrop) (help : PHelp) (m : PMem) (hc : c.words ≠ 0) (K : Bool → PDrop → PMem → Prop) : dropStep10K False twP c who x help m K = K (dropStep10 c who x help m).1 (dropStep10 c who x help m).2.1 (dropStep10 c who x help m).2.2 := by
  show _ = app3 K (dropStep10K (false, x, m) twV c who x help m fun r x m => (r, x, m))
  unfold dropStep10K
  repeat' first
    | refine condH (decide_eq_false hc) ?_
    | refine cond3 ?_ ?_
    | refine tw3 (fun p => by simp only [and_self]) ?_
    | exact rfl

def dropStep01K {R : Type} (bot : R) (tw : (Prop → Prop) → R → R) (c : PCfg) (who : Int) (x : PDrop) (give : PGive) (m : PMem) (K : Bool → PDrop → PMem → R) : R :=
  bif decide (x.pc = 0) then
   bif !(handle x.n).snd.snd then
    K true ⟨(x.n), (x.own), ((handle x.n).fst), ((handle x.n).snd.fst), (x.pc), (x.w), (x.size), none, (some (give)), ⟨3, 0, 0, (m.steps)⟩⟩ (m)
   else
    bif decide (c.slots ≤ (handle x.n).fst) then
     K true ⟨(x.n), (x.own), ((handle x.n).fst), ((handle x.n).snd.fst), (x.pc), (x.w), (x.size), none, (some (give)), ⟨3, 0, 0, (m.steps)⟩⟩ (m)
    else
     bif !live (slotOf (PMem.eLoad m who (lSlot c.threads c.slots c.chunks c.words c.gens c.sparse c.tries (handle x.n).fst)).fst).fst (slotOf (PMem.eLoad m who (lSlot c.threads c.slots c.chunks c.words c.gens c.sparse c.tries (handle x.n).fst)).fst).snd.fst (slotOf (PMem.eLoad m who (lSlot c.threads c.slots c.chunks c.words c.gens c.sparse c.tries (handle x.n).fst)).fst).snd.snd.fst (slotOf (PMem.eLoad m who (lSlot c.threads c.slots c.chunks c.words c.gens c.sparse c.tries (handle x.n).fst)).fst).snd.snd.snd (handle x.n).fst (handle x.n).snd.fst then
      K true ⟨(x.n), (x.own), ((handle x.n).fst), ((handle x.n).snd.fst), (x.pc), ((PMem.eLoad m who (lSlot c.threads c.slots c.chunks c.words c.gens c.sparse c.tries (handle x.n).fst)).fst), (x.size), none, (some (give)), ⟨3, 0, 0, ((PMem.eLoad m who (lSlot c.threads c.slots c.chunks c.words c.gens c.sparse c.tries (handle x.n).fst)).snd.steps)⟩⟩ ((PMem.eLoad m who (lSlot c.threads c.slots c.chunks c.words c.gens c.sparse c.tries (handle x.n).fst)).snd)
     else
      K false ⟨(x.n), (x.own), ((handle x.n).fst), ((handle x.n).snd.fst), 1, ((PMem.eLoad m who (lSlot c.threads c.slots c.chunks c.words c.gens c.sparse c.tries (handle x.n).fst)).fst), (x.size), none, (some (give)), ⟨(x.out.e), (x.out.h), (x.out.v), (x.out.st)⟩⟩ ((PMem.eLoad m who (lSlot c.threads c.slots c.chunks c.words c.gens c.sparse c.tries (handle x.n).fst)).snd)
  else
   bif decide (x.pc = 1) then
    tw (fun p => (((p ∧ p) ∧ p) ∧ p)) (
     bif !(headOf (PMem.eLoad m who (slotOf x.w).snd.fst).fst).snd.snd.snd.snd == x.own then
      K true ⟨(x.n), (x.own), (x.hs), (x.hg), (x.pc), (x.w), (x.size), none, (some (give)), ⟨3, 0, 0, ((PMem.eLoad m who (slotOf x.w).snd.fst).snd.steps)⟩⟩ ((PMem.eLoad m who (slotOf x.w).snd.fst).snd)
     else
      bif decide ((slotOf x.w).fst = 4) then
       K false ⟨(x.n), (x.own), (x.hs), (x.hg), 4, (x.w), ((headOf (PMem.eLoad m who (slotOf x.w).snd.fst).fst).snd.fst), (some ⟨(x.hs), (x.w), ((headOf (PMem.eLoad m who (slotOf x.w).snd.fst).fst).snd.fst), 0, 0, false, false⟩), (some (give)), ⟨(x.out.e), (x.out.h), (x.out.v), (x.out.st)⟩⟩ ((PMem.eLoad m who (slotOf x.w).snd.fst).snd)
      else
       K false ⟨(x.n), (x.own), (x.hs), (x.hg), 2, (x.w), ((headOf (PMem.eLoad m who (slotOf x.w).snd.fst).fst).snd.fst), none, (some (give)), ⟨(x.out.e), (x.out.h), (x.out.v), (x.out.st)⟩⟩ ((PMem.eLoad m who (slotOf x.w).snd.fst).snd))
   else
    bif decide (x.pc = 2) then
     bif (PMem.eCas m who (lSlot c.threads c.slots c.chunks c.words c.gens c.sparse c.tries x.hs) x.w (putSlot 4 (slotOf x.w).snd.fst (slotOf x.w).snd.snd.fst (wrI ((slotOf x.w).snd.snd.snd + 1)))).fst then
      K false ⟨(x.n), (x.own), (x.hs), (x.hg), 3, (x.w), (x.size), (some ⟨(x.hs), (putSlot 4 (slotOf x.w).snd.fst (slotOf x.w).snd.snd.fst (wrI ((slotOf x.w).snd.snd.snd + 1))), (x.size), 0, 0, false, false⟩), (some (give)), ⟨(x.out.e), (x.out.h), (x.out.v), (x.out.st)⟩⟩ ((PMem.eCas m who (lSlot c.threads c.slots c.chunks c.words c.gens c.sparse c.tries x.hs) x.w (putSlot 4 (slotOf x.w).snd.fst (slotOf x.w).snd.snd.fst (wrI ((slotOf x.w).snd.snd.snd + 1)))).snd)
     else
      K false ⟨(x.n), (x.own), (x.hs), (x.hg), 0, (x.w), (x.size), none, (some (give)), ⟨(x.out.e), (x.out.h), (x.out.v), (x.out.st)⟩⟩ ((PMem.eCas m who (lSlot c.threads c.slots c.chunks c.words c.gens c.sparse c.tries x.hs) x.w (putSlot 4 (slotOf x.w).snd.fst (slotOf x.w).snd.snd.fst (wrI ((slotOf x.w).snd.snd.snd + 1)))).snd)
    else
     bif decide (x.pc = 3) then
      K false ⟨(x.n), (x.own), (x.hs), (x.hg), (x.pc), (x.w), (x.size), none, (some (give)), ⟨(x.out.e), (x.out.h), (x.out.v), (x.out.st)⟩⟩ (m)
     else
      bif decide (x.pc = 4) then
       K false ⟨(x.n), (x.own), (x.hs), (x.hg), (x.pc), (x.w), (x.size), none, (some (give)), ⟨(x.out.e), (x.out.h), (x.out.v), (x.out.st)⟩⟩ (m)
      else
       bif decide (x.pc = 5) then
        bif decide (c.words = 0) then
         bot
        else
         K (decide (c.gens ≤ x.hg)) ⟨(x.n), (x.own), (x.hs), (x.hg), 6, (x.w), (x.size), none, (some ⟨0, (x.hs), 0⟩), ⟨(x.out.e), (x.out.h), (x.out.v), (x.out.st)⟩⟩ (PMem.eAdd m who (wrI (lChunk c.threads c.slots c.chunks c.words c.gens c.sparse c.tries (lOf c.threads c.slots c.chunks c.words c.gens c.sparse c.tries (slotOf x.w).snd.fst) + 1)) (wrI (0 - lRoom (lClass x.size))))
       else
        K ((giveStep { threads := c.threads, slots := c.slots, chunks := c.chunks, words := c.words, gens := c.gens, sparse := c.sparse, tries := c.tries } who give m).fst) ⟨(x.n), (x.own), (x.hs), (x.hg), (x.pc), (x.w), (x.size), none, (some ((giveStep { threads := c.threads, slots := c.slots, chunks := c.chunks, words := c.words, gens := c.gens, sparse := c.sparse, tries := c.tries } who give m).snd.1)), ⟨(x.out.e), (x.out.h), (x.out.v), (x.out.st)⟩⟩ ((giveStep { threads := c.threads, slots := c.slots, chunks := c.chunks, words := c.words, gens := c.gens, sparse := c.sparse, tries := c.tries } who give m).snd.snd)

def dropStep01 (c : PCfg) (who : Int) (x : PDrop) (give : PGive) (m : PMem) : Bool × PDrop × PMem := dropStep01K (false, x, m) twV c who x give m fun r x m => (r, x, m)

theorem dropStep01K_eq (c : PCfg) (who : Int) (x : PDrop) (give : PGive) (m : PMem) (hc : c.words ≠ 0) (K : Bool → PDrop → PMem → Prop) : dropStep01K False twP c who x give m K = K (dropStep01 c who x give m).1 (dropStep01 c who x give m).2.1 (dropStep01 c who x give m).2.2 := by
  show _ = app3 K (dropStep01K (false, x, m) twV c who x give m fun r x m => (r, x, m))
  unfold dropStep01K
  repeat' first
    | refine condH (decide_eq_false hc) ?_
    | refine cond3 ?_ ?_
    | refine tw3 (fun p => by simp only [and_self]) ?_
    | exact rfl

def dropStep11K {R : Type} (bot : R) (tw : (Prop → Prop) → R → R) (c : PCfg) (who : Int) (x : PDrop) (help : PHelp) (give : PGive) (m : PMem) (K : Bool → PDrop → PMem → R) : R :=
  bif decide (x.pc = 0) then
   bif !(handle x.n).snd.snd then
    K true ⟨(x.n), (x.own), ((handle x.n).fst), ((handle x.n).snd.fst), (x.pc), (x.w), (x.size), (some (help)), (some (give)), ⟨3, 0, 0, (m.steps)⟩⟩ (m)
   else
    bif decide (c.slots ≤ (handle x.n).fst) then
     K true ⟨(x.n), (x.own), ((handle x.n).fst), ((handle x.n).snd.fst), (x.pc), (x.w), (x.size), (some (help)), (some (give)), ⟨3, 0, 0, (m.steps)⟩⟩ (m)
    else
     bif !live (slotOf (PMem.eLoad m who (lSlot c.threads c.slots c.chunks c.words c.gens c.sparse c.tries (handle x.n).fst)).fst).fst (slotOf (PMem.eLoad m who (lSlot c.threads c.slots c.chunks c.words c.gens c.sparse c.tries (handle x.n).fst)).fst).snd.fst (slotOf (PMem.eLoad m who (lSlot c.threads c.slots c.chunks c.words c.gens c.sparse c.tries (handle x.n).fst)).fst).snd.snd.fst (slotOf (PMem.eLoad m who (lSlot c.threads c.slots c.chunks c.words c.gens c.sparse c.tries (handle x.n).fst)).fst).snd.snd.snd (handle x.n).fst (handle x.n).snd.fst then
      K true ⟨(x.n), (x.own), ((handle x.n).fst), ((handle x.n).snd.fst), (x.pc), ((PMem.eLoad m who (lSlot c.threads c.slots c.chunks c.words c.gens c.sparse c.tries (handle x.n).fst)).fst), (x.size), (some (help)), (some (give)), ⟨3, 0, 0, ((PMem.eLoad m who (lSlot c.threads c.slots c.chunks c.words c.gens c.sparse c.tries (handle x.n).fst)).snd.steps)⟩⟩ ((PMem.eLoad m who (lSlot c.threads c.slots c.chunks c.words c.gens c.sparse c.tries (handle x.n).fst)).snd)
     else
      K false ⟨(x.n), (x.own), ((handle x.n).fst), ((handle x.n).snd.fst), 1, ((PMem.eLoad m who (lSlot c.threads c.slots c.chunks c.words c.gens c.sparse c.tries (handle x.n).fst)).fst), (x.size), (some (help)), (some (give)), ⟨(x.out.e), (x.out.h), (x.out.v), (x.out.st)⟩⟩ ((PMem.eLoad m who (lSlot c.threads c.slots c.chunks c.words c.gens c.sparse c.tries (handle x.n).fst)).snd)
  else
   bif decide (x.pc = 1) then
    tw (fun p => (((p ∧ p) ∧ p) ∧ p)) (
     bif !(headOf (PMem.eLoad m who (slotOf x.w).snd.fst).fst).snd.snd.snd.snd == x.own then
      K true ⟨(x.n), (x.own), (x.hs), (x.hg), (x.pc), (x.w), (x.size), (some (help)), (some (give)), ⟨3, 0, 0, ((PMem.eLoad m who (slotOf x.w).snd.fst).snd.steps)⟩⟩ ((PMem.eLoad m who (slotOf x.w).snd.fst).snd)
     else
      bif decide ((slotOf x.w).fst = 4) then
       K false ⟨(x.n), (x.own), (x.hs), (x.hg), 4, (x.w), ((headOf (PMem.eLoad m who (slotOf x.w).snd.fst).fst).snd.fst), (some ⟨(x.hs), (x.w), ((headOf (PMem.eLoad m who (slotOf x.w).snd.fst).fst).snd.fst), 0, 0, false, false⟩), (some (give)), ⟨(x.out.e), (x.out.h), (x.out.v), (x.out.st)⟩⟩ ((PMem.eLoad m who (slotOf x.w).snd.fst).snd)
      else
       K false ⟨(x.n), (x.own), (x.hs), (x.hg), 2, (x.w), ((headOf (PMem.eLoad m who (slotOf x.w).snd.fst).fst).snd.fst), (some (help)), (some (give)), ⟨(x.out.e), (x.out.h), (x.out.v), (x.out.st)⟩⟩ ((PMem.eLoad m who (slotOf x.w).snd.fst).snd))
   else
    bif decide (x.pc = 2) then
     bif (PMem.eCas m who (lSlot c.threads c.slots c.chunks c.words c.gens c.sparse c.tries x.hs) x.w (putSlot 4 (slotOf x.w).snd.fst (slotOf x.w).snd.snd.fst (wrI ((slotOf x.w).snd.snd.snd + 1)))).fst then
      K false ⟨(x.n), (x.own), (x.hs), (x.hg), 3, (x.w), (x.size), (some ⟨(x.hs), (putSlot 4 (slotOf x.w).snd.fst (slotOf x.w).snd.snd.fst (wrI ((slotOf x.w).snd.snd.snd + 1))), (x.size), 0, 0, false, false⟩), (some (give)), ⟨(x.out.e), (x.out.h), (x.out.v), (x.out.st)⟩⟩ ((PMem.eCas m who (lSlot c.threads c.slots c.chunks c.words c.gens c.sparse c.tries x.hs) x.w (putSlot 4 (slotOf x.w).snd.fst (slotOf x.w).snd.snd.fst (wrI ((slotOf x.w).snd.snd.snd + 1)))).snd)
     else
      K false ⟨(x.n), (x.own), (x.hs), (x.hg), 0, (x.w), (x.size), (some (help)), (some (give)), ⟨(x.out.e), (x.out.h), (x.out.v), (x.out.st)⟩⟩ ((PMem.eCas m who (lSlot c.threads c.slots c.chunks c.words c.gens c.sparse c.tries x.hs) x.w (putSlot 4 (slotOf x.w).snd.fst (slotOf x.w).snd.snd.fst (wrI ((slotOf x.w).snd.snd.snd + 1)))).snd)
    else
     bif decide (x.pc = 3) then
      bif (helpStep { threads := c.threads, slots := c.slots, chunks := c.chunks, words := c.words, gens := c.gens, sparse := c.sparse, tries := c.tries } who help m).fst then
       K false ⟨(x.n), (x.own), (x.hs), (x.hg), 5, (x.w), (x.size), (some ((helpStep { threads := c.threads, slots := c.slots, chunks := c.chunks, words := c.words, gens := c.gens, sparse := c.sparse, tries := c.tries } who help m).snd.1)), (some (give)), ⟨0, 0, 0, (PMem.when_ (helpStep { threads := c.threads, slots := c.slots, chunks := c.chunks, words := c.words, gens := c.gens, sparse := c.sparse, tries := c.tries } who help m).snd.snd (lSlot c.threads c.slots c.chunks c.words c.gens c.sparse c.tries x.hs))⟩⟩ ((helpStep { threads := c.threads, slots := c.slots, chunks := c.chunks, words := c.words, gens := c.gens, sparse := c.sparse, tries := c.tries } who help m).snd.snd)
      else
       K false ⟨(x.n), (x.own), (x.hs), (x.hg), (x.pc), (x.w), (x.size), (some ((helpStep { threads := c.threads, slots := c.slots, chunks := c.chunks, words := c.words, gens := c.gens, sparse := c.sparse, tries := c.tries } who help m).snd.1)), (some (give)), ⟨(x.out.e), (x.out.h), (x.out.v), (x.out.st)⟩⟩ ((helpStep { threads := c.threads, slots := c.slots, chunks := c.chunks, words := c.words, gens := c.gens, sparse := c.sparse, tries := c.tries } who help m).snd.snd)
     else
      bif decide (x.pc = 4) then
       bif (helpStep { threads := c.threads, slots := c.slots, chunks := c.chunks, words := c.words, gens := c.gens, sparse := c.sparse, tries := c.tries } who help m).fst then
        K false ⟨(x.n), (x.own), (x.hs), (x.hg), 0, (x.w), (x.size), (some ((helpStep { threads := c.threads, slots := c.slots, chunks := c.chunks, words := c.words, gens := c.gens, sparse := c.sparse, tries := c.tries } who help m).snd.1)), (some (give)), ⟨(x.out.e), (x.out.h), (x.out.v), (x.out.st)⟩⟩ ((helpStep { threads := c.threads, slots := c.slots, chunks := c.chunks, words := c.words, gens := c.gens, sparse := c.sparse, tries := c.tries } who help m).snd.snd)
       else
        K false ⟨(x.n), (x.own), (x.hs), (x.hg), (x.pc), (x.w), (x.size), (some ((helpStep { threads := c.threads, slots := c.slots, chunks := c.chunks, words := c.words, gens := c.gens, sparse := c.sparse, tries := c.tries } who help m).snd.1)), (some (give)), ⟨(x.out.e), (x.out.h), (x.out.v), (x.out.st)⟩⟩ ((helpStep { threads := c.threads, slots := c.slots, chunks := c.chunks, words := c.words, gens := c.gens, sparse := c.sparse, tries := c.tries } who help m).snd.snd)
      else
       bif decide (x.pc = 5) then
        bif decide (c.words = 0) then
         bot
        else
         K (decide (c.gens ≤ x.hg)) ⟨(x.n), (x.own), (x.hs), (x.hg), 6, (x.w), (x.size), (some (help)), (some ⟨0, (x.hs), 0⟩), ⟨(x.out.e), (x.out.h), (x.out.v), (x.out.st)⟩⟩ (PMem.eAdd m who (wrI (lChunk c.threads c.slots c.chunks c.words c.gens c.sparse c.tries (lOf c.threads c.slots c.chunks c.words c.gens c.sparse c.tries (slotOf x.w).snd.fst) + 1)) (wrI (0 - lRoom (lClass x.size))))
       else
        K ((giveStep { threads := c.threads, slots := c.slots, chunks := c.chunks, words := c.words, gens := c.gens, sparse := c.sparse, tries := c.tries } who give m).fst) ⟨(x.n), (x.own), (x.hs), (x.hg), (x.pc), (x.w), (x.size), (some (help)), (some ((giveStep { threads := c.threads, slots := c.slots, chunks := c.chunks, words := c.words, gens := c.gens, sparse := c.sparse, tries := c.tries } who give m).snd.1)), ⟨(x.out.e), (x.out.h), (x.out.v), (x.out.st)⟩⟩ ((giveStep { threads := c.threads, slots := c.slots, chunks := c.chunks, words := c.words, gens := c.gens, sparse := c.sparse, tries := c.tries } who give m).snd.snd)

def dropStep11 (c : PCfg) (who : Int) (x : PDrop) (help : PHelp) (give : PGive) (m : PMem) : Bool × PDrop × PMem := dropStep11K (false, x, m) twV c who x help give m fun r x m => (r, x, m)

theorem dropStep11K_eq (c : PCfg) (who : Int) (x : PDrop) (help : PHelp) (give : PGive) (m : PMem) (hc : c.words ≠ 0) (K : Bool → PDrop → PMem → Prop) : dropStep11K False twP c who x help give m K = K (dropStep11 c who x help give m).1 (dropStep11 c who x help give m).2.1 (dropStep11 c who x help give m).2.2 := by
  show _ = app3 K (dropStep11K (false, x, m) twV c who x help give m fun r x m => (r, x, m))
  unfold dropStep11K
  repeat' first
    | refine condH (decide_eq_false hc) ?_
    | refine cond3 ?_ ?_
    | refine tw3 (fun p => by simp only [and_self]) ?_
    | exact rfl

def dropStep (c : PCfg) (who : Int) (x : PDrop) (m : PMem) : Bool × PDrop × PMem := match x.help, x.give with
  | none, none => dropStep00 c who x m
  | some help, none => dropStep10 c who x help m
  | none, some give => dropStep01 c who x give m
  | some help, some give => dropStep11 c who x help give m

def accessStep0K {R : Type} (bot : R) (tw : (Prop → Prop) → R → R) (c : PCfg) (who : Int) (x : PAccess) (m : PMem) (K : Bool → PAccess → PMem → R) : R :=
  bif decide (x.pc = 0) then
   bif !(handle x.x.handle).snd.snd then
    K true ⟨⟨(x.x.kind), (x.x.handle), (x.x.index), (x.x.value), (x.x.old)⟩, (x.own), ((handle x.x.handle).fst), ((handle x.x.handle).snd.fst), (x.pc), (x.w), (x.cell), (x.seen), (x.read), (x.size), none, ⟨3, 0, 0, (m.steps)⟩⟩ (m)
   else
    bif decide (c.slots ≤ (handle x.x.handle).fst) then
     K true ⟨⟨(x.x.kind), (x.x.handle), (x.x.index), (x.x.value), (x.x.old)⟩, (x.own), ((handle x.x.handle).fst), ((handle x.x.handle).snd.fst), (x.pc), (x.w), (x.cell), (x.seen), (x.read), (x.size), none, ⟨3, 0, 0, (m.steps)⟩⟩ (m)
    else
     bif !live (slotOf (PMem.eLoad m who (lSlot c.threads c.slots c.chunks c.words c.gens c.sparse c.tries (handle x.x.handle).fst)).fst).fst (slotOf (PMem.eLoad m who (lSlot c.threads c.slots c.chunks c.words c.gens c.sparse c.tries (handle x.x.handle).fst)).fst).snd.fst (slotOf (PMem.eLoad m who (lSlot c.threads c.slots c.chunks c.words c.gens c.sparse c.tries (handle x.x.handle).fst)).fst).snd.snd.fst (slotOf (PMem.eLoad m who (lSlot c.threads c.slots c.chunks c.words c.gens c.sparse c.tries (handle x.x.handle).fst)).fst).snd.snd.snd (handle x.x.handle).fst (handle x.x.handle).snd.fst then
      K true ⟨⟨(x.x.kind), (x.x.handle), (x.x.index), (x.x.value), (x.x.old)⟩, (x.own), ((handle x.x.handle).fst), ((handle x.x.handle).snd.fst), 1, ((PMem.eLoad m who (lSlot c.threads c.slots c.chunks c.words c.gens c.sparse c.tries (handle x.x.handle).fst)).fst), (x.cell), ((PMem.eLoad m who (lSlot c.threads c.slots c.chunks c.words c.gens c.sparse c.tries (handle x.x.handle).fst)).snd.steps), (x.read), (x.size), none, ⟨3, 0, 0, ((PMem.eLoad m who (lSlot c.threads c.slots c.chunks c.words c.gens c.sparse c.tries (handle x.x.handle).fst)).snd.steps)⟩⟩ ((PMem.eLoad m who (lSlot c.threads c.slots c.chunks c.words c.gens c.sparse c.tries (handle x.x.handle).fst)).snd)
     else
      K false ⟨⟨(x.x.kind), (x.x.handle), (x.x.index), (x.x.value), (x.x.old)⟩, (x.own), ((handle x.x.handle).fst), ((handle x.x.handle).snd.fst), 1, ((PMem.eLoad m who (lSlot c.threads c.slots c.chunks c.words c.gens c.sparse c.tries (handle x.x.handle).fst)).fst), (x.cell), ((PMem.eLoad m who (lSlot c.threads c.slots c.chunks c.words c.gens c.sparse c.tries (handle x.x.handle).fst)).snd.steps), (x.read), (x.size), none, ⟨(x.out.e), (x.out.h), (x.out.v), (x.out.st)⟩⟩ ((PMem.eLoad m who (lSlot c.threads c.slots c.chunks c.words c.gens c.sparse c.tries (handle x.x.handle).fst)).snd)
  else
   bif decide (x.pc = 1) then
    tw (fun p => (((p ∧ p) ∧ p) ∧ p)) (
     bif !(headOf (PMem.eLoad m who (slotOf x.w).snd.fst).fst).snd.snd.snd.snd == x.own then
      K true ⟨⟨(x.x.kind), (x.x.handle), (x.x.index), (x.x.value), (x.x.old)⟩, (x.own), (x.hs), (x.hg), 2, (x.w), (x.cell), (x.seen), (x.read), ((headOf (PMem.eLoad m who (slotOf x.w).snd.fst).fst).snd.fst), none, ⟨3, 0, 0, ((PMem.eLoad m who (slotOf x.w).snd.fst).snd.steps)⟩⟩ ((PMem.eLoad m who (slotOf x.w).snd.fst).snd)
     else
      bif decide (x.x.index < 0) then
       K true ⟨⟨(x.x.kind), (x.x.handle), (x.x.index), (x.x.value), (x.x.old)⟩, (x.own), (x.hs), (x.hg), 2, (x.w), (x.cell), (x.seen), (x.read), ((headOf (PMem.eLoad m who (slotOf x.w).snd.fst).fst).snd.fst), none, ⟨4, 0, 0, (x.seen)⟩⟩ ((PMem.eLoad m who (slotOf x.w).snd.fst).snd)
      else
       bif decide ((headOf (PMem.eLoad m who (slotOf x.w).snd.fst).fst).snd.fst ≤ x.x.index) then
        K true ⟨⟨(x.x.kind), (x.x.handle), (x.x.index), (x.x.value), (x.x.old)⟩, (x.own), (x.hs), (x.hg), 2, (x.w), (x.cell), (x.seen), (x.read), ((headOf (PMem.eLoad m who (slotOf x.w).snd.fst).fst).snd.fst), none, ⟨4, 0, 0, (x.seen)⟩⟩ ((PMem.eLoad m who (slotOf x.w).snd.fst).snd)
       else
        K false ⟨⟨(x.x.kind), (x.x.handle), (x.x.index), (x.x.value), (x.x.old)⟩, (x.own), (x.hs), (x.hg), 2, (x.w), (x.cell), (x.seen), (x.read), ((headOf (PMem.eLoad m who (slotOf x.w).snd.fst).fst).snd.fst), none, ⟨(x.out.e), (x.out.h), (x.out.v), (x.out.st)⟩⟩ ((PMem.eLoad m who (slotOf x.w).snd.fst).snd))
   else
    bif decide (x.pc = 2) then
     tw (fun p => (((p ∧ p) ∧ ((p ∧ p) ∧ (p ∧ p))) ∧ (((p ∧ p) ∧ p) ∧ ((p ∧ p) ∧ p)))) (
      bif decide (x.x.kind = 1) then
       bif decide (x.x.kind = 1) then
        K false ⟨⟨(x.x.kind), (x.x.handle), (x.x.index), (x.x.value), (x.x.old)⟩, (x.own), (x.hs), (x.hg), 6, (x.w), ((PMem.eLoad m who (wrI (wrI ((slotOf x.w).snd.fst + 1) + x.x.index))).fst), (x.seen), ((PMem.eLoad m who (wrI (wrI ((slotOf x.w).snd.fst + 1) + x.x.index))).snd.steps), (x.size), none, ⟨(x.out.e), (x.out.h), (x.out.v), (x.out.st)⟩⟩ ((PMem.eLoad m who (wrI (wrI ((slotOf x.w).snd.fst + 1) + x.x.index))).snd)
       else
        bif decide ((slotOf x.w).fst = 4) then
         K false ⟨⟨(x.x.kind), (x.x.handle), (x.x.index), (x.x.value), (x.x.old)⟩, (x.own), (x.hs), (x.hg), 4, (x.w), ((PMem.eLoad m who (wrI (wrI ((slotOf x.w).snd.fst + 1) + x.x.index))).fst), (x.seen), ((PMem.eLoad m who (wrI (wrI ((slotOf x.w).snd.fst + 1) + x.x.index))).snd.steps), (x.size), (some ⟨(x.hs), (x.w), (x.size), 0, 0, false, false⟩), ⟨(x.out.e), (x.out.h), (x.out.v), (x.out.st)⟩⟩ ((PMem.eLoad m who (wrI (wrI ((slotOf x.w).snd.fst + 1) + x.x.index))).snd)
        else
         bif !(cellOf (PMem.eLoad m who (wrI (wrI ((slotOf x.w).snd.fst + 1) + x.x.index))).fst).snd.fst then
          K false ⟨⟨(x.x.kind), (x.x.handle), (x.x.index), (x.x.value), (x.x.old)⟩, (x.own), (x.hs), (x.hg), 5, (x.w), ((PMem.eLoad m who (wrI (wrI ((slotOf x.w).snd.fst + 1) + x.x.index))).fst), (x.seen), ((PMem.eLoad m who (wrI (wrI ((slotOf x.w).snd.fst + 1) + x.x.index))).snd.steps), (x.size), none, ⟨(x.out.e), (x.out.h), (x.out.v), (x.out.st)⟩⟩ ((PMem.eLoad m who (wrI (wrI ((slotOf x.w).snd.fst + 1) + x.x.index))).snd)
         else
          bif decide ((cellOf (PMem.eLoad m who (wrI (wrI ((slotOf x.w).snd.fst + 1) + x.x.index))).fst).snd.snd < (slotOf x.w).snd.snd.snd) then
           K false ⟨⟨(x.x.kind), (x.x.handle), (x.x.index), (x.x.value), (x.x.old)⟩, (x.own), (x.hs), (x.hg), 5, (x.w), ((PMem.eLoad m who (wrI (wrI ((slotOf x.w).snd.fst + 1) + x.x.index))).fst), (x.seen), ((PMem.eLoad m who (wrI (wrI ((slotOf x.w).snd.fst + 1) + x.x.index))).snd.steps), (x.size), none, ⟨(x.out.e), (x.out.h), (x.out.v), (x.out.st)⟩⟩ ((PMem.eLoad m who (wrI (wrI ((slotOf x.w).snd.fst + 1) + x.x.index))).snd)
          else
           bif decide ((cellOf (PMem.eLoad m who (wrI (wrI ((slotOf x.w).snd.fst + 1) + x.x.index))).fst).snd.snd = (slotOf x.w).snd.snd.snd) then
            bif decide ((slotOf x.w).fst = 2) then
             K false ⟨⟨(x.x.kind), (x.x.handle), (x.x.index), (x.x.value), (x.x.old)⟩, (x.own), (x.hs), (x.hg), 3, (x.w), ((PMem.eLoad m who (wrI (wrI ((slotOf x.w).snd.fst + 1) + x.x.index))).fst), (x.seen), ((PMem.eLoad m who (wrI (wrI ((slotOf x.w).snd.fst + 1) + x.x.index))).snd.steps), (x.size), none, ⟨(x.out.e), (x.out.h), (x.out.v), (x.out.st)⟩⟩ ((PMem.eLoad m who (wrI (wrI ((slotOf x.w).snd.fst + 1) + x.x.index))).snd)
            else
             K false ⟨⟨(x.x.kind), (x.x.handle), (x.x.index), (x.x.value), (x.x.old)⟩, (x.own), (x.hs), (x.hg), 0, (x.w), ((PMem.eLoad m who (wrI (wrI ((slotOf x.w).snd.fst + 1) + x.x.index))).fst), (x.seen), ((PMem.eLoad m who (wrI (wrI ((slotOf x.w).snd.fst + 1) + x.x.index))).snd.steps), (x.size), none, ⟨(x.out.e), (x.out.h), (x.out.v), (x.out.st)⟩⟩ ((PMem.eLoad m who (wrI (wrI ((slotOf x.w).snd.fst + 1) + x.x.index))).snd)
           else
            K false ⟨⟨(x.x.kind), (x.x.handle), (x.x.index), (x.x.value), (x.x.old)⟩, (x.own), (x.hs), (x.hg), 0, (x.w), ((PMem.eLoad m who (wrI (wrI ((slotOf x.w).snd.fst + 1) + x.x.index))).fst), (x.seen), ((PMem.eLoad m who (wrI (wrI ((slotOf x.w).snd.fst + 1) + x.x.index))).snd.steps), (x.size), none, ⟨(x.out.e), (x.out.h), (x.out.v), (x.out.st)⟩⟩ ((PMem.eLoad m who (wrI (wrI ((slotOf x.w).snd.fst + 1) + x.x.index))).snd)
      else
       bif decide (x.x.kind = 3) then
        bif !decide ((cellOf (PMem.eLoad m who (wrI (wrI ((slotOf x.w).snd.fst + 1) + x.x.index))).fst).fst = x.x.old) then
         K false ⟨⟨(x.x.kind), (x.x.handle), (x.x.index), (x.x.value), (x.x.old)⟩, (x.own), (x.hs), (x.hg), 6, (x.w), ((PMem.eLoad m who (wrI (wrI ((slotOf x.w).snd.fst + 1) + x.x.index))).fst), (x.seen), ((PMem.eLoad m who (wrI (wrI ((slotOf x.w).snd.fst + 1) + x.x.index))).snd.steps), (x.size), none, ⟨(x.out.e), (x.out.h), (x.out.v), (x.out.st)⟩⟩ ((PMem.eLoad m who (wrI (wrI ((slotOf x.w).snd.fst + 1) + x.x.index))).snd)
        else
         bif decide ((slotOf x.w).fst = 4) then
          K false ⟨⟨(x.x.kind), (x.x.handle), (x.x.index), (x.x.value), (x.x.old)⟩, (x.own), (x.hs), (x.hg), 4, (x.w), ((PMem.eLoad m who (wrI (wrI ((slotOf x.w).snd.fst + 1) + x.x.index))).fst), (x.seen), ((PMem.eLoad m who (wrI (wrI ((slotOf x.w).snd.fst + 1) + x.x.index))).snd.steps), (x.size), (some ⟨(x.hs), (x.w), (x.size), 0, 0, false, false⟩), ⟨(x.out.e), (x.out.h), (x.out.v), (x.out.st)⟩⟩ ((PMem.eLoad m who (wrI (wrI ((slotOf x.w).snd.fst + 1) + x.x.index))).snd)
         else
          bif !(cellOf (PMem.eLoad m who (wrI (wrI ((slotOf x.w).snd.fst + 1) + x.x.index))).fst).snd.fst then
           K false ⟨⟨(x.x.kind), (x.x.handle), (x.x.index), (x.x.value), (x.x.old)⟩, (x.own), (x.hs), (x.hg), 5, (x.w), ((PMem.eLoad m who (wrI (wrI ((slotOf x.w).snd.fst + 1) + x.x.index))).fst), (x.seen), ((PMem.eLoad m who (wrI (wrI ((slotOf x.w).snd.fst + 1) + x.x.index))).snd.steps), (x.size), none, ⟨(x.out.e), (x.out.h), (x.out.v), (x.out.st)⟩⟩ ((PMem.eLoad m who (wrI (wrI ((slotOf x.w).snd.fst + 1) + x.x.index))).snd)
          else
           bif decide ((cellOf (PMem.eLoad m who (wrI (wrI ((slotOf x.w).snd.fst + 1) + x.x.index))).fst).snd.snd < (slotOf x.w).snd.snd.snd) then
            K false ⟨⟨(x.x.kind), (x.x.handle), (x.x.index), (x.x.value), (x.x.old)⟩, (x.own), (x.hs), (x.hg), 5, (x.w), ((PMem.eLoad m who (wrI (wrI ((slotOf x.w).snd.fst + 1) + x.x.index))).fst), (x.seen), ((PMem.eLoad m who (wrI (wrI ((slotOf x.w).snd.fst + 1) + x.x.index))).snd.steps), (x.size), none, ⟨(x.out.e), (x.out.h), (x.out.v), (x.out.st)⟩⟩ ((PMem.eLoad m who (wrI (wrI ((slotOf x.w).snd.fst + 1) + x.x.index))).snd)
           else
            bif decide ((cellOf (PMem.eLoad m who (wrI (wrI ((slotOf x.w).snd.fst + 1) + x.x.index))).fst).snd.snd = (slotOf x.w).snd.snd.snd) then
             bif decide ((slotOf x.w).fst = 2) then
              K false ⟨⟨(x.x.kind), (x.x.handle), (x.x.index), (x.x.value), (x.x.old)⟩, (x.own), (x.hs), (x.hg), 3, (x.w), ((PMem.eLoad m who (wrI (wrI ((slotOf x.w).snd.fst + 1) + x.x.index))).fst), (x.seen), ((PMem.eLoad m who (wrI (wrI ((slotOf x.w).snd.fst + 1) + x.x.index))).snd.steps), (x.size), none, ⟨(x.out.e), (x.out.h), (x.out.v), (x.out.st)⟩⟩ ((PMem.eLoad m who (wrI (wrI ((slotOf x.w).snd.fst + 1) + x.x.index))).snd)
             else
              K false ⟨⟨(x.x.kind), (x.x.handle), (x.x.index), (x.x.value), (x.x.old)⟩, (x.own), (x.hs), (x.hg), 0, (x.w), ((PMem.eLoad m who (wrI (wrI ((slotOf x.w).snd.fst + 1) + x.x.index))).fst), (x.seen), ((PMem.eLoad m who (wrI (wrI ((slotOf x.w).snd.fst + 1) + x.x.index))).snd.steps), (x.size), none, ⟨(x.out.e), (x.out.h), (x.out.v), (x.out.st)⟩⟩ ((PMem.eLoad m who (wrI (wrI ((slotOf x.w).snd.fst + 1) + x.x.index))).snd)
            else
             K false ⟨⟨(x.x.kind), (x.x.handle), (x.x.index), (x.x.value), (x.x.old)⟩, (x.own), (x.hs), (x.hg), 0, (x.w), ((PMem.eLoad m who (wrI (wrI ((slotOf x.w).snd.fst + 1) + x.x.index))).fst), (x.seen), ((PMem.eLoad m who (wrI (wrI ((slotOf x.w).snd.fst + 1) + x.x.index))).snd.steps), (x.size), none, ⟨(x.out.e), (x.out.h), (x.out.v), (x.out.st)⟩⟩ ((PMem.eLoad m who (wrI (wrI ((slotOf x.w).snd.fst + 1) + x.x.index))).snd)
       else
        bif decide ((slotOf x.w).fst = 4) then
         K false ⟨⟨(x.x.kind), (x.x.handle), (x.x.index), (x.x.value), (x.x.old)⟩, (x.own), (x.hs), (x.hg), 4, (x.w), ((PMem.eLoad m who (wrI (wrI ((slotOf x.w).snd.fst + 1) + x.x.index))).fst), (x.seen), ((PMem.eLoad m who (wrI (wrI ((slotOf x.w).snd.fst + 1) + x.x.index))).snd.steps), (x.size), (some ⟨(x.hs), (x.w), (x.size), 0, 0, false, false⟩), ⟨(x.out.e), (x.out.h), (x.out.v), (x.out.st)⟩⟩ ((PMem.eLoad m who (wrI (wrI ((slotOf x.w).snd.fst + 1) + x.x.index))).snd)
        else
         bif !(cellOf (PMem.eLoad m who (wrI (wrI ((slotOf x.w).snd.fst + 1) + x.x.index))).fst).snd.fst then
          K false ⟨⟨(x.x.kind), (x.x.handle), (x.x.index), (x.x.value), (x.x.old)⟩, (x.own), (x.hs), (x.hg), 5, (x.w), ((PMem.eLoad m who (wrI (wrI ((slotOf x.w).snd.fst + 1) + x.x.index))).fst), (x.seen), ((PMem.eLoad m who (wrI (wrI ((slotOf x.w).snd.fst + 1) + x.x.index))).snd.steps), (x.size), none, ⟨(x.out.e), (x.out.h), (x.out.v), (x.out.st)⟩⟩ ((PMem.eLoad m who (wrI (wrI ((slotOf x.w).snd.fst + 1) + x.x.index))).snd)
         else
          bif decide ((cellOf (PMem.eLoad m who (wrI (wrI ((slotOf x.w).snd.fst + 1) + x.x.index))).fst).snd.snd < (slotOf x.w).snd.snd.snd) then
           K false ⟨⟨(x.x.kind), (x.x.handle), (x.x.index), (x.x.value), (x.x.old)⟩, (x.own), (x.hs), (x.hg), 5, (x.w), ((PMem.eLoad m who (wrI (wrI ((slotOf x.w).snd.fst + 1) + x.x.index))).fst), (x.seen), ((PMem.eLoad m who (wrI (wrI ((slotOf x.w).snd.fst + 1) + x.x.index))).snd.steps), (x.size), none, ⟨(x.out.e), (x.out.h), (x.out.v), (x.out.st)⟩⟩ ((PMem.eLoad m who (wrI (wrI ((slotOf x.w).snd.fst + 1) + x.x.index))).snd)
          else
           bif decide ((cellOf (PMem.eLoad m who (wrI (wrI ((slotOf x.w).snd.fst + 1) + x.x.index))).fst).snd.snd = (slotOf x.w).snd.snd.snd) then
            bif decide ((slotOf x.w).fst = 2) then
             K false ⟨⟨(x.x.kind), (x.x.handle), (x.x.index), (x.x.value), (x.x.old)⟩, (x.own), (x.hs), (x.hg), 3, (x.w), ((PMem.eLoad m who (wrI (wrI ((slotOf x.w).snd.fst + 1) + x.x.index))).fst), (x.seen), ((PMem.eLoad m who (wrI (wrI ((slotOf x.w).snd.fst + 1) + x.x.index))).snd.steps), (x.size), none, ⟨(x.out.e), (x.out.h), (x.out.v), (x.out.st)⟩⟩ ((PMem.eLoad m who (wrI (wrI ((slotOf x.w).snd.fst + 1) + x.x.index))).snd)
            else
             K false ⟨⟨(x.x.kind), (x.x.handle), (x.x.index), (x.x.value), (x.x.old)⟩, (x.own), (x.hs), (x.hg), 0, (x.w), ((PMem.eLoad m who (wrI (wrI ((slotOf x.w).snd.fst + 1) + x.x.index))).fst), (x.seen), ((PMem.eLoad m who (wrI (wrI ((slotOf x.w).snd.fst + 1) + x.x.index))).snd.steps), (x.size), none, ⟨(x.out.e), (x.out.h), (x.out.v), (x.out.st)⟩⟩ ((PMem.eLoad m who (wrI (wrI ((slotOf x.w).snd.fst + 1) + x.x.index))).snd)
           else
            K false ⟨⟨(x.x.kind), (x.x.handle), (x.x.index), (x.x.value), (x.x.old)⟩, (x.own), (x.hs), (x.hg), 0, (x.w), ((PMem.eLoad m who (wrI (wrI ((slotOf x.w).snd.fst + 1) + x.x.index))).fst), (x.seen), ((PMem.eLoad m who (wrI (wrI ((slotOf x.w).snd.fst + 1) + x.x.index))).snd.steps), (x.size), none, ⟨(x.out.e), (x.out.h), (x.out.v), (x.out.st)⟩⟩ ((PMem.eLoad m who (wrI (wrI ((slotOf x.w).snd.fst + 1) + x.x.index))).snd))
    else
     bif decide (x.pc = 3) then
      K false ⟨⟨(x.x.kind), (x.x.handle), (x.x.index), (x.x.value), (x.x.old)⟩, (x.own), (x.hs), (x.hg), 0, (x.w), (x.cell), (x.seen), (x.read), (x.size), none, ⟨(x.out.e), (x.out.h), (x.out.v), (x.out.st)⟩⟩ ((PMem.eCas m who (lSlot c.threads c.slots c.chunks c.words c.gens c.sparse c.tries x.hs) x.w (putSlot 1 (slotOf x.w).snd.fst (slotOf x.w).snd.snd.fst (wrI ((slotOf x.w).snd.snd.snd + 1)))).snd)
     else
      bif decide (x.pc = 4) then
       K false ⟨⟨(x.x.kind), (x.x.handle), (x.x.index), (x.x.value), (x.x.old)⟩, (x.own), (x.hs), (x.hg), (x.pc), (x.w), (x.cell), (x.seen), (x.read), (x.size), none, ⟨(x.out.e), (x.out.h), (x.out.v), (x.out.st)⟩⟩ (m)
      else
       bif decide (x.pc = 5) then
        bif (PMem.eCas m who (wrI (wrI ((slotOf x.w).snd.fst + 1) + x.x.index)) x.cell (putCell x.x.value false 0)).fst then
         K true ⟨⟨(x.x.kind), (x.x.handle), (x.x.index), (x.x.value), (x.x.old)⟩, (x.own), (x.hs), (x.hg), 0, (x.w), (x.cell), (x.seen), (x.read), (x.size), none, ⟨0, 0, ((cellOf x.cell).fst), ((PMem.eCas m who (wrI (wrI ((slotOf x.w).snd.fst + 1) + x.x.index)) x.cell (putCell x.x.value false 0)).snd.steps)⟩⟩ ((PMem.eCas m who (wrI (wrI ((slotOf x.w).snd.fst + 1) + x.x.index)) x.cell (putCell x.x.value false 0)).snd)
        else
         K false ⟨⟨(x.x.kind), (x.x.handle), (x.x.index), (x.x.value), (x.x.old)⟩, (x.own), (x.hs), (x.hg), 0, (x.w), (x.cell), (x.seen), (x.read), (x.size), none, ⟨(x.out.e), (x.out.h), (x.out.v), (x.out.st)⟩⟩ ((PMem.eCas m who (wrI (wrI ((slotOf x.w).snd.fst + 1) + x.x.index)) x.cell (putCell x.x.value false 0)).snd)
       else
        tw (fun p => (((p ∧ p) ∧ p) ∧ p)) (
         bif !live (slotOf (PMem.eLoad m who (lSlot c.threads c.slots c.chunks c.words c.gens c.sparse c.tries x.hs)).fst).fst (slotOf (PMem.eLoad m who (lSlot c.threads c.slots c.chunks c.words c.gens c.sparse c.tries x.hs)).fst).snd.fst (slotOf (PMem.eLoad m who (lSlot c.threads c.slots c.chunks c.words c.gens c.sparse c.tries x.hs)).fst).snd.snd.fst (slotOf (PMem.eLoad m who (lSlot c.threads c.slots c.chunks c.words c.gens c.sparse c.tries x.hs)).fst).snd.snd.snd x.hs x.hg then
          K true ⟨⟨(x.x.kind), (x.x.handle), (x.x.index), (x.x.value), (x.x.old)⟩, (x.own), (x.hs), (x.hg), (x.pc), (x.w), (x.cell), (x.seen), (x.read), (x.size), none, ⟨3, 0, 0, ((PMem.eLoad m who (lSlot c.threads c.slots c.chunks c.words c.gens c.sparse c.tries x.hs)).snd.steps)⟩⟩ ((PMem.eLoad m who (lSlot c.threads c.slots c.chunks c.words c.gens c.sparse c.tries x.hs)).snd)
         else
          bif !decide ((slotOf (PMem.eLoad m who (lSlot c.threads c.slots c.chunks c.words c.gens c.sparse c.tries x.hs)).fst).snd.fst = (slotOf x.w).snd.fst) then
           K false ⟨⟨(x.x.kind), (x.x.handle), (x.x.index), (x.x.value), (x.x.old)⟩, (x.own), (x.hs), (x.hg), 0, (x.w), (x.cell), (x.seen), (x.read), (x.size), none, ⟨(x.out.e), (x.out.h), (x.out.v), (x.out.st)⟩⟩ ((PMem.eLoad m who (lSlot c.threads c.slots c.chunks c.words c.gens c.sparse c.tries x.hs)).snd)
          else
           bif decide (x.x.kind = 3) then
            K true ⟨⟨(x.x.kind), (x.x.handle), (x.x.index), (x.x.value), (x.x.old)⟩, (x.own), (x.hs), (x.hg), (x.pc), (x.w), (x.cell), (x.seen), (x.read), (x.size), none, ⟨8, 0, ((cellOf x.cell).fst), (x.read)⟩⟩ ((PMem.eLoad m who (lSlot c.threads c.slots c.chunks c.words c.gens c.sparse c.tries x.hs)).snd)
           else
            K true ⟨⟨(x.x.kind), (x.x.handle), (x.x.index), (x.x.value), (x.x.old)⟩, (x.own), (x.hs), (x.hg), (x.pc), (x.w), (x.cell), (x.seen), (x.read), (x.size), none, ⟨0, 0, ((cellOf x.cell).fst), (x.read)⟩⟩ ((PMem.eLoad m who (lSlot c.threads c.slots c.chunks c.words c.gens c.sparse c.tries x.hs)).snd))

def accessStep0 (c : PCfg) (who : Int) (x : PAccess) (m : PMem) : Bool × PAccess × PMem := accessStep0K (false, x, m) twV c who x m fun r x m => (r, x, m)

theorem accessStep0K_eq (c : PCfg) (who : Int) (x : PAccess) (m : PMem) (K : Bool → PAccess → PMem → Prop) : accessStep0K False twP c who x m K = K (accessStep0 c who x m).1 (accessStep0 c who x m).2.1 (accessStep0 c who x m).2.2 := by
  show _ = app3 K (accessStep0K (false, x, m) twV c who x m fun r x m => (r, x, m))
  unfold accessStep0K
  repeat' first
    | refine cond3 ?_ ?_
    | refine tw3 (fun p => by simp only [and_self]) ?_
    | exact rfl

def accessStep1K {R : Type} (bot : R) (tw : (Prop → Prop) → R → R) (c : PCfg) (who : Int) (x : PAccess) (help : PHelp) (m : PMem) (K : Bool → PAccess → PMem → R) : R :=
  bif decide (x.pc = 0) then
   bif !(handle x.x.handle).snd.snd then
    K true ⟨⟨(x.x.kind), (x.x.handle), (x.x.index), (x.x.value), (x.x.old)⟩, (x.own), ((handle x.x.handle).fst), ((handle x.x.handle).snd.fst), (x.pc), (x.w), (x.cell), (x.seen), (x.read), (x.size), (some (help)), ⟨3, 0, 0, (m.steps)⟩⟩ (m)
   else
    bif decide (c.slots ≤ (handle x.x.handle).fst) then
     K true ⟨⟨(x.x.kind), (x.x.handle), (x.x.index), (x.x.value), (x.x.old)⟩, (x.own), ((handle x.x.handle).fst), ((handle x.x.handle).snd.fst), (x.pc), (x.w), (x.cell), (x.seen), (x.read), (x.size), (some (help)), ⟨3, 0, 0, (m.steps)⟩⟩ (m)
    else
     bif !live (slotOf (PMem.eLoad m who (lSlot c.threads c.slots c.chunks c.words c.gens c.sparse c.tries (handle x.x.handle).fst)).fst).fst (slotOf (PMem.eLoad m who (lSlot c.threads c.slots c.chunks c.words c.gens c.sparse c.tries (handle x.x.handle).fst)).fst).snd.fst (slotOf (PMem.eLoad m who (lSlot c.threads c.slots c.chunks c.words c.gens c.sparse c.tries (handle x.x.handle).fst)).fst).snd.snd.fst (slotOf (PMem.eLoad m who (lSlot c.threads c.slots c.chunks c.words c.gens c.sparse c.tries (handle x.x.handle).fst)).fst).snd.snd.snd (handle x.x.handle).fst (handle x.x.handle).snd.fst then
      K true ⟨⟨(x.x.kind), (x.x.handle), (x.x.index), (x.x.value), (x.x.old)⟩, (x.own), ((handle x.x.handle).fst), ((handle x.x.handle).snd.fst), 1, ((PMem.eLoad m who (lSlot c.threads c.slots c.chunks c.words c.gens c.sparse c.tries (handle x.x.handle).fst)).fst), (x.cell), ((PMem.eLoad m who (lSlot c.threads c.slots c.chunks c.words c.gens c.sparse c.tries (handle x.x.handle).fst)).snd.steps), (x.read), (x.size), (some (help)), ⟨3, 0, 0, ((PMem.eLoad m who (lSlot c.threads c.slots c.chunks c.words c.gens c.sparse c.tries (handle x.x.handle).fst)).snd.steps)⟩⟩ ((PMem.eLoad m who (lSlot c.threads c.slots c.chunks c.words c.gens c.sparse c.tries (handle x.x.handle).fst)).snd)
     else
      K false ⟨⟨(x.x.kind), (x.x.handle), (x.x.index), (x.x.value), (x.x.old)⟩, (x.own), ((handle x.x.handle).fst), ((handle x.x.handle).snd.fst), 1, ((PMem.eLoad m who (lSlot c.threads c.slots c.chunks c.words c.gens c.sparse c.tries (handle x.x.handle).fst)).fst), (x.cell), ((PMem.eLoad m who (lSlot c.threads c.slots c.chunks c.words c.gens c.sparse c.tries (handle x.x.handle).fst)).snd.steps), (x.read), (x.size), (some (help)), ⟨(x.out.e), (x.out.h), (x.out.v), (x.out.st)⟩⟩ ((PMem.eLoad m who (lSlot c.threads c.slots c.chunks c.words c.gens c.sparse c.tries (handle x.x.handle).fst)).snd)
  else
   bif decide (x.pc = 1) then
    tw (fun p => (((p ∧ p) ∧ p) ∧ p)) (
     bif !(headOf (PMem.eLoad m who (slotOf x.w).snd.fst).fst).snd.snd.snd.snd == x.own then
      K true ⟨⟨(x.x.kind), (x.x.handle), (x.x.index), (x.x.value), (x.x.old)⟩, (x.own), (x.hs), (x.hg), 2, (x.w), (x.cell), (x.seen), (x.read), ((headOf (PMem.eLoad m who (slotOf x.w).snd.fst).fst).snd.fst), (some (help)), ⟨3, 0, 0, ((PMem.eLoad m who (slotOf x.w).snd.fst).snd.steps)⟩⟩ ((PMem.eLoad m who (slotOf x.w).snd.fst).snd)
     else
      bif decide (x.x.index < 0) then
       K true ⟨⟨(x.x.kind), (x.x.handle), (x.x.index), (x.x.value), (x.x.old)⟩, (x.own), (x.hs), (x.hg), 2, (x.w), (x.cell), (x.seen), (x.read), ((headOf (PMem.eLoad m who (slotOf x.w).snd.fst).fst).snd.fst), (some (help)), ⟨4, 0, 0, (x.seen)⟩⟩ ((PMem.eLoad m who (slotOf x.w).snd.fst).snd)
      else
       bif decide ((headOf (PMem.eLoad m who (slotOf x.w).snd.fst).fst).snd.fst ≤ x.x.index) then
        K true ⟨⟨(x.x.kind), (x.x.handle), (x.x.index), (x.x.value), (x.x.old)⟩, (x.own), (x.hs), (x.hg), 2, (x.w), (x.cell), (x.seen), (x.read), ((headOf (PMem.eLoad m who (slotOf x.w).snd.fst).fst).snd.fst), (some (help)), ⟨4, 0, 0, (x.seen)⟩⟩ ((PMem.eLoad m who (slotOf x.w).snd.fst).snd)
       else
        K false ⟨⟨(x.x.kind), (x.x.handle), (x.x.index), (x.x.value), (x.x.old)⟩, (x.own), (x.hs), (x.hg), 2, (x.w), (x.cell), (x.seen), (x.read), ((headOf (PMem.eLoad m who (slotOf x.w).snd.fst).fst).snd.fst), (some (help)), ⟨(x.out.e), (x.out.h), (x.out.v), (x.out.st)⟩⟩ ((PMem.eLoad m who (slotOf x.w).snd.fst).snd))
   else
    bif decide (x.pc = 2) then
     tw (fun p => (((p ∧ p) ∧ ((p ∧ p) ∧ (p ∧ p))) ∧ (((p ∧ p) ∧ p) ∧ ((p ∧ p) ∧ p)))) (
      bif decide (x.x.kind = 1) then
       bif decide (x.x.kind = 1) then
        K false ⟨⟨(x.x.kind), (x.x.handle), (x.x.index), (x.x.value), (x.x.old)⟩, (x.own), (x.hs), (x.hg), 6, (x.w), ((PMem.eLoad m who (wrI (wrI ((slotOf x.w).snd.fst + 1) + x.x.index))).fst), (x.seen), ((PMem.eLoad m who (wrI (wrI ((slotOf x.w).snd.fst + 1) + x.x.index))).snd.steps), (x.size), (some (help)), ⟨(x.out.e), (x.out.h), (x.out.v), (x.out.st)⟩⟩ ((PMem.eLoad m who (wrI (wrI ((slotOf x.w).snd.fst + 1) + x.x.index))).snd)
       else
        bif decide ((slotOf x.w).fst = 4) then
         K false ⟨⟨(x.x.kind), (x.x.handle), (x.x.index), (x.x.value), (x.x.old)⟩, (x.own), (x.hs), (x.hg), 4, (x.w), ((PMem.eLoad m who (wrI (wrI ((slotOf x.w).snd.fst + 1) + x.x.index))).fst), (x.seen), ((PMem.eLoad m who (wrI (wrI ((slotOf x.w).snd.fst + 1) + x.x.index))).snd.steps), (x.size), (some ⟨(x.hs), (x.w), (x.size), 0, 0, false, false⟩), ⟨(x.out.e), (x.out.h), (x.out.v), (x.out.st)⟩⟩ ((PMem.eLoad m who (wrI (wrI ((slotOf x.w).snd.fst + 1) + x.x.index))).snd)
        else
         bif !(cellOf (PMem.eLoad m who (wrI (wrI ((slotOf x.w).snd.fst + 1) + x.x.index))).fst).snd.fst then
          K false ⟨⟨(x.x.kind), (x.x.handle), (x.x.index), (x.x.value), (x.x.old)⟩, (x.own), (x.hs), (x.hg), 5, (x.w), ((PMem.eLoad m who (wrI (wrI ((slotOf x.w).snd.fst + 1) + x.x.index))).fst), (x.seen), ((PMem.eLoad m who (wrI (wrI ((slotOf x.w).snd.fst + 1) + x.x.index))).snd.steps), (x.size), (some (help)), ⟨(x.out.e), (x.out.h), (x.out.v), (x.out.st)⟩⟩ ((PMem.eLoad m who (wrI (wrI ((slotOf x.w).snd.fst + 1) + x.x.index))).snd)
         else
          bif decide ((cellOf (PMem.eLoad m who (wrI (wrI ((slotOf x.w).snd.fst + 1) + x.x.index))).fst).snd.snd < (slotOf x.w).snd.snd.snd) then
           K false ⟨⟨(x.x.kind), (x.x.handle), (x.x.index), (x.x.value), (x.x.old)⟩, (x.own), (x.hs), (x.hg), 5, (x.w), ((PMem.eLoad m who (wrI (wrI ((slotOf x.w).snd.fst + 1) + x.x.index))).fst), (x.seen), ((PMem.eLoad m who (wrI (wrI ((slotOf x.w).snd.fst + 1) + x.x.index))).snd.steps), (x.size), (some (help)), ⟨(x.out.e), (x.out.h), (x.out.v), (x.out.st)⟩⟩ ((PMem.eLoad m who (wrI (wrI ((slotOf x.w).snd.fst + 1) + x.x.index))).snd)
          else
           bif decide ((cellOf (PMem.eLoad m who (wrI (wrI ((slotOf x.w).snd.fst + 1) + x.x.index))).fst).snd.snd = (slotOf x.w).snd.snd.snd) then
            bif decide ((slotOf x.w).fst = 2) then
             K false ⟨⟨(x.x.kind), (x.x.handle), (x.x.index), (x.x.value), (x.x.old)⟩, (x.own), (x.hs), (x.hg), 3, (x.w), ((PMem.eLoad m who (wrI (wrI ((slotOf x.w).snd.fst + 1) + x.x.index))).fst), (x.seen), ((PMem.eLoad m who (wrI (wrI ((slotOf x.w).snd.fst + 1) + x.x.index))).snd.steps), (x.size), (some (help)), ⟨(x.out.e), (x.out.h), (x.out.v), (x.out.st)⟩⟩ ((PMem.eLoad m who (wrI (wrI ((slotOf x.w).snd.fst + 1) + x.x.index))).snd)
            else
             K false ⟨⟨(x.x.kind), (x.x.handle), (x.x.index), (x.x.value), (x.x.old)⟩, (x.own), (x.hs), (x.hg), 0, (x.w), ((PMem.eLoad m who (wrI (wrI ((slotOf x.w).snd.fst + 1) + x.x.index))).fst), (x.seen), ((PMem.eLoad m who (wrI (wrI ((slotOf x.w).snd.fst + 1) + x.x.index))).snd.steps), (x.size), (some (help)), ⟨(x.out.e), (x.out.h), (x.out.v), (x.out.st)⟩⟩ ((PMem.eLoad m who (wrI (wrI ((slotOf x.w).snd.fst + 1) + x.x.index))).snd)
           else
            K false ⟨⟨(x.x.kind), (x.x.handle), (x.x.index), (x.x.value), (x.x.old)⟩, (x.own), (x.hs), (x.hg), 0, (x.w), ((PMem.eLoad m who (wrI (wrI ((slotOf x.w).snd.fst + 1) + x.x.index))).fst), (x.seen), ((PMem.eLoad m who (wrI (wrI ((slotOf x.w).snd.fst + 1) + x.x.index))).snd.steps), (x.size), (some (help)), ⟨(x.out.e), (x.out.h), (x.out.v), (x.out.st)⟩⟩ ((PMem.eLoad m who (wrI (wrI ((slotOf x.w).snd.fst + 1) + x.x.index))).snd)
      else
       bif decide (x.x.kind = 3) then
        bif !decide ((cellOf (PMem.eLoad m who (wrI (wrI ((slotOf x.w).snd.fst + 1) + x.x.index))).fst).fst = x.x.old) then
         K false ⟨⟨(x.x.kind), (x.x.handle), (x.x.index), (x.x.value), (x.x.old)⟩, (x.own), (x.hs), (x.hg), 6, (x.w), ((PMem.eLoad m who (wrI (wrI ((slotOf x.w).snd.fst + 1) + x.x.index))).fst), (x.seen), ((PMem.eLoad m who (wrI (wrI ((slotOf x.w).snd.fst + 1) + x.x.index))).snd.steps), (x.size), (some (help)), ⟨(x.out.e), (x.out.h), (x.out.v), (x.out.st)⟩⟩ ((PMem.eLoad m who (wrI (wrI ((slotOf x.w).snd.fst + 1) + x.x.index))).snd)
        else
         bif decide ((slotOf x.w).fst = 4) then
          K false ⟨⟨(x.x.kind), (x.x.handle), (x.x.index), (x.x.value), (x.x.old)⟩, (x.own), (x.hs), (x.hg), 4, (x.w), ((PMem.eLoad m who (wrI (wrI ((slotOf x.w).snd.fst + 1) + x.x.index))).fst), (x.seen), ((PMem.eLoad m who (wrI (wrI ((slotOf x.w).snd.fst + 1) + x.x.index))).snd.steps), (x.size), (some ⟨(x.hs), (x.w), (x.size), 0, 0, false, false⟩), ⟨(x.out.e), (x.out.h), (x.out.v), (x.out.st)⟩⟩ ((PMem.eLoad m who (wrI (wrI ((slotOf x.w).snd.fst + 1) + x.x.index))).snd)
         else
          bif !(cellOf (PMem.eLoad m who (wrI (wrI ((slotOf x.w).snd.fst + 1) + x.x.index))).fst).snd.fst then
           K false ⟨⟨(x.x.kind), (x.x.handle), (x.x.index), (x.x.value), (x.x.old)⟩, (x.own), (x.hs), (x.hg), 5, (x.w), ((PMem.eLoad m who (wrI (wrI ((slotOf x.w).snd.fst + 1) + x.x.index))).fst), (x.seen), ((PMem.eLoad m who (wrI (wrI ((slotOf x.w).snd.fst + 1) + x.x.index))).snd.steps), (x.size), (some (help)), ⟨(x.out.e), (x.out.h), (x.out.v), (x.out.st)⟩⟩ ((PMem.eLoad m who (wrI (wrI ((slotOf x.w).snd.fst + 1) + x.x.index))).snd)
          else
           bif decide ((cellOf (PMem.eLoad m who (wrI (wrI ((slotOf x.w).snd.fst + 1) + x.x.index))).fst).snd.snd < (slotOf x.w).snd.snd.snd) then
            K false ⟨⟨(x.x.kind), (x.x.handle), (x.x.index), (x.x.value), (x.x.old)⟩, (x.own), (x.hs), (x.hg), 5, (x.w), ((PMem.eLoad m who (wrI (wrI ((slotOf x.w).snd.fst + 1) + x.x.index))).fst), (x.seen), ((PMem.eLoad m who (wrI (wrI ((slotOf x.w).snd.fst + 1) + x.x.index))).snd.steps), (x.size), (some (help)), ⟨(x.out.e), (x.out.h), (x.out.v), (x.out.st)⟩⟩ ((PMem.eLoad m who (wrI (wrI ((slotOf x.w).snd.fst + 1) + x.x.index))).snd)
           else
            bif decide ((cellOf (PMem.eLoad m who (wrI (wrI ((slotOf x.w).snd.fst + 1) + x.x.index))).fst).snd.snd = (slotOf x.w).snd.snd.snd) then
             bif decide ((slotOf x.w).fst = 2) then
              K false ⟨⟨(x.x.kind), (x.x.handle), (x.x.index), (x.x.value), (x.x.old)⟩, (x.own), (x.hs), (x.hg), 3, (x.w), ((PMem.eLoad m who (wrI (wrI ((slotOf x.w).snd.fst + 1) + x.x.index))).fst), (x.seen), ((PMem.eLoad m who (wrI (wrI ((slotOf x.w).snd.fst + 1) + x.x.index))).snd.steps), (x.size), (some (help)), ⟨(x.out.e), (x.out.h), (x.out.v), (x.out.st)⟩⟩ ((PMem.eLoad m who (wrI (wrI ((slotOf x.w).snd.fst + 1) + x.x.index))).snd)
             else
              K false ⟨⟨(x.x.kind), (x.x.handle), (x.x.index), (x.x.value), (x.x.old)⟩, (x.own), (x.hs), (x.hg), 0, (x.w), ((PMem.eLoad m who (wrI (wrI ((slotOf x.w).snd.fst + 1) + x.x.index))).fst), (x.seen), ((PMem.eLoad m who (wrI (wrI ((slotOf x.w).snd.fst + 1) + x.x.index))).snd.steps), (x.size), (some (help)), ⟨(x.out.e), (x.out.h), (x.out.v), (x.out.st)⟩⟩ ((PMem.eLoad m who (wrI (wrI ((slotOf x.w).snd.fst + 1) + x.x.index))).snd)
            else
             K false ⟨⟨(x.x.kind), (x.x.handle), (x.x.index), (x.x.value), (x.x.old)⟩, (x.own), (x.hs), (x.hg), 0, (x.w), ((PMem.eLoad m who (wrI (wrI ((slotOf x.w).snd.fst + 1) + x.x.index))).fst), (x.seen), ((PMem.eLoad m who (wrI (wrI ((slotOf x.w).snd.fst + 1) + x.x.index))).snd.steps), (x.size), (some (help)), ⟨(x.out.e), (x.out.h), (x.out.v), (x.out.st)⟩⟩ ((PMem.eLoad m who (wrI (wrI ((slotOf x.w).snd.fst + 1) + x.x.index))).snd)
       else
        bif decide ((slotOf x.w).fst = 4) then
         K false ⟨⟨(x.x.kind), (x.x.handle), (x.x.index), (x.x.value), (x.x.old)⟩, (x.own), (x.hs), (x.hg), 4, (x.w), ((PMem.eLoad m who (wrI (wrI ((slotOf x.w).snd.fst + 1) + x.x.index))).fst), (x.seen), ((PMem.eLoad m who (wrI (wrI ((slotOf x.w).snd.fst + 1) + x.x.index))).snd.steps), (x.size), (some ⟨(x.hs), (x.w), (x.size), 0, 0, false, false⟩), ⟨(x.out.e), (x.out.h), (x.out.v), (x.out.st)⟩⟩ ((PMem.eLoad m who (wrI (wrI ((slotOf x.w).snd.fst + 1) + x.x.index))).snd)
        else
         bif !(cellOf (PMem.eLoad m who (wrI (wrI ((slotOf x.w).snd.fst + 1) + x.x.index))).fst).snd.fst then
          K false ⟨⟨(x.x.kind), (x.x.handle), (x.x.index), (x.x.value), (x.x.old)⟩, (x.own), (x.hs), (x.hg), 5, (x.w), ((PMem.eLoad m who (wrI (wrI ((slotOf x.w).snd.fst + 1) + x.x.index))).fst), (x.seen), ((PMem.eLoad m who (wrI (wrI ((slotOf x.w).snd.fst + 1) + x.x.index))).snd.steps), (x.size), (some (help)), ⟨(x.out.e), (x.out.h), (x.out.v), (x.out.st)⟩⟩ ((PMem.eLoad m who (wrI (wrI ((slotOf x.w).snd.fst + 1) + x.x.index))).snd)
         else
          bif decide ((cellOf (PMem.eLoad m who (wrI (wrI ((slotOf x.w).snd.fst + 1) + x.x.index))).fst).snd.snd < (slotOf x.w).snd.snd.snd) then
           K false ⟨⟨(x.x.kind), (x.x.handle), (x.x.index), (x.x.value), (x.x.old)⟩, (x.own), (x.hs), (x.hg), 5, (x.w), ((PMem.eLoad m who (wrI (wrI ((slotOf x.w).snd.fst + 1) + x.x.index))).fst), (x.seen), ((PMem.eLoad m who (wrI (wrI ((slotOf x.w).snd.fst + 1) + x.x.index))).snd.steps), (x.size), (some (help)), ⟨(x.out.e), (x.out.h), (x.out.v), (x.out.st)⟩⟩ ((PMem.eLoad m who (wrI (wrI ((slotOf x.w).snd.fst + 1) + x.x.index))).snd)
          else
           bif decide ((cellOf (PMem.eLoad m who (wrI (wrI ((slotOf x.w).snd.fst + 1) + x.x.index))).fst).snd.snd = (slotOf x.w).snd.snd.snd) then
            bif decide ((slotOf x.w).fst = 2) then
             K false ⟨⟨(x.x.kind), (x.x.handle), (x.x.index), (x.x.value), (x.x.old)⟩, (x.own), (x.hs), (x.hg), 3, (x.w), ((PMem.eLoad m who (wrI (wrI ((slotOf x.w).snd.fst + 1) + x.x.index))).fst), (x.seen), ((PMem.eLoad m who (wrI (wrI ((slotOf x.w).snd.fst + 1) + x.x.index))).snd.steps), (x.size), (some (help)), ⟨(x.out.e), (x.out.h), (x.out.v), (x.out.st)⟩⟩ ((PMem.eLoad m who (wrI (wrI ((slotOf x.w).snd.fst + 1) + x.x.index))).snd)
            else
             K false ⟨⟨(x.x.kind), (x.x.handle), (x.x.index), (x.x.value), (x.x.old)⟩, (x.own), (x.hs), (x.hg), 0, (x.w), ((PMem.eLoad m who (wrI (wrI ((slotOf x.w).snd.fst + 1) + x.x.index))).fst), (x.seen), ((PMem.eLoad m who (wrI (wrI ((slotOf x.w).snd.fst + 1) + x.x.index))).snd.steps), (x.size), (some (help)), ⟨(x.out.e), (x.out.h), (x.out.v), (x.out.st)⟩⟩ ((PMem.eLoad m who (wrI (wrI ((slotOf x.w).snd.fst + 1) + x.x.index))).snd)
           else
            K false ⟨⟨(x.x.kind), (x.x.handle), (x.x.index), (x.x.value), (x.x.old)⟩, (x.own), (x.hs), (x.hg), 0, (x.w), ((PMem.eLoad m who (wrI (wrI ((slotOf x.w).snd.fst + 1) + x.x.index))).fst), (x.seen), ((PMem.eLoad m who (wrI (wrI ((slotOf x.w).snd.fst + 1) + x.x.index))).snd.steps), (x.size), (some (help)), ⟨(x.out.e), (x.out.h), (x.out.v), (x.out.st)⟩⟩ ((PMem.eLoad m who (wrI (wrI ((slotOf x.w).snd.fst + 1) + x.x.index))).snd))
    else
     bif decide (x.pc = 3) then
      K false ⟨⟨(x.x.kind), (x.x.handle), (x.x.index), (x.x.value), (x.x.old)⟩, (x.own), (x.hs), (x.hg), 0, (x.w), (x.cell), (x.seen), (x.read), (x.size), (some (help)), ⟨(x.out.e), (x.out.h), (x.out.v), (x.out.st)⟩⟩ ((PMem.eCas m who (lSlot c.threads c.slots c.chunks c.words c.gens c.sparse c.tries x.hs) x.w (putSlot 1 (slotOf x.w).snd.fst (slotOf x.w).snd.snd.fst (wrI ((slotOf x.w).snd.snd.snd + 1)))).snd)
     else
      bif decide (x.pc = 4) then
       bif (helpStep { threads := c.threads, slots := c.slots, chunks := c.chunks, words := c.words, gens := c.gens, sparse := c.sparse, tries := c.tries } who help m).fst then
        K false ⟨⟨(x.x.kind), (x.x.handle), (x.x.index), (x.x.value), (x.x.old)⟩, (x.own), (x.hs), (x.hg), 0, (x.w), (x.cell), (x.seen), (x.read), (x.size), (some ((helpStep { threads := c.threads, slots := c.slots, chunks := c.chunks, words := c.words, gens := c.gens, sparse := c.sparse, tries := c.tries } who help m).snd.1)), ⟨(x.out.e), (x.out.h), (x.out.v), (x.out.st)⟩⟩ ((helpStep { threads := c.threads, slots := c.slots, chunks := c.chunks, words := c.words, gens := c.gens, sparse := c.sparse, tries := c.tries } who help m).snd.snd)
       else
        K false ⟨⟨(x.x.kind), (x.x.handle), (x.x.index), (x.x.value), (x.x.old)⟩, (x.own), (x.hs), (x.hg), (x.pc), (x.w), (x.cell), (x.seen), (x.read), (x.size), (some ((helpStep { threads := c.threads, slots := c.slots, chunks := c.chunks, words := c.words, gens := c.gens, sparse := c.sparse, tries := c.tries } who help m).snd.1)), ⟨(x.out.e), (x.out.h), (x.out.v), (x.out.st)⟩⟩ ((helpStep { threads := c.threads, slots := c.slots, chunks := c.chunks, words := c.words, gens := c.gens, sparse := c.sparse, tries := c.tries } who help m).snd.snd)
      else
       bif decide (x.pc = 5) then
        bif (PMem.eCas m who (wrI (wrI ((slotOf x.w).snd.fst + 1) + x.x.index)) x.cell (putCell x.x.value false 0)).fst then
         K true ⟨⟨(x.x.kind), (x.x.handle), (x.x.index), (x.x.value), (x.x.old)⟩, (x.own), (x.hs), (x.hg), 0, (x.w), (x.cell), (x.seen), (x.read), (x.size), (some (help)), ⟨0, 0, ((cellOf x.cell).fst), ((PMem.eCas m who (wrI (wrI ((slotOf x.w).snd.fst + 1) + x.x.index)) x.cell (putCell x.x.value false 0)).snd.steps)⟩⟩ ((PMem.eCas m who (wrI (wrI ((slotOf x.w).snd.fst + 1) + x.x.index)) x.cell (putCell x.x.value false 0)).snd)
        else
         K false ⟨⟨(x.x.kind), (x.x.handle), (x.x.index), (x.x.value), (x.x.old)⟩, (x.own), (x.hs), (x.hg), 0, (x.w), (x.cell), (x.seen), (x.read), (x.size), (some (help)), ⟨(x.out.e), (x.out.h), (x.out.v), (x.out.st)⟩⟩ ((PMem.eCas m who (wrI (wrI ((slotOf x.w).snd.fst + 1) + x.x.index)) x.cell (putCell x.x.value false 0)).snd)
       else
        tw (fun p => (((p ∧ p) ∧ p) ∧ p)) (
         bif !live (slotOf (PMem.eLoad m who (lSlot c.threads c.slots c.chunks c.words c.gens c.sparse c.tries x.hs)).fst).fst (slotOf (PMem.eLoad m who (lSlot c.threads c.slots c.chunks c.words c.gens c.sparse c.tries x.hs)).fst).snd.fst (slotOf (PMem.eLoad m who (lSlot c.threads c.slots c.chunks c.words c.gens c.sparse c.tries x.hs)).fst).snd.snd.fst (slotOf (PMem.eLoad m who (lSlot c.threads c.slots c.chunks c.words c.gens c.sparse c.tries x.hs)).fst).snd.snd.snd x.hs x.hg then
          K true ⟨⟨(x.x.kind), (x.x.handle), (x.x.index), (x.x.value), (x.x.old)⟩, (x.own), (x.hs), (x.hg), (x.pc), (x.w), (x.cell), (x.seen), (x.read), (x.size), (some (help)), ⟨3, 0, 0, ((PMem.eLoad m who (lSlot c.threads c.slots c.chunks c.words c.gens c.sparse c.tries x.hs)).snd.steps)⟩⟩ ((PMem.eLoad m who (lSlot c.threads c.slots c.chunks c.words c.gens c.sparse c.tries x.hs)).snd)
         else
          bif !decide ((slotOf (PMem.eLoad m who (lSlot c.threads c.slots c.chunks c.words c.gens c.sparse c.tries x.hs)).fst).snd.fst = (slotOf x.w).snd.fst) then
           K false ⟨⟨(x.x.kind), (x.x.handle), (x.x.index), (x.x.value), (x.x.old)⟩, (x.own), (x.hs), (x.hg), 0, (x.w), (x.cell), (x.seen), (x.read), (x.size), (some (help)), ⟨(x.out.e), (x.out.h), (x.out.v), (x.out.st)⟩⟩ ((PMem.eLoad m who (lSlot c.threads c.slots c.chunks c.words c.gens c.sparse c.tries x.hs)).snd)
          else
           bif decide (x.x.kind = 3) then
            K true ⟨⟨(x.x.kind), (x.x.handle), (x.x.index), (x.x.value), (x.x.old)⟩, (x.own), (x.hs), (x.hg), (x.pc), (x.w), (x.cell), (x.seen), (x.read), (x.size), (some (help)), ⟨8, 0, ((cellOf x.cell).fst), (x.read)⟩⟩ ((PMem.eLoad m who (lSlot c.threads c.slots c.chunks c.words c.gens c.sparse c.tries x.hs)).snd)
           else
            K true ⟨⟨(x.x.kind), (x.x.handle), (x.x.index), (x.x.value), (x.x.old)⟩, (x.own), (x.hs), (x.hg), (x.pc), (x.w), (x.cell), (x.seen), (x.read), (x.size), (some (help)), ⟨0, 0, ((cellOf x.cell).fst), (x.read)⟩⟩ ((PMem.eLoad m who (lSlot c.threads c.slots c.chunks c.words c.gens c.sparse c.tries x.hs)).snd))

def accessStep1 (c : PCfg) (who : Int) (x : PAccess) (help : PHelp) (m : PMem) : Bool × PAccess × PMem := accessStep1K (false, x, m) twV c who x help m fun r x m => (r, x, m)

theorem accessStep1K_eq (c : PCfg) (who : Int) (x : PAccess) (help : PHelp) (m : PMem) (K : Bool → PAccess → PMem → Prop) : accessStep1K False twP c who x help m K = K (accessStep1 c who x help m).1 (accessStep1 c who x help m).2.1 (accessStep1 c who x help m).2.2 := by
  show _ = app3 K (accessStep1K (false, x, m) twV c who x help m fun r x m => (r, x, m))
  unfold accessStep1K
  repeat' first
    | refine cond3 ?_ ?_
    | refine tw3 (fun p => by simp only [and_self]) ?_
    | exact rfl

def accessStep (c : PCfg) (who : Int) (x : PAccess) (m : PMem) : Bool × PAccess × PMem := match x.help with
  | none => accessStep0 c who x m
  | some help => accessStep1 c who x help m

end Go.FL

/-
  Steps of one who is alone: what they come to, so many of them.
-/
set_option linter.unusedVariables false
set_option linter.unusedSimpArgs false
set_option maxRecDepth 20000
namespace Go.FL
open Go

/-! ### The memory's operations where the address is one -/

section
variable {m : PMem} {who a b d : Int}

theorem PMem.touch_w : (m.touch who a).w = m.w := rfl
theorem PMem.touch_n : (m.touch who a).n = m.n := rfl
theorem PMem.touch_steps : (m.touch who a).steps = wrI (m.steps + 1) := rfl
theorem PMem.lay_w : (m.lay who a b).w = upd m.w a.toNat b := rfl
theorem PMem.lay_n : (m.lay who a b).n = m.n := rfl
theorem PMem.lay_steps : (m.lay who a b).steps = wrI (m.steps + 1) := rfl

theorem upd_eq (f : Nat → Int) (i j : Nat) (v : Int) : upd f i v j = if j = i then v else f j := by
  unfold upd
  by_cases h : j = i
  · subst h; rw [Nat.beq_refl, if_pos rfl]; rfl
  · have : Nat.beq j i = false := Bool.eq_false_iff.2 fun hc => h (Nat.eq_of_beq_eq_true hc)
    rw [this, if_neg h]; rfl

theorem upd_same (f : Nat → Int) (i : Nat) (v : Int) : upd f i v i = v := by rw [upd_eq, if_pos rfl]
theorem upd_other (f : Nat → Int) {i j : Nat} (v : Int) (h : j ≠ i) : upd f i v j = f j := by rw [upd_eq, if_neg h]

theorem PMem.eLoad_in (h0 : 0 ≤ a) (h1 : a < m.n) : m.eLoad who a = (m.w a.toNat, m.touch who a) := by
  unfold PMem.eLoad
  rw [if_neg (by omega), if_neg (by omega)]

theorem PMem.eStore_in (h0 : 0 ≤ a) (h1 : a < m.n) : m.eStore who a b = m.lay who a b := by
  unfold PMem.eStore
  rw [if_neg (by omega), if_neg (by omega)]

theorem PMem.eCas_in (h0 : 0 ≤ a) (h1 : a < m.n) (h : m.w a.toNat = b) : m.eCas who a b d = (true, m.lay who a d) := by
  unfold PMem.eCas
  rw [if_neg (by omega), if_neg (by omega), if_pos h]

theorem PMem.eAdd_in (h0 : 0 ≤ a) (h1 : a < m.n) : m.eAdd who a b = m.lay who a (wrU (m.w a.toNat + wrU b)) := by
  unfold PMem.eAdd
  rw [if_neg (by omega), if_neg (by omega)]

theorem PMem.peek_in (h0 : 0 ≤ a) (h1 : a < m.n) : m.peek a = m.w a.toNat := by
  unfold PMem.peek
  rw [if_neg (by omega), if_neg (by omega)]
end

/-! ### So many steps -/

/-- 'step' ends behind so many steps. -/
inductive RunsTo {S : Type} (step : S → PMem → Bool × S × PMem) : S → PMem → Nat → S → PMem → Prop
  | last {s s' : S} {m m' : PMem} (h : step s m = (true, s', m')) : RunsTo step s m 1 s' m'
  | more {s s1 s' : S} {m m1 m' : PMem} {k : Nat} (h : step s m = (false, s1, m1)) (r : RunsTo step s1 m1 k s' m') : RunsTo step s m (k + 1) s' m'

/-- So many steps that do not end it. -/
inductive GoesTo {S : Type} (step : S → PMem → Bool × S × PMem) : S → PMem → Nat → S → PMem → Prop
  | here {s : S} {m : PMem} : GoesTo step s m 0 s m
  | more {s s1 s' : S} {m m1 m' : PMem} {k : Nat} (h : step s m = (false, s1, m1)) (r : GoesTo step s1 m1 k s' m') : GoesTo step s m (k + 1) s' m'

theorem GoesTo.runs {S : Type} {step : S → PMem → Bool × S × PMem} {s s1 s' : S} {m m1 m' : PMem} {k j : Nat} (h : GoesTo step s m k s1 m1) (r : RunsTo step s1 m1 j s' m') : RunsTo step s m (k + j) s' m' := by
  induction h with
  | here => rw [Nat.zero_add]; exact r
  | more h _ ih => rw [Nat.succ_add]; exact .more h (ih r)

theorem GoesTo.trans {S : Type} {step : S → PMem → Bool × S × PMem} {s s1 s' : S} {m m1 m' : PMem} {k j : Nat} (h : GoesTo step s m k s1 m1) (r : GoesTo step s1 m1 j s' m') : GoesTo step s m (k + j) s' m' := by
  induction h with
  | here => rw [Nat.zero_add]; exact r
  | more h _ ih => rw [Nat.succ_add]; exact .more h (ih r)

/-- A run within so many steps. -/
theorem RunsTo.of_run {S : Type} {step : S → PMem → Bool × S × PMem} {run : Nat → S → PMem → S × PMem}
    (hs : ∀ n s m, run (n + 1) s m = match (step s m).1 with
      | true => ((step s m).2.1, (step s m).2.2)
      | false => run n (step s m).2.1 (step s m).2.2) {s s' : S} {m m' : PMem} {k : Nat} (h : RunsTo step s m k s' m') : ∀ n, k ≤ n → run n s m = (s', m') := by
  induction h with
  | last h =>
    intro n hn
    obtain ⟨q, rfl⟩ : ∃ q, n = q + 1 := ⟨n - 1, by omega⟩
    rw [hs, h]
  | more h _ ih =>
    intro n hn
    obtain ⟨q, rfl⟩ : ∃ q, n = q + 1 := ⟨n - 1, by omega⟩
    rw [hs, h]
    exact ih q (by omega)

end Go.FL

/-
  Where things stand, as plain numbers.
-/
set_option linter.unusedVariables false
set_option linter.unusedSimpArgs false
set_option maxRecDepth 20000
namespace Go.FL
open Go

theorem lSlot_eq {c1 c2 c3 c4 c5 c6 c7 a : Int} (h1 : 0 ≤ c1 ∧ c1 ≤ 1000000) (ha : 0 ≤ a ∧ a ≤ 1000000) : lSlot c1 c2 c3 c4 c5 c6 c7 a = 6 + c1 + 2 * a := by
  unfold lSlot lSlotK
  rw [wrI_id (n := 6 + c1) (by omega) (by omega), wrI_id (n := 2 * a) (by omega) (by omega), wrI_id (by omega) (by omega)]

theorem lChunk_eq {c1 c2 c3 c4 c5 c6 c7 a : Int} (h1 : 0 ≤ c1 ∧ c1 ≤ 1000000) (h2 : 0 ≤ c2 ∧ c2 ≤ 1000000) (ha : 0 ≤ a ∧ a ≤ 1000000) : lChunk c1 c2 c3 c4 c5 c6 c7 a = 6 + c1 + 2 * c2 + 3 * a := by
  unfold lChunk lChunkK
  rw [wrI_id (n := 6 + c1) (by omega) (by omega), wrI_id (n := 2 * c2) (by omega) (by omega), wrI_id (n := 6 + c1 + 2 * c2) (by omega) (by omega), wrI_id (n := 3 * a) (by omega) (by omega), wrI_id (by omega) (by omega)]

theorem lBase_eq {c1 c2 c3 c4 c5 c6 c7 a : Int} (h1 : 0 ≤ c1 ∧ c1 ≤ 1000000) (h2 : 0 ≤ c2 ∧ c2 ≤ 1000000) (h3 : 0 ≤ c3 ∧ c3 ≤ 1000000) (ha : 0 ≤ c4 * a ∧ c4 * a ≤ 1000000000000) :
    lBase c1 c2 c3 c4 c5 c6 c7 a = 6 + c1 + 2 * c2 + 3 * c3 + c4 * a := by
  unfold lBase lBaseK
  rw [wrI_id (n := 6 + c1) (by omega) (by omega), wrI_id (n := 2 * c2) (by omega) (by omega), wrI_id (n := 6 + c1 + 2 * c2) (by omega) (by omega), wrI_id (n := 3 * c3) (by omega) (by omega), wrI_id (n := 6 + c1 + 2 * c2 + 3 * c3) (by omega) (by omega),
    wrI_id (n := c4 * a) (by omega) (by omega), wrI_id (by omega) (by omega)]

theorem lOf_eq {c1 c2 c3 c4 c5 c6 c7 a : Int} (h1 : 0 ≤ c1 ∧ c1 ≤ 1000000) (h2 : 0 ≤ c2 ∧ c2 ≤ 1000000) (h3 : 0 ≤ c3 ∧ c3 ≤ 1000000) (h4 : 0 < c4) (hc : c4 * c3 ≤ 1000000000000) (hc0 : 0 ≤ c4 * c3)
    (k off : Int) (hk : a = 6 + c1 + 2 * c2 + 3 * c3 + (c4 * k + off)) (hk0 : 0 ≤ k) (hoff : 0 ≤ off ∧ off < c4) (hlt : c4 * k + off < c4 * c3) (hkm : k ≤ 1000000) : lOf c1 c2 c3 c4 c5 c6 c7 a = k := by
  have hck : 0 ≤ c4 * k := Int.mul_nonneg (by omega) hk0
  unfold lOf lOfK
  rw [Int.mul_zero, wrI_id (n := (0 : Int)) (by omega) (by omega)]
  rw [wrI_id (n := 6 + c1) (by omega) (by omega), wrI_id (n := 2 * c2) (by omega) (by omega), wrI_id (n := 6 + c1 + 2 * c2) (by omega) (by omega), wrI_id (n := 3 * c3) (by omega) (by omega), wrI_id (n := 6 + c1 + 2 * c2 + 3 * c3) (by omega) (by omega),
    wrI_id (n := c4 * c3) (by omega) (by omega), wrI_id (n := 6 + c1 + 2 * c2 + 3 * c3 + c4 * c3) (by omega) (by omega), wrI_id (n := 6 + c1 + 2 * c2 + 3 * c3 + 0) (by omega) (by omega), wrI_id (n := a - (6 + c1 + 2 * c2 + 3 * c3 + 0)) (by omega) (by omega)]
  have e1 : decide (a < 6 + c1 + 2 * c2 + 3 * c3 + 0) = false := by simp; omega
  have e2 : decide (6 + c1 + 2 * c2 + 3 * c3 + c4 * c3 ≤ a) = false := by simp; omega
  have e3 : decide (c4 = 0) = false := by simp; omega
  rw [e1, e2, e3]
  simp only [cond_false]
  have e4 : a - (6 + c1 + 2 * c2 + 3 * c3 + 0) = c4 * k + off := by omega
  rw [e4, Int.tdiv_eq_ediv_of_nonneg (by omega)]
  have e5 : (c4 * k + off) / c4 = k := by
    rw [Int.add_comm, Int.add_mul_ediv_left _ _ (by omega), Int.ediv_eq_zero_of_lt hoff.1 hoff.2, Int.zero_add]
  rw [e5]
  exact wrI_id hk0 (by omega)

theorem lOpen_eq {a : Int} (ha : 0 ≤ a ∧ a ≤ 1000000) : wrI (2 + a) = 2 + a := wrI_id (by omega) (by omega)

/-- The class of a size, and its room. -/
theorem lClass_eq (n : Int) (h : 1 ≤ n ∧ n ≤ 16) : lClass n = if n ≤ 2 then 0 else if n ≤ 4 then 1 else if n ≤ 8 then 2 else 3 := by
  have key : ∀ k : Fin 16, lClass ((k.val : Int) + 1) = if ((k.val : Int) + 1) ≤ 2 then 0 else if ((k.val : Int) + 1) ≤ 4 then 1 else if ((k.val : Int) + 1) ≤ 8 then 2 else 3 := by decide
  have := key ⟨(n - 1).toNat, by omega⟩
  have e : (((n - 1).toNat : Nat) : Int) + 1 = n := by omega
  simp only [e] at this
  exact this

theorem lClass_neg (n : Int) (h : n < 1 ∨ 16 < n) : lClass n = -1 := by
  unfold lClass lClassK
  have w0 : wrI (2 * 2 ^ min (Int.toNat 0) (IntKind.bits IntKind.i64)) = 2 := by decide
  have w1 : wrI (2 * 2 ^ min (Int.toNat (wrI (0 + 1))) (IntKind.bits IntKind.i64)) = 4 := by decide
  have w2 : wrI (2 * 2 ^ min (Int.toNat (wrI (wrI (0 + 1) + 1))) (IntKind.bits IntKind.i64)) = 8 := by decide
  have w3 : wrI (2 * 2 ^ min (Int.toNat (wrI (wrI (wrI (0 + 1) + 1) + 1))) (IntKind.bits IntKind.i64)) = 16 := by decide
  simp only [w0, w1, w2, w3]
  rcases h with h | h
  · have : decide (1 ≤ n) = false := by simp; omega
    simp [this]
  · have h1 : decide (1 ≤ n) = true := by simp; omega
    have h2 : decide (n ≤ 2) = false := by simp; omega
    have h3 : decide (n ≤ 4) = false := by simp; omega
    have h4 : decide (n ≤ 8) = false := by simp; omega
    have h5 : decide (n ≤ 16) = false := by simp; omega
    simp [h1, h2, h3, h4, h5]

theorem lRoom_0 : lRoom 0 = 3 := by decide
theorem lRoom_1 : lRoom 1 = 5 := by decide
theorem lRoom_2 : lRoom 2 = 9 := by decide
theorem lRoom_3 : lRoom 3 = 17 := by decide

end Go.FL

/-
  An object is made alone: step by step.
-/
set_option linter.unusedVariables false
set_option linter.unusedSimpArgs false
set_option maxRecDepth 20000
namespace Go.FL
open Go

section
variable (c : PCfg) (who size : Int) (own ok : Bool) (top next slot at_ gen sa sc : Int) (out : PDone) (p : PPlace) (g : PGive) (tk : PTake) (m : PMem)

theorem al_0 : allocStep c who ⟨size, own, 0, ⟨0, top, next, slot, ok⟩, at_, gen, none, sa, sc, none, out⟩ m =
    (bif decide (lClass size < 0) then (true, ⟨size, own, 0, ⟨0, top, next, slot, ok⟩, at_, gen, none, sa, sc, none, ⟨5, 0, 0, m.steps⟩⟩, m)
    else bif decide ((topOf (m.eLoad who 1).1).1 < 0) then
      bif !ok then (true, ⟨size, own, 1, ⟨1, (m.eLoad who 1).1, next, (topOf (m.eLoad who 1).1).1, ok⟩, 0, gen, none, sa, sc, none, ⟨7, 0, 0, (m.eLoad who 1).2.steps⟩⟩, (m.eLoad who 1).2)
      else (false, ⟨size, own, 1, ⟨1, (m.eLoad who 1).1, next, (topOf (m.eLoad who 1).1).1, ok⟩, (topOf (m.eLoad who 1).1).1, gen, none, sa, sc, none, out⟩, (m.eLoad who 1).2)
    else (false, ⟨size, own, 0, ⟨1, (m.eLoad who 1).1, next, (topOf (m.eLoad who 1).1).1, ok⟩, at_, gen, none, sa, sc, none, out⟩, (m.eLoad who 1).2)) := by kernel_rfl

theorem al_1 : allocStep c who ⟨size, own, 0, ⟨1, top, next, slot, false⟩, at_, gen, none, sa, sc, none, out⟩ m =
    (bif decide (lClass size < 0) then (true, ⟨size, own, 0, ⟨1, top, next, slot, false⟩, at_, gen, none, sa, sc, none, ⟨5, 0, 0, m.steps⟩⟩, m)
    else (false, ⟨size, own, 0, ⟨2, top, (topOf (m.eLoad who (wrI (lSlot c.threads c.slots c.chunks c.words c.gens c.sparse c.tries slot + 1))).1).1, slot, false⟩, at_, gen, none, sa, sc, none, out⟩,
      (m.eLoad who (wrI (lSlot c.threads c.slots c.chunks c.words c.gens c.sparse c.tries slot + 1))).2)) := by kernel_rfl

theorem al_2 : allocStep c who ⟨size, own, 0, ⟨2, top, next, slot, ok⟩, at_, gen, none, sa, sc, none, out⟩ m =
    (bif decide (lClass size < 0) then (true, ⟨size, own, 0, ⟨2, top, next, slot, ok⟩, at_, gen, none, sa, sc, none, ⟨5, 0, 0, m.steps⟩⟩, m)
    else bif (m.eCas who 1 top (putTop next (wrI ((topOf top).2 + 1)))).1 then
      bif !(m.eCas who 1 top (putTop next (wrI ((topOf top).2 + 1)))).1 then
        (true, ⟨size, own, 1, ⟨0, top, next, slot, (m.eCas who 1 top (putTop next (wrI ((topOf top).2 + 1)))).1⟩, 0, gen, none, sa, sc, none, ⟨7, 0, 0, (m.eCas who 1 top (putTop next (wrI ((topOf top).2 + 1)))).2.steps⟩⟩, (m.eCas who 1 top (putTop next (wrI ((topOf top).2 + 1)))).2)
      else (false, ⟨size, own, 1, ⟨0, top, next, slot, (m.eCas who 1 top (putTop next (wrI ((topOf top).2 + 1)))).1⟩, slot, gen, none, sa, sc, none, out⟩, (m.eCas who 1 top (putTop next (wrI ((topOf top).2 + 1)))).2)
    else (false, ⟨size, own, 0, ⟨0, top, next, slot, (m.eCas who 1 top (putTop next (wrI ((topOf top).2 + 1)))).1⟩, at_, gen, none, sa, sc, none, out⟩, (m.eCas who 1 top (putTop next (wrI ((topOf top).2 + 1)))).2)) := by kernel_rfl

theorem al_see : allocStep c who ⟨size, own, 1, tk, at_, gen, none, sa, sc, none, out⟩ m =
    (false, ⟨size, own, 2, tk, at_, (slotOf (m.eLoad who (lSlot c.threads c.slots c.chunks c.words c.gens c.sparse c.tries at_)).1).2.2.1, some ⟨lClass size, 0, 0, 0, 0, 0, 0, false⟩, sa, sc, none, out⟩,
      (m.eLoad who (lSlot c.threads c.slots c.chunks c.words c.gens c.sparse c.tries at_)).2) := by kernel_rfl

theorem al_place : allocStep c who ⟨size, own, 2, tk, at_, gen, some p, sa, sc, none, out⟩ m =
    (bif (placeStep c who p m).1 then bif !(placeStep c who p m).2.1.ok then
        (false, ⟨size, own, 7, tk, at_, gen, some (placeStep c who p m).2.1, (bif (placeStep c who p m).2.1.ok then (placeStep c who p m).2.1.sa else 0), (bif (placeStep c who p m).2.1.ok then (placeStep c who p m).2.1.sc else 0), some ⟨0, at_, 0⟩, ⟨6, 0, 0, (placeStep c who p m).2.2.steps⟩⟩, (placeStep c who p m).2.2)
      else (false, ⟨size, own, 3, tk, at_, gen, some (placeStep c who p m).2.1, (bif (placeStep c who p m).2.1.ok then (placeStep c who p m).2.1.sa else 0), (bif (placeStep c who p m).2.1.ok then (placeStep c who p m).2.1.sc else 0), none, out⟩, (placeStep c who p m).2.2)
    else (false, ⟨size, own, 2, tk, at_, gen, some (placeStep c who p m).2.1, sa, sc, none, out⟩, (placeStep c who p m).2.2)) := by kernel_rfl

theorem al_count : allocStep c who ⟨size, own, 3, tk, at_, gen, some p, sa, sc, none, out⟩ m =
    (false, ⟨size, own, 4, tk, at_, gen, some p, sa, sc, none, out⟩, m.eAdd who (wrI (lChunk c.threads c.slots c.chunks c.words c.gens c.sparse c.tries sc + 1)) (lRoom (lClass size))) := by kernel_rfl

theorem al_head : allocStep c who ⟨size, own, 4, tk, at_, gen, some p, sa, sc, none, out⟩ m =
    (false, ⟨size, own, 5, tk, at_, gen, some p, sa, sc, none, out⟩, m.eStore who sa (putHead 1 size at_ gen own)) := by kernel_rfl

theorem al_show : allocStep c who ⟨size, own, 5, tk, at_, gen, some p, sa, sc, none, out⟩ m =
    (false, ⟨size, own, 6, tk, at_, gen, some p, sa, sc, none, ⟨0, putHandle at_ gen, 0, (m.eStore who (lSlot c.threads c.slots c.chunks c.words c.gens c.sparse c.tries at_) (putSlot 1 sa gen 0)).steps⟩⟩,
      m.eStore who (lSlot c.threads c.slots c.chunks c.words c.gens c.sparse c.tries at_) (putSlot 1 sa gen 0)) := by kernel_rfl

theorem al_ready : allocStep c who ⟨size, own, 6, tk, at_, gen, some p, sa, sc, none, out⟩ m =
    (true, ⟨size, own, 6, tk, at_, gen, some p, sa, sc, none, out⟩, m.eStore who sa (putHead 2 size at_ gen own)) := by kernel_rfl

end
end Go.FL

/-
  Words of a chunk are got alone: step by step.
-/
set_option linter.unusedVariables false
set_option linter.unusedSimpArgs false
set_option maxRecDepth 20000
namespace Go.FL
open Go

section
variable (c : PCfg) (who cls opn at_ w sa sc : Int) (ok : Bool) (m : PMem)

abbrev chA (c : PCfg) (k : Int) : Int := lChunk c.threads c.slots c.chunks c.words c.gens c.sparse c.tries k

theorem pl_look : placeStep c who ⟨cls, 0, opn, at_, w, sa, sc, ok⟩ m =
    (bif decide (wrI (wrI (m.eLoad who (wrI (2 + cls))).1 - 1) < 0) then (false, ⟨cls, 3, (m.eLoad who (wrI (2 + cls))).1, 0, w, sa, sc, ok⟩, (m.eLoad who (wrI (2 + cls))).2)
    else (false, ⟨cls, 1, (m.eLoad who (wrI (2 + cls))).1, wrI (wrI (m.eLoad who (wrI (2 + cls))).1 - 1), w, sa, sc, ok⟩, (m.eLoad who (wrI (2 + cls))).2)) := by kernel_rfl

theorem pl_see : placeStep c who ⟨cls, 1, opn, at_, w, sa, sc, ok⟩ m =
    (bif !decide ((chunkOf (m.eLoad who (chA c at_)).1).1 = 1) then (false, ⟨cls, 3, opn, 0, (m.eLoad who (chA c at_)).1, sa, sc, ok⟩, (m.eLoad who (chA c at_)).2)
    else bif !decide ((chunkOf (m.eLoad who (chA c at_)).1).2.1 = cls) then (false, ⟨cls, 3, opn, 0, (m.eLoad who (chA c at_)).1, sa, sc, ok⟩, (m.eLoad who (chA c at_)).2)
    else bif decide (c.words < wrI ((chunkOf (m.eLoad who (chA c at_)).1).2.2.1 + lRoom cls)) then (false, ⟨cls, 3, opn, 0, (m.eLoad who (chA c at_)).1, sa, sc, ok⟩, (m.eLoad who (chA c at_)).2)
    else (false, ⟨cls, 2, opn, at_, (m.eLoad who (chA c at_)).1, sa, sc, ok⟩, (m.eLoad who (chA c at_)).2)) := by kernel_rfl

abbrev plUsed (cls w : Int) : Int := putChunk (chunkOf w).1 (chunkOf w).2.1 (wrI ((chunkOf w).2.2.1 + lRoom cls)) (chunkOf w).2.2.2

theorem pl_get : placeStep c who ⟨cls, 2, opn, at_, w, sa, sc, ok⟩ m =
    (bif !(m.eCas who (chA c at_) w (plUsed cls w)).1 then (false, ⟨cls, 0, opn, at_, w, sa, sc, ok⟩, (m.eCas who (chA c at_) w (plUsed cls w)).2)
    else (true, ⟨cls, 0, opn, at_, w, wrI (lBase c.threads c.slots c.chunks c.words c.gens c.sparse c.tries at_ + (chunkOf w).2.2.1), at_, true⟩, (m.eCas who (chA c at_) w (plUsed cls w)).2)) := by kernel_rfl

theorem pl_scan : placeStep c who ⟨cls, 3, opn, at_, w, sa, sc, ok⟩ m =
    (bif !decide ((chunkOf (m.eLoad who (chA c at_)).1).1 = 0) then (decide (c.chunks ≤ wrI (at_ + 1)), ⟨cls, 3, opn, wrI (at_ + 1), (m.eLoad who (chA c at_)).1, sa, sc, ok⟩, (m.eLoad who (chA c at_)).2)
    else (false, ⟨cls, 4, opn, at_, (m.eLoad who (chA c at_)).1, sa, sc, ok⟩, (m.eLoad who (chA c at_)).2)) := by kernel_rfl

abbrev plFresh (cls w : Int) : Int := putChunk 1 cls 0 (wrI ((chunkOf w).2.2.2 + 1))

theorem pl_take : placeStep c who ⟨cls, 4, opn, at_, w, sa, sc, ok⟩ m =
    (bif !(m.eCas who (chA c at_) w (plFresh cls w)).1 then (decide (c.chunks ≤ wrI (at_ + 1)), ⟨cls, 3, opn, wrI (at_ + 1), w, sa, sc, ok⟩, (m.eCas who (chA c at_) w (plFresh cls w)).2)
    else (false, ⟨cls, 5, opn, at_, w, sa, sc, ok⟩, (m.eCas who (chA c at_) w (plFresh cls w)).2)) := by kernel_rfl

theorem pl_open : placeStep c who ⟨cls, 5, opn, at_, w, sa, sc, ok⟩ m =
    (bif (m.eCas who (wrI (2 + cls)) opn (wrU (wrI (at_ + 1)))).1 then (false, ⟨cls, 0, opn, at_, w, sa, sc, ok⟩, (m.eCas who (wrI (2 + cls)) opn (wrU (wrI (at_ + 1)))).2)
    else (false, ⟨cls, 6, opn, at_, w, sa, sc, ok⟩, (m.eCas who (wrI (2 + cls)) opn (wrU (wrI (at_ + 1)))).2)) := by kernel_rfl

end
end Go.FL

/-
  An arena's memory as it must be: what somebody who is alone keeps.
-/
set_option linter.unusedVariables false
set_option linter.unusedSimpArgs false
set_option maxRecDepth 20000
namespace Go.FL
open Go

/-- A slot's state, its object's place and size; a chunk's state, and how many of its words are used. -/
def oS (w : Nat → Int) (i : Nat) : Int := w (7 + 2 * i) % 8
def oA (w : Nat → Int) (i : Nat) : Nat := (w (7 + 2 * i) / 8 % 1048576).toNat
def zA (w : Nat → Int) (a : Nat) : Nat := (w a / 4 % 65536).toNat
def oZ (w : Nat → Int) (i : Nat) : Nat := zA w (oA w i)
def kS (w : Nat → Int) (k : Nat) : Int := w (19 + 3 * k) % 4
def kU (w : Nat → Int) (k : Nat) : Nat := (w (19 + 3 * k) / 256 % 1048576).toNat

def Prs (w : Nat → Int) (i : Nat) : Prop := oS w i = 1 ∨ oS w i = 4

/-- Words that lie within the used part of one chunk. -/
def Inc (w : Nat → Int) (a z : Nat) : Prop := ∀ k, k < 8 → a + z < 43 + 40 * k + kU w k ∨ 83 + 40 * k ≤ a

/-- Two objects that do not meet. -/
def Apt (a z b y : Nat) : Prop := a + z < b ∨ b + y < a

structure Shape (D : Nat) (w : Nat → Int) : Prop where
  wd : ∀ a, a < 363 → 0 ≤ w a ∧ w a < 18446744073709551616
  ep : w 0 = 0
  top : w 1 % 131072 ≤ 6
  link : ∀ i, i < 6 → w (8 + 2 * i) % 131072 ≤ 6
  opn : ∀ k, k < 4 → w (2 + k) ≤ 8
  chs : ∀ k, k < 8 → kS w k ≤ 1 ∧ kU w k ≤ 40 ∧ (kS w k = 0 → kU w k = 0)
  zer : ∀ k j, k < 8 → j < 40 → kU w k ≤ j → w (43 + 40 * k + j) = 0
  sts : ∀ i, i < 6 → oS w i = 0 ∨ oS w i = 1 ∨ oS w i = 3 ∨ oS w i = 4 ∧ i = D
  rng : ∀ i, i < 6 → Prs w i → 43 ≤ oA w i ∧ oA w i + oZ w i < 363 ∧ oZ w i ≤ 16
  inc : ∀ i, i < 6 → Prs w i → Inc w (oA w i) (oZ w i)
  dis : ∀ i j, i < 6 → j < 6 → i ≠ j → Prs w i → Prs w j → Apt (oA w i) (oZ w i) (oA w j) (oZ w j)
  cel : ∀ i j, i < 6 → oS w i = 1 → j < oZ w i → w (oA w i + 1 + j) < 9223372036854775808

theorem oS_upd (w : Nat → Int) (a i : Nat) (v : Int) : oS (upd w a v) i = if 7 + 2 * i = a then v % 8 else oS w i := by
  unfold oS; rw [upd_eq]; split <;> rfl
theorem oA_upd (w : Nat → Int) (a i : Nat) (v : Int) : oA (upd w a v) i = if 7 + 2 * i = a then (v / 8 % 1048576).toNat else oA w i := by
  unfold oA; rw [upd_eq]; split <;> rfl
theorem zA_upd (w : Nat → Int) (a b : Nat) (v : Int) : zA (upd w a v) b = if b = a then (v / 4 % 65536).toNat else zA w b := by
  unfold zA; rw [upd_eq]; split <;> rfl
theorem kS_upd (w : Nat → Int) (a i : Nat) (v : Int) : kS (upd w a v) i = if 19 + 3 * i = a then v % 4 else kS w i := by
  unfold kS; rw [upd_eq]; split <;> rfl
theorem kU_upd (w : Nat → Int) (a i : Nat) (v : Int) : kU (upd w a v) i = if 19 + 3 * i = a then (v / 256 % 1048576).toNat else kU w i := by
  unfold kU; rw [upd_eq]; split <;> rfl

section
variable {D : Nat} {w : Nat → Int} {a : Nat} {v : Int}

theorem Shape.kS_low (h : Shape D w) {k : Nat} (hk : k < 8) : 0 ≤ kS w k := by unfold kS; omega

/-- A word that is no slot's, no chunk's, no object's. -/
theorem Shape.ctl (h : Shape D w) (ha : a < 43) (h0 : a ≠ 0) (hv : 0 ≤ v ∧ v < 18446744073709551616) (hs : ∀ i, i < 6 → a ≠ 7 + 2 * i) (hc : ∀ k, k < 8 → a ≠ 19 + 3 * k)
    (ht : a ≠ 1 ∧ (∀ i, i < 6 → a ≠ 8 + 2 * i) ∨ v % 131072 ≤ 6) (ho : (a < 2 ∨ 5 < a) ∨ v ≤ 8) : Shape D (upd w a v) := by
  have eS : ∀ i, i < 6 → oS (upd w a v) i = oS w i := fun i hi => by rw [oS_upd, if_neg fun hc => hs i hi hc.symm]
  have eA : ∀ i, i < 6 → oA (upd w a v) i = oA w i := fun i hi => by rw [oA_upd, if_neg fun hc => hs i hi hc.symm]
  have eP : ∀ i, i < 6 → Prs (upd w a v) i → Prs w i := fun i hi hp => by unfold Prs at *; rw [eS i hi] at hp; exact hp
  have eZ : ∀ i, i < 6 → Prs w i → oZ (upd w a v) i = oZ w i := fun i hi hp => by
    have := (h.rng i hi hp).1
    unfold oZ; rw [eA i hi, zA_upd, if_neg (by omega)]
  have eU : ∀ k, k < 8 → kU (upd w a v) k = kU w k := fun k hk => by rw [kU_upd, if_neg fun h => hc k hk h.symm]
  have eC : ∀ k, k < 8 → kS (upd w a v) k = kS w k := fun k hk => by rw [kS_upd, if_neg fun h => hc k hk h.symm]
  constructor
  · intro b hb; rw [upd_eq]; split
    · exact hv
    · exact h.wd b hb
  · rw [upd_other _ _ (Ne.symm h0)]; exact h.ep
  · rw [upd_eq]; split
    · rcases ht with ht | ht
      · omega
      · exact ht
    · exact h.top
  · intro i hi; rw [upd_eq]; split
    · rename_i hc; rcases ht with ht | ht
      · exact absurd hc.symm (ht.2 i hi)
      · exact ht
    · exact h.link i hi
  · intro k hk; rw [upd_eq]; split
    · rcases ho with ho | ho
      · omega
      · exact ho
    · exact h.opn k hk
  · intro k hk; rw [eU k hk, eC k hk]; exact h.chs k hk
  · intro k j hk hj hu; rw [eU k hk] at hu; rw [upd_other _ _ (by omega)]; exact h.zer k j hk hj hu
  · intro i hi; rw [eS i hi]; exact h.sts i hi
  · intro i hi hp; have hp := eP i hi hp; rw [eA i hi, eZ i hi hp]; exact h.rng i hi hp
  · intro i hi hp k hk; have hp := eP i hi hp; rw [eA i hi, eZ i hi hp, eU k hk]; exact h.inc i hi hp k hk
  · intro i j hi hj hij hp hq
    have hp := eP i hi hp; have hq := eP j hj hq
    rw [eA i hi, eZ i hi hp, eA j hj, eZ j hj hq]; exact h.dis i j hi hj hij hp hq
  · intro i j hi hs1 hj
    rw [eS i hi] at hs1
    have hp : Prs w i := .inl hs1
    have hr := (h.rng i hi hp).1
    rw [eZ i hi hp] at hj
    rw [eA i hi, upd_other _ _ (by omega)]; exact h.cel i j hi hs1 hj

/-- A chunk's word: open, and more of its words used. -/
theorem Shape.chk (h : Shape D w) {k : Nat} (hk : k < 8) (hv : 0 ≤ v ∧ v < 18446744073709551616) (h1 : v % 4 = 1) (hu : kU w k ≤ (v / 256 % 1048576).toNat) (hu2 : (v / 256 % 1048576).toNat ≤ 40) : Shape D (upd w (19 + 3 * k) v) := by
  have eS : ∀ i, i < 6 → oS (upd w (19 + 3 * k) v) i = oS w i := fun i hi => by rw [oS_upd, if_neg (by omega)]
  have eA : ∀ i, i < 6 → oA (upd w (19 + 3 * k) v) i = oA w i := fun i hi => by rw [oA_upd, if_neg (by omega)]
  have eP : ∀ i, i < 6 → Prs (upd w (19 + 3 * k) v) i → Prs w i := fun i hi hp => by unfold Prs at *; rw [eS i hi] at hp; exact hp
  have eZ : ∀ i, i < 6 → Prs w i → oZ (upd w (19 + 3 * k) v) i = oZ w i := fun i hi hp => by
    have := (h.rng i hi hp).1
    unfold oZ; rw [eA i hi, zA_upd, if_neg (by omega)]
  have eU : ∀ q, kU w q ≤ kU (upd w (19 + 3 * k) v) q := fun q => by
    rw [kU_upd]; split
    · have : q = k := by omega
      subst this; exact hu
    · exact Nat.le_refl _
  constructor
  · intro b hb; rw [upd_eq]; split
    · exact hv
    · exact h.wd b hb
  · rw [upd_other _ _ (by omega)]; exact h.ep
  · rw [upd_other _ _ (by omega)]; exact h.top
  · intro i hi; rw [upd_other _ _ (by omega)]; exact h.link i hi
  · intro q hq; rw [upd_other _ _ (by omega)]; exact h.opn q hq
  · intro q hq; rw [kU_upd, kS_upd]; split
    · exact ⟨by omega, hu2, by omega⟩
    · exact h.chs q hq
  · intro q j hq hj hu
    have := eU q
    rw [upd_other _ _ (by omega)]; exact h.zer q j hq hj (by omega)
  · intro i hi; rw [eS i hi]; exact h.sts i hi
  · intro i hi hp; have hp := eP i hi hp; rw [eA i hi, eZ i hi hp]; exact h.rng i hi hp
  · intro i hi hp q hq; have hp := eP i hi hp; rw [eA i hi, eZ i hi hp]
    have := eU q
    rcases h.inc i hi hp q hq with h1 | h1
    · exact .inl (by omega)
    · exact .inr h1
  · intro i j hi hj hij hp hq
    have hp := eP i hi hp; have hq := eP j hj hq
    rw [eA i hi, eZ i hi hp, eA j hj, eZ j hj hq]; exact h.dis i j hi hj hij hp hq
  · intro i j hi hs1 hj
    rw [eS i hi] at hs1
    have hp : Prs w i := .inl hs1
    have hr := (h.rng i hi hp).1
    rw [eZ i hi hp] at hj
    rw [eA i hi, upd_other _ _ (by omega)]; exact h.cel i j hi hs1 hj

/-- A word of an object, or of words that are to be one. -/
theorem Shape.obj (h : Shape D w) (ha : 43 ≤ a) (hv : 0 ≤ v ∧ v < 18446744073709551616) (hu : ∀ k j, k < 8 → j < 40 → kU w k ≤ j → a ≠ 43 + 40 * k + j)
    (hh : ∀ i, i < 6 → Prs w i → a = oA w i → (v / 4 % 65536).toNat = oZ w i) (hc : ∀ i j, i < 6 → oS w i = 1 → j < oZ w i → a = oA w i + 1 + j → v < 9223372036854775808) : Shape D (upd w a v) := by
  have eS : ∀ i, i < 6 → oS (upd w a v) i = oS w i := fun i hi => by rw [oS_upd, if_neg (by omega)]
  have eA : ∀ i, i < 6 → oA (upd w a v) i = oA w i := fun i hi => by rw [oA_upd, if_neg (by omega)]
  have eP : ∀ i, i < 6 → Prs (upd w a v) i → Prs w i := fun i hi hp => by unfold Prs at *; rw [eS i hi] at hp; exact hp
  have eZ : ∀ i, i < 6 → Prs w i → oZ (upd w a v) i = oZ w i := fun i hi hp => by
    unfold oZ; rw [eA i hi, zA_upd]; split
    · rename_i he; exact hh i hi hp he.symm
    · rfl
  have eU : ∀ k, k < 8 → kU (upd w a v) k = kU w k := fun k hk => by rw [kU_upd, if_neg (by omega)]
  have eC : ∀ k, k < 8 → kS (upd w a v) k = kS w k := fun k hk => by rw [kS_upd, if_neg (by omega)]
  constructor
  · intro b hb; rw [upd_eq]; split
    · exact hv
    · exact h.wd b hb
  · rw [upd_other _ _ (by omega)]; exact h.ep
  · rw [upd_other _ _ (by omega)]; exact h.top
  · intro i hi; rw [upd_other _ _ (by omega)]; exact h.link i hi
  · intro q hq; rw [upd_other _ _ (by omega)]; exact h.opn q hq
  · intro k hk; rw [eU k hk, eC k hk]; exact h.chs k hk
  · intro k j hk hj hu2; rw [eU k hk] at hu2; rw [upd_other _ _ (Ne.symm (hu k j hk hj hu2))]; exact h.zer k j hk hj hu2
  · intro i hi; rw [eS i hi]; exact h.sts i hi
  · intro i hi hp; have hp := eP i hi hp; rw [eA i hi, eZ i hi hp]; exact h.rng i hi hp
  · intro i hi hp k hk; have hp := eP i hi hp; rw [eA i hi, eZ i hi hp, eU k hk]; exact h.inc i hi hp k hk
  · intro i j hi hj hij hp hq
    have hp := eP i hi hp; have hq := eP j hj hq
    rw [eA i hi, eZ i hi hp, eA j hj, eZ j hj hq]; exact h.dis i j hi hj hij hp hq
  · intro i j hi hs1 hj
    rw [eS i hi] at hs1
    rw [eZ i hi (.inl hs1)] at hj
    rw [eA i hi, upd_eq]; split
    · rename_i he; exact hc i j hi hs1 hj he.symm
    · exact h.cel i j hi hs1 hj

/-- A slot's word. -/
theorem Shape.slot (h : Shape D w) {i : Nat} (E : Nat) (hE : ∀ j, j < 6 → j ≠ i → j = D → j = E) (hi : i < 6) (hv : 0 ≤ v ∧ v < 18446744073709551616) (h1 : v % 8 = 0 ∨ v % 8 = 1 ∨ v % 8 = 3 ∨ v % 8 = 4 ∧ i = E)
    (h2 : v % 8 = 1 ∨ v % 8 = 4 → 43 ≤ (v / 8 % 1048576).toNat ∧ (v / 8 % 1048576).toNat + zA w (v / 8 % 1048576).toNat < 363 ∧ zA w (v / 8 % 1048576).toNat ≤ 16 ∧
      Inc w (v / 8 % 1048576).toNat (zA w (v / 8 % 1048576).toNat) ∧ (∀ j, j < 6 → j ≠ i → Prs w j → Apt (oA w j) (oZ w j) (v / 8 % 1048576).toNat (zA w (v / 8 % 1048576).toNat)))
    (h3 : v % 8 = 1 → ∀ j, j < zA w (v / 8 % 1048576).toNat → w ((v / 8 % 1048576).toNat + 1 + j) < 9223372036854775808) : Shape E (upd w (7 + 2 * i) v) := by
  generalize hA : (v / 8 % 1048576).toNat = A at h2 h3
  have eS : ∀ j, oS (upd w (7 + 2 * i) v) j = if j = i then v % 8 else oS w j := fun j => by
    rw [oS_upd]; by_cases hc : j = i
    · rw [if_pos (by omega), if_pos hc]
    · rw [if_neg (by omega), if_neg hc]
  have eA : ∀ j, oA (upd w (7 + 2 * i) v) j = if j = i then A else oA w j := fun j => by
    rw [oA_upd]; by_cases hc : j = i
    · rw [if_pos (by omega), if_pos hc, hA]
    · rw [if_neg (by omega), if_neg hc]
  have eZ1 : ∀ b, 43 ≤ b → zA (upd w (7 + 2 * i) v) b = zA w b := fun b hb => by rw [zA_upd, if_neg (by omega)]
  have eU : ∀ k, k < 8 → kU (upd w (7 + 2 * i) v) k = kU w k := fun k hk => by rw [kU_upd, if_neg (by omega)]
  have eC : ∀ k, k < 8 → kS (upd w (7 + 2 * i) v) k = kS w k := fun k hk => by rw [kS_upd, if_neg (by omega)]
  have hPi : Prs (upd w (7 + 2 * i) v) i → v % 8 = 1 ∨ v % 8 = 4 := fun hp => by unfold Prs at hp; rw [eS, if_pos rfl] at hp; exact hp
  have hPj : ∀ j, j ≠ i → Prs (upd w (7 + 2 * i) v) j → Prs w j := fun j hj hp => by unfold Prs at *; rw [eS, if_neg hj] at hp; exact hp
  have eZi : Prs (upd w (7 + 2 * i) v) i → oZ (upd w (7 + 2 * i) v) i = zA w A := fun hp => by
    unfold oZ; rw [eA, if_pos rfl, eZ1 A (h2 (hPi hp)).1]
  have eZj : ∀ j, j < 6 → j ≠ i → Prs w j → oZ (upd w (7 + 2 * i) v) j = oZ w j := fun j hj hn hp => by
    unfold oZ; rw [eA, if_neg hn, eZ1 _ (h.rng j hj hp).1]
  constructor
  · intro b hb; rw [upd_eq]; split
    · exact hv
    · exact h.wd b hb
  · rw [upd_other _ _ (by omega)]; exact h.ep
  · rw [upd_other _ _ (by omega)]; exact h.top
  · intro j hj; rw [upd_other _ _ (by omega)]; exact h.link j hj
  · intro q hq; rw [upd_other _ _ (by omega)]; exact h.opn q hq
  · intro k hk; rw [eU k hk, eC k hk]; exact h.chs k hk
  · intro k j hk hj hu; rw [eU k hk] at hu; rw [upd_other _ _ (by omega)]; exact h.zer k j hk hj hu
  · intro j hj; rw [eS]; split
    · rename_i hc; subst hc; exact h1
    · rename_i hc
      rcases h.sts j hj with h4 | h4 | h4 | h4
      · exact .inl h4
      · exact .inr (.inl h4)
      · exact .inr (.inr (.inl h4))
      · exact .inr (.inr (.inr ⟨h4.1, hE j hj hc h4.2⟩))
  · intro j hj hp
    by_cases hc : j = i
    · subst hc; rw [eZi hp, eA, if_pos rfl]; have := h2 (hPi hp); exact ⟨this.1, this.2.1, this.2.2.1⟩
    · have hp := hPj j hc hp; rw [eZj j hj hc hp, eA, if_neg hc]; exact h.rng j hj hp
  · intro j hj hp k hk
    rw [eU k hk]
    by_cases hc : j = i
    · subst hc; rw [eZi hp, eA, if_pos rfl]; exact (h2 (hPi hp)).2.2.2.1 k hk
    · have hp := hPj j hc hp; rw [eZj j hj hc hp, eA, if_neg hc]; exact h.inc j hj hp k hk
  · intro j q hj hq hjq hp hp'
    by_cases hc : j = i
    · subst hc
      have hn : q ≠ j := fun h => hjq h.symm
      have hp' := hPj q hn hp'
      rw [eZi hp, eZj q hq hn hp', eA, if_pos rfl, eA, if_neg hn]
      have := (h2 (hPi hp)).2.2.2.2 q hq hn hp'
      unfold Apt at *; omega
    · have hp2 := hPj j hc hp
      by_cases hd : q = i
      · subst hd
        rw [eZi hp', eZj j hj hc hp2, eA, if_neg hc, eA, if_pos rfl]
        exact (h2 (hPi hp')).2.2.2.2 j hj hc hp2
      · have hp3 := hPj q hd hp'
        rw [eZj j hj hc hp2, eZj q hq hd hp3, eA, if_neg hc, eA, if_neg hd]
        exact h.dis j q hj hq hjq hp2 hp3
  · intro j q hj hs1 hq
    have hp : Prs (upd w (7 + 2 * i) v) j := .inl hs1
    by_cases hc : j = i
    · subst hc
      rw [eS, if_pos rfl] at hs1
      have h4 := (h2 (.inl hs1)).1
      rw [eZi hp] at hq
      rw [eA, if_pos rfl, upd_other _ _ (by omega)]
      exact h3 hs1 q hq
    · rw [eS, if_neg hc] at hs1
      have h4 := h.rng j hj (.inl hs1)
      rw [eZj j hj hc (.inl hs1)] at hq
      rw [eA, if_neg hc, upd_other _ _ (by omega)]
      exact h.cel j q hj hs1 hq

end

/-- The memory of an arena, at so many steps. -/
structure Inv (D : Nat) (L B : Int) (m : PMem) : Prop where
  n : m.n = 363
  sh : Shape D m.w
  lo : 0 ≤ L ∧ L ≤ m.steps
  hi : m.steps ≤ B
  tm : True

section
variable {D : Nat} {L B : Int} {m : PMem} {who a v : Int}

theorem Inv.le (h : Inv D L B m) {L' B' : Int} (h1 : 0 ≤ L' ∧ L' ≤ L) (h2 : B ≤ B') : Inv D L' B' m := ⟨h.n, h.sh, ⟨h1.1, Int.le_trans h1.2 h.lo.2⟩, Int.le_trans h.hi h2, h.tm⟩

theorem Inv.here (h : Inv D L B m) : Inv D m.steps B m := ⟨h.n, h.sh, ⟨Int.le_trans h.lo.1 h.lo.2, Int.le_refl _⟩, h.hi, h.tm⟩

theorem Inv.step_eq (h : Inv D L B m) (hB : B ≤ 1000000000000) : wrI (m.steps + 1) = m.steps + 1 := by
  have := h.lo; have := h.hi
  exact wrI_id (by omega) (by omega)

theorem Inv.touch (h : Inv D L B m) (hB : B ≤ 1000000000000) : Inv D L (B + 1) (m.touch who a) := by
  have e := h.step_eq hB
  have := h.lo; have := h.hi
  refine ⟨h.n, h.sh, ?_, ?_, ?_⟩
  · rw [PMem.touch_steps, e]; omega
  · rw [PMem.touch_steps, e]; omega
  · trivial

theorem Inv.lay (h : Inv D L B m) (hB : B ≤ 1000000000000) (hs : Shape D (upd m.w a.toNat v)) : Inv D L (B + 1) (m.lay who a v) := by
  have e := h.step_eq hB
  have := h.lo; have := h.hi
  refine ⟨h.n, hs, ?_, ?_, ?_⟩
  · rw [PMem.lay_steps, e]; omega
  · rw [PMem.lay_steps, e]; omega
  · trivial

end

/-! ### So many steps at most, and then that. -/

def Wp {S : Type} (step : S → PMem → Bool × S × PMem) : Nat → S → PMem → (S → PMem → Prop) → Prop
  | 0, _, _, _ => False
  | n + 1, s, m, Q => match step s m with
    | (true, s', m') => Q s' m'
    | (false, s', m') => Wp step n s' m' Q

section
variable {S : Type} {step : S → PMem → Bool × S × PMem} {s s' : S} {m m' : PMem} {Q Q' : S → PMem → Prop}

theorem Wp.f {n : Nat} (e : step s m = (false, s', m')) (h : Wp step n s' m' Q) : Wp step (n + 1) s m Q := by
  show (match step s m with | (true, s', m') => Q s' m' | (false, s', m') => Wp step n s' m' Q)
  rw [e]; exact h

theorem Wp.t {n : Nat} (e : step s m = (true, s', m')) (h : Q s' m') : Wp step (n + 1) s m Q := by
  show (match step s m with | (true, s', m') => Q s' m' | (false, s', m') => Wp step n s' m' Q)
  rw [e]; exact h

theorem Wp.up {n k : Nat} (h : Wp step n s m Q) (hq : ∀ s' m', Q s' m' → Q' s' m') (hk : n ≤ k) : Wp step k s m Q' := by
  induction n generalizing k s m with
  | zero => exact h.elim
  | succ n ih =>
    obtain ⟨q, rfl⟩ : ∃ q, k = q + 1 := ⟨k - 1, by omega⟩
    match e : step s m with
    | (true, s1, m1) =>
      have h : (match step s m with | (true, s', m') => Q s' m' | (false, s', m') => Wp step n s' m' Q) := h
      rw [e] at h
      exact Wp.t e (hq _ _ h)
    | (false, s1, m1) =>
      have h : (match step s m with | (true, s', m') => Q s' m' | (false, s', m') => Wp step n s' m' Q) := h
      rw [e] at h
      exact Wp.f e (ih h (by omega))

theorem Wp.inv {n : Nat} (h : Wp step (n + 1) s m Q) : (∃ s' m', step s m = (true, s', m') ∧ Q s' m') ∨ (∃ s' m', step s m = (false, s', m') ∧ Wp step n s' m' Q) := by
  have h : (match step s m with | (true, s', m') => Q s' m' | (false, s', m') => Wp step n s' m' Q) := h
  match e : step s m with
  | (true, s1, m1) => rw [e] at h; exact .inl ⟨s1, m1, rfl, h⟩
  | (false, s1, m1) => rw [e] at h; exact .inr ⟨s1, m1, rfl, h⟩

theorem Wp.run {run : Nat → S → PMem → S × PMem}
    (hs : ∀ n s m, run (n + 1) s m = match (step s m).1 with
      | true => ((step s m).2.1, (step s m).2.2)
      | false => run n (step s m).2.1 (step s m).2.2) {n k : Nat} (h : Wp step n s m Q) (hk : n ≤ k) : Q (run k s m).1 (run k s m).2 := by
  induction n generalizing k s m with
  | zero => exact h.elim
  | succ n ih =>
    obtain ⟨q, rfl⟩ : ∃ q, k = q + 1 := ⟨k - 1, by omega⟩
    have h : (match step s m with | (true, s', m') => Q s' m' | (false, s', m') => Wp step n s' m' Q) := h
    match e : step s m with
    | (true, s1, m1) =>
      rw [e] at h
      rw [hs, e]
      exact h
    | (false, s1, m1) =>
      rw [e] at h
      rw [hs, e]
      exact ih h (by omega)

end
end Go.FL
