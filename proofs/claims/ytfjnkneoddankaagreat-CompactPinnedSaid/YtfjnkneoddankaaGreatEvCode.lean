/-
  The evaluator is sound: code, functions, calls walked into.
-/
import Derived.Scope
import Derived.Test.YtfjnkneoddankaaGreatEvDraw
set_option linter.unusedVariables false
set_option linter.unusedSimpArgs false
set_option linter.unusedSectionVars false
namespace Go.FL

section
variable {P : Program} {call : FuncId → List LV → LH → (LV → LH → Prop) → Prop}

def X.toExit : X → Exit
  | .normal => .normal
  | .exit id => .exit id
  | .ret => .ret

theorem noSelA_spec : ∀ {l : List Oper}, noSelA l = true → ∀ (j : Nat) (o : Oper) cs b, l[j]? = some o → o.op ≠ .select cs b
  | [], _, j, o, cs, b, hj => by simp at hj
  | p :: r, h, j, o, cs, b, hj => by
    simp only [noSelA] at h
    split at h
    · cases h
    · rename_i hns
      cases j with
      | zero => simp at hj; subst hj; exact fun heq => hns _ _ heq
      | succ j => exact noSelA_spec h j o cs b (by simpa using hj)

/-- What is asked behind a piece of code. -/
def Aft (P : Program) (nt : Nat) (s : Mp) (H : LH) (w : World) (K : X → Tm → LH → Prop) (Q : Exit → Act → World → Prop) : Prop :=
  ∀ x s' T' H' a' w', K x T' H' → RelT s' nt T' a' → Rel s' H' w' → Post s H w s' H' w' → Q x.toExit a' w'

def BodyOK (P : Program) (nt : Nat) (c : Code) (body : Tm → LH → (X → Tm → LH → Prop) → Prop) : Prop :=
  ∀ (T : Tm) (H : LH) (K : X → Tm → LH → Prop) (s : Mp) (a : Act) (w : World) (Q : Exit → Act → World → Prop), body T H K → RelT s nt T a → Rel s H w → Aft P nt s H w K Q → c.wp P Q a w

theorem BodyOK.use {nt : Nat} {c : Code} {body : Tm → LH → (X → Tm → LH → Prop) → Prop} (hb : BodyOK P nt c body) {T : Tm} {H : LH} {K : X → Tm → LH → Prop} {s : Mp} {a : Act} {w : World} {Q : Exit → Act → World → Prop}
    (h : body T H K) (hT : RelT s nt T a) (hH : Rel s H w) (hQ : Aft P nt s H w K Q) : c.wp P Q a w := hb T H K s a w Q h hT hH hQ

theorem exists_least {p : Nat → Prop} (h : ∃ n, p n) : ∃ n, p n ∧ ∀ m, p m → n ≤ m := by
  obtain ⟨n, hn⟩ := h
  induction n using Nat.strongRecOn with
  | _ n ih =>
    by_cases hex : ∃ m, m < n ∧ p m
    · obtain ⟨m, hlt, hm⟩ := hex
      exact ih m hlt hm
    · exact ⟨n, hn, fun m hm => Nat.le_of_not_lt fun hlt => hex ⟨m, hlt, hm⟩⟩

open Classical in
/-- A loop by a family of states that falls. -/
theorem loop_fall {nt : Nat} {c : Code} {Q : Exit → Act → World → Prop} {a : Act} {w : World} (J : Nat → Act → World → Prop) (h0 : ∃ n, J n a w)
    (round : ∀ n a w, J n a w → c.wp P (Exit.then (fun a' w' => ∃ n', n' < n ∧ J n' a' w') Q) a w) : (Code.loop c).wp P Q a w := by
  let μ : Act → World → Nat := fun a' w' => if h : ∃ n, J n a' w' then Classical.choose (exists_least h) else 0
  have hμ : ∀ a' w' (h : ∃ n, J n a' w'), J (μ a' w') a' w' ∧ ∀ m, J m a' w' → μ a' w' ≤ m := by
    intro a' w' h
    have : μ a' w' = Classical.choose (exists_least h) := dif_pos h
    rw [this]
    exact Classical.choose_spec (exists_least h)
  refine wp_loop (fun a' w' => ∃ n, J n a' w') μ h0 ?_
  intro a' w' hex
  obtain ⟨h1, h2⟩ := hμ a' w' hex
  refine wp_mono (round _ _ _ h1) ?_
  intro e a'' w'' hq
  cases e with
  | normal =>
    obtain ⟨n', hlt, hJ⟩ := hq
    exact ⟨⟨n', hJ⟩, Nat.lt_of_le_of_lt ((hμ a'' w'' ⟨n', hJ⟩).2 n' hJ) hlt⟩
  | _ => exact hq

theorem loopInv_ok {nt : Nat} {c : Code} {body : Tm → LH → (X → Tm → LH → Prop) → Prop} (hb : BodyOK P nt c body) : BodyOK P nt (.loop c) (loopInv body) := by
  intro T H K s a w Q h hT hH hQ
  obtain ⟨I, ⟨n0, h0⟩, hround⟩ := h
  refine loop_fall (nt := nt) (fun n a' w' => ∃ T' H' s', I n T' H' ∧ RelT s' nt T' a' ∧ Rel s' H' w' ∧ Post s H w s' H' w') ⟨n0, T, H, s, h0, hT, hH, Post.rfl'⟩ ?_
  rintro n a' w' ⟨T', H', s', h1, h2, h3, h4⟩
  refine hb.use (hround _ _ _ h1) h2 h3 ?_
  intro x s'' T'' H'' a'' w'' hK hT'' hH'' hp
  cases x with
  | normal =>
    obtain ⟨n', hlt, hI⟩ := hK
    exact ⟨n', hlt, T'', H'', s'', hI, hT'', hH'', h4.trans hp⟩
  | exit id => exact hQ (.exit id) s'' T'' H'' a'' w'' hK hT'' hH'' (h4.trans hp)
  | ret => exact hQ .ret s'' T'' H'' a'' w'' hK hT'' hH'' (h4.trans hp)

theorem iterA_ok {nt : Nat} {c : Code} {body : Tm → LH → (X → Tm → LH → Prop) → Prop} (hb : BodyOK P nt c body) (n : Nat) : BodyOK P nt (.loop c) (iterA body n) := by
  intro T H K s a w Q h hT hH hQ
  refine loop_fall (nt := nt) (fun n a' w' => ∃ T' H' s', iterA body n T' H' K ∧ RelT s' nt T' a' ∧ Rel s' H' w' ∧ Post s H w s' H' w') ⟨n, T, H, s, h, hT, hH, Post.rfl'⟩ ?_
  rintro n a' w' ⟨T', H', s', h1, h2, h3, h4⟩
  cases n with
  | zero => exact h1.elim
  | succ n =>
    refine hb.use h1 h2 h3 ?_
    intro x s'' T'' H'' a'' w'' hK hT'' hH'' hp
    cases x with
    | normal => exact ⟨n, Nat.lt_succ_self n, T'', H'', s'', hK, hT'', hH'', h4.trans hp⟩
    | exit id => exact hQ (.exit id) s'' T'' H'' a'' w'' hK hT'' hH'' (h4.trans hp)
    | ret => exact hQ .ret s'' T'' H'' a'' w'' hK hT'' hH'' (h4.trans hp)

/-- The laws of the loops in a piece of code hold. -/
def LoOK (P : Program) (nt : Nat) (lo : Nat → Option LHd) (l : List Code) : Prop := ∀ c ∈ l, ∀ h, lo (keyC c) = some h → BodyOK P nt (.loop c) h

theorem LoOK.no {nt : Nat} {l : List Code} : LoOK P nt noLo l := fun _ _ _ h => by cases h

theorem LoOK.left {nt : Nat} {lo : Nat → Option LHd} {l l' : List Code} (h : LoOK P nt lo (l ++ l')) : LoOK P nt lo l := fun c hc => h c (List.mem_append_left _ hc)

theorem LoOK.right {nt : Nat} {lo : Nat → Option LHd} {l l' : List Code} (h : LoOK P nt lo (l ++ l')) : LoOK P nt lo l' := fun c hc => h c (List.mem_append_right _ hc)

theorem evC_ok (hP : FnOK P) (hm : P.follows .mixedOrders = true) (hcall : CallOK P call) (nt : Nat) {lo : Nat → Option LHd} (fuel : Nat) : ∀ c : Code, LoOK P nt lo (loopsC c) → BodyOK P nt c (evC P call nt lo fuel c)
  | .skip => fun _ _ _ _ _ _ _ _ h hT hH hQ => wp_skip (hQ .normal _ _ _ _ _ h hT hH Post.rfl')
  | .label l => fun _ _ _ _ _ _ _ _ h hT hH hQ => wp_label (hQ .normal _ _ _ _ _ h hT hH Post.rfl')
  | .exit id => fun _ _ _ _ _ _ _ _ h hT hH hQ => wp_exit (hQ (.exit id) _ _ _ _ _ h hT hH Post.rfl')
  | .ret => fun _ _ _ _ _ _ _ _ h hT hH hQ => wp_ret (hQ .ret _ _ _ _ _ h hT hH Post.rfl')
  | .goto l => fun _ _ _ _ _ _ _ _ h _ _ _ => h.elim
  | .scope c => by
    intro hlo T H K s a w Q h hT hH hQ
    simp only [evC] at h
    refine wp_scope_straight ((evC_ok hP hm hcall nt fuel c hlo).use h hT hH ?_)
    intro e s' T' H' a' w' hK hT' hH' hp
    cases e with
    | normal => exact hQ .normal s' T' H' a' w' hK hT' hH' hp
    | exit id => exact hQ (.exit id) s' T' H' a' w' hK hT' hH' hp
    | ret => exact hQ .ret s' T' H' a' w' hK hT' hH' hp
  | .refuse why => fun _ _ _ _ _ _ _ _ h _ _ _ => h.elim
  | .rangeFunc f ps x y => fun _ _ _ _ _ _ _ _ h _ _ _ => h.elim
  | .region id ops draw => by
    intro hlo T H K s a w Q h hT hH hQ
    simp only [evC] at h
    cases draw with
    | false =>
      exact wp_region_list (regA_ok hP hcall h hT hH fun s' T' H' a' w' h1 h2 h3 h4 => hQ .normal s' T' H' a' w' h1 h2 h3 h4)
    | true =>
      simp only at h
      split at h
      · rename_i hns
        have hsel := fun j o cs b (hj : ops[j]? = some o) => noSelA_spec hns j o cs b (by simpa using hj)
        let Q0 : Exit → Act → World → Prop := fun e a w => e = .normal ∧ Q .normal a w
        have hw' : ∀ w' : World, ({ w' with drawn := w'.drawn } : World) = w' := fun _ => rfl
        have hHd : Rel s H { w with drawn := w.drawn + 1 } := ⟨hH.len, hH.blk, hH.dis, hH.bnd⟩
        refine wp_mono (Q := Q0) ?_ (fun e a w hq => by obtain ⟨rfl, hq⟩ := hq; exact hq)
        refine wp_region_any hm (wpAnyS_any _ _ _ _ (drawA_ok hP hcall hsel (fun c a w h => by cases h.1) (ops.size + 1) (ls := []) (lds := []) ops.size h ?_ ?_ ?_ (by simp) (fun x hx => by simp at hx) hT hHd ?_))
        · intro i
          simp [Array.getD_eq_getD_getElem?, Array.getElem?_replicate]
          split <;> rfl
        · refine ⟨by simp, fun i o _ hl => ?_⟩
          simp only [Array.getD_eq_getD_getElem?, Array.getElem?_replicate] at hl
          split at hl <;> cases hl
        · unfold cnt
          have := List.countP_le_length (p := fun b : Bool => !b) (l := (Array.replicate ops.size false).toList)
          simpa using this
        · intro s' T' H' a' w' h1 h2 h3 h4
          exact ⟨rfl, hQ .normal s' T' H' a' w' h1 h2 h3 ⟨h4.hext, h4.len, h4.fresh, h4.keep, h4.wr, h4.size, h4.frame, h4.tape, h4.os, h4.output⟩⟩
      · exact h.elim
  | .seq x y => by
    intro hlo T H K s a w Q h hT hH hQ
    simp only [evC] at h
    refine wp_seq ((evC_ok hP hm hcall nt fuel x hlo.left).use h hT hH ?_)
    intro e s' T' H' a' w' hK hT' hH' hp
    cases e with
    | normal => exact (evC_ok hP hm hcall nt fuel y hlo.right).use hK hT' hH' fun e s'' T'' H'' a'' w'' h1 h2 h3 h4 => hQ e s'' T'' H'' a'' w'' h1 h2 h3 (hp.trans h4)
    | exit id => exact hQ (.exit id) s' T' H' a' w' hK hT' hH' hp
    | ret => exact hQ .ret s' T' H' a' w' hK hT' hH' hp
  | .cond c x y => by
    intro hlo T H K s a w Q h hT hH hQ
    simp only [evC] at h
    have hc := opnd_rel hT c
    split at h
    · rename_i q hq
      rw [hq] at hc
      split at h
      · exact wp_cond_true hc ((evC_ok hP hm hcall nt fuel x hlo.left).use h hT hH hQ)
      · exact wp_cond_false hc ((evC_ok hP hm hcall nt fuel y hlo.right).use h hT hH hQ)
    · exact h.elim
  | .block id c => by
    intro hlo T H K s a w Q h hT hH hQ
    simp only [evC] at h
    refine wp_block ((evC_ok hP hm hcall nt fuel c hlo).use h hT hH ?_)
    intro e s' T' H' a' w' hK hT' hH' hp
    cases e with
    | normal => exact hQ .normal s' T' H' a' w' hK hT' hH' hp
    | ret => exact hQ .ret s' T' H' a' w' hK hT' hH' hp
    | exit id' =>
      show Exit.inBlock id Q (.exit id') a' w'
      simp only [Exit.inBlock]
      cases hb : Nat.beq id' id with
      | true =>
        have := Nat.eq_of_beq_eq_true hb
        rw [if_pos this]
        simp only [hb] at hK
        exact hQ .normal s' T' H' a' w' hK hT' hH' hp
      | false =>
        have := Nat.ne_of_beq_eq_false hb
        rw [if_neg this]
        simp only [hb] at hK
        exact hQ (.exit id') s' T' H' a' w' hK hT' hH' hp
  | .loop c => by
    intro hlo T H K s a w Q h hT hH hQ
    simp only [evC] at h
    split at h
    · rename_i hd he
      exact (hlo c (by simp [loopsC]) hd he).use h hT hH hQ
    · have hlo' : LoOK P nt lo (loopsC c) := fun c' hc' => hlo c' (by simp [loopsC, hc'])
      cases fuel with
      | zero => exact (loopInv_ok (evC_ok hP hm hcall nt 0 c hlo')).use h hT hH hQ
      | succ n => exact (iterA_ok (evC_ok hP hm hcall nt (n + 1) c hlo') (n + 1)).use h hT hH hQ

theorem asAddr_of {s : Mp} {x : LV} {n : Nat} {u : Value} (h : RelV s x u) (hx : addrOf x = some n) : ∃ a, u = .pointer (some a) := by
  unfold addrOf at hx
  split at hx
  · obtain ⟨r, _, rfl⟩ := h; exact ⟨_, rfl⟩
  · obtain ⟨r, _, rfl⟩ := h; exact ⟨_, rfl⟩
  · cases hx

def resF (tmps : Array Value) : ResultVar → Sem Value
  | .tmp t => pure (tmps.getD t undef)
  | .cell x t => do loadVar t (← asAddr (tmps.getD x undef))

theorem results_eq (fn : Func) (tmps : Array Value) : results fn tmps = (do
    let vs ← fn.results.mapM (resF tmps)
    pure (if h : vs.size = 1 then vs[0] else .tuple vs)) := by
  unfold results
  congr 1

theorem resA_run {s : Mp} {nt : Nat} {T : Tm} {H : LH} {a : Act} {w : World} (hT : RelT s nt T a) (hH : Rel s H w) : ∀ {rs : List ResultVar} {K : List LV → Prop}, resA P T H rs K →
    ∃ l vs, K l ∧ RelVs s l vs ∧ (rs.mapM (resF a.tmps)).run P w = .ok vs w
  | [], K, h => ⟨[], [], h, trivial, by simp⟩
  | .tmp t :: r, K, h => by
    obtain ⟨l, vs, h1, h2, h3⟩ := resA_run hT hH (rs := r) h
    exact ⟨_, a.tmps.getD t undef :: vs, h1, ⟨hT.2 t, h2⟩, by simp only [List.mapM_cons, resF, Sem.run_bind, Sem.run_pure, Result.andThen_ok, h3]⟩
  | .cell x t :: r, K, h => by
    obtain ⟨y, v, n, q, ob, hK, hv, ha, _, ho, hrun⟩ := loadA_run' (hT.2 x) hH h
    obtain ⟨l, vs, h1, h2, h3⟩ := resA_run hT hH (rs := r) hK
    obtain ⟨ad, had⟩ := asAddr_of (hT.2 x) ha
    have hrun := hrun w ho
    rw [had] at hrun
    simp only [Instr.loadAt, Instr.sureAddr, Sem.run_bind, Sem.run_pure, Result.andThen_ok] at hrun
    exact ⟨_, v :: vs, h1, ⟨hv, h2⟩, by simp only [List.mapM_cons, resF, Sem.run_bind, Sem.run_pure, Result.andThen_ok, h3, had, asAddr, hrun]⟩

theorem parts_rel {s : Mp} : ∀ {l : List LV} {ps : List LP} {vs : List Value}, parts l = some ps → RelVs s l vs → RelPs s ps vs
  | [], ps, [], h, _ => by cases h; trivial
  | [], _, _ :: _, _, hr => hr.elim
  | _ :: _, _, [], _, hr => hr.elim
  | x :: l, ps, v :: vs, h, hr => by
    simp only [parts] at h
    split at h
    · cases h
    · rename_i p hp
      split at h
      · cases h
      · rename_i l' hl'
        cases h
        exact ⟨RelV.part hr.1 hp, parts_rel hl' hr.2⟩

theorem RelVs.length {s : Mp} : ∀ {l : List LV} {vs : List Value}, RelVs s l vs → vs.length = l.length
  | [], [], _ => rfl
  | _ :: _, _ :: _, h => by simp [RelVs.length h.2]
  | [], _ :: _, h => h.elim
  | _ :: _, [], h => h.elim

theorem params_get {s : Mp} : ∀ {l : List LV} {vs : List Value}, RelVs s l vs → ∀ (k t : Nat), RelV s (Tm.get (params l k) t) (if k ≤ t then (vs[t - k]?).getD undef else undef)
  | [], [], _, k, t => by simp [params, Tm.get, RelV]
  | [], _ :: _, h, _, _ => h.elim
  | _ :: _, [], h, _, _ => h.elim
  | x :: l, v :: vs, h, k, t => by
    simp only [params, Tm.get]
    split
    · rename_i hkt
      have := Nat.eq_of_beq_eq_true hkt
      subst this
      simpa using h.1
    · rename_i hkt
      have hne := Nat.ne_of_beq_eq_false hkt
      have ih := params_get h.2 (k + 1) t
      by_cases hle : k + 1 ≤ t
      · rw [if_pos hle] at ih
        rw [if_pos (by omega), show t - k = (t - (k + 1)) + 1 by omega]
        simpa using ih
      · rw [if_neg hle] at ih
        rw [if_neg (by omega)]
        exact ih

theorem evFn_ok (hP : FnOK P) (hm : P.follows .mixedOrders = true) (hcall : CallOK P call) {f : FuncId} {fn : Func} (hf : P.funcs[f]? = some fn) {lo : Nat → Option LHd} {fuel : Nat} {args : List LV} {H : LH} {K : LV → LH → Prop}
    (hlo : ∀ c, fn.body = some c → LoOK P fn.ntmps lo (loopsC c)) (h : evFn P call lo fuel fn args H K) : (∃ fn, P.funcs[f]? = some fn ∧ fn.body.isSome = true) ∧ CSpec P f args H K := by
  unfold evFn at h
  split at h
  · exact h.elim
  rename_i c hb
  refine ⟨⟨fn, hf, by rw [hb]; rfl⟩, ?_⟩
  split at h
  · exact h.elim
  rename_i hlen
  have hlen : args.length ≤ fn.ntmps := by have := Nat.le_of_ble_eq_true hlen; rwa [llen_eq] at this
  intro s vs w hr hH
  have hvl := hr.length
  refine calls_of_wp hf hb ?_
  refine (evC_ok hP hm hcall fn.ntmps fuel c (hlo c hb)).use h (s := s) ⟨⟨by simp; omega, rfl⟩, fun t => ?_⟩ hH ?_
  · have := params_get hr 0 t
    simp only [Nat.zero_le, if_true, Nat.sub_zero] at this
    have he : (vs.toArray ++ Array.replicate (fn.ntmps - vs.toArray.size) undef).getD t undef = (vs[t]?).getD undef := by
      rw [Array.getD_eq_getD_getElem?, Array.getElem?_append]
      simp only [List.size_toArray]
      split
      · simp
      · rename_i hge
        rw [List.getElem?_eq_none (by omega), Array.getElem?_replicate]
        split <;> rfl
    rw [he]
    exact this
  · intro x s' T' H' a' w' hK hT' hH' hp
    have main : resA P T' H' fn.results.toList (fun l => match l with
        | [v] => K v H'
        | l => match parts l with
          | some ps => K (.tup ps) H'
          | none => False) → a'.defers = [] ∧ ∃ v, (results fn a'.tmps).run P w' = .ok v w' ∧ ∃ s'' v'' H'', K v'' H'' ∧ RelV s'' v'' v ∧ Rel s'' H'' w' ∧ Post s H w s'' H'' w' := by
      intro hres
      obtain ⟨l, us, h1, h2, h3⟩ := resA_run hT' hH' hres
      refine ⟨hT'.1.2, ?_⟩
      have hmap : (fn.results.mapM (resF a'.tmps)).run P w' = .ok us.toArray w' := by
        rw [Array.mapM_eq_mapM_toList]
        simp only [Sem.run_map, h3, Result.andThen_ok]
      split at h1
      · rename_i v
        match us, h2 with
        | [u], h2 =>
          refine ⟨u, ?_, s', v, H', h1, h2.1, hH', hp⟩
          rw [results_eq, Sem.run_bind, hmap]
          rfl
        | [], h2 => exact h2.elim
        | _ :: _ :: _, h2 => exact h2.2.elim
      · rename_i hne
        split at h1
        · rename_i ps hps
          refine ⟨.tuple us.toArray, ?_, s', .tup ps, H', h1, ⟨_, rfl, by simpa using parts_rel hps h2⟩, hH', hp⟩
          rw [results_eq, Sem.run_bind, hmap]
          have hsz : ¬ us.toArray.size = 1 := by
            intro hs
            have : l.length = 1 := by rw [← h2.length]; simpa using hs
            match l, this with
            | [v], _ => exact hne v rfl
          simp only [Result.andThen_ok, dif_neg hsz, Sem.run_pure]
        · exact h1.elim
    cases x with
    | normal => exact main hK
    | ret => exact main hK
    | exit id => exact hK.elim

def OwnOK (P : Program) (own : FuncId → Option (List LV → LH → (LV → LH → Prop) → Prop)) : Prop :=
  ∀ f h, own f = some h → ∀ args H K, h args H K → (∃ fn, P.funcs[f]? = some fn ∧ fn.body.isSome = true) ∧ CSpec P f args H K

theorem evF_ok (hP : FnOK P) (hm : P.follows .mixedOrders = true) {own : FuncId → Option (List LV → LH → (LV → LH → Prop) → Prop)} (hown : OwnOK P own) (fuel : Nat) : ∀ d, CallOK P (evF P own fuel d)
  | 0 => fun f args H K h => h.elim
  | d + 1 => by
    intro f args H K h
    simp only [evF] at h
    split at h
    · rename_i g hg
      exact hown f g hg args H K h
    · split at h
      · exact h.elim
      · rename_i fn hfn
        rw [lget_eq, Array.getElem?_toList] at hfn
        exact evFn_ok hP hm (evF_ok hP hm hown fuel d) hfn (fun _ _ => LoOK.no) h

/-- A function whose loops go by their laws. -/
theorem evL_ok (hP : FnOK P) (hm : P.follows .mixedOrders = true) {own : FuncId → Option (List LV → LH → (LV → LH → Prop) → Prop)} (hown : OwnOK P own) {lo : Nat → Option LHd} {fuel d : Nat} {f : FuncId} {args : List LV} {H : LH} {K : LV → LH → Prop}
    (hlo : LoOK P (tmpsF P f) lo (loopsF P f)) (h : evL P own lo fuel d f args H K) : (∃ fn, P.funcs[f]? = some fn ∧ fn.body.isSome = true) ∧ CSpec P f args H K := by
  unfold evL at h
  split at h
  · exact h.elim
  · rename_i fn hfn
    refine evFn_ok hP hm (evF_ok hP hm hown fuel d) (by rw [lget_eq, Array.getElem?_toList] at hfn; exact hfn) ?_ h
    intro c hc
    have h1 : loopsF P f = loopsC c := by unfold loopsF; rw [hfn]; simp only; rw [hc]
    have h2 : tmpsF P f = fn.ntmps := by unfold tmpsF; rw [hfn]
    rw [h1, h2] at hlo
    exact hlo

theorem norm_get (ts : List Nat) (T : Tm) (t : Nat) : Tm.get (Tm.norm ts T) t = Tm.get T t ∨ Tm.get (Tm.norm ts T) t = .un := by
  induction ts with
  | nil => exact .inr rfl
  | cons u r ih =>
    simp only [Tm.norm, Tm.get]
    split
    · rename_i h
      have := Nat.eq_of_beq_eq_true h
      subst this
      exact .inl rfl
    · exact ih

theorem RelT.norm {s : Mp} {nt : Nat} {T : Tm} {a : Act} (h : RelT s nt T a) (ts : List Nat) : RelT s nt (Tm.norm ts T) a := by
  refine ⟨h.1, fun t => ?_⟩
  rcases norm_get ts T t with he | he <;> rw [he]
  · exact h.2 t
  · trivial

/-- Behind a round. -/
def loopK (I : Nat → Tm → LH → Prop) (K : X → Tm → LH → Prop) (ts' : List Nat) (n : Nat) : X → Tm → LH → Prop := fun x T H => match x with
  | .normal => ∃ n', n' < n ∧ I n' T H
  | x => ∃ wr, (∀ n ∈ H.wr, n ∈ wr) ∧ K x (Tm.norm ts' T) ⟨H.bl, wr⟩

/-- A loop by a family of states; behind it the temporaries that are wanted, and more blocks said to be written. -/
def loopN (ts ts' : List Nat) (I : Nat → Tm → LH → Prop) (body : Tm → LH → (X → Tm → LH → Prop) → Prop) (T : Tm) (H : LH) (K : X → Tm → LH → Prop) : Prop :=
  (∃ n, I n (Tm.norm ts T) H) ∧ ∀ n T H, I n T H → body T H fun x T H => loopK I K ts' n x (Tm.norm ts T) H

theorem Post.more {s s' : Mp} {H H' : LH} {w w' : World} (h : Post s H w s' H' w') {wr : List Nat} (hw : ∀ n ∈ H'.wr, n ∈ wr) : Post s H w s' ⟨H'.bl, wr⟩ w' :=
  ⟨h.hext, h.len, h.fresh, fun n hn hni => h.keep n hn fun hi => hni (hw n hi), fun n hn => hw n (h.wr n hn), h.size, fun y hy hno => h.frame y hy fun n hn => hno n (hw n hn), h.tape, h.os, h.output⟩

theorem loopN_ok {nt : Nat} {c : Code} {body : Tm → LH → (X → Tm → LH → Prop) → Prop} (hb : BodyOK P nt c body) {h : LHd} (hh : ∀ T H K, h T H K → ∃ ts ts' I, loopN ts ts' I body T H K) : BodyOK P nt (.loop c) h := by
  intro T H K s a w Q h0 hT hH hQ
  obtain ⟨ts, ts', I, ⟨n0, h0⟩, hround⟩ := hh T H K h0
  refine loop_fall (nt := nt) (fun n a' w' => ∃ T' H' s', I n T' H' ∧ RelT s' nt T' a' ∧ Rel s' H' w' ∧ Post s H w s' H' w') ⟨n0, _, H, s, h0, hT.norm ts, hH, Post.rfl'⟩ ?_
  rintro n a' w' ⟨T', H', s', h1, h2, h3, h4⟩
  refine hb.use (hround _ _ _ h1) h2 h3 ?_
  intro x s'' T'' H'' a'' w'' hK hT'' hH'' hp
  cases x with
  | normal =>
    obtain ⟨n', hlt, hI⟩ := hK
    exact ⟨n', hlt, _, H'', s'', hI, hT''.norm ts, hH'', h4.trans hp⟩
  | exit id =>
    obtain ⟨wr, hw, hK⟩ := hK
    exact hQ (.exit id) s'' _ _ a'' w'' hK ((hT''.norm ts).norm ts') (hH''.bl rfl) ((h4.trans hp).more hw)
  | ret =>
    obtain ⟨wr, hw, hK⟩ := hK
    exact hQ .ret s'' _ _ a'' w'' hK ((hT''.norm ts).norm ts') (hH''.bl rfl) ((h4.trans hp).more hw)

end
end Go.FL
