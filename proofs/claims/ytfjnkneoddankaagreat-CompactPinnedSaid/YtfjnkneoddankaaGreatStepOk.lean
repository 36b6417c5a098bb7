/-
  Contracts over objects: the frames.
-/
import Derived.Test.YtfjnkneoddankaaGreatSh
import Derived.Test.YtfjnkneoddankaaGreatCanP
set_option linter.unusedVariables false
set_option linter.unusedSimpArgs false
set_option maxRecDepth 100000
namespace Go.FL

def headOK (b : Nat) : List Nat → Bool
  | m :: _ => Nat.beq m b
  | [] => false

def rangeOK (b l tot : Nat) : List Nat → Bool
  | [] => true
  | m :: r => match Nat.ble tot m || (Nat.ble b m && Nat.blt m (b + l)) with
    | true => rangeOK b l tot r
    | false => false

def chkCs : List (Bool × Ob) → Nat → Nat → List (List Nat) → Bool
  | [], _, _, [] => true
  | x :: xs, k, tot, c :: cs => match headOK k c && rangeOK k (llen (exB x)) tot c with
    | true => chkCs xs (k + llen (exB x)) tot cs
    | false => false
  | _, _, _, _ => false

def allGe (tot : Nat) : List Nat → Bool
  | [] => true
  | m :: r => match Nat.ble tot m with
    | true => allGe tot r
    | false => false

def chkDs (tot : Nat) : List (List Nat) → Bool
  | [] => true
  | [] :: _ => false
  | (m :: d) :: ds => match allGe tot (m :: d) with
    | true => chkDs tot ds
    | false => false

def memB (x : Nat) : List Nat → Bool
  | [] => false
  | y :: r => match Nat.beq x y with
    | true => true
    | false => memB x r

def nodupB : List Nat → Bool
  | [] => true
  | x :: r => match memB x r with
    | true => false
    | false => nodupB r

def chkAll (xs : List (Bool × Ob)) (cs ds : List (List Nat)) : Bool :=
  match chkCs xs 0 (llen (cat xs 0)) cs with
  | true => match chkDs (llen (cat xs 0)) ds with
    | true => nodupB (cs.flatten ++ ds.flatten)
    | false => false
  | false => false

def ClusL (H : LH) : List (List Nat) → List (Bool × Ob) → Prop
  | [], [] => True
  | c :: cs, x :: xs => Clus H c x ∧ ClusL H cs xs
  | _, _ => False

theorem memB_eq (x : Nat) : ∀ l : List Nat, memB x l = true ↔ x ∈ l
  | [] => by simp [memB]
  | y :: r => by
    simp only [memB]
    split
    · rename_i h; have := Nat.eq_of_beq_eq_true h; simp [this]
    · rename_i h
      have := Nat.ne_of_beq_eq_false h
      rw [memB_eq x r]; simp [this]

theorem nodupB_eq : ∀ l : List Nat, nodupB l = true → l.Nodup
  | [], _ => List.nodup_nil
  | x :: r, h => by
    simp only [nodupB] at h
    split at h
    · cases h
    · rename_i hm
      refine List.nodup_cons.2 ⟨fun hx => ?_, nodupB_eq r h⟩
      rw [(memB_eq x r).2 hx] at hm; cases hm

theorem rangeOK_eq {b l tot : Nat} : ∀ {c : List Nat}, rangeOK b l tot c = true → ∀ m ∈ c, m < tot → b ≤ m ∧ m < b + l
  | [], _, m, hm, _ => by simp at hm
  | x :: r, h, m, hm, ht => by
    simp only [rangeOK] at h
    split at h
    · rename_i hx
      rcases List.mem_cons.1 hm with rfl | hm
      · simp only [Bool.or_eq_true, Bool.and_eq_true] at hx
        rcases hx with hx | hx
        · have := Nat.le_of_ble_eq_true hx; omega
        · have h1 := Nat.le_of_ble_eq_true hx.1
          have h2 : m < b + l := by have := hx.2; simpa using this
          exact ⟨h1, h2⟩
      · exact rangeOK_eq h m hm ht
    · cases h

theorem allGe_eq {tot : Nat} : ∀ {d : List Nat}, allGe tot d = true → ∀ m ∈ d, tot ≤ m
  | [], _, m, hm => by simp at hm
  | x :: r, h, m, hm => by
    simp only [allGe] at h
    split at h
    · rename_i hx
      rcases List.mem_cons.1 hm with rfl | hm
      · exact Nat.le_of_ble_eq_true hx
      · exact allGe_eq h m hm
    · cases h

theorem chkCs_eq {tot : Nat} : ∀ {xs : List (Bool × Ob)} {k : Nat} {cs : List (List Nat)}, chkCs xs k tot cs = true → cs.length = xs.length ∧
    (∀ (i : Nat) (c : List Nat), cs[i]? = some c → c[0]? = some (base xs i k)) ∧
    (∀ (i : Nat) (c : List Nat) (x : Bool × Ob) (m : Nat), cs[i]? = some c → xs[i]? = some x → m ∈ c → m < tot → base xs i k ≤ m ∧ m < base xs i k + (exB x).length)
  | [], k, [], _ => ⟨rfl, by simp, by simp⟩
  | [], k, _ :: _, h => by simp [chkCs] at h
  | _ :: _, k, [], h => by simp [chkCs] at h
  | x :: xs, k, c :: cs, h => by
    simp only [chkCs] at h
    split at h
    · rename_i hx
      simp only [Bool.and_eq_true] at hx
      obtain ⟨h1, h2, h3⟩ := chkCs_eq h
      refine ⟨by simp [h1], ?_, ?_⟩
      · intro i c' hc
        cases i with
        | zero =>
          simp at hc; subst hc
          have := hx.1
          unfold headOK at this
          split at this
          · have := Nat.eq_of_beq_eq_true this; simp [base, this]
          · cases this
        | succ i =>
          have := h2 i c' (by simpa using hc)
          rw [llen_eq] at this
          simpa [base] using this
      · intro i c' x' m hc hx' hm ht
        cases i with
        | zero =>
          simp at hc hx'; subst hc; subst hx'
          have := rangeOK_eq hx.2 m hm ht
          rw [llen_eq] at this
          simpa [base] using this
        | succ i =>
          have := h3 i c' x' m (by simpa using hc) (by simpa using hx') hm ht
          rw [llen_eq] at this
          simpa [base] using this
    · cases h

theorem chkDs_eq {tot : Nat} : ∀ {ds : List (List Nat)}, chkDs tot ds = true → (∀ (j : Nat) (d : List Nat), ds[j]? = some d → ∃ m, d[0]? = some m) ∧ (∀ (j : Nat) (d : List Nat) (m : Nat), ds[j]? = some d → m ∈ d → tot ≤ m)
  | [], _ => ⟨by simp, by simp⟩
  | [] :: _, h => by simp [chkDs] at h
  | (m :: d) :: ds, h => by
    simp only [chkDs] at h
    split at h
    · rename_i hx
      obtain ⟨h1, h2⟩ := chkDs_eq h
      refine ⟨?_, ?_⟩
      · intro j d' hj
        cases j with
        | zero => simp at hj; subst hj; exact ⟨m, rfl⟩
        | succ j => exact h1 j d' (by simpa using hj)
      · intro j d' m' hj hm
        cases j with
        | zero => simp at hj; subst hj; exact allGe_eq hx m' hm
        | succ j => exact h2 j d' m' (by simpa using hj) hm
    · cases h

theorem ClusL_eq {H : LH} : ∀ {cs : List (List Nat)} {xs : List (Bool × Ob)}, ClusL H cs xs → cs.length = xs.length ∧ ∀ (i : Nat) (c : List Nat) (x : Bool × Ob), cs[i]? = some c → xs[i]? = some x → Clus H c x
  | [], [], _ => ⟨rfl, by simp⟩
  | [], _ :: _, h => h.elim
  | _ :: _, [], h => h.elim
  | c :: cs, x :: xs, h => by
    obtain ⟨h1, h2⟩ := ClusL_eq h.2
    refine ⟨by simp [h1], ?_⟩
    intro i c' x' hc hx
    cases i with
    | zero => simp at hc hx; subst hc; subst hx; exact h.1
    | succ i => exact h2 i c' x' (by simpa using hc) (by simpa using hx)

theorem closeOK_of {xs xs' ys : List (Bool × Ob)} {H : LH} {cs ds : List (List Nat)} (h : chkAll xs cs ds = true) (hc : ClusL H cs xs') (hd : ClusL H ds ys) : CloseOK xs H cs xs' ds ys := by
  unfold chkAll at h
  split at h
  · rename_i h1
    split at h
    · rename_i h2
      obtain ⟨a1, a2, a3⟩ := chkCs_eq h1
      obtain ⟨b1, b2⟩ := chkDs_eq h2
      obtain ⟨c1, c2⟩ := ClusL_eq hc
      obtain ⟨d1, d2⟩ := ClusL_eq hd
      rw [llen_eq] at a3 b2
      exact ⟨a1, by omega, d1, c2, a2, a3, d2, b1, b2, nodupB_eq _ h⟩
    · cases h
  · cases h

end Go.FL

namespace Go.Proofs.YtfjnkneoddankaaGreat
open Go Go.FL Go.Proofs

/-- A call over objects: 'ns' are their names, 'xs' the objects, laid open or not. -/
theorem objs_of {f : FuncId} {args args₁ : List LV} {H : LH} {K K₁ : LV → LH → Prop} {ns : List Nat} {xs : List (Bool × Ob)} (hl : ns.length = xs.length)
    (hget : ∀ (i n : Nat) (x : Bool × Ob), ns[i]? = some n → xs[i]? = some x → H.bl[n]? = some (.obj x.2)) (hnd : ns.Nodup)
    (hargs : ∀ (s s₁ : Mp) (vs : List Value), (∀ (i n : Nat), ns[i]? = some n → hd s₁ (base xs i 0) = hd s n) → RelVs s args vs → RelVs s₁ args₁ vs)
    (hev : (∃ fn, Tryz.prog.funcs[f]? = some fn ∧ fn.body.isSome = true) ∧ CSpec Tryz.prog f args₁ ⟨cat xs 0, []⟩ K₁)
    (hK : ∀ v₁ H₁, K₁ v₁ H₁ → ∃ cs xs' ds ys v, chkAll xs cs ds = true ∧ ClusL H₁ cs xs' ∧ ClusL H₁ ds ys ∧
      (∀ (s₁ s' : Mp) (v' : Value), (∀ (i n : Nat), ns[i]? = some n → hd s' n = hd s₁ (base xs i 0)) → (∀ (j : Nat) (d : List Nat) (m : Nat), ds[j]? = some d → d[0]? = some m → hd s' (H.len + j) = hd s₁ m) → RelV s₁ v₁ v' → RelV s' v v') ∧
      K v (newObs (putObs H ns (xs'.map (·.2))) (ys.map (·.2)))) :
    (∃ fn, Tryz.prog.funcs[f]? = some fn ∧ fn.body.isSome = true) ∧ CSpec Tryz.prog f args H K := by
  obtain ⟨h1, h2⟩ := hev
  refine ⟨h1, CSpec.objs hl hget hnd hargs h2 ?_⟩
  intro v₁ H₁ hk
  obtain ⟨cs, xs', ds, ys, v, a, b, c, e, g⟩ := hK v₁ H₁ hk
  exact ⟨cs, xs', ds, ys, v, closeOK_of a b c, e, g⟩

/-- A call over objects: 'ns' are their names, 'xs' the objects, laid open or not. -/
theorem objs_ok {own : FuncId → Option Hd} (hown : OwnOK Tryz.prog own) {fuel d : Nat} {f : FuncId} {args args₁ : List LV} {H : LH} {K K₁ : LV → LH → Prop} {ns : List Nat} {xs : List (Bool × Ob)} (hl : ns.length = xs.length)
    (hget : ∀ (i n : Nat) (x : Bool × Ob), ns[i]? = some n → xs[i]? = some x → H.bl[n]? = some (.obj x.2)) (hnd : ns.Nodup)
    (hargs : ∀ (s s₁ : Mp) (vs : List Value), (∀ (i n : Nat), ns[i]? = some n → hd s₁ (base xs i 0) = hd s n) → RelVs s args vs → RelVs s₁ args₁ vs)
    (hev : evF Tryz.prog own fuel d f args₁ ⟨cat xs 0, []⟩ K₁)
    (hK : ∀ v₁ H₁, K₁ v₁ H₁ → ∃ cs xs' ds ys v, chkAll xs cs ds = true ∧ ClusL H₁ cs xs' ∧ ClusL H₁ ds ys ∧
      (∀ (s₁ s' : Mp) (v' : Value), (∀ (i n : Nat), ns[i]? = some n → hd s' n = hd s₁ (base xs i 0)) → (∀ (j : Nat) (d : List Nat) (m : Nat), ds[j]? = some d → d[0]? = some m → hd s' (H.len + j) = hd s₁ m) → RelV s₁ v₁ v' → RelV s' v v') ∧
      K v (newObs (putObs H ns (xs'.map (·.2))) (ys.map (·.2)))) :
    (∃ fn, Tryz.prog.funcs[f]? = some fn ∧ fn.body.isSome = true) ∧ CSpec Tryz.prog f args H K := objs_of hl hget hnd hargs (evF_ok fnOK mixed hown fuel d f args₁ _ K₁ hev) hK

theorem get_obj {H : LH} {n : Nat} {b : LB} (h : H.get n = some b) : H.bl[n]? = some b := by rw [← LH.get_eq]; exact h

/-- The arena as an argument. -/
abbrev envV (c : PCfg) (m : Nat) (who : Int) : LV := .agg [cI c.threads, cI c.slots, cI c.chunks, cI c.words, cI c.gens, cI c.sparse, cI c.tries, .ptr m 0, cI who]

theorem rel_env {s s₁ : Mp} {c : PCfg} {m m₁ : Nat} {who : Int} {v : Value} (h : hd s₁ m₁ = hd s m) (hr : RelV s (envV c m who) v) : RelV s₁ (envV c m₁ who) v := by
  obtain ⟨cs, rfl, hl⟩ := hr
  refine ⟨cs, rfl, ?_⟩
  generalize cs.toList = vs at hl ⊢
  match vs, hl with
  | [a, b, c, d, e, f, g, p, q], ⟨h1, h2, h3, h4, h5, h6, h7, ⟨r, h8, h9⟩, h10, _⟩ => exact ⟨h1, h2, h3, h4, h5, h6, h7, ⟨r, by rw [h]; exact h8, h9⟩, h10, trivial⟩

theorem rel_ptr {s s₁ : Mp} {m m₁ off : Nat} {v : Value} (h : hd s₁ m₁ = hd s m) (hr : RelV s (.c (.ptr m off)) v) : RelV s₁ (.c (.ptr m₁ off)) v := by
  obtain ⟨r, h1, h2⟩ := hr
  exact ⟨r, by rw [h]; exact h1, h2⟩

/-- One object, and the memory: a step. -/
theorem step_ok {own : FuncId → Option Hd} (hown : OwnOK Tryz.prog own) {fuel d : Nat} {f : FuncId} {R : Type} {mk : R → Ob} {sh : LH → Nat → (R → List Nat → Prop) → Prop}
    (hsh : ∀ H n k, sh H n k → ∃ x c, k x c ∧ Clus H c (true, mk x)) {H : LH} {K : LV → LH → Prop} {p m : Nat} {x : R} {pm : PMem} {c : PCfg} {who : Int} (hne : mk x ≠ .mem pm)
    (hp : H.get p = some (.obj (mk x))) (hm : H.get m = some (.obj (.mem pm)))
    (hev : evF Tryz.prog own fuel d f [.c (.ptr 0 0), envV c (llen (ex (mk x))) who] ⟨cat [(true, mk x), (false, .mem pm)] 0, []⟩ (fun v H₁ => match v with
      | .c (.bool r) => sh H₁ 0 fun x' c => shF H₁ (llen (ex (mk x))) fun o c2 => match o with
        | .mem pm' => match chkAll [(true, mk x), (false, .mem pm)] [c, c2] [] with
          | true => K (.c (.bool r)) ((H.put p (.obj (mk x'))).put m (.obj (.mem pm')))
          | false => False
        | _ => False
      | _ => False)) :
    (∃ fn, Tryz.prog.funcs[f]? = some fn ∧ fn.body.isSome = true) ∧ CSpec Tryz.prog f [.c (.ptr p 0), envV c m who] H K := by
  have hpm : p ≠ m := by
    rintro rfl
    rw [hp] at hm
    exact hne (by injection hm with hm; injection hm)
  refine objs_ok hown (ns := [p, m]) (xs := [(true, mk x), (false, .mem pm)]) rfl ?_ (by simpa using hpm) ?_ hev ?_
  · intro i n x' hi hx
    match i, hi, hx with
    | 0, hi, hx => simp at hi hx; subst hi; subst hx; exact get_obj hp
    | 1, hi, hx => simp at hi hx; subst hi; subst hx; exact get_obj hm
    | i + 2, hi, hx => simp at hi
  · intro s s₁ vs hh hr
    match vs, hr with
    | [u, v], ⟨h1, h2, _⟩ =>
      have e0 := hh 0 p rfl
      have e1 := hh 1 m rfl
      simp only [base, Nat.zero_add] at e0 e1
      refine ⟨rel_ptr e0 h1, rel_env ?_ h2, trivial⟩
      rw [llen_eq]
      exact e1
    | [], h => exact h.elim
    | [_], h => exact h.2.elim
    | _ :: _ :: _ :: _, h => exact h.2.2.elim
  · intro v₁ H₁ hk
    split at hk
    · rename_i r
      obtain ⟨x', c1, hk, hc1⟩ := hsh _ _ _ hk
      obtain ⟨o, c2, hk, hc2⟩ := shF_ok hk
      split at hk
      · rename_i pm'
        split at hk
        · rename_i hchk
          exact ⟨[c1, c2], [(true, mk x'), (false, .mem pm')], [], [], .c (.bool r), hchk, ⟨hc1, hc2, trivial⟩, trivial, fun _ _ _ _ _ h => h, hk⟩
        · exact hk.elim
      · exact hk.elim
    · exact hk.elim

end Go.Proofs.YtfjnkneoddankaaGreat
