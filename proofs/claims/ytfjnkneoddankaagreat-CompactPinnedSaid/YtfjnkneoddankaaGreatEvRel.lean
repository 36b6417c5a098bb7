/-
  What the evaluator's values, blocks and heaps say of a real world, under a list of block numbers.
-/
import Derived.Test.YtfjnkneoddankaaGreatEx
namespace Go.FL

theorem lget_eq {α : Type} (l : List α) (n : Nat) : lget l n = l[n]? := by
  induction l generalizing n with
  | nil => simp [lget]
  | cons x r ih => cases n with
    | zero => simp [lget]
    | succ n => simp [lget, ih]

theorem llen_eq {α : Type} (l : List α) : llen l = l.length := by
  induction l with
  | nil => rfl
  | cons x r ih => simp [llen, ih]

theorem lset_eq {α : Type} (l : List α) (n : Nat) (y : α) : lset l n y = l.set n y := by
  induction l generalizing n with
  | nil => simp [lset]
  | cons x r ih => cases n with
    | zero => simp [lset]
    | succ n => simp [lset, ih]

theorem ltake_eq {α : Type} (l : List α) (n : Nat) {r : List α} (h : lsub.ltake l n = some r) : n ≤ l.length ∧ r = l.take n := by
  induction n generalizing l r with
  | zero => cases l <;> simp_all [lsub.ltake]
  | succ n ih =>
    cases l with
    | nil => simp [lsub.ltake] at h
    | cons x l =>
      simp only [lsub.ltake] at h
      split at h
      · rename_i r' hr
        cases h
        have := ih _ hr
        simp [this]
      · cases h

theorem lsub_eq {α : Type} (l : List α) (off n : Nat) {r : List α} (h : lsub l off n = some r) : off + n ≤ l.length ∧ r = (l.drop off).take n := by
  induction off generalizing l with
  | zero =>
    have h' : lsub.ltake l n = some r := by cases l <;> simpa [lsub] using h
    have := ltake_eq _ _ h'
    simp [this]
  | succ off ih =>
    cases l with
    | nil => cases n <;> simp [lsub] at h
    | cons x l =>
      simp only [lsub] at h
      have h2 := ih _ h
      refine ⟨?_, by simpa using h2.2⟩
      simp only [List.length_cons]
      omega

theorem lay_eq {α : Type} (l new : List α) {r : List α} (h : lover.lay l new = some r) : new.length ≤ l.length ∧ r = new ++ l.drop new.length := by
  induction new generalizing l r with
  | nil => cases l <;> simp_all [lover.lay]
  | cons y new ih =>
    cases l with
    | nil => simp [lover.lay] at h
    | cons x l =>
      simp only [lover.lay] at h
      split at h
      · rename_i r' hr
        cases h
        have := ih _ hr
        simp [this]
      · cases h

theorem lover_eq {α : Type} (l : List α) (off : Nat) (new : List α) {r : List α} (h : lover l off new = some r) :
    off + new.length ≤ l.length ∧ r = l.take off ++ new ++ l.drop (off + new.length) := by
  induction off generalizing l r with
  | zero =>
    have h' : lover.lay l new = some r := by cases l <;> simpa [lover] using h
    have := lay_eq _ _ h'
    simp [this]
  | succ off ih =>
    cases l with
    | nil => cases new <;> simp [lover] at h
    | cons x l =>
      simp only [lover] at h
      split at h
      · rename_i r' hr
        cases h
        have := ih _ hr
        refine ⟨?_, by simp [this, Nat.succ_add]⟩
        simp only [List.length_cons]
        omega
      · cases h

/-! ### The relation -/

def oneC : Value → Bool
  | .agg _ | .tuple _ => false
  | _ => true


/-- Which block a name stands for, and which other blocks belong to it. -/
abbrev Mp := List (Nat × List Nat)

def hd (s : Mp) (n : Nat) : Option Nat := (s[n]?).map (·.1)

def ownB (s : Mp) (n y : Nat) : Prop := ∃ r f, s[n]? = some (r, f) ∧ (y = r ∨ y ∈ f)

def Disj (s : Mp) : Prop := ∀ n m y, ownB s n y → ownB s m y → n = m

def HExt (s s' : Mp) : Prop := ∀ n r, hd s n = some r → hd s' n = some r

theorem HExt.refl (s : Mp) : HExt s s := fun _ _ h => h
theorem HExt.trans {s s' s'' : Mp} (h : HExt s s') (h' : HExt s' s'') : HExt s s'' := fun n r hr => h' n r (h n r hr)
theorem HExt.app (s e : Mp) : HExt s (s ++ e) := fun n r h => by
  unfold hd at *
  cases hx : s[n]? with
  | none => rw [hx] at h; cases h
  | some p =>
    rw [List.getElem?_append_left (List.getElem?_eq_some_iff.1 hx).1, hx]
    rw [hx] at h; exact h

def RelC (s : Mp) : LC → Value → Prop
  | .any, v => oneC v = true
  | .int k n, v => v = .int k n
  | .bool b, v => v = .bool b
  | .str b, v => v = .string b
  | .nilp, v => v = .pointer none
  | .ptr n off, v => ∃ r, hd s n = some r ∧ v = .pointer (some ⟨r, off, none⟩)
  | .idx n row w col, v => ∃ r, hd s n = some r ∧ v = .pointer (some ⟨r, row * w + col, none⟩)
  | .nils, v => v = .slice none 0 0
  | .slice n off len cap, v => ∃ r, hd s n = some r ∧ v = .slice (some ⟨r, off, none⟩) len cap
  | .iface t x, v => ∃ u, v = .iface t u ∧ RelC s x u
  | .nili, v => v = .nilIface
  | .fn f, v => v = .func (.func f) #[] #[]
  | .nilf, v => v = .nilFunc

def RelL (s : Mp) : List LC → List Value → Prop
  | [], [] => True
  | x :: l, v :: vs => RelC s x v ∧ RelL s l vs
  | _, _ => False

def RelP (s : Mp) : LP → Value → Prop
  | .c x, v => RelC s x v
  | .agg l, v => ∃ cs, v = .agg cs ∧ RelL s l cs.toList

def RelPs (s : Mp) : List LP → List Value → Prop
  | [], [] => True
  | x :: l, v :: vs => RelP s x v ∧ RelPs s l vs
  | _, _ => False

def RelV (s : Mp) : LV → Value → Prop
  | .un, _ => True
  | .c x, v => RelC s x v
  | .agg l, v => ∃ cs, v = .agg cs ∧ RelL s l cs.toList
  | .tup l, v => ∃ vs, v = .tuple vs ∧ RelPs s l vs.toList

def RelVs (s : Mp) : List LV → List Value → Prop
  | [], [] => True
  | x :: l, v :: vs => RelV s x v ∧ RelVs s l vs
  | _, _ => False

inductive RelB : Mp → LB → Nat → List Nat → Array Obj → Prop
  | any {s : Mp} {r : Nat} {f : List Nat} {h : Array Obj} : RelB s .any r f h
  | cells {s : Mp} {e : TypeId} {l : List LC} {r : Nat} {h : Array Obj} (c : Array Value) (ho : h[r]? = some (.cells c e (0, 0))) (hl : RelL s l c.toList) : RelB s (.cells e l) r [] h
  | ints {s : Mp} {e : TypeId} {k : IntKind} {n : Nat} {g : Nat → Int} {r : Nat} {h : Array Obj} (ho : h[r]? = some (.cells ((List.range n).map fun i => Value.int k (g i)).toArray e (0, 0))) : RelB s (.ints e k n g) r [] h
  | rows {s : Mp} {e : TypeId} {w n cap : Nat} {cs : List LCol} {r : Nat} {h : Array Obj} (c : Array Value) (ho : h[r]? = some (.cells c e (0, 0))) (hn : n ≤ cap) (hc : c.size = cap * w) (hw : cs.length = w)
      (hl : ∀ i, i < n → RelL s (rowAt cs i) ((c.toList.drop (i * w)).take w)) : RelB s (.rows e w n cap cs) r [] h
  | obj {s : Mp} {x : Ob} {r : Nat} {f : List Nat} {h : Array Obj} (s₁ : Mp) (h0 : hd s₁ 0 = some r) (hf : ∀ y, (y = r ∨ y ∈ f) ↔ ∃ n, ownB s₁ n y) (hlen : s₁.length = (ex x).length) (hd : Disj s₁)
      (hb : ∀ (i : Nat) (b : LB) (q : Nat) (g : List Nat), (ex x)[i]? = some b → s₁[i]? = some (q, g) → RelB s₁ b q g h) : RelB s (.obj x) r f h

structure Rel (s : Mp) (H : LH) (w : World) : Prop where
  len : s.length = H.bl.length
  blk : ∀ (n : Nat) (b : LB) (r : Nat) (f : List Nat), H.bl[n]? = some b → s[n]? = some (r, f) → RelB s b r f w.heap
  dis : Disj s
  bnd : ∀ n y, ownB s n y → y < w.heap.size

def RelT (s : Mp) (nt : Nat) (T : Tm) (a : Act) : Prop :=
  (a.tmps.size = nt ∧ a.defers = []) ∧ ∀ t, RelV s (T.get t) (a.tmps.getD t undef)

/-- What a piece of the run does: new names, new blocks, and which old blocks are as they were. -/
structure Post (s : Mp) (H : LH) (w : World) (s' : Mp) (H' : LH) (w' : World) : Prop where
  hext : HExt s s'
  len : s.length ≤ s'.length
  fresh : ∀ n y, ownB s' n y → y < w.heap.size → n < s.length ∧ ownB s n y
  keep : ∀ n, n < s.length → n ∉ H'.wr → s'[n]? = s[n]?
  wr : ∀ n ∈ H.wr, n ∈ H'.wr
  size : w.heap.size ≤ w'.heap.size
  frame : ∀ (y : Nat), y < w.heap.size → (∀ n ∈ H'.wr, ¬ ownB s n y) → w'.heap[y]? = w.heap[y]?
  tape : w'.tape = w.tape
  os : w'.os = w.os
  output : w'.output = w.output

theorem RelC.mono {s s' : Mp} (he : HExt s s') : ∀ {x : LC} {v : Value}, RelC s x v → RelC s' x v := by
  intro x
  induction x with
  | ptr n off => rintro v ⟨r, h, rfl⟩; exact ⟨r, he _ _ h, rfl⟩
  | idx n row w col => rintro v ⟨r, h, rfl⟩; exact ⟨r, he _ _ h, rfl⟩
  | slice n off len cap => rintro v ⟨r, h, rfl⟩; exact ⟨r, he _ _ h, rfl⟩
  | iface t x ih => rintro v ⟨u, rfl, h⟩; exact ⟨u, rfl, ih h⟩
  | _ => intro v h; exact h

theorem RelL.mono {s s' : Mp} (he : HExt s s') : ∀ {l : List LC} {vs : List Value}, RelL s l vs → RelL s' l vs
  | [], [], _ => trivial
  | _ :: _, _ :: _, h => ⟨h.1.mono he, RelL.mono he h.2⟩
  | [], _ :: _, h => h.elim
  | _ :: _, [], h => h.elim

theorem RelP.mono {s s' : Mp} (he : HExt s s') : ∀ {x : LP} {v : Value}, RelP s x v → RelP s' x v
  | .c _, _, h => RelC.mono he h
  | .agg _, _, ⟨cs, hv, h⟩ => ⟨cs, hv, h.mono he⟩

theorem RelPs.mono {s s' : Mp} (he : HExt s s') : ∀ {l : List LP} {vs : List Value}, RelPs s l vs → RelPs s' l vs
  | [], [], _ => trivial
  | _ :: _, _ :: _, h => ⟨h.1.mono he, RelPs.mono he h.2⟩
  | [], _ :: _, h => h.elim
  | _ :: _, [], h => h.elim

theorem RelV.mono {s s' : Mp} (he : HExt s s') : ∀ {x : LV} {v : Value}, RelV s x v → RelV s' x v
  | .un, _, _ => trivial
  | .c _, _, h => RelC.mono he h
  | .agg _, _, ⟨cs, hv, h⟩ => ⟨cs, hv, h.mono he⟩
  | .tup _, _, ⟨cs, hv, h⟩ => ⟨cs, hv, h.mono he⟩

theorem RelVs.mono {s s' : Mp} (he : HExt s s') : ∀ {l : List LV} {vs : List Value}, RelVs s l vs → RelVs s' l vs
  | [], [], _ => trivial
  | _ :: _, _ :: _, h => ⟨h.1.mono he, RelVs.mono he h.2⟩
  | [], _ :: _, h => h.elim
  | _ :: _, [], h => h.elim

theorem RelB.mono {s s' : Mp} (he : HExt s s') {b : LB} {r : Nat} {f : List Nat} {h : Array Obj} (hb : RelB s b r f h) : RelB s' b r f h := by
  cases hb with
  | any => exact .any
  | cells c ho hl => exact .cells c ho (hl.mono he)
  | ints ho => exact .ints ho
  | rows c ho hn hc hw hl => exact .rows c ho hn hc hw fun i hi => (hl i hi).mono he
  | obj s₁ h0 hf hlen hd hb => exact .obj s₁ h0 hf hlen hd hb

/-- A block's reading hangs on the blocks that belong to it alone. -/
theorem RelB.local {s : Mp} {b : LB} {r : Nat} {f : List Nat} {h : Array Obj} (hb : RelB s b r f h) : ∀ {h' : Array Obj}, (∀ y, y = r ∨ y ∈ f → h'[y]? = h[y]?) → RelB s b r f h' := by
  induction hb with
  | any => intros; exact .any
  | cells c ho hl => intro h' he; exact .cells c (by rw [he _ (.inl rfl)]; exact ho) hl
  | ints ho => intro h' he; exact .ints (by rw [he _ (.inl rfl)]; exact ho)
  | rows c ho hn hc hw hl => intro h' he; exact .rows c (by rw [he _ (.inl rfl)]; exact ho) hn hc hw hl
  | obj s₁ h0 hf hlen hd hb ih =>
    intro h' he
    refine .obj s₁ h0 hf hlen hd fun i b q g hi hs => ih i b q g hi hs fun y hy => he y ((hf y).2 ⟨i, q, g, hs, hy⟩)

theorem RelT.mono {s s' : Mp} (he : HExt s s') {nt : Nat} {T : Tm} {a : Act} (h : RelT s nt T a) : RelT s' nt T a :=
  ⟨h.1, fun t => (h.2 t).mono he⟩

theorem Post.refl (s : Mp) (H : LH) (w : World) (hs : ∀ n y, ownB s n y → n < s.length) : Post s H w s H w :=
  ⟨.refl s, Nat.le_refl _, fun n y h _ => ⟨hs n y h, h⟩, fun _ _ _ => rfl, fun _ h => h, Nat.le_refl _, fun _ _ _ => rfl, rfl, rfl, rfl⟩

theorem ownB_lt {s : Mp} {n y : Nat} (h : ownB s n y) : n < s.length := by
  obtain ⟨r, f, h, _⟩ := h
  exact (List.getElem?_eq_some_iff.1 h).1

theorem Post.rfl' {s : Mp} {H : LH} {w : World} : Post s H w s H w := Post.refl s H w fun _ _ => ownB_lt

theorem Post.trans {s s₁ s₂ : Mp} {H H₁ H₂ : LH} {w w₁ w₂ : World} (h : Post s H w s₁ H₁ w₁) (h' : Post s₁ H₁ w₁ s₂ H₂ w₂) : Post s H w s₂ H₂ w₂ where
  hext := h.hext.trans h'.hext
  len := Nat.le_trans h.len h'.len
  fresh n y hy hlt := by
    have := h'.fresh n y hy (Nat.lt_of_lt_of_le hlt h.size)
    exact h.fresh n y this.2 hlt
  keep n hn hw := by
    rw [h'.keep n (Nat.lt_of_lt_of_le hn h.len) hw, h.keep n hn (fun h0 => hw (h'.wr n h0))]
  wr n hn := h'.wr n (h.wr n hn)
  size := Nat.le_trans h.size h'.size
  frame y hy hno := by
    rw [h'.frame y (Nat.lt_of_lt_of_le hy h.size) ?_, h.frame y hy (fun n hn => hno n (h'.wr n hn))]
    intro n hn ho
    exact hno n hn (h.fresh n y ho hy).2
  tape := h'.tape.trans h.tape
  os := h'.os.trans h.os
  output := h'.output.trans h.output

theorem RelL.length {s : Mp} : ∀ {l : List LC} {vs : List Value}, RelL s l vs → vs.length = l.length
  | [], [], _ => rfl
  | _ :: _, _ :: _, h => by simp [RelL.length h.2]
  | [], _ :: _, h => h.elim
  | _ :: _, [], h => h.elim

theorem RelL.get {s : Mp} : ∀ {l : List LC} {vs : List Value}, RelL s l vs → ∀ {i : Nat} {x : LC}, l[i]? = some x → ∃ v, vs[i]? = some v ∧ RelC s x v
  | [], [], _, i, x, hx => by simp at hx
  | y :: l, v :: vs, h, 0, x, hx => by simp at hx; subst hx; exact ⟨v, rfl, h.1⟩
  | _ :: l, _ :: vs, h, i + 1, x, hx => by simpa using RelL.get h.2 (by simpa using hx)
  | [], _ :: _, h, _, _, _ => h.elim
  | _ :: _, [], h, _, _, _ => h.elim

theorem RelL.take {s : Mp} : ∀ {l : List LC} {vs : List Value}, RelL s l vs → ∀ n, RelL s (l.take n) (vs.take n)
  | [], [], _, n => by simp [RelL]
  | _ :: _, _ :: _, _, 0 => by simp [RelL]
  | _ :: _, _ :: _, h, n + 1 => by simpa [RelL] using ⟨h.1, RelL.take h.2 n⟩
  | [], _ :: _, h, _ => h.elim
  | _ :: _, [], h, _ => h.elim

theorem RelL.drop {s : Mp} : ∀ {l : List LC} {vs : List Value}, RelL s l vs → ∀ n, RelL s (l.drop n) (vs.drop n)
  | [], [], _, n => by simp [RelL]
  | _ :: _, _ :: _, h, 0 => h
  | _ :: _, _ :: _, h, n + 1 => by simpa using RelL.drop h.2 n
  | [], _ :: _, h, _ => h.elim
  | _ :: _, [], h, _ => h.elim

theorem RelL.append {s : Mp} : ∀ {l : List LC} {vs : List Value}, RelL s l vs → ∀ {m : List LC} {us : List Value}, RelL s m us → RelL s (l ++ m) (vs ++ us)
  | [], [], _, _, _, h => h
  | _ :: _, _ :: _, h, _, _, h' => ⟨h.1, RelL.append h.2 h'⟩
  | [], _ :: _, h, _, _, _ => h.elim
  | _ :: _, [], h, _, _, _ => h.elim

theorem rowAt_length (i : Nat) : ∀ cs : List LCol, (rowAt cs i).length = cs.length
  | [] => rfl
  | _ :: r => by simp [rowAt, rowAt_length i r]

theorem LCol.get_free {s s' : Mp} {c : LCol} {i : Nat} {v : Value} (h : RelC s (c.get i) v) : RelC s' (c.get i) v := by
  cases c <;> exact h

theorem rowAt_free {s s' : Mp} {i : Nat} : ∀ {cs : List LCol} {vs : List Value}, RelL s (rowAt cs i) vs → RelL s' (rowAt cs i) vs
  | [], [], h => h
  | _ :: _, _ :: _, h => ⟨LCol.get_free h.1, rowAt_free h.2⟩
  | [], _ :: _, h => h.elim
  | _ :: _, [], h => h.elim

theorem bcond_eq {α : Type} (j i : Nat) (a b : α) : (bif Nat.beq j i then a else b) = if j = i then a else b := by
  by_cases h : j = i
  · subst h; rw [Nat.beq_refl, if_pos rfl]; rfl
  · have : Nat.beq j i = false := Bool.eq_false_iff.2 fun hc => h (Nat.eq_of_beq_eq_true hc)
    rw [this, if_neg h]; rfl

theorem LCol.set_get {c c' : LCol} {i : Nat} {x : LC} (h : c.set i x = some c') (j : Nat) : c'.get j = if j = i then x else c.get j := by
  cases c with
  | int k f =>
    cases x <;> simp only [LCol.set, reduceCtorEq] at h
    split at h
    · rename_i hk
      have hk := of_decide_eq_true hk
      subst hk
      cases h
      simp only [LCol.get, bcond_eq]
      split <;> rfl
    · cases h
  | bool f =>
    cases x <;> simp only [LCol.set, reduceCtorEq, Option.some.injEq] at h
    subst h
    simp only [LCol.get, bcond_eq]
    split <;> rfl

theorem lay_cols {i : Nat} : ∀ {new : List LC} {cs cs' : List LCol}, setCols.lay cs i new = some cs' → new.length ≤ cs.length ∧ cs'.length = cs.length ∧
    ∀ j, rowAt cs' j = if j = i then new ++ (rowAt cs j).drop new.length else rowAt cs j
  | [], cs, cs', h => by
    have : cs = cs' := by cases cs <;> simpa [setCols.lay] using h
    subst this
    simp
  | x :: new, [], cs', h => by simp [setCols.lay] at h
  | x :: new, c :: cs, cs', h => by
    simp only [setCols.lay] at h
    split at h
    · rename_i c1 hc1
      split at h
      · rename_i l hl
        cases h
        obtain ⟨h1, h2, h3⟩ := lay_cols hl
        refine ⟨by simpa using h1, by simp [h2], fun j => ?_⟩
        simp only [rowAt, LCol.set_get hc1, h3]
        split <;> simp
      · cases h
    · cases h

theorem setCols_eq {i : Nat} {new : List LC} : ∀ {off : Nat} {cs cs' : List LCol}, setCols cs i off new = some cs' → off + new.length ≤ cs.length ∧ cs'.length = cs.length ∧
    ∀ j, rowAt cs' j = if j = i then (rowAt cs j).take off ++ new ++ (rowAt cs j).drop (off + new.length) else rowAt cs j
  | 0, cs, cs', h => by
    have h' : setCols.lay cs i new = some cs' := by cases cs <;> simpa [setCols] using h
    have := lay_cols h'
    simpa using this
  | off + 1, [], cs', h => by simp [setCols] at h
  | off + 1, c :: cs, cs', h => by
    simp only [setCols] at h
    split at h
    · rename_i l hl
      cases h
      obtain ⟨h1, h2, h3⟩ := setCols_eq hl
      refine ⟨by simp; omega, by simp [h2], fun j => ?_⟩
      simp only [rowAt, h3]
      split
      · simp [Nat.succ_add]
      · rfl
    · cases h

theorem newCols_eq : ∀ {new : List LC} {cs : List LCol}, newCols new = some cs → cs.length = new.length ∧ ∀ j, rowAt cs j = new
  | [], cs, h => by cases h; exact ⟨rfl, fun _ => rfl⟩
  | x :: r, cs, h => by
    simp only [newCols] at h
    split at h
    · cases h
    · rename_i l hl
      obtain ⟨h1, h2⟩ := newCols_eq hl
      split at h
      · cases h; exact ⟨by simp [h1], fun j => by simp [rowAt, h2, LCol.get]⟩
      · cases h; exact ⟨by simp [h1], fun j => by simp [rowAt, h2, LCol.get]⟩
      · cases h

theorem RelC.oneCell {s : Mp} {x : LC} {v : Value} (h : RelC s x v) : oneC v = true := by
  cases x <;> simp only [RelC] at h
  case any => exact h
  case ptr => obtain ⟨r, _, rfl⟩ := h; rfl
  case idx => obtain ⟨r, _, rfl⟩ := h; rfl
  case slice => obtain ⟨r, _, rfl⟩ := h; rfl
  case iface => obtain ⟨u, rfl, _⟩ := h; rfl
  all_goals subst h; rfl

theorem cells_oneCell {v : Value} (h : oneC v = true) : v.cells = #[v] := by
  cases v <;> first | rfl | (simp [oneC] at h)

theorem RelV.cells {s : Mp} {x : LV} {v : Value} {l : List LC} (h : RelV s x v) (hl : x.cells = some l) : RelL s l v.cells.toList := by
  cases x <;> simp only [LV.cells, Option.some.injEq, reduceCtorEq] at hl
  case c x =>
    subst hl
    rw [cells_oneCell (RelC.oneCell h)]
    exact ⟨h, trivial⟩
  case agg m =>
    subst hl
    obtain ⟨cs, rfl, h⟩ := h
    exact h

theorem RelV.part {s : Mp} {x : LV} {v : Value} {p : LP} (h : RelV s x v) (hp : x.part = some p) : RelP s p v := by
  cases x <;> simp only [LV.part, Option.some.injEq, reduceCtorEq] at hp
  · subst hp; exact h
  · subst hp; exact h

theorem RelP.lv {s : Mp} {p : LP} {v : Value} (h : RelP s p v) : RelV s p.lv v := by
  cases p <;> exact h

theorem ofConstC_rel (s : Mp) : ∀ {v : Value} {x : LC}, ofConstC v = some x → RelC s x v := by
  intro v x h
  unfold ofConstC at h
  split at h <;> first | (cases h; rfl) | cases h

theorem ofConstL_rel (s : Mp) : ∀ {vs : List Value} {l : List LC}, ofConstL vs = some l → RelL s l vs
  | [], l, h => by cases h; trivial
  | v :: vs, l, h => by
    simp only [ofConstL] at h
    split at h
    · cases h
    · rename_i x hx
      split at h
      · cases h
      · rename_i l' hl'
        cases h
        exact ⟨ofConstC_rel s hx, ofConstL_rel s hl'⟩

theorem ofConst_rel (s : Mp) (v : Value) : RelV s (ofConst v) v := by
  unfold ofConst
  split
  · split
    · rename_i cs _ l h
      exact ⟨cs, rfl, ofConstL_rel s h⟩
    · trivial
  · split
    · rename_i x h
      exact ofConstC_rel s h
    · trivial

theorem opnd_rel {s : Mp} {nt : Nat} {T : Tm} {a : Act} (h : RelT s nt T a) (x : Operand) : RelV s (opnd T x) (a.eval x) := by
  cases x with
  | tmp t => exact h.2 t
  | const v => exact ofConst_rel s v
  | global g => trivial
  | func f => rfl

end Go.FL
