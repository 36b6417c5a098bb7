/-
  A contract over objects, out of a walk over the blocks that they are made of.
-/
import Derived.Test.YtfjnkneoddankaaGreatEvCode
set_option linter.unusedVariables false
set_option linter.unusedSimpArgs false
set_option linter.unusedSectionVars false
namespace Go.FL

/-! ### Names that are other ones -/

def LC.ren (g : Nat → Nat) : LC → LC
  | .ptr n off => .ptr (g n) off
  | .idx n row w col => .idx (g n) row w col
  | .slice n off len cap => .slice (g n) off len cap
  | .iface t x => .iface t (x.ren g)
  | x => x

def LB.ren (g : Nat → Nat) : LB → LB
  | .cells e l => .cells e (l.map (·.ren g))
  | b => b

/-- All names of a cell are below. -/
def LC.low (k : Nat) : LC → Bool
  | .ptr n _ => Nat.blt n k
  | .idx n _ _ _ => Nat.blt n k
  | .slice n _ _ _ => Nat.blt n k
  | .iface _ x => x.low k
  | _ => true

def lowL (k : Nat) : List LC → Bool
  | [] => true
  | x :: r => match x.low k with
    | true => lowL k r
    | false => false

def LB.low (k : Nat) : LB → Bool
  | .cells _ l => lowL k l
  | _ => true

theorem RelC.ren {s s' : Mp} {g : Nat → Nat} {x : LC} (hg : ∀ n r, hd s n = some r → hd s' (g n) = some r) : ∀ {v : Value}, RelC s x v → RelC s' (x.ren g) v := by
  induction x with
  | ptr n off => rintro v ⟨r, h, rfl⟩; exact ⟨r, hg _ _ h, rfl⟩
  | idx n row w col => rintro v ⟨r, h, rfl⟩; exact ⟨r, hg _ _ h, rfl⟩
  | slice n off len cap => rintro v ⟨r, h, rfl⟩; exact ⟨r, hg _ _ h, rfl⟩
  | iface t x ih => rintro v ⟨u, rfl, h⟩; exact ⟨u, rfl, ih h⟩
  | _ => intro v h; exact h

theorem RelL.ren {s s' : Mp} {g : Nat → Nat} (hg : ∀ n r, hd s n = some r → hd s' (g n) = some r) : ∀ {l : List LC} {vs : List Value}, RelL s l vs → RelL s' (l.map (·.ren g)) vs
  | [], [], _ => trivial
  | _ :: _, _ :: _, h => ⟨h.1.ren hg, RelL.ren hg h.2⟩
  | [], _ :: _, h => h.elim
  | _ :: _, [], h => h.elim

theorem RelB.ren {s s' : Mp} {g : Nat → Nat} (hg : ∀ n r, hd s n = some r → hd s' (g n) = some r) {b : LB} {r : Nat} {f : List Nat} {h : Array Obj} (hb : RelB s b r f h) : RelB s' (b.ren g) r f h := by
  cases hb with
  | any => exact .any
  | cells c ho hl => exact .cells c ho (hl.ren hg)
  | ints ho => exact .ints ho
  | rows c ho hn hc hw hl => exact .rows c ho hn hc hw fun i hi => rowAt_free (hl i hi)
  | obj s₁ h0 hf hlen hd hb => exact .obj s₁ h0 hf hlen hd hb

/-- The other way: names below 'k' come back. -/
theorem RelC.unren {s s' : Mp} {g : Nat → Nat} {k : Nat} {x : LC} (hg : ∀ n r, n < k → hd s' (g n) = some r → hd s n = some r) (hx : x.low k = true) : ∀ {v : Value}, RelC s' (x.ren g) v → RelC s x v := by
  induction x with
  | ptr n off => rintro v ⟨r, h, rfl⟩; exact ⟨r, hg _ _ (by simpa [LC.low] using hx) h, rfl⟩
  | idx n row w col => rintro v ⟨r, h, rfl⟩; exact ⟨r, hg _ _ (by simpa [LC.low] using hx) h, rfl⟩
  | slice n off len cap => rintro v ⟨r, h, rfl⟩; exact ⟨r, hg _ _ (by simpa [LC.low] using hx) h, rfl⟩
  | iface t x ih => rintro v ⟨u, rfl, h⟩; exact ⟨u, rfl, ih hx h⟩
  | _ => intro v h; exact h

theorem RelL.unren {s s' : Mp} {g : Nat → Nat} {k : Nat} (hg : ∀ n r, n < k → hd s' (g n) = some r → hd s n = some r) : ∀ {l : List LC} {vs : List Value}, lowL k l = true → RelL s' (l.map (·.ren g)) vs → RelL s l vs
  | [], [], _, _ => trivial
  | x :: l, _ :: _, hx, h => by
    simp only [lowL] at hx
    split at hx
    · rename_i h1; exact ⟨h.1.unren hg h1, RelL.unren hg hx h.2⟩
    · cases hx
  | [], _ :: _, _, h => h.elim
  | _ :: _, [], _, h => h.elim

theorem RelB.unren {s s' : Mp} {g : Nat → Nat} {k : Nat} (hg : ∀ n r, n < k → hd s' (g n) = some r → hd s n = some r) {b : LB} (hx : b.low k = true) {r : Nat} {f : List Nat} {h : Array Obj} (hb : RelB s' (b.ren g) r f h) : RelB s b r f h := by
  cases b with
  | any => exact .any
  | cells e l => cases hb with | cells c ho hl => exact .cells c ho (RelL.unren hg hx hl)
  | ints e k' n f' => cases hb with | ints ho => exact .ints ho
  | rows e w n cap cs => cases hb with | rows c ho hn hc hw hl => exact .rows c ho hn hc hw fun i hi => rowAt_free (hl i hi)
  | obj x => cases hb with | obj s₁ h0 hf hlen hd hb => exact .obj s₁ h0 hf hlen hd hb

/-! ### Objects laid open, one behind the other -/

/-- An object, laid open (true), or left as it is. -/
def exB : Bool × Ob → List LB
  | (true, x) => ex x
  | (false, x) => [.obj x]

def cat : List (Bool × Ob) → Nat → List LB
  | [], _ => []
  | x :: r, k => (exB x).map (·.ren (· + k)) ++ cat r (k + (exB x).length)

def base : List (Bool × Ob) → Nat → Nat → Nat
  | [], _, k => k
  | _ :: _, 0, k => k
  | x :: r, i + 1, k => base r i (k + (exB x).length)

theorem ownB_app {s e : Mp} {m y : Nat} : ownB (s ++ e) m y ↔ (m < s.length ∧ ownB s m y) ∨ (s.length ≤ m ∧ ownB e (m - s.length) y) := by
  constructor
  · rintro ⟨r, f, h, hy⟩
    rcases Nat.lt_or_ge m s.length with hlt | hge
    · rw [List.getElem?_append_left hlt] at h; exact .inl ⟨hlt, r, f, h, hy⟩
    · rw [List.getElem?_append_right hge] at h; exact .inr ⟨hge, r, f, h, hy⟩
  · rintro (⟨hlt, r, f, h, hy⟩ | ⟨hge, r, f, h, hy⟩)
    · exact ⟨r, f, by rw [List.getElem?_append_left hlt]; exact h, hy⟩
    · exact ⟨r, f, by rw [List.getElem?_append_right hge]; exact h, hy⟩

theorem hd_app_left {s e : Mp} {n : Nat} (h : n < s.length) : hd (s ++ e) n = hd s n := by
  unfold hd; rw [List.getElem?_append_left h]

theorem hd_app_right {s e : Mp} {n : Nat} (h : s.length ≤ n) : hd (s ++ e) n = hd e (n - s.length) := by
  unfold hd; rw [List.getElem?_append_right h]

theorem hd_lt {s : Mp} {n r : Nat} (h : hd s n = some r) : n < s.length := by
  obtain ⟨f, h⟩ := hd_some h
  exact (List.getElem?_eq_some_iff.1 h).1

/-- What is known of the opened blocks. -/
structure Opened (s : Mp) (h : Array Obj) (ns : List Nat) (xs : List (Bool × Ob)) (k : Nat) (s₁ : Mp) : Prop where
  len : s₁.length = (cat xs k).length
  blk : ∀ (s0 s2 : Mp), s0.length = k → ∀ (i : Nat) (b : LB) (r : Nat) (f : List Nat), (cat xs k)[i]? = some b → s₁[i]? = some (r, f) → RelB (s0 ++ s₁ ++ s2) b r f h
  own : ∀ m y, ownB s₁ m y → ∃ (i n : Nat) (x : Bool × Ob), ns[i]? = some n ∧ xs[i]? = some x ∧ base xs i k ≤ m + k ∧ m + k < base xs i k + (exB x).length ∧ ownB s n y
  back : ∀ (i n y : Nat), ns[i]? = some n → ownB s n y → ∃ m, ownB s₁ m y
  heads : ∀ (i n : Nat), ns[i]? = some n → hd s₁ (base xs i k - k) = hd s n ∧ k ≤ base xs i k
  dis : Disj s₁

theorem base_ge : ∀ (xs : List (Bool × Ob)) (i k : Nat), k ≤ base xs i k
  | [], _, k => Nat.le_refl k
  | _ :: _, 0, k => Nat.le_refl k
  | x :: r, i + 1, k => Nat.le_trans (Nat.le_add_right _ _) (base_ge r i (k + (exB x).length))

/-- An object's blocks, whether it is laid open or not. -/
theorem unfold_obj {s : Mp} {x : Ob} {r : Nat} {f : List Nat} {h : Array Obj} (hb : RelB s (.obj x) r f h) (b : Bool) : ∃ sx : Mp, hd sx 0 = some r ∧ (∀ y, (y = r ∨ y ∈ f) ↔ ∃ n, ownB sx n y) ∧
    sx.length = (exB (b, x)).length ∧ Disj sx ∧ ∀ (i : Nat) (b' : LB) (q : Nat) (g : List Nat), (exB (b, x))[i]? = some b' → sx[i]? = some (q, g) → RelB sx b' q g h := by
  cases b with
  | true =>
    cases hb with
    | obj sx h0 hf hlen hdx hb => exact ⟨sx, h0, hf, hlen, hdx, hb⟩
  | false =>
    have h1 : ∀ n y, ownB [(r, f)] n y ↔ n = 0 ∧ (y = r ∨ y ∈ f) := by
      intro n y
      constructor
      · rintro ⟨q, g, hq, hy⟩
        cases n with
        | zero => simp at hq; obtain ⟨rfl, rfl⟩ := hq; exact ⟨rfl, hy⟩
        | succ n => simp at hq
      · rintro ⟨rfl, hy⟩; exact ⟨r, f, rfl, hy⟩
    refine ⟨[(r, f)], rfl, fun y => ?_, rfl, fun n m y hn hm => ?_, fun i b' q g hi hs => ?_⟩
    · constructor
      · intro hy; exact ⟨0, (h1 _ _).2 ⟨rfl, hy⟩⟩
      · rintro ⟨n, hn⟩; exact ((h1 _ _).1 hn).2
    · rw [((h1 _ _).1 hn).1, ((h1 _ _).1 hm).1]
    · cases i with
      | zero =>
        simp [exB] at hi hs
        obtain ⟨rfl, rfl⟩ := hs
        subst hi
        exact RelB.ren (g := id) (s := []) (fun n r h => by simp [hd] at h) (by cases hb with | obj sx h0 hf hlen hdx hb => exact .obj sx h0 hf hlen hdx hb)
      | succ i => simp at hs

theorem open_rel {s : Mp} {H : LH} {w : World} (hH : Rel s H w) : ∀ (ns : List Nat) (xs : List (Bool × Ob)) (k : Nat), ns.length = xs.length →
    (∀ (i n : Nat) (x : Bool × Ob), ns[i]? = some n → xs[i]? = some x → H.bl[n]? = some (.obj x.2)) → ns.Nodup → ∃ s₁, Opened s w.heap ns xs k s₁
  | [], [], k, _, _, _ => ⟨[], rfl, fun _ _ _ i b r f h => by simp [cat] at h, fun m y h => by obtain ⟨_, _, h, _⟩ := h; simp at h, fun i n y h => by simp at h, fun i n h => by simp at h,
      fun n m y h => by obtain ⟨_, _, h, _⟩ := h; simp at h⟩
  | [], _ :: _, _, h, _, _ => by simp at h
  | _ :: _, [], _, h, _, _ => by simp at h
  | n :: ns, x :: xs, k, hl, hg, hnd => by
    obtain ⟨sr, hr⟩ := open_rel hH ns xs (k + (exB x).length) (by simpa using hl) (fun i n' x' h1 h2 => hg (i + 1) n' x' (by simpa using h1) (by simpa using h2)) (List.nodup_cons.1 hnd).2
    have hn := hg 0 n x rfl rfl
    have hnl : n < s.length := by rw [hH.len]; exact (List.getElem?_eq_some_iff.1 hn).1
    obtain ⟨⟨r, f⟩, hs⟩ : ∃ p, s[n]? = some p := ⟨_, List.getElem?_eq_getElem hnl⟩
    obtain ⟨sx, h0, hf, hlen, hdx, hb⟩ := unfold_obj (hH.blk n _ r f hn hs) x.1
    have hlen : sx.length = (exB x).length := hlen
    · skip
      have hown : ∀ m y, ownB sx m y → ownB s n y := fun m y h => ⟨r, f, hs, (hf y).2 ⟨m, h⟩⟩
      have hpos : 0 < (exB x).length := by rw [← hlen]; exact hd_lt h0
      have hcl : ((exB x).map (·.ren (· + k))).length = sx.length := by simp [hlen]
      refine ⟨sx ++ sr, ?_, ?_, ?_, ?_, ?_, ?_⟩
      · simp [cat, hlen, hr.len]
      · intro s0 s2 hk i b q g hb' hs'
        rcases Nat.lt_or_ge i sx.length with hlt | hge
        · rw [List.getElem?_append_left hlt] at hs'
          simp only [cat] at hb'
          rw [List.getElem?_append_left (by rw [hcl]; exact hlt), List.getElem?_map] at hb'
          cases hx : (exB x)[i]? with
          | none => rw [hx] at hb'; cases hb'
          | some b0 =>
            rw [hx] at hb'; cases hb'
            refine (hb i b0 q g hx hs').ren ?_
            intro m z hm
            have hml := hd_lt hm
            rw [List.append_assoc, hd_app_right (by omega), hk, Nat.add_sub_cancel, List.append_assoc, hd_app_left hml]
            exact hm
        · rw [List.getElem?_append_right hge] at hs'
          simp only [cat] at hb'
          rw [List.getElem?_append_right (by rw [hcl]; exact hge), hcl] at hb'
          have := hr.blk (s0 ++ sx) s2 (by simp [hk, hlen]) _ _ _ _ hb' hs'
          simpa [List.append_assoc] using this
      · intro m y hy
        rcases ownB_app.1 hy with ⟨hlt, hy⟩ | ⟨hge, hy⟩
        · exact ⟨0, n, x, rfl, rfl, by simp [base], by simp [base]; omega, hown m y hy⟩
        · obtain ⟨i, n', x', h1, h2, h3, h4, h5⟩ := hr.own _ y hy
          refine ⟨i + 1, n', x', by simpa using h1, by simpa using h2, ?_, ?_, h5⟩
          · simp only [base]; rw [← hlen] at h3 ⊢; omega
          · simp only [base]; rw [← hlen] at h4 ⊢; omega
      · intro i n' y hi hy
        cases i with
        | zero =>
          simp at hi; subst hi
          obtain ⟨r', f', hs2, hy⟩ := hy
          rw [hs] at hs2; cases hs2
          obtain ⟨m, hm⟩ := (hf y).1 hy
          exact ⟨m, ownB_app.2 (.inl ⟨ownB_lt hm, hm⟩)⟩
        | succ i =>
          obtain ⟨m, hm⟩ := hr.back i n' y (by simpa using hi) hy
          exact ⟨m + sx.length, ownB_app.2 (.inr ⟨by omega, by simpa using hm⟩)⟩
      · intro i n' hi
        cases i with
        | zero =>
          simp at hi; subst hi
          refine ⟨?_, by simp [base]⟩
          simp only [base, Nat.sub_self]
          rw [hd_app_left (by omega), h0, hd_of hs]
        | succ i =>
          obtain ⟨h1, h2⟩ := hr.heads i n' (by simpa using hi)
          refine ⟨?_, base_ge _ _ _⟩
          simp only [base]
          rw [← hlen] at h1 h2 ⊢
          rw [hd_app_right (by omega), ← h1]
          congr 1
          omega
      · intro a b y ha hb'
        rcases ownB_app.1 ha with ⟨h1, h2⟩ | ⟨h1, h2⟩ <;> rcases ownB_app.1 hb' with ⟨h3, h4⟩ | ⟨h3, h4⟩
        · exact hdx a b y h2 h4
        · exfalso
          obtain ⟨i, n', x', h5, _, _, _, h6⟩ := hr.own _ y h4
          have := hH.dis n n' y (hown a y h2) h6
          subst this
          exact (List.nodup_cons.1 hnd).1 (List.mem_of_getElem? h5)
        · exfalso
          obtain ⟨i, n', x', h5, _, _, _, h6⟩ := hr.own _ y h2
          have := hH.dis n n' y (hown b y h4) h6
          subst this
          exact (List.nodup_cons.1 hnd).1 (List.mem_of_getElem? h5)
        · have := hr.dis _ _ y h2 h4
          omega

theorem Opened.rel {s : Mp} {w : World} {ns : List Nat} {xs : List (Bool × Ob)} {s₁ : Mp} {H : LH} (hH : Rel s H w) (h : Opened s w.heap ns xs 0 s₁) : Rel s₁ ⟨cat xs 0, []⟩ w :=
  ⟨h.len, fun n b r f hb hs => by simpa using h.blk [] [] rfl n b r f hb hs, h.dis, fun m y hy => by
    obtain ⟨i, n, x, _, _, _, _, h5⟩ := h.own m y hy
    exact hH.bnd n y h5⟩

end Go.FL
