/-
  A loop whose states are read anew behind each round: blocks that nobody names any more go, others get other names.
-/
import Derived.Test.YtfjnkneoddankaaGreatEvClose
set_option linter.unusedVariables false
set_option linter.unusedSimpArgs false
set_option linter.unusedSectionVars false
namespace Go.FL

def LP.ren (g : Nat → Nat) : LP → LP
  | .c x => .c (x.ren g)
  | .agg l => .agg (l.map (·.ren g))

def LV.ren (g : Nat → Nat) : LV → LV
  | .un => .un
  | .c x => .c (x.ren g)
  | .agg l => .agg (l.map (·.ren g))
  | .tup l => .tup (l.map (·.ren g))

def LP.low (k : Nat) : LP → Bool
  | .c x => x.low k
  | .agg l => lowL k l

def lowPs (k : Nat) : List LP → Bool
  | [] => true
  | x :: r => match x.low k with
    | true => lowPs k r
    | false => false

def LV.low (k : Nat) : LV → Bool
  | .un => true
  | .c x => x.low k
  | .agg l => lowL k l
  | .tup l => lowPs k l

section
variable {s s' : Mp} {g : Nat → Nat} {k : Nat}

theorem RelP.unren (hg : ∀ n r, n < k → hd s' (g n) = some r → hd s n = some r) : ∀ {x : LP}, x.low k = true → ∀ {v : Value}, RelP s' (x.ren g) v → RelP s x v
  | .c x, hx, v, h => RelC.unren hg hx h
  | .agg l, hx, v, ⟨cs, hv, h⟩ => ⟨cs, hv, RelL.unren hg hx h⟩

theorem RelPs.unren (hg : ∀ n r, n < k → hd s' (g n) = some r → hd s n = some r) : ∀ {l : List LP} {vs : List Value}, lowPs k l = true → RelPs s' (l.map (·.ren g)) vs → RelPs s l vs
  | [], [], _, _ => trivial
  | x :: l, _ :: _, hx, h => by
    simp only [lowPs] at hx
    split at hx
    · rename_i h1; exact ⟨h.1.unren hg h1, RelPs.unren hg hx h.2⟩
    · cases hx
  | [], _ :: _, _, h => h.elim
  | _ :: _, [], _, h => h.elim

theorem RelV.unren (hg : ∀ n r, n < k → hd s' (g n) = some r → hd s n = some r) : ∀ {x : LV}, x.low k = true → ∀ {v : Value}, RelV s' (x.ren g) v → RelV s x v
  | .un, _, _, _ => trivial
  | .c x, hx, v, h => RelC.unren hg hx h
  | .agg l, hx, v, ⟨cs, hv, h⟩ => ⟨cs, hv, RelL.unren hg hx h⟩
  | .tup l, hx, v, ⟨vs, hv, h⟩ => ⟨vs, hv, RelPs.unren hg hx h⟩
end

/-- The blocks of the new names. -/
def blocksAt (H : LH) (k : Nat) (c : List Nat) : List LB → List Nat → Prop
  | [], [] => True
  | b :: r, n :: ns => (b.low k = true ∧ H.get n = some (b.ren fun i => c.getD i 0)) ∧ blocksAt H k c r ns
  | _, _ => False

theorem blocksAt_get {H : LH} {k : Nat} {c : List Nat} : ∀ {bs : List LB} {ns : List Nat}, blocksAt H k c bs ns → ns.length = bs.length ∧
    ∀ (j : Nat) (b : LB), bs[j]? = some b → b.low k = true ∧ ∃ n, ns[j]? = some n ∧ H.bl[n]? = some (b.ren fun i => c.getD i 0)
  | [], [], _ => ⟨rfl, fun j b h => by simp at h⟩
  | b :: r, n :: ns, h => by
    obtain ⟨h1, h2⟩ := blocksAt_get h.2
    refine ⟨by simp [h1], fun j b' hj => ?_⟩
    cases j with
    | zero => simp at hj; subst hj; exact ⟨h.1.1, n, rfl, by rw [← LH.get_eq]; exact h.1.2⟩
    | succ j => simpa using h2 j b' (by simpa using hj)
  | [], _ :: _, h => h.elim
  | _ :: _, [], h => h.elim

/-- The first 'k' names stay; the others stand for others. -/
def stays (k : Nat) : Nat → List Nat → Bool
  | j, [] => Nat.ble k j
  | j, n :: r => match Nat.ble (j + 1) k with
    | true => match Nat.beq n j with
      | true => stays k (j + 1) r
      | false => false
    | false => match Nat.ble k n with
      | true => stays k (j + 1) r
      | false => false

def fewB : List Nat → Bool
  | [] => true
  | x :: r => match r.any (Nat.beq x) with
    | true => false
    | false => fewB r

def tmsAt (T : Tm) (k : Nat) (c : List Nat) : Tm → Prop
  | [] => True
  | (t, v) :: r => (v.low k = true ∧ Tm.get T t = v.ren fun i => c.getD i 0) ∧ tmsAt T k c r

/-- The state read anew. -/
def reab (k : Nat) (g : List Nat) (T : Tm) (H : LH) (T' : Tm) (H' : LH) : Prop :=
  (stays k 0 g && fewB g) = true ∧ blocksAt H g.length g H'.bl g ∧ tmsAt T g.length g T' ∧ ∀ n ∈ H.wr, n ∈ H'.wr

theorem stays_eq {k : Nat} : ∀ {g : List Nat} {j : Nat}, stays k j g = true → k ≤ j + g.length ∧ ∀ (i n : Nat), g[i]? = some n → (i + j < k → n = i + j) ∧ (k ≤ i + j → k ≤ n)
  | [], j, h => ⟨by simpa [stays] using h, fun i n hi => by simp at hi⟩
  | m :: r, j, h => by
    simp only [stays] at h
    split at h
    · rename_i hj
      have hj := Nat.le_of_ble_eq_true hj
      split at h
      · rename_i hm
        have hm := Nat.eq_of_beq_eq_true hm
        subst hm
        obtain ⟨h1, h2⟩ := stays_eq h
        refine ⟨by simp; omega, fun i n hi => ?_⟩
        cases i with
        | zero => simp at hi; subst hi; exact ⟨fun _ => by omega, fun _ => by omega⟩
        | succ i =>
          have := h2 i n (by simpa using hi)
          exact ⟨fun h => by have := this.1 (by omega); omega, fun h => this.2 (by omega)⟩
      · cases h
    · rename_i hj
      have hj : ¬ (j + 1 ≤ k) := by intro hc; rw [Nat.ble_eq_true_of_le hc] at hj; cases hj
      split at h
      · rename_i hm
        have hm := Nat.le_of_ble_eq_true hm
        obtain ⟨h1, h2⟩ := stays_eq h
        refine ⟨by simp; omega, fun i n hi => ?_⟩
        cases i with
        | zero => simp at hi; subst hi; exact ⟨fun _ => by omega, fun _ => hm⟩
        | succ i =>
          have := h2 i n (by simpa using hi)
          exact ⟨fun h => by have := this.1 (by omega); omega, fun h => this.2 (by omega)⟩
      · cases h

theorem fewB_eq : ∀ {l : List Nat}, fewB l = true → l.Nodup
  | [], _ => List.nodup_nil
  | x :: r, h => by
    simp only [fewB] at h
    split at h
    · cases h
    · rename_i hx
      refine List.nodup_cons.2 ⟨fun hm => ?_, fewB_eq h⟩
      have : r.any (Nat.beq x) = true := List.any_eq_true.2 ⟨x, hm, Nat.beq_refl x⟩
      rw [this] at hx; cases hx

theorem tmsAt_get {T : Tm} {k : Nat} {c : List Nat} : ∀ {T' : Tm}, tmsAt T k c T' → ∀ t, Tm.get T' t = .un ∨ ((Tm.get T' t).low k = true ∧ Tm.get T t = (Tm.get T' t).ren fun i => c.getD i 0)
  | [], _, t => .inl rfl
  | (u, v) :: r, h, t => by
    simp only [Tm.get]
    split
    · rename_i he
      have he := Nat.eq_of_beq_eq_true he
      subst he
      exact .inr h.1
    · exact tmsAt_get h.2 t

theorem reab_ok {s0 s : Mp} {H0 H H' : LH} {w0 w : World} {T T' : Tm} {nt : Nat} {a : Act} {g : List Nat} (hH : Rel s H w) (hT : RelT s nt T a) (hp : Post s0 H0 w0 s H w) (h : reab s0.length g T H T' H') :
    ∃ s', Rel s' H' w ∧ RelT s' nt T' a ∧ Post s0 H0 w0 s' H' w := by
  obtain ⟨hg, hb, ht, hwr⟩ := h
  simp only [Bool.and_eq_true] at hg
  obtain ⟨hlen0, hst⟩ := stays_eq hg.1
  have hnd := fewB_eq hg.2
  obtain ⟨hlb, hbs⟩ := blocksAt_get hb
  have hin : ∀ (j n : Nat), g[j]? = some n → n < s.length := by
    intro j n hj
    have hjl : j < H'.bl.length := by rw [← hlb]; exact (List.getElem?_eq_some_iff.1 hj).1
    obtain ⟨_, m, hm, hbl⟩ := hbs j _ (List.getElem?_eq_getElem hjl)
    rw [hj] at hm; cases hm
    rw [hH.len]
    exact (List.getElem?_eq_some_iff.1 hbl).1
  have hget : ∀ (j n : Nat), g[j]? = some n → (g.map fun n => (s[n]?).getD (0, []))[j]? = s[n]? := by
    intro j n hj
    have := hin j n hj
    rw [List.getElem?_map, hj]
    simp only [Option.map_some, List.getElem?_eq_getElem this, Option.getD_some]
  have hgd : ∀ (j n : Nat), g[j]? = some n → g.getD j 0 = n := by
    intro j n hj
    rw [List.getD_eq_getElem?_getD, hj]; rfl
  have hhd : ∀ n r, n < g.length → hd s (g.getD n 0) = some r → hd (g.map fun n => (s[n]?).getD (0, [])) n = some r := by
    intro n r hn hr
    have h1 := List.getElem?_eq_getElem hn
    rw [hgd n _ h1] at hr
    unfold hd at hr ⊢
    rw [hget n _ h1]
    exact hr
  have hown : ∀ n y, ownB (g.map fun n => (s[n]?).getD (0, [])) n y → ∃ m, g[n]? = some m ∧ ownB s m y := by
    rintro n y ⟨r, f, h1, h2⟩
    have hn : n < g.length := by have := (List.getElem?_eq_some_iff.1 h1).1; simpa using this
    have h3 := List.getElem?_eq_getElem hn
    rw [hget n _ h3] at h1
    exact ⟨_, h3, r, f, h1, h2⟩
  refine ⟨g.map fun n => (s[n]?).getD (0, []), ⟨by simp [hlb], ?_, ?_, ?_⟩, ⟨hT.1, fun t => ?_⟩, ⟨?_, by simpa using hlen0, ?_, ?_, fun n hn => hwr n (hp.wr n hn), hp.size, ?_, hp.tape, hp.os, hp.output⟩⟩
  · intro n b r f hn hs
    obtain ⟨hlow, m, hm, hbl⟩ := hbs n b hn
    rw [hget n m hm] at hs
    exact RelB.unren hhd hlow (hH.blk _ _ _ _ hbl hs)
  · intro n m y hn hm
    obtain ⟨a1, h1, h2⟩ := hown n y hn
    obtain ⟨a2, h3, h4⟩ := hown m y hm
    have := hH.dis _ _ _ h2 h4
    subst this
    exact (List.getElem?_inj (List.getElem?_eq_some_iff.1 h1).1 hnd).1 (h1.trans h3.symm)
  · intro n y hn
    obtain ⟨m, _, h2⟩ := hown n y hn
    exact hH.bnd m y h2
  · rcases tmsAt_get ht t with h1 | ⟨h1, h2⟩
    · rw [h1]; trivial
    · have := hT.2 t
      rw [h2] at this
      exact this.unren hhd h1
  · intro n r hr
    have hn := hd_lt hr
    have hng : n < g.length := by omega
    have h1 := List.getElem?_eq_getElem hng
    have h2 := (hst n _ h1).1 (by omega)
    refine hhd n r hng ?_
    rw [hgd n _ h1, h2]
    exact hp.hext n r hr
  · intro n y hn hlt
    obtain ⟨m, h1, h2⟩ := hown n y hn
    obtain ⟨h3, h4⟩ := hp.fresh m y h2 hlt
    have h5 := hst n m h1
    have hnk : n < s0.length := by
      rcases Nat.lt_or_ge n s0.length with h | h
      · exact h
      · have := h5.2 (by omega); omega
    have := h5.1 (by omega)
    have : m = n := by omega
    subst this
    exact ⟨h3, h4⟩
  · intro n hn hni
    have hng : n < g.length := by omega
    have h1 := List.getElem?_eq_getElem hng
    have h2 := (hst n _ h1).1 (by omega)
    rw [hget n _ h1, h2]
    exact hp.keep n hn fun hi => hni (hwr n hi)
  · intro y hy hno
    exact hp.frame y hy fun n hn => hno n (hwr n hn)

section
variable {P : Program}

/-- Behind a round, the state read anew. -/
def loopKR (k : Nat) (I : Nat → Tm → LH → Prop) (K : X → Tm → LH → Prop) (n : Nat) : X → Tm → LH → Prop := fun x T H => match x with
  | .normal => ∃ n', n' < n ∧ ∃ g T' H', reab k g T H T' H' ∧ I n' T' H'
  | x => ∃ g T' H', reab k g T H T' H' ∧ K x T' H'

theorem loopR_ok {nt : Nat} {c : Code} {body : Tm → LH → (X → Tm → LH → Prop) → Prop} (hb : BodyOK P nt c body) {h : LHd}
    (hh : ∀ T H K, h T H K → ∃ ts I, (∃ n, I n (Tm.norm ts T) H) ∧ ∀ n T' H', I n T' H' → body T' H' fun x T₁ H₁ => loopKR H.bl.length I K n x (Tm.norm ts T₁) H₁) : BodyOK P nt (.loop c) h := by
  intro T H K s a w Q h0 hT hH hQ
  obtain ⟨ts, I, ⟨n0, h0⟩, hround⟩ := hh T H K h0
  refine loop_fall (nt := nt) (fun n a' w' => ∃ T' H' s', I n T' H' ∧ RelT s' nt T' a' ∧ Rel s' H' w' ∧ Post s H w s' H' w') ⟨n0, _, H, s, h0, hT.norm ts, hH, Post.rfl'⟩ ?_
  rintro n a' w' ⟨T', H', s', h1, h2, h3, h4⟩
  refine hb.use (hround _ _ _ h1) h2 h3 ?_
  intro x s'' T'' H'' a'' w'' hK hT'' hH'' hp
  have hps := h4.trans hp
  have hT'' := hT''.norm ts
  rw [← hH.len] at hK
  cases x with
  | normal =>
    obtain ⟨n', hlt, g, T1, H1, hre, hI⟩ := hK
    obtain ⟨s1, h5, h6, h7⟩ := reab_ok hH'' hT'' hps hre
    exact ⟨n', hlt, T1, H1, s1, hI, h6, h5, h7⟩
  | exit id =>
    obtain ⟨g, T1, H1, hre, hK⟩ := hK
    obtain ⟨s1, h5, h6, h7⟩ := reab_ok hH'' hT'' hps hre
    exact hQ (.exit id) s1 _ _ a'' w'' hK h6 h5 h7
  | ret =>
    obtain ⟨g, T1, H1, hre, hK⟩ := hK
    obtain ⟨s1, h5, h6, h7⟩ := reab_ok hH'' hT'' hps hre
    exact hQ .ret s1 _ _ a'' w'' hK h6 h5 h7
end
end Go.FL
