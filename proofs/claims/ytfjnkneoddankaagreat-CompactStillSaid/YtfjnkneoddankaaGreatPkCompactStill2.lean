/-
  Objects shut again; the contract over objects.
-/
import Derived.Test.YtfjnkneoddankaaGreatPkCompactStill1
import GoSem.Core.Code
import GoSem.Core.Next
import Derived.Test.YtfjnkneoddankaaGreatProg
import Derived.KernelRfl
set_option linter.unusedVariables false
set_option linter.unusedSimpArgs false
set_option linter.unusedSectionVars false
namespace Go.FL
variable [Fz]

/-- The blocks of the names 'c' are those of an object. -/
def Clus (H : LH) (c : List Nat) (x : Bool × Ob) : Prop :=
  c.length = (exB x).length ∧ ∀ (j : Nat) (b : LB), (exB x)[j]? = some b → b.low c.length = true ∧ ∃ m : Nat, c[j]? = some m ∧ H.bl[m]? = some (b.ren fun i => c.getD i 0)

theorem fold_obj {s : Mp} {r : Nat} {f : List Nat} {h : Array Obj} {x : Ob} {b : Bool} {sx : Mp} (h0 : hd sx 0 = some r) (hf : ∀ y, (y = r ∨ y ∈ f) ↔ ∃ n, ownB sx n y) (hlen : sx.length = (exB (b, x)).length) (hdx : Disj sx)
    (hb : ∀ (i : Nat) (b' : LB) (q : Nat) (g : List Nat), (exB (b, x))[i]? = some b' → sx[i]? = some (q, g) → RelB sx b' q g h) : RelB s (.obj x) r f h := by
  cases b with
  | true => exact .obj sx h0 hf hlen hdx hb
  | false =>
    obtain ⟨g, hg⟩ := hd_some h0
    cases hb 0 _ r g rfl hg with
    | obj s2 h0' hf' hlen' hdx' hb' =>
      refine .obj s2 h0' ?_ hlen' hdx' hb'
      intro y
      rw [hf y, ← hf' y]
      constructor
      · rintro ⟨n, q, k, hn, hy⟩
        have hn0 : n = 0 := by
          have := (List.getElem?_eq_some_iff.1 hn).1
          rw [hlen] at this
          simp [exB] at this; omega
        subst hn0
        rw [hg] at hn; cases hn
        exact hy
      · intro hy; exact ⟨0, r, g, hg, hy⟩

/-- What belongs to a cluster. -/
def ent (s : Mp) (c : List Nat) : Nat × List Nat := ((hd s (c.getD 0 0)).getD 0, (c.map fun m => (s[m]?).getD (0, [])).flatMap fun p => p.1 :: p.2)

theorem clus_rel {s : Mp} {H : LH} {w : World} (hH : Rel s H w) {c : List Nat} {x : Bool × Ob} (hc : Clus H c x) (hnd : c.Nodup) {m0 : Nat} (h0 : c[0]? = some m0) (s' : Mp) :
    hd s m0 = some (ent s c).1 ∧ RelB s' (.obj x.2) (ent s c).1 (ent s c).2 w.heap ∧ ∀ y, (y = (ent s c).1 ∨ y ∈ (ent s c).2) ↔ ∃ m, m ∈ c ∧ ownB s m y := by
  obtain ⟨hcl, hcb⟩ := hc
  have hin : ∀ (j m : Nat), c[j]? = some m → ∃ p, s[m]? = some p := by
    intro j m hj
    have hjl : j < (exB x).length := by rw [← hcl]; exact (List.getElem?_eq_some_iff.1 hj).1
    obtain ⟨_, m', h1, h2⟩ := hcb j _ (List.getElem?_eq_getElem hjl)
    rw [hj] at h1; cases h1
    have := (List.getElem?_eq_some_iff.1 h2).1
    rw [← hH.len] at this
    exact ⟨_, List.getElem?_eq_getElem this⟩
  let sx : Mp := c.map fun m => (s[m]?).getD (0, [])
  have hsx : ∀ (j m : Nat) p, c[j]? = some m → s[m]? = some p → sx[j]? = some p := by
    intro j m p hj hm
    simp [sx, hj, hm]
  have hsx' : ∀ (j : Nat) p, sx[j]? = some p → ∃ m, c[j]? = some m ∧ s[m]? = some p := by
    intro j p hj
    simp only [sx, List.getElem?_map] at hj
    cases hx : c[j]? with
    | none => rw [hx] at hj; cases hj
    | some m =>
      rw [hx] at hj
      obtain ⟨p', hp'⟩ := hin j m hx
      simp [hp'] at hj
      subst hj
      exact ⟨m, rfl, hp'⟩
  have hown : ∀ j y, ownB sx j y ↔ ∃ m, c[j]? = some m ∧ ownB s m y := by
    intro j y
    constructor
    · rintro ⟨r, f, h, hy⟩
      obtain ⟨m, h1, h2⟩ := hsx' j _ h
      exact ⟨m, h1, r, f, h2, hy⟩
    · rintro ⟨m, h1, r, f, h2, hy⟩
      exact ⟨r, f, hsx j m _ h1 h2, hy⟩
  obtain ⟨⟨r, f0⟩, hp0⟩ := hin 0 m0 h0
  have hent : ent s c = (r, sx.flatMap fun p => p.1 :: p.2) := by
    unfold ent
    have : c.getD 0 0 = m0 := by simp [List.getD, h0]
    rw [this, hd_of hp0]
    rfl
  rw [hent]
  refine ⟨hd_of hp0, ?_, ?_⟩
  · have hmem : ∀ y, (y = r ∨ y ∈ sx.flatMap fun p => p.1 :: p.2) ↔ ∃ n, ownB sx n y := by
      intro y
      have h1 : y ∈ sx.flatMap (fun p => p.1 :: p.2) ↔ ∃ n, ownB sx n y := by
        rw [List.mem_flatMap]
        constructor
        · rintro ⟨⟨q, g⟩, hq, hy⟩
          obtain ⟨n, hn⟩ := List.getElem?_of_mem hq
          exact ⟨n, q, g, hn, by simpa using hy⟩
        · rintro ⟨n, q, g, hn, hy⟩
          exact ⟨(q, g), List.mem_of_getElem? hn, by simpa using hy⟩
      rw [h1]
      constructor
      · rintro (rfl | h)
        · exact ⟨0, (hown 0 y).2 ⟨m0, h0, y, f0, hp0, .inl rfl⟩⟩
        · exact h
      · exact .inr
    refine fold_obj (b := x.1) (hd_of (hsx 0 m0 _ h0 hp0)) hmem (by simp [sx, hcl]) ?_ ?_
    · intro a b y ha hb
      obtain ⟨m, h1, h2⟩ := (hown a y).1 ha
      obtain ⟨m', h3, h4⟩ := (hown b y).1 hb
      have := hH.dis m m' y h2 h4
      subst this
      obtain ⟨ha', ha''⟩ := List.getElem?_eq_some_iff.1 h1
      obtain ⟨hb', hb''⟩ := List.getElem?_eq_some_iff.1 h3
      exact (List.getElem_inj hnd).1 (ha''.trans hb''.symm)
    · intro i b' q g hi hs
      obtain ⟨m, h1, h2⟩ := hsx' i _ hs
      obtain ⟨hlow, m', h3, h4⟩ := hcb i b' hi
      rw [h1] at h3; cases h3
      refine RelB.unren (k := c.length) ?_ hlow (hH.blk m _ q g h4 h2)
      intro n z hn hz
      have hcn : c[n]? = some (c.getD n 0) := by simp [List.getElem?_eq_getElem hn, List.getD]
      obtain ⟨k, hk⟩ := hd_some hz
      exact hd_of (hsx n _ _ hcn hk)
  · intro y
    constructor
    · rintro (rfl | h)
      · exact ⟨m0, List.mem_of_getElem? h0, y, f0, hp0, .inl rfl⟩
      · rw [List.mem_flatMap] at h
        obtain ⟨⟨q, g⟩, hq, hy⟩ := h
        obtain ⟨n, hn⟩ := List.getElem?_of_mem hq
        obtain ⟨m, h1, h2⟩ := hsx' n _ hn
        exact ⟨m, List.mem_of_getElem? h1, q, g, h2, by simpa using hy⟩
    · rintro ⟨m, hm, hy⟩
      obtain ⟨j, hj⟩ := List.getElem?_of_mem hm
      obtain ⟨q, g, h2, hy⟩ := hy
      right
      rw [List.mem_flatMap]
      exact ⟨(q, g), List.mem_of_getElem? (hsx j m _ hj h2), by simpa using hy⟩

def putObs : LH → List Nat → List Ob → LH
  | H, n :: ns, x :: xs => putObs (H.put n (.obj x)) ns xs
  | H, _, _ => H

def newObs : LH → List Ob → LH
  | H, [] => H
  | H, y :: ys => newObs (H.new (.obj y)) ys

/-- How the blocks behind a walk are objects again. -/
structure CloseOK (xs : List (Bool × Ob)) (H₁ : LH) (cs : List (List Nat)) (xs' : List (Bool × Ob)) (ds : List (List Nat)) (ys : List (Bool × Ob)) : Prop where
  lc : cs.length = xs.length
  lx : xs'.length = xs.length
  ld : ds.length = ys.length
  clus : ∀ (i : Nat) (c : List Nat) (x' : Bool × Ob), cs[i]? = some c → xs'[i]? = some x' → Clus H₁ c x'
  head : ∀ (i : Nat) (c : List Nat), cs[i]? = some c → c[0]? = some (base xs i 0)
  own : ∀ (i : Nat) (c : List Nat) (x : Bool × Ob) (m : Nat), cs[i]? = some c → xs[i]? = some x → m ∈ c → m < (cat xs 0).length → base xs i 0 ≤ m ∧ m < base xs i 0 + (exB x).length
  dclus : ∀ (j : Nat) (d : List Nat) (y : Bool × Ob), ds[j]? = some d → ys[j]? = some y → Clus H₁ d y
  dhead : ∀ (j : Nat) (d : List Nat), ds[j]? = some d → ∃ m, d[0]? = some m
  down : ∀ (j : Nat) (d : List Nat) (m : Nat), ds[j]? = some d → m ∈ d → (cat xs 0).length ≤ m
  nodup : (cs.flatten ++ ds.flatten).Nodup

theorem putObs_bl : ∀ (ns : List Nat) (xs : List Ob) (H : LH), ns.length = xs.length → ns.Nodup → (∀ n ∈ ns, n < H.bl.length) → (putObs H ns xs).bl.length = H.bl.length ∧
    (∀ (i n : Nat) (x : Ob), ns[i]? = some n → xs[i]? = some x → (putObs H ns xs).bl[n]? = some (.obj x)) ∧ (∀ n : Nat, n ∉ ns → (putObs H ns xs).bl[n]? = H.bl[n]?) ∧
    (∀ n, n ∈ (putObs H ns xs).wr ↔ n ∈ ns ∨ n ∈ H.wr)
  | [], [], H, _, _, _ => ⟨rfl, by simp, fun _ _ => rfl, by simp [putObs]⟩
  | [], _ :: _, _, h, _, _ => by simp at h
  | _ :: _, [], _, h, _, _ => by simp at h
  | n :: ns, x :: xs, H, hl, hnd, hlt => by
    obtain ⟨h1, h2, h3, h4⟩ := putObs_bl ns xs (H.put n (.obj x)) (by simpa using hl) (List.nodup_cons.1 hnd).2 (fun m hm => by simpa [LH.put, lset_eq] using hlt m (by simp [hm]))
    have hn : n < H.bl.length := hlt n (by simp)
    have hnn := (List.nodup_cons.1 hnd).1
    simp only [putObs]
    refine ⟨by rw [h1]; simp [LH.put, lset_eq], ?_, ?_, ?_⟩
    · intro i m y hm hy
      cases i with
      | zero =>
        simp at hm hy
        subst hm; subst hy
        rw [h3 n hnn]
        simp [LH.put, lset_eq, hn]
      | succ i => exact h2 i m y (by simpa using hm) (by simpa using hy)
    · intro m hm
      simp only [List.mem_cons, not_or] at hm
      rw [h3 m hm.2]
      simp only [LH.put, lset_eq, List.getElem?_set]
      rw [if_neg (fun h => hm.1 h.symm)]
    · intro m
      rw [h4 m]
      simp only [LH.put, List.mem_cons]
      constructor
      · rintro (h | h | h)
        · exact .inl (.inr h)
        · exact .inl (.inl h)
        · exact .inr h
      · rintro ((h | h) | h)
        · exact .inr (.inl h)
        · exact .inl h
        · exact .inr (.inr h)

theorem newObs_bl : ∀ (ys : List Ob) (H : LH), (newObs H ys).bl = H.bl ++ ys.map .obj ∧ (newObs H ys).wr = H.wr
  | [], H => by simp [newObs]
  | y :: ys, H => by
    obtain ⟨h1, h2⟩ := newObs_bl ys (H.new (.obj y))
    simp only [newObs]
    rw [h1, h2]
    simp [LH.new]

def setE : Mp → List Nat → List (Nat × List Nat) → Mp
  | s, n :: ns, e :: es => setE (s.set n e) ns es
  | s, _, _ => s

theorem setE_get : ∀ (ns : List Nat) (es : List (Nat × List Nat)) (s : Mp), ns.length = es.length → ns.Nodup → (∀ n ∈ ns, n < s.length) → (setE s ns es).length = s.length ∧
    (∀ (i n : Nat) e, ns[i]? = some n → es[i]? = some e → (setE s ns es)[n]? = some e) ∧ (∀ n : Nat, n ∉ ns → (setE s ns es)[n]? = s[n]?)
  | [], [], s, _, _, _ => ⟨rfl, by simp, fun _ _ => rfl⟩
  | [], _ :: _, _, h, _, _ => by simp at h
  | _ :: _, [], _, h, _, _ => by simp at h
  | n :: ns, e :: es, s, hl, hnd, hlt => by
    obtain ⟨h1, h2, h3⟩ := setE_get ns es (s.set n e) (by simpa using hl) (List.nodup_cons.1 hnd).2 (fun m hm => by simpa using hlt m (by simp [hm]))
    have hn : n < s.length := hlt n (by simp)
    have hnn := (List.nodup_cons.1 hnd).1
    simp only [setE]
    refine ⟨by rw [h1]; simp, ?_, ?_⟩
    · intro i m y hm hy
      cases i with
      | zero =>
        simp at hm hy
        subst hm; subst hy
        rw [h3 n hnn]
        simp [hn]
      | succ i => exact h2 i m y (by simpa using hm) (by simpa using hy)
    · intro m hm
      simp only [List.mem_cons, not_or] at hm
      rw [h3 m hm.2, List.getElem?_set, if_neg (fun h => hm.1 h.symm)]

theorem nodup_flatten_disj {ls : List (List Nat)} (h : ls.flatten.Nodup) : ∀ (i j : Nat) (a b : List Nat) (m : Nat), ls[i]? = some a → ls[j]? = some b → m ∈ a → m ∈ b → i = j := by
  induction ls with
  | nil => intro i j a b m h1; simp at h1
  | cons l ls ih =>
    rw [List.flatten_cons, List.nodup_append] at h
    intro i j a b m h1 h2 ha hb
    have hmem : ∀ (k : Nat) (c : List Nat), ls[k]? = some c → m ∈ c → m ∈ ls.flatten := fun k c hk hc => List.mem_flatten.2 ⟨c, List.mem_of_getElem? hk, hc⟩
    cases i with
    | zero =>
      cases j with
      | zero => rfl
      | succ j =>
        simp at h1 h2
        subst h1
        exact absurd rfl (h.2.2 m ha m (hmem j b h2 hb))
    | succ i =>
      cases j with
      | zero =>
        simp at h1 h2
        subst h2
        exact absurd rfl (h.2.2 m hb m (hmem i a h1 ha))
      | succ j =>
        simp at h1 h2
        rw [ih h.2.1 i j a b m h1 h2 ha hb]

theorem nodup_of_flatten {ls : List (List Nat)} (h : ls.flatten.Nodup) {l : List Nat} (hl : l ∈ ls) : l.Nodup := by
  induction ls with
  | nil => simp at hl
  | cons a ls ih =>
    rw [List.flatten_cons, List.nodup_append] at h
    rcases List.mem_cons.1 hl with rfl | hl
    · exact h.1
    · exact ih h.2.1 hl

theorem CSpec.objs {P : Program} {f : FuncId} {args args₁ : List LV} {H : LH} {K K₁ : LV → LH → Prop} {ns : List Nat} {xs : List (Bool × Ob)} (hl : ns.length = xs.length)
    (hget : ∀ (i n : Nat) (x : Bool × Ob), ns[i]? = some n → xs[i]? = some x → H.bl[n]? = some (.obj x.2)) (hnd : ns.Nodup)
    (hargs : ∀ (s s₁ : Mp) (vs : List Value), (∀ (i n : Nat), ns[i]? = some n → hd s₁ (base xs i 0) = hd s n) → RelVs s args vs → RelVs s₁ args₁ vs)
    (hc : CSpec P f args₁ ⟨cat xs 0, []⟩ K₁)
    (hK : ∀ v₁ H₁, K₁ v₁ H₁ → ∃ cs xs' ds ys v, CloseOK xs H₁ cs xs' ds ys ∧
      (∀ (s₁ s' : Mp) (v' : Value), (∀ (i n : Nat), ns[i]? = some n → hd s' n = hd s₁ (base xs i 0)) → (∀ (j : Nat) (d : List Nat) (m : Nat), ds[j]? = some d → d[0]? = some m → hd s' (H.len + j) = hd s₁ m) → RelV s₁ v₁ v' → RelV s' v v') ∧
      K v (newObs (putObs H ns (xs'.map (·.2))) (ys.map (·.2)))) : CSpec P f args H K := by
  intro s vs w hr hH
  obtain ⟨s₁, hop⟩ := open_rel hH ns xs 0 hl hget hnd
  have hheads : ∀ (i n : Nat), ns[i]? = some n → hd s₁ (base xs i 0) = hd s n := fun i n hi => by simpa using (hop.heads i n hi).1
  have hlt : ∀ n ∈ ns, n < H.bl.length := by
    intro n hn
    obtain ⟨i, hi⟩ := List.getElem?_of_mem hn
    have hil : i < xs.length := by rw [← hl]; exact (List.getElem?_eq_some_iff.1 hi).1
    exact (List.getElem?_eq_some_iff.1 (hget i n _ hi (List.getElem?_eq_getElem hil))).1
  refine (hc s₁ vs w (hargs s s₁ vs hheads hr) (hop.rel hH)).mono ?_
  intro e w' he
  cases e with
  | panicked c => exact he.elim
  | outgrown => exact he.elim
  | returned v' =>
    obtain ⟨s₂, v₁, H₁, hk, hv, hR, hp⟩ := he
    obtain ⟨cs, xs', ds, ys, v, hcl, hvv, hKv⟩ := hK v₁ H₁ hk
    have hlc := hcl.lc; have hlx := hcl.lx; have hld := hcl.ld
    have hlt' : ∀ n ∈ ns, n < s.length := fun n hn => by rw [hH.len]; exact hlt n hn
    obtain ⟨e1, e2, e3⟩ := setE_get ns (cs.map (ent s₂)) s (by simp [hl, hlc]) hnd hlt'
    obtain ⟨p1, p2, p3, p4⟩ := putObs_bl ns (xs'.map (·.2)) H (by simp [hl, hlx]) hnd hlt
    obtain ⟨q1, q2⟩ := newObs_bl (ys.map (·.2)) (putObs H ns (xs'.map (·.2)))
    have hflat : (cs.flatten).Nodup := (List.nodup_append.1 hcl.nodup).1
    have hflatd : (ds.flatten).Nodup := (List.nodup_append.1 hcl.nodup).2.1
    have hcd : ∀ (i j : Nat) (c d : List Nat) (m : Nat), cs[i]? = some c → ds[j]? = some d → m ∈ c → m ∈ d → False := fun i j c d m h1 h2 h3 h4 =>
      (List.nodup_append.1 hcl.nodup).2.2 m (List.mem_flatten.2 ⟨c, List.mem_of_getElem? h1, h3⟩) m (List.mem_flatten.2 ⟨d, List.mem_of_getElem? h2, h4⟩) rfl
    have hcat : s₁.length = (cat xs 0).length := hop.len
    -- the new map
    let s' : Mp := setE s ns (cs.map (ent s₂)) ++ ds.map (ent s₂)
    have hs'l : (setE s ns (cs.map (ent s₂))).length = s.length := e1
    have hidx : ∀ (i n : Nat), ns[i]? = some n → ∃ c x x', cs[i]? = some c ∧ xs[i]? = some x ∧ xs'[i]? = some x' ∧ s'[n]? = some (ent s₂ c) := by
      intro i n hi
      have h1 : i < ns.length := (List.getElem?_eq_some_iff.1 hi).1
      have h2 : i < cs.length := by omega
      have h3 : i < xs.length := by omega
      have h4 : i < xs'.length := by omega
      refine ⟨_, _, _, List.getElem?_eq_getElem h2, List.getElem?_eq_getElem h3, List.getElem?_eq_getElem h4, ?_⟩
      show (setE s ns (cs.map (ent s₂)) ++ ds.map (ent s₂))[n]? = _
      rw [List.getElem?_append_left (by rw [hs'l]; exact hlt' n (List.mem_of_getElem? hi))]
      exact e2 i n _ hi (by simp [List.getElem?_eq_getElem h2])
    have hother : ∀ (n : Nat), n < s.length → n ∉ ns → s'[n]? = s[n]? := by
      intro n hn hno
      show (setE s ns (cs.map (ent s₂)) ++ ds.map (ent s₂))[n]? = _
      rw [List.getElem?_append_left (by rw [hs'l]; exact hn)]
      exact e3 n hno
    have hnew : ∀ (n : Nat) p, s.length ≤ n → s'[n]? = some p → ∃ d y, ds[n - s.length]? = some d ∧ ys[n - s.length]? = some y ∧ p = ent s₂ d := by
      intro n p hn hp
      have hp : (setE s ns (cs.map (ent s₂)) ++ ds.map (ent s₂))[n]? = some p := hp
      rw [List.getElem?_append_right (by rw [hs'l]; exact hn), hs'l, List.getElem?_map] at hp
      cases hx : ds[n - s.length]? with
      | none => rw [hx] at hp; cases hp
      | some d =>
        rw [hx] at hp; cases hp
        have h2 : n - s.length < ys.length := by rw [← hld]; exact (List.getElem?_eq_some_iff.1 hx).1
        exact ⟨d, _, rfl, List.getElem?_eq_getElem h2, rfl⟩
    have hcr : ∀ (i : Nat) (c : List Nat) (x' : Bool × Ob), cs[i]? = some c → xs'[i]? = some x' → hd s₂ (base xs i 0) = some (ent s₂ c).1 ∧ RelB s' (.obj x'.2) (ent s₂ c).1 (ent s₂ c).2 w'.heap ∧ ∀ y, (y = (ent s₂ c).1 ∨ y ∈ (ent s₂ c).2) ↔ ∃ m, m ∈ c ∧ ownB s₂ m y :=
      fun i c x' h1 h2 => clus_rel hR (hcl.clus i c x' h1 h2) (nodup_of_flatten hflat (List.mem_of_getElem? h1)) (hcl.head i c h1) s'
    have hdr : ∀ (j : Nat) (d : List Nat) (y : Bool × Ob), ds[j]? = some d → ys[j]? = some y → ∃ m0, d[0]? = some m0 ∧ hd s₂ m0 = some (ent s₂ d).1 ∧ RelB s' (.obj y.2) (ent s₂ d).1 (ent s₂ d).2 w'.heap ∧ ∀ z, (z = (ent s₂ d).1 ∨ z ∈ (ent s₂ d).2) ↔ ∃ m, m ∈ d ∧ ownB s₂ m z := by
      intro j d y h1 h2
      obtain ⟨m0, hm0⟩ := hcl.dhead j d h1
      obtain ⟨a1, a2, a3⟩ := clus_rel hR (hcl.dclus j d y h1 h2) (nodup_of_flatten hflatd (List.mem_of_getElem? h1)) hm0 s'
      exact ⟨m0, hm0, a1, a2, a3⟩
    -- who owns what
    have own1 : ∀ (i n : Nat) (c : List Nat) (y : Nat), ns[i]? = some n → cs[i]? = some c → (ownB s' n y ↔ ∃ m, m ∈ c ∧ ownB s₂ m y) := by
      intro i n c y hi hc'
      obtain ⟨c', x, x', h1, h2, h3, h4⟩ := hidx i n hi
      rw [hc'] at h1; cases h1
      rw [← (hcr i c x' hc' h3).2.2 y]
      constructor
      · rintro ⟨r, g, h5, hy⟩
        rw [h4] at h5
        have h5 := Option.some.inj h5
        rw [h5]; exact hy
      · intro hy; exact ⟨_, _, h4, hy⟩
    have own2 : ∀ (n y : Nat), n < s.length → n ∉ ns → (ownB s' n y ↔ ownB s n y) := by
      intro n y hn hno
      unfold ownB
      rw [hother n hn hno]
    have own3 : ∀ (n y : Nat), s.length ≤ n → ownB s' n y → ∃ d m, ds[n - s.length]? = some d ∧ m ∈ d ∧ ownB s₂ m y := by
      rintro n y hn ⟨r, g, h5, hy⟩
      obtain ⟨d, y', h1, h2, h3⟩ := hnew n _ hn h5
      obtain ⟨m0, _, _, _, h4⟩ := hdr _ d y' h1 h2
      rw [← h3] at h4
      obtain ⟨m, hm, ho⟩ := (h4 y).1 hy
      exact ⟨d, m, h1, hm, ho⟩
    -- an old block of a cluster is an old block of the object
    have oldOwn : ∀ (i n : Nat) (c : List Nat) (m y : Nat), ns[i]? = some n → cs[i]? = some c → m ∈ c → ownB s₂ m y → y < w.heap.size → ownB s n y := by
      intro i n c m y hi hc' hm ho hy
      obtain ⟨hml, ho1⟩ := hp.fresh m y ho hy
      obtain ⟨c', x, x', h1, h2, h3, h4⟩ := hidx i n hi
      rw [hc'] at h1; cases h1
      obtain ⟨k, n', xk, h5, h6, h7, h8, h9⟩ := hop.own m y ho1
      obtain ⟨h10, h11⟩ := hcl.own i c x m hc' h2 hm (by rw [← hcat]; exact hml)
      -- the ranges are apart
      have hki : k = i := by
        have rng : ∀ (zs : List (Bool × Ob)) (a b o : Nat) (u v : Bool × Ob), a < b → zs[a]? = some u → zs[b]? = some v → base zs a o + (exB u).length ≤ base zs b o := by
          intro zs
          induction zs with
          | nil => intro a b o u v _ h; simp at h
          | cons z zs ih =>
            intro a b o u v hab hu hv
            cases b with
            | zero => omega
            | succ b =>
              cases a with
              | zero =>
                simp at hu; subst hu
                simp only [base]
                exact base_ge zs b _
              | succ a =>
                simp only [base]
                exact ih a b _ u v (by omega) (by simpa using hu) (by simpa using hv)
        rcases Nat.lt_trichotomy k i with hlt | heq | hgt
        · have := rng xs k i 0 xk x hlt h6 h2; omega
        · exact heq
        · have := rng xs i k 0 x xk hgt h2 h6; omega
      subst hki
      rw [hi] at h5; cases h5
      exact h9
    have dNew : ∀ (j : Nat) (d : List Nat) (m y : Nat), ds[j]? = some d → m ∈ d → ownB s₂ m y → w.heap.size ≤ y := by
      intro j d m y hj hm ho
      rcases Nat.lt_or_ge y w.heap.size with hy | hy
      · have := (hp.fresh m y ho hy).1
        have := hcl.down j d m hj hm
        omega
      · exact hy
    have hframe : ∀ y, y < w.heap.size → (∀ n ∈ ns, ¬ ownB s n y) → w'.heap[y]? = w.heap[y]? := by
      intro y hy hno
      refine hp.frame y hy fun m _ ho => ?_
      obtain ⟨i, n, x, h1, _, _, _, h5⟩ := hop.own m y ho
      exact hno n (List.mem_of_getElem? h1) h5
    have hext : HExt s s' := by
      intro n r hr'
      have hn := hd_lt hr'
      by_cases hmem : n ∈ ns
      · obtain ⟨i, hi⟩ := List.getElem?_of_mem hmem
        obtain ⟨c, x, x', h1, h2, h3, h4⟩ := hidx i n hi
        have h5 := (hcr i c x' h1 h3).1
        have h6 := hp.hext (base xs i 0) r (by rw [hheads i n hi]; exact hr')
        rw [h5] at h6; cases h6
        exact hd_of h4
      · unfold hd at hr' ⊢
        rw [hother n hn hmem]; exact hr'
    have hHbl : ∀ (n : Nat), n < H.bl.length → (newObs (putObs H ns (xs'.map (·.2))) (ys.map (·.2))).bl[n]? = (putObs H ns (xs'.map (·.2))).bl[n]? := by
      intro n hn
      rw [q1, List.getElem?_append_left (by rw [p1]; exact hn)]
    have hs'len : s'.length = s.length + ds.length := by
      show (setE s ns (cs.map (ent s₂)) ++ ds.map (ent s₂)).length = _
      simp [hs'l]
    have hrel : Rel s' (newObs (putObs H ns (xs'.map (·.2))) (ys.map (·.2))) w' := by
      refine ⟨?_, ?_, ?_, ?_, ?_⟩
      · rw [hs'len, q1]; simp [p1, hH.len, hld]
      · intro n b r g hb hs'n
        rcases Nat.lt_or_ge n s.length with hn | hn
        · rw [hHbl n (by rw [← hH.len]; exact hn)] at hb
          by_cases hmem : n ∈ ns
          · obtain ⟨i, hi⟩ := List.getElem?_of_mem hmem
            obtain ⟨c, x, x', h1, h2, h3, h4⟩ := hidx i n hi
            rw [h4] at hs'n
            have := p2 i n x'.2 hi (by simp [h3])
            rw [this] at hb; cases hb
            have h5 := (hcr i c x' h1 h3).2.1
            have hs'n := Option.some.inj hs'n
            rw [hs'n] at h5
            exact h5
          · rw [hother n hn hmem] at hs'n
            rw [p3 n hmem] at hb
            refine ((hH.blk n b r g hb hs'n).mono hext).local fun y hy => ?_
            have hoy : ownB s n y := ⟨r, g, hs'n, hy⟩
            refine hframe y (hH.bnd n y hoy) fun n' hn' ho' => ?_
            have := hH.dis n n' y hoy ho'
            subst this
            exact hmem hn'
        · obtain ⟨d, y, h1, h2, h3⟩ := hnew n _ hn hs'n
          obtain ⟨m0, _, _, h4, _⟩ := hdr _ d y h1 h2
          rw [← h3] at h4
          rw [q1, List.getElem?_append_right (by rw [p1, ← hH.len]; exact hn), p1, ← hH.len, List.getElem?_map, List.getElem?_map, h2] at hb
          cases hb
          exact h4
      · intro a b y ha hb
        -- one of three kinds each
        have kinds : ∀ (n : Nat), ownB s' n y → (n < s.length ∧ n ∉ ns ∧ ownB s n y) ∨ (∃ (i : Nat) (c : List Nat) (m : Nat), ns[i]? = some n ∧ cs[i]? = some c ∧ m ∈ c ∧ ownB s₂ m y) ∨ (s.length ≤ n ∧ ∃ d m, ds[n - s.length]? = some d ∧ m ∈ d ∧ ownB s₂ m y) := by
          intro n hn
          rcases Nat.lt_or_ge n s.length with hlt2 | hge
          · by_cases hmem : n ∈ ns
            · obtain ⟨i, hi⟩ := List.getElem?_of_mem hmem
              obtain ⟨c, x, x', h1, h2, h3, h4⟩ := hidx i n hi
              obtain ⟨m, hm, ho⟩ := (own1 i n c y hi h1).1 hn
              exact .inr (.inl ⟨i, c, m, hi, h1, hm, ho⟩)
            · exact .inl ⟨hlt2, hmem, (own2 n y hlt2 hmem).1 hn⟩
          · obtain ⟨d, m, h1, h2, h3⟩ := own3 n y hge hn
            exact .inr (.inr ⟨hge, d, m, h1, h2, h3⟩)
        rcases kinds a ha with ⟨a1, a2, a3⟩ | ⟨i, c, m, a1, a2, a3, a4⟩ | ⟨a1, d, m, a2, a3, a4⟩ <;>
          rcases kinds b hb with ⟨b1, b2, b3⟩ | ⟨i', c', m', b1, b2, b3, b4⟩ | ⟨b1, d', m', b2, b3, b4⟩
        · exact hH.dis a b y a3 b3
        · have := oldOwn i' b c' m' y b1 b2 b3 b4 (hH.bnd a y a3)
          exact hH.dis a b y a3 this
        · have := dNew _ d' m' y b2 b3 b4
          have := hH.bnd a y a3; omega
        · have := oldOwn i a c m y a1 a2 a3 a4 (hH.bnd b y b3)
          exact hH.dis a b y this b3
        · have := hR.dis m m' y a4 b4
          subst this
          have := nodup_flatten_disj hflat i i' c c' m a2 b2 a3 b3
          subst this
          rw [a1] at b1; exact Option.some.inj b1
        · have := hR.dis m m' y a4 b4
          subst this
          exact (hcd i _ c d' m a2 b2 a3 b3).elim
        · have := dNew _ d m y a2 a3 a4
          have := hH.bnd b y b3; omega
        · have := hR.dis m m' y a4 b4
          subst this
          exact (hcd i' _ c' d m b2 a2 b3 a3).elim
        · have := hR.dis m m' y a4 b4
          subst this
          have := nodup_flatten_disj hflatd _ _ d d' m a2 b2 a3 b3
          omega
      · intro n y hn
        rcases Nat.lt_or_ge n s.length with hlt2 | hge
        · by_cases hmem : n ∈ ns
          · obtain ⟨i, hi⟩ := List.getElem?_of_mem hmem
            obtain ⟨c, x, x', h1, h2, h3, h4⟩ := hidx i n hi
            obtain ⟨m, hm, ho⟩ := (own1 i n c y hi h1).1 hn
            exact hR.bnd m y ho
          · exact Nat.lt_of_lt_of_le (hH.bnd n y ((own2 n y hlt2 hmem).1 hn)) hp.size
        · obtain ⟨d, m, h1, h2, h3⟩ := own3 n y hge hn
          exact hR.bnd m y h3
      · intro q o hF
        refine ⟨(hR.frz q o hF).1, fun n hn => ?_⟩
        rcases Nat.lt_or_ge n s.length with hlt2 | hge
        · by_cases hmem : n ∈ ns
          · obtain ⟨i, hi⟩ := List.getElem?_of_mem hmem
            obtain ⟨c, x, x', h1, h2, h3, h4⟩ := hidx i n hi
            obtain ⟨m, hm, ho⟩ := (own1 i n c q hi h1).1 hn
            exact (hR.frz q o hF).2 m ho
          · exact (hH.frz q o hF).2 n ((own2 n q hlt2 hmem).1 hn)
        · obtain ⟨d, m, h1, h2, h3⟩ := own3 n q hge hn
          exact (hR.frz q o hF).2 m h3
    refine ⟨s', v, _, hKv, ?_, hrel, ?_⟩
    · refine hvv s₂ s' v' ?_ ?_ hv
      · intro i n hi
        obtain ⟨c, x, x', h1, h2, h3, h4⟩ := hidx i n hi
        rw [(hcr i c x' h1 h3).1]
        exact hd_of h4
      · intro j d m hj hm
        have hjl : j < ys.length := by rw [← hld]; exact (List.getElem?_eq_some_iff.1 hj).1
        obtain ⟨m0, h1, h2, _, _⟩ := hdr j d _ hj (List.getElem?_eq_getElem hjl)
        rw [hm] at h1; cases h1
        rw [h2, LH.len_eq, ← hH.len]
        refine hd_of (f := (ent s₂ d).2) ?_
        show (setE s ns (cs.map (ent s₂)) ++ ds.map (ent s₂))[s.length + j]? = _
        rw [List.getElem?_append_right (by rw [hs'l]; omega), hs'l, Nat.add_sub_cancel_left, List.getElem?_map, hj]
        rfl
    · refine ⟨hext, by rw [hs'len]; omega, ?_, ?_, ?_, hp.size, ?_, hp.tape, hp.os, hp.output⟩
      · intro n y hn hy
        rcases Nat.lt_or_ge n s.length with hlt2 | hge
        · refine ⟨hlt2, ?_⟩
          by_cases hmem : n ∈ ns
          · obtain ⟨i, hi⟩ := List.getElem?_of_mem hmem
            obtain ⟨c, x, x', h1, h2, h3, h4⟩ := hidx i n hi
            obtain ⟨m, hm, ho⟩ := (own1 i n c y hi h1).1 hn
            exact oldOwn i n c m y hi h1 hm ho hy
          · exact (own2 n y hlt2 hmem).1 hn
        · obtain ⟨d, m, h1, h2, h3⟩ := own3 n y hge hn
          have := dNew _ d m y h1 h2 h3
          omega
      · intro n hn hw
        refine hother n hn fun hmem => hw ?_
        rw [q2]
        exact (p4 n).2 (.inl hmem)
      · intro n hn
        rw [q2]
        exact (p4 n).2 (.inr hn)
      · intro y hy hno
        refine hframe y hy fun n hn => hno n ?_
        rw [q2]
        exact (p4 n).2 (.inl hn)

end Go.FL

/-
  Blocks read as objects again.
-/
set_option linter.unusedVariables false
set_option linter.unusedSimpArgs false
set_option linter.unusedSectionVars false
set_option linter.unusedSectionVars false
namespace Go.FL
variable [Fz]

/-- api.Config. -/
structure PCfg where
  threads : Int
  slots : Int
  chunks : Int
  words : Int
  gens : Int
  sparse : Int
  tries : Int

def shF (H : LH) (n : Nat) (k : Ob → List Nat → Prop) : Prop := match H.get n with
  | some (.obj x) => k x [n]
  | _ => False

def shMem (H : LH) (n : Nat) (k : PMem → List Nat → Prop) : Prop := match H.get n with
  | some (.cells 89 [.slice i 0 n1 n2, .slice j 0 n3 n4, .int .i64 steps, .int .i64 who, .int .i64 la, .int .i64 lw, .bool lc]) =>
    match H.get i, H.get j with
    | some (.ints 32 .u64 n5 w), some (.ints 3 .i64 n6 t) => (n1 = n5 ∧ n2 = n5 ∧ n3 = n5 ∧ n4 = n5 ∧ n6 = n5) ∧ k ⟨n5, w, t, steps, who, la, lw, lc⟩ [n, i, j]
    | _, _ => False
  | _ => False

def shIn (H : LH) (n : Nat) (k : PIn → List Nat → Prop) : Prop := match H.get n with
  | some (.cells 59 [.int .i64 a, .int .u64 b]) => k ⟨a, b⟩ [n]
  | _ => False

def shGive (H : LH) (n : Nat) (k : PGive → List Nat → Prop) : Prop := match H.get n with
  | some (.cells 168 [.int .i64 a, .int .i64 b, .int .u64 c]) => k ⟨a, b, c⟩ [n]
  | _ => False

def shPlace (H : LH) (n : Nat) (k : PPlace → List Nat → Prop) : Prop := match H.get n with
  | some (.cells 165 [.int .i64 a, .int .i64 b, .int .u64 c, .int .i64 d, .int .u64 e, .int .i64 f, .int .i64 g, .bool h]) => k ⟨a, b, c, d, e, f, g, h⟩ [n]
  | _ => False

def shHelp (H : LH) (n : Nat) (k : PHelp → List Nat → Prop) : Prop := match H.get n with
  | some (.cells 171 [.int .i64 a, .int .u64 b, .int .i64 c, .int .i64 d, .int .u64 e, .bool f, .bool g]) => k ⟨a, b, c, d, e, f, g⟩ [n]
  | _ => False

def shAlloc (H : LH) (n : Nat) (k : PAlloc → List Nat → Prop) : Prop := match H.get n with
  | some (.cells 124 [.int .i64 size, .bool own, .int .i64 pc, .int .i64 tpc, .int .u64 ttop, .int .i64 tnext, .int .i64 tslot, .bool tok, .int .i64 at_, .int .i64 gen, p, .int .i64 sa, .int .i64 sc, g,
      .int .i64 e, .int .u64 h, .int .i64 v, .int .i64 st]) =>
    match p, g with
    | .nilp, .nilp => k ⟨size, own, pc, ⟨tpc, ttop, tnext, tslot, tok⟩, at_, gen, none, sa, sc, none, ⟨e, h, v, st⟩⟩ [n]
    | .ptr i 0, .nilp => match H.get i with
      | some (.obj (.place p)) => k ⟨size, own, pc, ⟨tpc, ttop, tnext, tslot, tok⟩, at_, gen, some p, sa, sc, none, ⟨e, h, v, st⟩⟩ [n, i]
      | _ => False
    | .nilp, .ptr j 0 => match H.get j with
      | some (.obj (.give g)) => k ⟨size, own, pc, ⟨tpc, ttop, tnext, tslot, tok⟩, at_, gen, none, sa, sc, some g, ⟨e, h, v, st⟩⟩ [n, j]
      | _ => False
    | .ptr i 0, .ptr j 0 => match H.get i, H.get j with
      | some (.obj (.place p)), some (.obj (.give g)) => k ⟨size, own, pc, ⟨tpc, ttop, tnext, tslot, tok⟩, at_, gen, some p, sa, sc, some g, ⟨e, h, v, st⟩⟩ [n, i, j]
      | _, _ => False
    | _, _ => False
  | _ => False

def shDrop (H : LH) (n : Nat) (k : PDrop → List Nat → Prop) : Prop := match H.get n with
  | some (.cells 135 [.int .u64 m, .bool own, .int .i64 hs, .int .i64 hg, .int .i64 pc, .int .u64 w, .int .i64 size, p, g, .int .i64 e, .int .u64 h, .int .i64 v, .int .i64 st]) =>
    match p, g with
    | .nilp, .nilp => k ⟨m, own, hs, hg, pc, w, size, none, none, ⟨e, h, v, st⟩⟩ [n]
    | .ptr i 0, .nilp => match H.get i with
      | some (.obj (.help p)) => k ⟨m, own, hs, hg, pc, w, size, some p, none, ⟨e, h, v, st⟩⟩ [n, i]
      | _ => False
    | .nilp, .ptr j 0 => match H.get j with
      | some (.obj (.give g)) => k ⟨m, own, hs, hg, pc, w, size, none, some g, ⟨e, h, v, st⟩⟩ [n, j]
      | _ => False
    | .ptr i 0, .ptr j 0 => match H.get i, H.get j with
      | some (.obj (.help p)), some (.obj (.give g)) => k ⟨m, own, hs, hg, pc, w, size, some p, some g, ⟨e, h, v, st⟩⟩ [n, i, j]
      | _, _ => False
    | _, _ => False
  | _ => False

def shAccess (H : LH) (n : Nat) (k : PAccess → List Nat → Prop) : Prop := match H.get n with
  | some (.cells 113 [.int .i64 x1, .int .u64 x2, .int .i64 x3, .int .i64 x4, .int .i64 x5, .bool own, .int .i64 hs, .int .i64 hg, .int .i64 pc, .int .u64 w, .int .u64 cell, .int .i64 seen, .int .i64 read, .int .i64 size, p,
      .int .i64 e, .int .u64 h, .int .i64 v, .int .i64 st]) =>
    match p with
    | .nilp => k ⟨⟨x1, x2, x3, x4, x5⟩, own, hs, hg, pc, w, cell, seen, read, size, none, ⟨e, h, v, st⟩⟩ [n]
    | .ptr i 0 => match H.get i with
      | some (.obj (.help p)) => k ⟨⟨x1, x2, x3, x4, x5⟩, own, hs, hg, pc, w, cell, seen, read, size, some p, ⟨e, h, v, st⟩⟩ [n, i]
      | _ => False
    | _ => False
  | _ => False

def shAct (H : LH) (n : Nat) (k : PAct → List Nat → Prop) : Prop := match H.get n with
  | some (.cells 999999 [.int .i64 a, .int .u64 b, .int .i64 pc, .iface t (.ptr i 0), .int .i64 e, .int .u64 h, .int .i64 v, .int .i64 st]) =>
    match H.get i with
    | some (.obj (.alloc x)) => match Nat.beq t 86 with
      | true => k ⟨⟨a, b⟩, pc, .alloc x, ⟨e, h, v, st⟩⟩ [n, i]
      | false => False
    | some (.obj (.drop x)) => match Nat.beq t 96 with
      | true => k ⟨⟨a, b⟩, pc, .drop x, ⟨e, h, v, st⟩⟩ [n, i]
      | false => False
    | some (.obj (.access x)) => match Nat.beq t 76 with
      | true => k ⟨⟨a, b⟩, pc, .access x, ⟨e, h, v, st⟩⟩ [n, i]
      | false => False
    | _ => False
  | _ => False

theorem shF_ok {H : LH} {n : Nat} {k : Ob → List Nat → Prop} (h : shF H n k) : ∃ x c, k x c ∧ Clus H c (false, x) := by
  unfold shF at h
  split at h
  · rename_i x hg
    rw [LH.get_eq] at hg
    refine ⟨x, _, h, rfl, ?_⟩
    intro j b hj
    cases j with
    | zero => simp [exB] at hj; subst hj; exact ⟨rfl, n, rfl, hg⟩
    | succ j => simp [exB] at hj
  · exact h.elim

theorem clus1 {H : LH} {n : Nat} {x : Ob} {b : LB} (he : ex x = [b]) (hl : b.low 1 = true) (hg : H.get n = some (b.ren fun i => [n].getD i 0)) : Clus H [n] (true, x) := by
  refine ⟨by simp [exB, he], ?_⟩
  intro j b' hj
  simp only [exB, he] at hj
  cases j with
  | zero => simp at hj; subst hj; exact ⟨hl, n, rfl, by rw [← LH.get_eq]; exact hg⟩
  | succ j => simp at hj

theorem clus2 {H : LH} {n i : Nat} {x : Ob} {b b2 : LB} (he : ex x = [b, b2]) (hl : b.low 2 = true) (hl2 : b2.low 2 = true) (hg : H.get n = some (b.ren fun k => [n, i].getD k 0)) (hg2 : H.get i = some (b2.ren fun k => [n, i].getD k 0)) :
    Clus H [n, i] (true, x) := by
  refine ⟨by simp [exB, he], ?_⟩
  intro j b' hj
  simp only [exB, he] at hj
  match j, hj with
  | 0, hj => simp at hj; subst hj; exact ⟨hl, n, rfl, by rw [← LH.get_eq]; exact hg⟩
  | 1, hj => simp at hj; subst hj; exact ⟨hl2, i, rfl, by rw [← LH.get_eq]; exact hg2⟩
  | j + 2, hj => simp at hj

theorem clus3 {H : LH} {n i m : Nat} {x : Ob} {b b2 b3 : LB} (he : ex x = [b, b2, b3]) (hl : b.low 3 = true) (hl2 : b2.low 3 = true) (hl3 : b3.low 3 = true) (hg : H.get n = some (b.ren fun k => [n, i, m].getD k 0))
    (hg2 : H.get i = some (b2.ren fun k => [n, i, m].getD k 0)) (hg3 : H.get m = some (b3.ren fun k => [n, i, m].getD k 0)) : Clus H [n, i, m] (true, x) := by
  refine ⟨by simp [exB, he], ?_⟩
  intro j b' hj
  simp only [exB, he] at hj
  match j, hj with
  | 0, hj => simp at hj; subst hj; exact ⟨hl, n, rfl, by rw [← LH.get_eq]; exact hg⟩
  | 1, hj => simp at hj; subst hj; exact ⟨hl2, i, rfl, by rw [← LH.get_eq]; exact hg2⟩
  | 2, hj => simp at hj; subst hj; exact ⟨hl3, m, rfl, by rw [← LH.get_eq]; exact hg3⟩
  | j + 3, hj => simp at hj

theorem shMem_ok {H : LH} {n : Nat} {k : PMem → List Nat → Prop} (h : shMem H n k) : ∃ x c, k x c ∧ Clus H c (true, .mem x) := by
  unfold shMem at h
  split at h
  · rename_i hg
    split at h
    · rename_i hi hj
      obtain ⟨⟨rfl, rfl, rfl, rfl, rfl⟩, h⟩ := h
      exact ⟨_, _, h, clus3 rfl rfl rfl rfl hg hi hj⟩
    · exact h.elim
  · exact h.elim

theorem shIn_ok {H : LH} {n : Nat} {k : PIn → List Nat → Prop} (h : shIn H n k) : ∃ x c, k x c ∧ Clus H c (true, .in_ x) := by
  unfold shIn at h
  split at h
  · rename_i hg; exact ⟨_, _, h, clus1 rfl rfl hg⟩
  · exact h.elim

theorem shGive_ok {H : LH} {n : Nat} {k : PGive → List Nat → Prop} (h : shGive H n k) : ∃ x c, k x c ∧ Clus H c (true, .give x) := by
  unfold shGive at h
  split at h
  · rename_i hg; exact ⟨_, _, h, clus1 rfl rfl hg⟩
  · exact h.elim

theorem shPlace_ok {H : LH} {n : Nat} {k : PPlace → List Nat → Prop} (h : shPlace H n k) : ∃ x c, k x c ∧ Clus H c (true, .place x) := by
  unfold shPlace at h
  split at h
  · rename_i hg; exact ⟨_, _, h, clus1 rfl rfl hg⟩
  · exact h.elim

theorem shHelp_ok {H : LH} {n : Nat} {k : PHelp → List Nat → Prop} (h : shHelp H n k) : ∃ x c, k x c ∧ Clus H c (true, .help x) := by
  unfold shHelp at h
  split at h
  · rename_i hg; exact ⟨_, _, h, clus1 rfl rfl hg⟩
  · exact h.elim

theorem shAlloc_ok {H : LH} {n : Nat} {k : PAlloc → List Nat → Prop} (h : shAlloc H n k) : ∃ x c, k x c ∧ Clus H c (true, .alloc x) := by
  unfold shAlloc at h
  split at h
  · rename_i hg
    split at h
    · exact ⟨_, _, h, clus1 rfl rfl hg⟩
    · split at h
      · rename_i hi; exact ⟨_, _, h, clus2 rfl rfl rfl hg hi⟩
      · exact h.elim
    · split at h
      · rename_i hi; exact ⟨_, _, h, clus2 rfl rfl rfl hg hi⟩
      · exact h.elim
    · split at h
      · rename_i hi hj; exact ⟨_, _, h, clus3 rfl rfl rfl rfl hg hi hj⟩
      · exact h.elim
    · exact h.elim
  · exact h.elim

theorem shDrop_ok {H : LH} {n : Nat} {k : PDrop → List Nat → Prop} (h : shDrop H n k) : ∃ x c, k x c ∧ Clus H c (true, .drop x) := by
  unfold shDrop at h
  split at h
  · rename_i hg
    split at h
    · exact ⟨_, _, h, clus1 rfl rfl hg⟩
    · split at h
      · rename_i hi; exact ⟨_, _, h, clus2 rfl rfl rfl hg hi⟩
      · exact h.elim
    · split at h
      · rename_i hi; exact ⟨_, _, h, clus2 rfl rfl rfl hg hi⟩
      · exact h.elim
    · split at h
      · rename_i hi hj; exact ⟨_, _, h, clus3 rfl rfl rfl rfl hg hi hj⟩
      · exact h.elim
    · exact h.elim
  · exact h.elim

theorem shAccess_ok {H : LH} {n : Nat} {k : PAccess → List Nat → Prop} (h : shAccess H n k) : ∃ x c, k x c ∧ Clus H c (true, .access x) := by
  unfold shAccess at h
  split at h
  · rename_i hg
    split at h
    · exact ⟨_, _, h, clus1 rfl rfl hg⟩
    · split at h
      · rename_i hi; exact ⟨_, _, h, clus2 rfl rfl rfl hg hi⟩
      · exact h.elim
    · exact h.elim
  · exact h.elim

theorem shAct_ok {H : LH} {n : Nat} {k : PAct → List Nat → Prop} (h : shAct H n k) : ∃ x c, k x c ∧ Clus H c (true, .act x) := by
  unfold shAct at h
  split at h
  · rename_i hg
    split at h
    · rename_i hi
      split at h
      · rename_i ht; have ht := Nat.eq_of_beq_eq_true ht; subst ht; exact ⟨_, _, h, clus2 rfl rfl rfl hg hi⟩
      · exact h.elim
    · rename_i hi
      split at h
      · rename_i ht; have ht := Nat.eq_of_beq_eq_true ht; subst ht; exact ⟨_, _, h, clus2 rfl rfl rfl hg hi⟩
      · exact h.elim
    · rename_i hi
      split at h
      · rename_i ht; have ht := Nat.eq_of_beq_eq_true ht; subst ht; exact ⟨_, _, h, clus2 rfl rfl rfl hg hi⟩
      · exact h.elim
    · exact h.elim
  · exact h.elim

end Go.FL

/-
  Numbers cut to their width, with the widths written out.
-/
set_option linter.unusedVariables false
namespace Go.FL

def wrI (n : Int) : Int :=
  let m := n % (18446744073709551616 : Int)
  if true && m ≥ (9223372036854775808 : Int) then m - (18446744073709551616 : Int) else m

def wrU (n : Int) : Int :=
  let m := n % (18446744073709551616 : Int)
  if false && m ≥ (9223372036854775808 : Int) then m - (18446744073709551616 : Int) else m

theorem wrI_eq (n : Int) : wrI n = IntKind.wrap .i64 n := rfl
theorem wrU_eq (n : Int) : wrU n = IntKind.wrap .u64 n := rfl

end Go.FL

/-
  The program's functions of plain words, as the evaluator has them.
-/
set_option linter.unusedVariables false
namespace Go.FL

def fitK {R : Type} (bot : R) (a b : Int) (K : Int → R) : R :=
  K (wrU (if b < if 0 > a then 0 else a then b else if 0 > a then 0 else a))

def fit (a b : Int) : Int := fitK (0) a b fun x0 => (x0)

theorem fitK_eq {R : Type} (bot : R) (a b : Int) (K : Int → R) : fitK bot a b K = K (fit a b) := by
  rfl

def putHandleK {R : Type} (bot : R) (a b : Int) (K : Int → R) : R :=
  K (wrU ↑(BitVec.toNat (BitVec.ofInt (IntKind.bits IntKind.u64) (wrU (if 65535 < if 0 > a then 0 else a then 65535 else if 0 > a then 0 else a)) ||| BitVec.ofInt (IntKind.bits IntKind.u64) (wrU (wrU (if 65535 < if 0 > b then 0 else b then 65535 else if 0 > b then 0 else b) * 65536)))))

def putHandle (a b : Int) : Int := putHandleK (0) a b fun x0 => (x0)

theorem putHandleK_eq {R : Type} (bot : R) (a b : Int) (K : Int → R) : putHandleK bot a b K = K (putHandle a b) := by
  rfl

def handleK {R : Type} (bot : R) (a : Int) (K : Int → Int → Bool → R) : R :=
  bif !decide (Int.fdiv a 4294967296 = 0) then
   K 0 0 false
  else
   bif decide (Int.fdiv a 65536 = 0) then
    K 0 0 false
   else
    K (wrI (wrU ↑(BitVec.toNat (BitVec.ofInt (IntKind.bits IntKind.u64) a &&& BitVec.ofInt (IntKind.bits IntKind.u64) 65535)))) (wrI (Int.fdiv a 65536)) true

def handle (a : Int) : Int × Int × Bool := handleK (0, 0, false) a fun x0 x1 x2 => (x0, x1, x2)

theorem handleK_eq {R : Type} (bot : R) (a : Int) (K : Int → Int → Bool → R) : handleK bot a K = K (handle a).1 (handle a).2.1 (handle a).2.2 := by
  unfold handle handleK
  simp only [Bool.cond_eq_ite]
  repeat' split
  all_goals first
    | rfl
    | (exfalso; simp_all; done)
    | (exfalso; omega)

def putSlotK {R : Type} (bot : R) (a b c d : Int) (K : Int → R) : R :=
  K (wrU ↑(BitVec.toNat (BitVec.ofInt (IntKind.bits IntKind.u64) (wrU ↑(BitVec.toNat (BitVec.ofInt (IntKind.bits IntKind.u64) (wrU ↑(BitVec.toNat (BitVec.ofInt (IntKind.bits IntKind.u64) (wrU (if 7 < if 0 > a then 0 else a then 7 else if 0 > a then 0 else a)) ||| BitVec.ofInt (IntKind.bits IntKind.u64) (wrU (wrU (if 1048575 < if 0 > b then 0 else b then 1048575 else if 0 > b then 0 else b) * 8))))) ||| BitVec.ofInt (IntKind.bits IntKind.u64) (wrU (wrU (if 65535 < if 0 > c then 0 else c then 65535 else if 0 > c then 0 else c) * 8388608))))) ||| BitVec.ofInt (IntKind.bits IntKind.u64) (wrU (wrU (if 4194303 < if 0 > d then 0 else d then 4194303 else if 0 > d then 0 else d) * 549755813888)))))

def putSlot (a b c d : Int) : Int := putSlotK (0) a b c d fun x0 => (x0)

theorem putSlotK_eq {R : Type} (bot : R) (a b c d : Int) (K : Int → R) : putSlotK bot a b c d K = K (putSlot a b c d) := by
  rfl

def slotOfK {R : Type} (bot : R) (a : Int) (K : Int → Int → Int → Int → R) : R :=
  K (wrI (wrU ↑(BitVec.toNat (BitVec.ofInt (IntKind.bits IntKind.u64) a &&& BitVec.ofInt (IntKind.bits IntKind.u64) 7)))) (wrI (wrU ↑(BitVec.toNat (BitVec.ofInt (IntKind.bits IntKind.u64) (Int.fdiv a 8) &&& BitVec.ofInt (IntKind.bits IntKind.u64) 1048575)))) (wrI (wrU ↑(BitVec.toNat (BitVec.ofInt (IntKind.bits IntKind.u64) (Int.fdiv a 8388608) &&& BitVec.ofInt (IntKind.bits IntKind.u64) 65535)))) (wrI (wrU ↑(BitVec.toNat (BitVec.ofInt (IntKind.bits IntKind.u64) (Int.fdiv a 549755813888) &&& BitVec.ofInt (IntKind.bits IntKind.u64) 4194303))))

def slotOf (a : Int) : Int × Int × Int × Int := slotOfK (0, 0, 0, 0) a fun x0 x1 x2 x3 => (x0, x1, x2, x3)

theorem slotOfK_eq {R : Type} (bot : R) (a : Int) (K : Int → Int → Int → Int → R) : slotOfK bot a K = K (slotOf a).1 (slotOf a).2.1 (slotOf a).2.2.1 (slotOf a).2.2.2 := by
  rfl

def putChunkK {R : Type} (bot : R) (a b c d : Int) (K : Int → R) : R :=
  K (wrU ↑(BitVec.toNat (BitVec.ofInt (IntKind.bits IntKind.u64) (wrU ↑(BitVec.toNat (BitVec.ofInt (IntKind.bits IntKind.u64) (wrU ↑(BitVec.toNat (BitVec.ofInt (IntKind.bits IntKind.u64) (wrU (if 3 < if 0 > a then 0 else a then 3 else if 0 > a then 0 else a)) ||| BitVec.ofInt (IntKind.bits IntKind.u64) (wrU (wrU (if 63 < if 0 > b then 0 else b then 63 else if 0 > b then 0 else b) * 4))))) ||| BitVec.ofInt (IntKind.bits IntKind.u64) (wrU (wrU (if 1048575 < if 0 > c then 0 else c then 1048575 else if 0 > c then 0 else c) * 256))))) ||| BitVec.ofInt (IntKind.bits IntKind.u64) (wrU (wrU (if 68719476735 < if 0 > d then 0 else d then 68719476735 else if 0 > d then 0 else d) * 268435456)))))

def putChunk (a b c d : Int) : Int := putChunkK (0) a b c d fun x0 => (x0)

theorem putChunkK_eq {R : Type} (bot : R) (a b c d : Int) (K : Int → R) : putChunkK bot a b c d K = K (putChunk a b c d) := by
  rfl

def chunkOfK {R : Type} (bot : R) (a : Int) (K : Int → Int → Int → Int → R) : R :=
  K (wrI (wrU ↑(BitVec.toNat (BitVec.ofInt (IntKind.bits IntKind.u64) a &&& BitVec.ofInt (IntKind.bits IntKind.u64) 3)))) (wrI (wrU ↑(BitVec.toNat (BitVec.ofInt (IntKind.bits IntKind.u64) (Int.fdiv a 4) &&& BitVec.ofInt (IntKind.bits IntKind.u64) 63)))) (wrI (wrU ↑(BitVec.toNat (BitVec.ofInt (IntKind.bits IntKind.u64) (Int.fdiv a 256) &&& BitVec.ofInt (IntKind.bits IntKind.u64) 1048575)))) (wrI (wrU ↑(BitVec.toNat (BitVec.ofInt (IntKind.bits IntKind.u64) (Int.fdiv a 268435456) &&& BitVec.ofInt (IntKind.bits IntKind.u64) 68719476735))))

def chunkOf (a : Int) : Int × Int × Int × Int := chunkOfK (0, 0, 0, 0) a fun x0 x1 x2 x3 => (x0, x1, x2, x3)

theorem chunkOfK_eq {R : Type} (bot : R) (a : Int) (K : Int → Int → Int → Int → R) : chunkOfK bot a K = K (chunkOf a).1 (chunkOf a).2.1 (chunkOf a).2.2.1 (chunkOf a).2.2.2 := by
  rfl

def putHeadK {R : Type} (bot : R) (a b c d : Int) (o : Bool) (K : Int → R) : R :=
  bif o then
   K (wrU ↑(BitVec.toNat (BitVec.ofInt (IntKind.bits IntKind.u64) (wrU ↑(BitVec.toNat (BitVec.ofInt (IntKind.bits IntKind.u64) (wrU ↑(BitVec.toNat (BitVec.ofInt (IntKind.bits IntKind.u64) (wrU ↑(BitVec.toNat (BitVec.ofInt (IntKind.bits IntKind.u64) (wrU (if 3 < if 0 > a then 0 else a then 3 else if 0 > a then 0 else a)) ||| BitVec.ofInt (IntKind.bits IntKind.u64) (wrU (wrU (if 65535 < if 0 > b then 0 else b then 65535 else if 0 > b then 0 else b) * 4))))) ||| BitVec.ofInt (IntKind.bits IntKind.u64) (wrU (wrU (if 65535 < if 0 > c then 0 else c then 65535 else if 0 > c then 0 else c) * 262144))))) ||| BitVec.ofInt (IntKind.bits IntKind.u64) (wrU (wrU (if 65535 < if 0 > d then 0 else d then 65535 else if 0 > d then 0 else d) * 17179869184))))) ||| BitVec.ofInt (IntKind.bits IntKind.u64) 1125899906842624)))
  else
   K (wrU ↑(BitVec.toNat (BitVec.ofInt (IntKind.bits IntKind.u64) (wrU ↑(BitVec.toNat (BitVec.ofInt (IntKind.bits IntKind.u64) (wrU ↑(BitVec.toNat (BitVec.ofInt (IntKind.bits IntKind.u64) (wrU (if 3 < if 0 > a then 0 else a then 3 else if 0 > a then 0 else a)) ||| BitVec.ofInt (IntKind.bits IntKind.u64) (wrU (wrU (if 65535 < if 0 > b then 0 else b then 65535 else if 0 > b then 0 else b) * 4))))) ||| BitVec.ofInt (IntKind.bits IntKind.u64) (wrU (wrU (if 65535 < if 0 > c then 0 else c then 65535 else if 0 > c then 0 else c) * 262144))))) ||| BitVec.ofInt (IntKind.bits IntKind.u64) (wrU (wrU (if 65535 < if 0 > d then 0 else d then 65535 else if 0 > d then 0 else d) * 17179869184)))))

def putHead (a b c d : Int) (o : Bool) : Int := putHeadK (0) a b c d o fun x0 => (x0)

theorem putHeadK_eq {R : Type} (bot : R) (a b c d : Int) (o : Bool) (K : Int → R) : putHeadK bot a b c d o K = K (putHead a b c d o) := by
  unfold putHead putHeadK
  simp only [Bool.cond_eq_ite]
  repeat' split
  all_goals first
    | rfl
    | (exfalso; simp_all; done)
    | (exfalso; omega)

def headOfK {R : Type} (bot : R) (a : Int) (K : Int → Int → Int → Int → Bool → R) : R :=
  K (wrI (wrU ↑(BitVec.toNat (BitVec.ofInt (IntKind.bits IntKind.u64) a &&& BitVec.ofInt (IntKind.bits IntKind.u64) 3)))) (wrI (wrU ↑(BitVec.toNat (BitVec.ofInt (IntKind.bits IntKind.u64) (Int.fdiv a 4) &&& BitVec.ofInt (IntKind.bits IntKind.u64) 65535)))) (wrI (wrU ↑(BitVec.toNat (BitVec.ofInt (IntKind.bits IntKind.u64) (Int.fdiv a 262144) &&& BitVec.ofInt (IntKind.bits IntKind.u64) 65535)))) (wrI (wrU ↑(BitVec.toNat (BitVec.ofInt (IntKind.bits IntKind.u64) (Int.fdiv a 17179869184) &&& BitVec.ofInt (IntKind.bits IntKind.u64) 65535)))) (decide (wrU ↑(BitVec.toNat (BitVec.ofInt (IntKind.bits IntKind.u64) (Int.fdiv a 1125899906842624) &&& BitVec.ofInt (IntKind.bits IntKind.u64) 1)) = 1))

def headOf (a : Int) : Int × Int × Int × Int × Bool := headOfK (0, 0, 0, 0, false) a fun x0 x1 x2 x3 x4 => (x0, x1, x2, x3, x4)

theorem headOfK_eq {R : Type} (bot : R) (a : Int) (K : Int → Int → Int → Int → Bool → R) : headOfK bot a K = K (headOf a).1 (headOf a).2.1 (headOf a).2.2.1 (headOf a).2.2.2.1 (headOf a).2.2.2.2 := by
  rfl

def putCellK {R : Type} (bot : R) (a : Int) (o : Bool) (c : Int) (K : Int → R) : R :=
  bif o then
   K (wrU ↑(BitVec.toNat (BitVec.ofInt (IntKind.bits IntKind.u64) (wrU (if 1099511627775 < if 0 > a then 0 else a then 1099511627775 else if 0 > a then 0 else a)) ||| BitVec.ofInt (IntKind.bits IntKind.u64) (wrU ↑(BitVec.toNat (BitVec.ofInt (IntKind.bits IntKind.u64) 9223372036854775808 ||| BitVec.ofInt (IntKind.bits IntKind.u64) (wrU (wrU (if 4194303 < if 0 > c then 0 else c then 4194303 else if 0 > c then 0 else c) * 1099511627776))))))))
  else
   K (wrU (if 1099511627775 < if 0 > a then 0 else a then 1099511627775 else if 0 > a then 0 else a))

def putCell (a : Int) (o : Bool) (c : Int) : Int := putCellK (0) a o c fun x0 => (x0)

theorem putCellK_eq {R : Type} (bot : R) (a : Int) (o : Bool) (c : Int) (K : Int → R) : putCellK bot a o c K = K (putCell a o c) := by
  unfold putCell putCellK
  simp only [Bool.cond_eq_ite]
  repeat' split
  all_goals first
    | rfl
    | (exfalso; simp_all; done)
    | (exfalso; omega)

def cellOfK {R : Type} (bot : R) (a : Int) (K : Int → Bool → Int → R) : R :=
  bif decide (Int.fdiv a 9223372036854775808 = 1) then
   K (wrI (wrU ↑(BitVec.toNat (BitVec.ofInt (IntKind.bits IntKind.u64) a &&& BitVec.ofInt (IntKind.bits IntKind.u64) 1099511627775)))) (decide (Int.fdiv a 9223372036854775808 = 1)) (wrI (wrU ↑(BitVec.toNat (BitVec.ofInt (IntKind.bits IntKind.u64) (Int.fdiv a 1099511627776) &&& BitVec.ofInt (IntKind.bits IntKind.u64) 4194303))))
  else
   K (wrI (wrU ↑(BitVec.toNat (BitVec.ofInt (IntKind.bits IntKind.u64) a &&& BitVec.ofInt (IntKind.bits IntKind.u64) 1099511627775)))) (decide (Int.fdiv a 9223372036854775808 = 1)) 0

def cellOf (a : Int) : Int × Bool × Int := cellOfK (0, false, 0) a fun x0 x1 x2 => (x0, x1, x2)

theorem cellOfK_eq {R : Type} (bot : R) (a : Int) (K : Int → Bool → Int → R) : cellOfK bot a K = K (cellOf a).1 (cellOf a).2.1 (cellOf a).2.2 := by
  unfold cellOf cellOfK
  simp only [Bool.cond_eq_ite]
  repeat' split
  all_goals first
    | rfl
    | (exfalso; simp_all; done)
    | (exfalso; omega)

def putTopK {R : Type} (bot : R) (a b : Int) (K : Int → R) : R :=
  K (wrU ↑(BitVec.toNat (BitVec.ofInt (IntKind.bits IntKind.u64) (wrU (if 65536 < if 0 > wrI ((if 65535 < a then 65535 else a) + 1) then 0 else wrI ((if 65535 < a then 65535 else a) + 1) then 65536 else if 0 > wrI ((if 65535 < a then 65535 else a) + 1) then 0 else wrI ((if 65535 < a then 65535 else a) + 1))) ||| BitVec.ofInt (IntKind.bits IntKind.u64) (wrU (wrU (if 68719476735 < if 0 > b then 0 else b then 68719476735 else if 0 > b then 0 else b) * 131072)))))

def putTop (a b : Int) : Int := putTopK (0) a b fun x0 => (x0)

theorem putTopK_eq {R : Type} (bot : R) (a b : Int) (K : Int → R) : putTopK bot a b K = K (putTop a b) := by
  rfl

def topOfK {R : Type} (bot : R) (a : Int) (K : Int → Int → R) : R :=
  K (wrI (wrI (wrU ↑(BitVec.toNat (BitVec.ofInt (IntKind.bits IntKind.u64) a &&& BitVec.ofInt (IntKind.bits IntKind.u64) 131071))) - 1)) (wrI (wrU ↑(BitVec.toNat (BitVec.ofInt (IntKind.bits IntKind.u64) (Int.fdiv a 131072) &&& BitVec.ofInt (IntKind.bits IntKind.u64) 68719476735))))

def topOf (a : Int) : Int × Int := topOfK (0, 0) a fun x0 x1 => (x0, x1)

theorem topOfK_eq {R : Type} (bot : R) (a : Int) (K : Int → Int → R) : topOfK bot a K = K (topOf a).1 (topOf a).2 := by
  rfl

def lOpenK {R : Type} (bot : R) (a : Int) (K : Int → R) : R :=
  K (wrI (2 + a))

def lOpen (a : Int) : Int := lOpenK (0) a fun x0 => (x0)

theorem lOpenK_eq {R : Type} (bot : R) (a : Int) (K : Int → R) : lOpenK bot a K = K (lOpen a) := by
  rfl

def lPinK {R : Type} (bot : R) (a : Int) (K : Int → R) : R :=
  K (wrI (6 + a))

def lPin (a : Int) : Int := lPinK (0) a fun x0 => (x0)

theorem lPinK_eq {R : Type} (bot : R) (a : Int) (K : Int → R) : lPinK bot a K = K (lPin a) := by
  rfl

def lSlotK {R : Type} (bot : R) (c1 c2 c3 c4 c5 c6 c7 : Int) (a : Int) (K : Int → R) : R :=
  K (wrI (wrI (6 + c1) + wrI (2 * a)))

def lSlot (c1 c2 c3 c4 c5 c6 c7 : Int) (a : Int) : Int := lSlotK (0) c1 c2 c3 c4 c5 c6 c7 a fun x0 => (x0)

theorem lSlotK_eq {R : Type} (bot : R) (c1 c2 c3 c4 c5 c6 c7 : Int) (a : Int) (K : Int → R) : lSlotK bot c1 c2 c3 c4 c5 c6 c7 a K = K (lSlot c1 c2 c3 c4 c5 c6 c7 a) := by
  rfl

def lChunkK {R : Type} (bot : R) (c1 c2 c3 c4 c5 c6 c7 : Int) (a : Int) (K : Int → R) : R :=
  K (wrI (wrI (wrI (6 + c1) + wrI (2 * c2)) + wrI (3 * a)))

def lChunk (c1 c2 c3 c4 c5 c6 c7 : Int) (a : Int) : Int := lChunkK (0) c1 c2 c3 c4 c5 c6 c7 a fun x0 => (x0)

theorem lChunkK_eq {R : Type} (bot : R) (c1 c2 c3 c4 c5 c6 c7 : Int) (a : Int) (K : Int → R) : lChunkK bot c1 c2 c3 c4 c5 c6 c7 a K = K (lChunk c1 c2 c3 c4 c5 c6 c7 a) := by
  rfl

def lBaseK {R : Type} (bot : R) (c1 c2 c3 c4 c5 c6 c7 : Int) (a : Int) (K : Int → R) : R :=
  K (wrI (wrI (wrI (wrI (6 + c1) + wrI (2 * c2)) + wrI (3 * c3)) + wrI (c4 * a)))

def lBase (c1 c2 c3 c4 c5 c6 c7 : Int) (a : Int) : Int := lBaseK (0) c1 c2 c3 c4 c5 c6 c7 a fun x0 => (x0)

theorem lBaseK_eq {R : Type} (bot : R) (c1 c2 c3 c4 c5 c6 c7 : Int) (a : Int) (K : Int → R) : lBaseK bot c1 c2 c3 c4 c5 c6 c7 a K = K (lBase c1 c2 c3 c4 c5 c6 c7 a) := by
  rfl

def lLenK {R : Type} (bot : R) (c1 c2 c3 c4 c5 c6 c7 : Int) (K : Int → R) : R :=
  K (wrI (wrI (wrI (wrI (6 + c1) + wrI (2 * c2)) + wrI (3 * c3)) + wrI (c4 * c3)))

def lLen (c1 c2 c3 c4 c5 c6 c7 : Int) : Int := lLenK (0) c1 c2 c3 c4 c5 c6 c7 fun x0 => (x0)

theorem lLenK_eq {R : Type} (bot : R) (c1 c2 c3 c4 c5 c6 c7 : Int) (K : Int → R) : lLenK bot c1 c2 c3 c4 c5 c6 c7 K = K (lLen c1 c2 c3 c4 c5 c6 c7) := by
  rfl

def lOfK {R : Type} (bot : R) (c1 c2 c3 c4 c5 c6 c7 : Int) (a : Int) (K : Int → R) : R :=
  bif decide (a < wrI (wrI (wrI (wrI (6 + c1) + wrI (2 * c2)) + wrI (3 * c3)) + wrI (c4 * 0))) then
   K (-1)
  else
   bif decide (wrI (wrI (wrI (wrI (6 + c1) + wrI (2 * c2)) + wrI (3 * c3)) + wrI (c4 * c3)) ≤ a) then
    K (-1)
   else
    bif decide (c4 = 0) then
     bot
    else
     K (wrI (Int.tdiv (wrI (a - wrI (wrI (wrI (wrI (6 + c1) + wrI (2 * c2)) + wrI (3 * c3)) + wrI (c4 * 0)))) c4))

def lOf (c1 c2 c3 c4 c5 c6 c7 : Int) (a : Int) : Int := lOfK (0) c1 c2 c3 c4 c5 c6 c7 a fun x0 => (x0)

theorem lOfK_eq {R : Type} (bot : R) (c1 c2 c3 c4 c5 c6 c7 : Int) (a : Int) (hc : c4 ≠ 0) (K : Int → R) : lOfK bot c1 c2 c3 c4 c5 c6 c7 a K = K (lOf c1 c2 c3 c4 c5 c6 c7 a) := by
  unfold lOf lOfK
  simp only [Bool.cond_eq_ite]
  repeat' split
  all_goals first
    | rfl
    | (exfalso; simp_all; done)
    | (exfalso; omega)

def lClassK {R : Type} (bot : R) (a : Int) (K : Int → R) : R :=
  bif decide (1 ≤ a) then
   bif decide (a ≤ wrI (2 * 2 ^ min (Int.toNat 0) (IntKind.bits IntKind.i64))) then
    K 0
   else
    bif decide (1 ≤ a) then
     bif decide (a ≤ wrI (2 * 2 ^ min (Int.toNat (wrI (0 + 1))) (IntKind.bits IntKind.i64))) then
      K 1
     else
      bif decide (1 ≤ a) then
       bif decide (a ≤ wrI (2 * 2 ^ min (Int.toNat (wrI (wrI (0 + 1) + 1))) (IntKind.bits IntKind.i64))) then
        K 2
       else
        bif decide (1 ≤ a) then
         bif decide (a ≤ wrI (2 * 2 ^ min (Int.toNat (wrI (wrI (wrI (0 + 1) + 1) + 1))) (IntKind.bits IntKind.i64))) then
          K 3
         else
          K (-1)
        else
         K (-1)
      else
       bif decide (1 ≤ a) then
        bif decide (a ≤ wrI (2 * 2 ^ min (Int.toNat (wrI (wrI (wrI (0 + 1) + 1) + 1))) (IntKind.bits IntKind.i64))) then
         K 3
        else
         K (-1)
       else
        K (-1)
    else
     bif decide (1 ≤ a) then
      bif decide (a ≤ wrI (2 * 2 ^ min (Int.toNat (wrI (wrI (0 + 1) + 1))) (IntKind.bits IntKind.i64))) then
       K 2
      else
       bif decide (1 ≤ a) then
        bif decide (a ≤ wrI (2 * 2 ^ min (Int.toNat (wrI (wrI (wrI (0 + 1) + 1) + 1))) (IntKind.bits IntKind.i64))) then
         K 3
        else
         K (-1)
       else
        K (-1)
     else
      bif decide (1 ≤ a) then
       bif decide (a ≤ wrI (2 * 2 ^ min (Int.toNat (wrI (wrI (wrI (0 + 1) + 1) + 1))) (IntKind.bits IntKind.i64))) then
        K 3
       else
        K (-1)
      else
       K (-1)
  else
   bif decide (1 ≤ a) then
    bif decide (a ≤ wrI (2 * 2 ^ min (Int.toNat (wrI (0 + 1))) (IntKind.bits IntKind.i64))) then
     K 1
    else
     bif decide (1 ≤ a) then
      bif decide (a ≤ wrI (2 * 2 ^ min (Int.toNat (wrI (wrI (0 + 1) + 1))) (IntKind.bits IntKind.i64))) then
       K 2
      else
       bif decide (1 ≤ a) then
        bif decide (a ≤ wrI (2 * 2 ^ min (Int.toNat (wrI (wrI (wrI (0 + 1) + 1) + 1))) (IntKind.bits IntKind.i64))) then
         K 3
        else
         K (-1)
       else
        K (-1)
     else
      bif decide (1 ≤ a) then
       bif decide (a ≤ wrI (2 * 2 ^ min (Int.toNat (wrI (wrI (wrI (0 + 1) + 1) + 1))) (IntKind.bits IntKind.i64))) then
        K 3
       else
        K (-1)
      else
       K (-1)
   else
    bif decide (1 ≤ a) then
     bif decide (a ≤ wrI (2 * 2 ^ min (Int.toNat (wrI (wrI (0 + 1) + 1))) (IntKind.bits IntKind.i64))) then
      K 2
     else
      bif decide (1 ≤ a) then
       bif decide (a ≤ wrI (2 * 2 ^ min (Int.toNat (wrI (wrI (wrI (0 + 1) + 1) + 1))) (IntKind.bits IntKind.i64))) then
        K 3
       else
        K (-1)
      else
       K (-1)
    else
     bif decide (1 ≤ a) then
      bif decide (a ≤ wrI (2 * 2 ^ min (Int.toNat (wrI (wrI (wrI (0 + 1) + 1) + 1))) (IntKind.bits IntKind.i64))) then
       K 3
      else
       K (-1)
     else
      K (-1)

def lClass (a : Int) : Int := lClassK (0) a fun x0 => (x0)

theorem lClassK_eq {R : Type} (bot : R) (a : Int) (K : Int → R) : lClassK bot a K = K (lClass a) := by
  unfold lClass lClassK
  simp only [Bool.cond_eq_ite]
  repeat' split
  all_goals first
    | rfl
    | (exfalso; simp_all; done)
    | (exfalso; omega)

def lRoomK {R : Type} (bot : R) (a : Int) (K : Int → R) : R :=
  bif decide (a < 0) then
   K 0
  else
   bif decide (a < 0) then
    bot
   else
    K (wrI (1 + wrI (2 * 2 ^ min (Int.toNat a) (IntKind.bits IntKind.i64))))

def lRoom (a : Int) : Int := lRoomK (0) a fun x0 => (x0)

theorem lRoomK_eq {R : Type} (bot : R) (a : Int) (K : Int → R) : lRoomK bot a K = K (lRoom a) := by
  unfold lRoom lRoomK
  simp only [Bool.cond_eq_ite]
  repeat' split
  all_goals first
    | rfl
    | (exfalso; simp_all; done)
    | (exfalso; omega)

def liveK {R : Type} (bot : R) (a b c d p q : Int) (K : Bool → R) : R :=
  bif decide (a = 1) then
   K (decide (c = q))
  else
   bif decide (a = 2) then
    K (decide (c = q))
   else
    bif decide (a = 4) then
     K (decide (c = q))
    else
     K false

def live (a b c d p q : Int) : Bool := liveK (false) a b c d p q fun x0 => (x0)

theorem liveK_eq {R : Type} (bot : R) (a b c d p q : Int) (K : Bool → R) : liveK bot a b c d p q K = K (live a b c d p q) := by
  unfold live liveK
  simp only [Bool.cond_eq_ite]
  repeat' split
  all_goals first
    | rfl
    | (exfalso; simp_all; done)
    | (exfalso; omega)

end Go.FL

/-
  The contracts of the program's functions of plain words.
-/
set_option linter.unusedVariables false
set_option linter.unusedSimpArgs false
set_option maxRecDepth 100000
set_option linter.unusedSectionVars false
namespace Go.Proofs.YtfjnkneoddankaaGreat
open Go Go.FL Go.Proofs
variable [Go.FL.Fz]

abbrev Hd := List LV → LH → (LV → LH → Prop) → Prop

def own0 : FuncId → Option Hd := fun _ => none

def namesOK : List Func → Bool
  | [] => true
  | fn :: r => match fn.body.isNone || !(fn.name == "runtime.NumGoroutine") with
    | true => namesOK r
    | false => false

theorem fnOK_of {P : Program} (h : namesOK P.funcs.toList = true) : FnOK P := by
  have key : ∀ (l : List Func), namesOK l = true → ∀ fn ∈ l, fn.body.isSome = true → (fn.name == "runtime.NumGoroutine") = false := by
    intro l
    induction l with
    | nil => intro _ fn hf; simp at hf
    | cons g r ih =>
      intro h fn hf hb
      simp only [namesOK] at h
      split at h
      · rename_i hg
        rcases List.mem_cons.1 hf with rfl | hf
        · cases hx : fn.body with
          | none => rw [hx] at hb; cases hb
          | some c => rw [hx] at hg; simpa using hg
        · exact ih h fn hf hb
      · cases h
  intro f fn hf hb args w
  have hn := key _ h fn (by simpa using Array.mem_of_getElem? hf) hb
  have hb' : fn.body.isNone = false := by cases hx : fn.body <;> simp_all
  unfold callFunc
  simp only [Sem.run_bind, run_program, Result.andThen_ok, hf, hn, hb', Bool.false_eq_true, if_false, Sem.run_pure]

theorem fnOK : FnOK Tryz.prog := fnOK_of (by kernel_rfl)
theorem mixed : Tryz.prog.follows .mixedOrders = true := by kernel_rfl

def HOK (f : FuncId) (h : Hd) : Prop := ∀ args H K, h args H K → (∃ fn, Tryz.prog.funcs[f]? = some fn ∧ fn.body.isSome = true) ∧ CSpec Tryz.prog f args H K

def lowV : LV → Bool
  | .un => true
  | .c x => x.low 0
  | .agg l => lowL 0 l
  | .tup l => lowPs l
where lowPs : List LP → Bool
  | [] => true
  | .c x :: r => match x.low 0 with
    | true => lowPs r
    | false => false
  | .agg l :: r => match lowL 0 l with
    | true => lowPs r
    | false => false

def lowVs : List LV → Bool
  | [] => true
  | v :: r => match lowV v with
    | true => lowVs r
    | false => false

theorem LC.ren_id : ∀ x : LC, x.ren id = x := by
  intro x
  induction x with
  | iface t x ih => simp [LC.ren, ih]
  | _ => rfl

theorem RelC.low {s s' : Mp} {x : LC} {v : Value} (hx : x.low 0 = true) (h : RelC s x v) : RelC s' x v :=
  RelC.unren (g := id) (k := 0) (fun n r hn => absurd hn (Nat.not_lt_zero n)) hx (by rw [LC.ren_id]; exact h)

theorem RelL.low {s s' : Mp} : ∀ {l : List LC} {vs : List Value}, lowL 0 l = true → RelL s l vs → RelL s' l vs
  | [], [], _, _ => trivial
  | x :: l, _ :: _, hx, h => by
    simp only [lowL] at hx
    split at hx
    · rename_i h1; exact ⟨RelC.low h1 h.1, RelL.low hx h.2⟩
    · cases hx
  | [], _ :: _, _, h => h.elim
  | _ :: _, [], _, h => h.elim

theorem RelPs.low {s s' : Mp} : ∀ {l : List LP} {vs : List Value}, lowV.lowPs l = true → RelPs s l vs → RelPs s' l vs
  | [], [], _, _ => trivial
  | .c x :: l, _ :: _, hx, h => by
    simp only [lowV.lowPs] at hx
    split at hx
    · rename_i h1; exact ⟨RelC.low h1 h.1, RelPs.low hx h.2⟩
    · cases hx
  | .agg x :: l, _ :: _, hx, h => by
    simp only [lowV.lowPs] at hx
    split at hx
    · rename_i h1
      obtain ⟨cs, hv, hr⟩ := h.1
      exact ⟨⟨cs, hv, RelL.low h1 hr⟩, RelPs.low hx h.2⟩
    · cases hx
  | [], _ :: _, _, h => h.elim
  | _ :: _, [], _, h => h.elim

theorem RelV.low {s s' : Mp} {x : LV} {v : Value} (hx : lowV x = true) (h : RelV s x v) : RelV s' x v := by
  cases x with
  | un => trivial
  | c x => exact RelC.low hx h
  | agg l => obtain ⟨cs, hv, hr⟩ := h; exact ⟨cs, hv, RelL.low hx hr⟩
  | tup l => obtain ⟨cs, hv, hr⟩ := h; exact ⟨cs, hv, RelPs.low hx hr⟩

theorem RelVs.low {s s' : Mp} : ∀ {l : List LV} {vs : List Value}, lowVs l = true → RelVs s l vs → RelVs s' l vs
  | [], [], _, _ => trivial
  | x :: l, _ :: _, hx, h => by
    simp only [lowVs] at hx
    split at hx
    · rename_i h1; exact ⟨RelV.low h1 h.1, RelVs.low hx h.2⟩
    · cases hx
  | [], _ :: _, _, h => h.elim
  | _ :: _, [], _, h => h.elim

/-- A function that touches no object. -/
theorem pure_ok {own : FuncId → Option Hd} (hown : OwnOK Tryz.prog own) {fuel d : Nat} {f : FuncId} {args : List LV} {H : LH} {K K₁ : LV → LH → Prop} (hlow : lowVs args = true)
    (hev : evF Tryz.prog own fuel d f args ⟨[], []⟩ K₁) (hK : ∀ v H₁, K₁ v H₁ → lowV v = true ∧ K v H) :
    (∃ fn, Tryz.prog.funcs[f]? = some fn ∧ fn.body.isSome = true) ∧ CSpec Tryz.prog f args H K := by
  obtain ⟨h1, h2⟩ := evF_ok fnOK mixed hown fuel d f args ⟨[], []⟩ K₁ hev
  refine ⟨h1, ?_⟩
  refine CSpec.objs (ns := []) (xs := []) rfl (by simp) List.nodup_nil (args₁ := args) (K₁ := K₁) (fun s s₁ vs _ h => RelVs.low hlow h) h2 ?_
  intro v₁ H₁ hk
  obtain ⟨h3, h4⟩ := hK v₁ H₁ hk
  refine ⟨[], [], [], [], v₁, ⟨rfl, rfl, rfl, by simp, by simp, by simp, by simp, by simp, by simp, by simp⟩, fun s₁ s' v' _ _ h => RelV.low h3 h, h4⟩

theorem own0_ok : OwnOK Tryz.prog own0 := fun f h hf => by cases hf

theorem fit_ev (a b : Int) (K : Int → Prop) : evF Tryz.prog own0 10 20 66 [.c (.int .i64 a), .c (.int .i64 b)] ⟨[], []⟩ (fun v _ => match v with | .c (.int .u64 x) => K x | _ => False) = fitK False a b K := by kernel_rfl

def h_fit : Hd := fun args H K => match args with
  | [.c (.int .i64 a), .c (.int .i64 b)] => K (.c (.int .u64 ((fit a b)))) H
  | _ => False

theorem h_fit_ok : HOK 66 h_fit := by
  intro args H K h
  unfold h_fit at h
  split at h
  · rename_i a b
    have e := fit_ev a b (fun x => K (.c (.int .u64 x)) H)
    rw [fitK_eq False a b] at e
    have e := e.mpr h
    refine pure_ok (fuel := 10) (d := 20) own0_ok rfl e ?_
    intro v H₁ hv
    split at hv
    · exact ⟨rfl, hv⟩
    · exact hv.elim
  · exact h.elim

theorem putHandle_ev (a b : Int) (K : Int → Prop) : evF Tryz.prog own0 10 20 82 [.agg [.int .i64 a, .int .i64 b]] ⟨[], []⟩ (fun v _ => match v with | .c (.int .u64 x) => K x | _ => False) = putHandleK False a b K := by kernel_rfl

def h_putHandle : Hd := fun args H K => match args with
  | [.agg [.int .i64 a, .int .i64 b]] => K (.c (.int .u64 ((putHandle a b)))) H
  | _ => False

theorem h_putHandle_ok : HOK 82 h_putHandle := by
  intro args H K h
  unfold h_putHandle at h
  split at h
  · rename_i a b
    have e := putHandle_ev a b (fun x => K (.c (.int .u64 x)) H)
    rw [putHandleK_eq False a b] at e
    have e := e.mpr h
    refine pure_ok (fuel := 10) (d := 20) own0_ok rfl e ?_
    intro v H₁ hv
    split at hv
    · exact ⟨rfl, hv⟩
    · exact hv.elim
  · exact h.elim

theorem handle_ev (a : Int) (K : Int → Int → Bool → Prop) : evF Tryz.prog own0 10 20 61 [.c (.int .u64 a)] ⟨[], []⟩ (fun v _ => match v with | .tup [.agg [.int .i64 x, .int .i64 y], .c (.bool z)] => K x y z | _ => False) = handleK False a K := by kernel_rfl

def h_handle : Hd := fun args H K => match args with
  | [.c (.int .u64 a)] => K (.tup [.agg [.int .i64 ((handle a).1), .int .i64 ((handle a).2.1)], .c (.bool ((handle a).2.2))]) H
  | _ => False

theorem h_handle_ok : HOK 61 h_handle := by
  intro args H K h
  unfold h_handle at h
  split at h
  · rename_i a
    have e := handle_ev a (fun x y z => K (.tup [.agg [.int .i64 x, .int .i64 y], .c (.bool z)]) H)
    rw [handleK_eq False a] at e
    have e := e.mpr h
    refine pure_ok (fuel := 10) (d := 20) own0_ok rfl e ?_
    intro v H₁ hv
    split at hv
    · exact ⟨rfl, hv⟩
    · exact hv.elim
  · exact h.elim

theorem putSlot_ev (a b c d : Int) (K : Int → Prop) : evF Tryz.prog own0 10 20 69 [.agg [.int .i64 a, .int .i64 b, .int .i64 c, .int .i64 d]] ⟨[], []⟩ (fun v _ => match v with | .c (.int .u64 x) => K x | _ => False) = putSlotK False a b c d K := by kernel_rfl

def h_putSlot : Hd := fun args H K => match args with
  | [.agg [.int .i64 a, .int .i64 b, .int .i64 c, .int .i64 d]] => K (.c (.int .u64 ((putSlot a b c d)))) H
  | _ => False

theorem h_putSlot_ok : HOK 69 h_putSlot := by
  intro args H K h
  unfold h_putSlot at h
  split at h
  · rename_i a b c d
    have e := putSlot_ev a b c d (fun x => K (.c (.int .u64 x)) H)
    rw [putSlotK_eq False a b c d] at e
    have e := e.mpr h
    refine pure_ok (fuel := 10) (d := 20) own0_ok rfl e ?_
    intro v H₁ hv
    split at hv
    · exact ⟨rfl, hv⟩
    · exact hv.elim
  · exact h.elim

theorem slotOf_ev (a : Int) (K : Int → Int → Int → Int → Prop) : evF Tryz.prog own0 10 20 62 [.c (.int .u64 a)] ⟨[], []⟩ (fun v _ => match v with | .agg [.int .i64 x, .int .i64 y, .int .i64 z, .int .i64 t] => K x y z t | _ => False) = slotOfK False a K := by kernel_rfl

def h_slotOf : Hd := fun args H K => match args with
  | [.c (.int .u64 a)] => K (.agg [.int .i64 ((slotOf a).1), .int .i64 ((slotOf a).2.1), .int .i64 ((slotOf a).2.2.1), .int .i64 ((slotOf a).2.2.2)]) H
  | _ => False

theorem h_slotOf_ok : HOK 62 h_slotOf := by
  intro args H K h
  unfold h_slotOf at h
  split at h
  · rename_i a
    have e := slotOf_ev a (fun x y z t => K (.agg [.int .i64 x, .int .i64 y, .int .i64 z, .int .i64 t]) H)
    rw [slotOfK_eq False a] at e
    have e := e.mpr h
    refine pure_ok (fuel := 10) (d := 20) own0_ok rfl e ?_
    intro v H₁ hv
    split at hv
    · exact ⟨rfl, hv⟩
    · exact hv.elim
  · exact h.elim

theorem putChunk_ev (a b c d : Int) (K : Int → Prop) : evF Tryz.prog own0 10 20 91 [.agg [.int .i64 a, .int .i64 b, .int .i64 c, .int .i64 d]] ⟨[], []⟩ (fun v _ => match v with | .c (.int .u64 x) => K x | _ => False) = putChunkK False a b c d K := by kernel_rfl

def h_putChunk : Hd := fun args H K => match args with
  | [.agg [.int .i64 a, .int .i64 b, .int .i64 c, .int .i64 d]] => K (.c (.int .u64 ((putChunk a b c d)))) H
  | _ => False

theorem h_putChunk_ok : HOK 91 h_putChunk := by
  intro args H K h
  unfold h_putChunk at h
  split at h
  · rename_i a b c d
    have e := putChunk_ev a b c d (fun x => K (.c (.int .u64 x)) H)
    rw [putChunkK_eq False a b c d] at e
    have e := e.mpr h
    refine pure_ok (fuel := 10) (d := 20) own0_ok rfl e ?_
    intro v H₁ hv
    split at hv
    · exact ⟨rfl, hv⟩
    · exact hv.elim
  · exact h.elim

theorem chunkOf_ev (a : Int) (K : Int → Int → Int → Int → Prop) : evF Tryz.prog own0 10 20 22 [.c (.int .u64 a)] ⟨[], []⟩ (fun v _ => match v with | .agg [.int .i64 x, .int .i64 y, .int .i64 z, .int .i64 t] => K x y z t | _ => False) = chunkOfK False a K := by kernel_rfl

def h_chunkOf : Hd := fun args H K => match args with
  | [.c (.int .u64 a)] => K (.agg [.int .i64 ((chunkOf a).1), .int .i64 ((chunkOf a).2.1), .int .i64 ((chunkOf a).2.2.1), .int .i64 ((chunkOf a).2.2.2)]) H
  | _ => False

theorem h_chunkOf_ok : HOK 22 h_chunkOf := by
  intro args H K h
  unfold h_chunkOf at h
  split at h
  · rename_i a
    have e := chunkOf_ev a (fun x y z t => K (.agg [.int .i64 x, .int .i64 y, .int .i64 z, .int .i64 t]) H)
    rw [chunkOfK_eq False a] at e
    have e := e.mpr h
    refine pure_ok (fuel := 10) (d := 20) own0_ok rfl e ?_
    intro v H₁ hv
    split at hv
    · exact ⟨rfl, hv⟩
    · exact hv.elim
  · exact h.elim

theorem putHead_ev (a b c d : Int) (o : Bool) (K : Int → Prop) : evF Tryz.prog own0 10 20 34 [.agg [.int .i64 a, .int .i64 b, .int .i64 c, .int .i64 d, .bool o]] ⟨[], []⟩ (fun v _ => match v with | .c (.int .u64 x) => K x | _ => False) = putHeadK False a b c d o K := by kernel_rfl

def h_putHead : Hd := fun args H K => match args with
  | [.agg [.int .i64 a, .int .i64 b, .int .i64 c, .int .i64 d, .bool o]] => K (.c (.int .u64 ((putHead a b c d o)))) H
  | _ => False

theorem h_putHead_ok : HOK 34 h_putHead := by
  intro args H K h
  unfold h_putHead at h
  split at h
  · rename_i a b c d o
    have e := putHead_ev a b c d o (fun x => K (.c (.int .u64 x)) H)
    rw [putHeadK_eq False a b c d o] at e
    have e := e.mpr h
    refine pure_ok (fuel := 10) (d := 20) own0_ok rfl e ?_
    intro v H₁ hv
    split at hv
    · exact ⟨rfl, hv⟩
    · exact hv.elim
  · exact h.elim

theorem headOf_ev (a : Int) (K : Int → Int → Int → Int → Bool → Prop) : evF Tryz.prog own0 10 20 31 [.c (.int .u64 a)] ⟨[], []⟩ (fun v _ => match v with | .agg [.int .i64 x, .int .i64 y, .int .i64 z, .int .i64 t, .bool s] => K x y z t s | _ => False) = headOfK False a K := by kernel_rfl

def h_headOf : Hd := fun args H K => match args with
  | [.c (.int .u64 a)] => K (.agg [.int .i64 ((headOf a).1), .int .i64 ((headOf a).2.1), .int .i64 ((headOf a).2.2.1), .int .i64 ((headOf a).2.2.2.1), .bool ((headOf a).2.2.2.2)]) H
  | _ => False

theorem h_headOf_ok : HOK 31 h_headOf := by
  intro args H K h
  unfold h_headOf at h
  split at h
  · rename_i a
    have e := headOf_ev a (fun x y z t s => K (.agg [.int .i64 x, .int .i64 y, .int .i64 z, .int .i64 t, .bool s]) H)
    rw [headOfK_eq False a] at e
    have e := e.mpr h
    refine pure_ok (fuel := 10) (d := 20) own0_ok rfl e ?_
    intro v H₁ hv
    split at hv
    · exact ⟨rfl, hv⟩
    · exact hv.elim
  · exact h.elim

theorem putCell_ev (a : Int) (o : Bool) (c : Int) (K : Int → Prop) : evF Tryz.prog own0 10 20 102 [.agg [.int .i64 a, .bool o, .int .i64 c]] ⟨[], []⟩ (fun v _ => match v with | .c (.int .u64 x) => K x | _ => False) = putCellK False a o c K := by kernel_rfl

def h_putCell : Hd := fun args H K => match args with
  | [.agg [.int .i64 a, .bool o, .int .i64 c]] => K (.c (.int .u64 ((putCell a o c)))) H
  | _ => False

theorem h_putCell_ok : HOK 102 h_putCell := by
  intro args H K h
  unfold h_putCell at h
  split at h
  · rename_i a o c
    have e := putCell_ev a o c (fun x => K (.c (.int .u64 x)) H)
    rw [putCellK_eq False a o c] at e
    have e := e.mpr h
    refine pure_ok (fuel := 10) (d := 20) own0_ok rfl e ?_
    intro v H₁ hv
    split at hv
    · exact ⟨rfl, hv⟩
    · exact hv.elim
  · exact h.elim

theorem cellOf_ev (a : Int) (K : Int → Bool → Int → Prop) : evF Tryz.prog own0 10 20 101 [.c (.int .u64 a)] ⟨[], []⟩ (fun v _ => match v with | .agg [.int .i64 x, .bool y, .int .i64 z] => K x y z | _ => False) = cellOfK False a K := by kernel_rfl

def h_cellOf : Hd := fun args H K => match args with
  | [.c (.int .u64 a)] => K (.agg [.int .i64 ((cellOf a).1), .bool ((cellOf a).2.1), .int .i64 ((cellOf a).2.2)]) H
  | _ => False

theorem h_cellOf_ok : HOK 101 h_cellOf := by
  intro args H K h
  unfold h_cellOf at h
  split at h
  · rename_i a
    have e := cellOf_ev a (fun x y z => K (.agg [.int .i64 x, .bool y, .int .i64 z]) H)
    rw [cellOfK_eq False a] at e
    have e := e.mpr h
    refine pure_ok (fuel := 10) (d := 20) own0_ok rfl e ?_
    intro v H₁ hv
    split at hv
    · exact ⟨rfl, hv⟩
    · exact hv.elim
  · exact h.elim

theorem putTop_ev (a b : Int) (K : Int → Prop) : evF Tryz.prog own0 10 20 70 [.c (.int .i64 a), .c (.int .i64 b)] ⟨[], []⟩ (fun v _ => match v with | .c (.int .u64 x) => K x | _ => False) = putTopK False a b K := by kernel_rfl

def h_putTop : Hd := fun args H K => match args with
  | [.c (.int .i64 a), .c (.int .i64 b)] => K (.c (.int .u64 ((putTop a b)))) H
  | _ => False

theorem h_putTop_ok : HOK 70 h_putTop := by
  intro args H K h
  unfold h_putTop at h
  split at h
  · rename_i a b
    have e := putTop_ev a b (fun x => K (.c (.int .u64 x)) H)
    rw [putTopK_eq False a b] at e
    have e := e.mpr h
    refine pure_ok (fuel := 10) (d := 20) own0_ok rfl e ?_
    intro v H₁ hv
    split at hv
    · exact ⟨rfl, hv⟩
    · exact hv.elim
  · exact h.elim

theorem topOf_ev (a : Int) (K : Int → Int → Prop) : evF Tryz.prog own0 10 20 116 [.c (.int .u64 a)] ⟨[], []⟩ (fun v _ => match v with | .tup [.c (.int .i64 x), .c (.int .i64 y)] => K x y | _ => False) = topOfK False a K := by kernel_rfl

def h_topOf : Hd := fun args H K => match args with
  | [.c (.int .u64 a)] => K (.tup [.c (.int .i64 ((topOf a).1)), .c (.int .i64 ((topOf a).2))]) H
  | _ => False

theorem h_topOf_ok : HOK 116 h_topOf := by
  intro args H K h
  unfold h_topOf at h
  split at h
  · rename_i a
    have e := topOf_ev a (fun x y => K (.tup [.c (.int .i64 x), .c (.int .i64 y)]) H)
    rw [topOfK_eq False a] at e
    have e := e.mpr h
    refine pure_ok (fuel := 10) (d := 20) own0_ok rfl e ?_
    intro v H₁ hv
    split at hv
    · exact ⟨rfl, hv⟩
    · exact hv.elim
  · exact h.elim

theorem lOpen_ev (a : Int) (K : Int → Prop) : evF Tryz.prog own0 10 20 35 [.c (.int .i64 a)] ⟨[], []⟩ (fun v _ => match v with | .c (.int .i64 x) => K x | _ => False) = lOpenK False a K := by kernel_rfl

def h_lOpen : Hd := fun args H K => match args with
  | [.c (.int .i64 a)] => K (.c (.int .i64 ((lOpen a)))) H
  | _ => False

theorem h_lOpen_ok : HOK 35 h_lOpen := by
  intro args H K h
  unfold h_lOpen at h
  split at h
  · rename_i a
    have e := lOpen_ev a (fun x => K (.c (.int .i64 x)) H)
    rw [lOpenK_eq False a] at e
    have e := e.mpr h
    refine pure_ok (fuel := 10) (d := 20) own0_ok rfl e ?_
    intro v H₁ hv
    split at hv
    · exact ⟨rfl, hv⟩
    · exact hv.elim
  · exact h.elim

theorem lPin_ev (a : Int) (K : Int → Prop) : evF Tryz.prog own0 10 20 59 [.c (.int .i64 a)] ⟨[], []⟩ (fun v _ => match v with | .c (.int .i64 x) => K x | _ => False) = lPinK False a K := by kernel_rfl

def h_lPin : Hd := fun args H K => match args with
  | [.c (.int .i64 a)] => K (.c (.int .i64 ((lPin a)))) H
  | _ => False

theorem h_lPin_ok : HOK 59 h_lPin := by
  intro args H K h
  unfold h_lPin at h
  split at h
  · rename_i a
    have e := lPin_ev a (fun x => K (.c (.int .i64 x)) H)
    rw [lPinK_eq False a] at e
    have e := e.mpr h
    refine pure_ok (fuel := 10) (d := 20) own0_ok rfl e ?_
    intro v H₁ hv
    split at hv
    · exact ⟨rfl, hv⟩
    · exact hv.elim
  · exact h.elim

theorem lSlot_ev (c1 c2 c3 c4 c5 c6 c7 : Int) (a : Int) (K : Int → Prop) : evF Tryz.prog own0 10 20 63 [.agg [.int .i64 c1, .int .i64 c2, .int .i64 c3, .int .i64 c4, .int .i64 c5, .int .i64 c6, .int .i64 c7], .c (.int .i64 a)] ⟨[], []⟩ (fun v _ => match v with | .c (.int .i64 x) => K x | _ => False) = lSlotK False c1 c2 c3 c4 c5 c6 c7 a K := by kernel_rfl

def h_lSlot : Hd := fun args H K => match args with
  | [.agg [.int .i64 c1, .int .i64 c2, .int .i64 c3, .int .i64 c4, .int .i64 c5, .int .i64 c6, .int .i64 c7], .c (.int .i64 a)] => K (.c (.int .i64 ((lSlot c1 c2 c3 c4 c5 c6 c7 a)))) H
  | _ => False

theorem h_lSlot_ok : HOK 63 h_lSlot := by
  intro args H K h
  unfold h_lSlot at h
  split at h
  · rename_i c1 c2 c3 c4 c5 c6 c7 a
    have e := lSlot_ev c1 c2 c3 c4 c5 c6 c7 a (fun x => K (.c (.int .i64 x)) H)
    rw [lSlotK_eq False c1 c2 c3 c4 c5 c6 c7 a] at e
    have e := e.mpr h
    refine pure_ok (fuel := 10) (d := 20) own0_ok rfl e ?_
    intro v H₁ hv
    split at hv
    · exact ⟨rfl, hv⟩
    · exact hv.elim
  · exact h.elim

theorem lChunk_ev (c1 c2 c3 c4 c5 c6 c7 : Int) (a : Int) (K : Int → Prop) : evF Tryz.prog own0 10 20 23 [.agg [.int .i64 c1, .int .i64 c2, .int .i64 c3, .int .i64 c4, .int .i64 c5, .int .i64 c6, .int .i64 c7], .c (.int .i64 a)] ⟨[], []⟩ (fun v _ => match v with | .c (.int .i64 x) => K x | _ => False) = lChunkK False c1 c2 c3 c4 c5 c6 c7 a K := by kernel_rfl

def h_lChunk : Hd := fun args H K => match args with
  | [.agg [.int .i64 c1, .int .i64 c2, .int .i64 c3, .int .i64 c4, .int .i64 c5, .int .i64 c6, .int .i64 c7], .c (.int .i64 a)] => K (.c (.int .i64 ((lChunk c1 c2 c3 c4 c5 c6 c7 a)))) H
  | _ => False

theorem h_lChunk_ok : HOK 23 h_lChunk := by
  intro args H K h
  unfold h_lChunk at h
  split at h
  · rename_i c1 c2 c3 c4 c5 c6 c7 a
    have e := lChunk_ev c1 c2 c3 c4 c5 c6 c7 a (fun x => K (.c (.int .i64 x)) H)
    rw [lChunkK_eq False c1 c2 c3 c4 c5 c6 c7 a] at e
    have e := e.mpr h
    refine pure_ok (fuel := 10) (d := 20) own0_ok rfl e ?_
    intro v H₁ hv
    split at hv
    · exact ⟨rfl, hv⟩
    · exact hv.elim
  · exact h.elim

theorem lBase_ev (c1 c2 c3 c4 c5 c6 c7 : Int) (a : Int) (K : Int → Prop) : evF Tryz.prog own0 10 20 24 [.agg [.int .i64 c1, .int .i64 c2, .int .i64 c3, .int .i64 c4, .int .i64 c5, .int .i64 c6, .int .i64 c7], .c (.int .i64 a)] ⟨[], []⟩ (fun v _ => match v with | .c (.int .i64 x) => K x | _ => False) = lBaseK False c1 c2 c3 c4 c5 c6 c7 a K := by kernel_rfl

def h_lBase : Hd := fun args H K => match args with
  | [.agg [.int .i64 c1, .int .i64 c2, .int .i64 c3, .int .i64 c4, .int .i64 c5, .int .i64 c6, .int .i64 c7], .c (.int .i64 a)] => K (.c (.int .i64 ((lBase c1 c2 c3 c4 c5 c6 c7 a)))) H
  | _ => False

theorem h_lBase_ok : HOK 24 h_lBase := by
  intro args H K h
  unfold h_lBase at h
  split at h
  · rename_i c1 c2 c3 c4 c5 c6 c7 a
    have e := lBase_ev c1 c2 c3 c4 c5 c6 c7 a (fun x => K (.c (.int .i64 x)) H)
    rw [lBaseK_eq False c1 c2 c3 c4 c5 c6 c7 a] at e
    have e := e.mpr h
    refine pure_ok (fuel := 10) (d := 20) own0_ok rfl e ?_
    intro v H₁ hv
    split at hv
    · exact ⟨rfl, hv⟩
    · exact hv.elim
  · exact h.elim

theorem lLen_ev (c1 c2 c3 c4 c5 c6 c7 : Int) (K : Int → Prop) : evF Tryz.prog own0 10 20 58 [.agg [.int .i64 c1, .int .i64 c2, .int .i64 c3, .int .i64 c4, .int .i64 c5, .int .i64 c6, .int .i64 c7]] ⟨[], []⟩ (fun v _ => match v with | .c (.int .i64 x) => K x | _ => False) = lLenK False c1 c2 c3 c4 c5 c6 c7 K := by kernel_rfl

def h_lLen : Hd := fun args H K => match args with
  | [.agg [.int .i64 c1, .int .i64 c2, .int .i64 c3, .int .i64 c4, .int .i64 c5, .int .i64 c6, .int .i64 c7]] => K (.c (.int .i64 ((lLen c1 c2 c3 c4 c5 c6 c7)))) H
  | _ => False

theorem h_lLen_ok : HOK 58 h_lLen := by
  intro args H K h
  unfold h_lLen at h
  split at h
  · rename_i c1 c2 c3 c4 c5 c6 c7
    have e := lLen_ev c1 c2 c3 c4 c5 c6 c7 (fun x => K (.c (.int .i64 x)) H)
    rw [lLenK_eq False c1 c2 c3 c4 c5 c6 c7] at e
    have e := e.mpr h
    refine pure_ok (fuel := 10) (d := 20) own0_ok rfl e ?_
    intro v H₁ hv
    split at hv
    · exact ⟨rfl, hv⟩
    · exact hv.elim
  · exact h.elim

theorem lOf_ev (c1 c2 c3 c4 c5 c6 c7 : Int) (a : Int) (K : Int → Prop) : evF Tryz.prog own0 10 20 21 [.agg [.int .i64 c1, .int .i64 c2, .int .i64 c3, .int .i64 c4, .int .i64 c5, .int .i64 c6, .int .i64 c7], .c (.int .i64 a)] ⟨[], []⟩ (fun v _ => match v with | .c (.int .i64 x) => K x | _ => False) = lOfK False c1 c2 c3 c4 c5 c6 c7 a K := by kernel_rfl

def h_lOf : Hd := fun args H K => match args with
  | [.agg [.int .i64 c1, .int .i64 c2, .int .i64 c3, .int .i64 c4, .int .i64 c5, .int .i64 c6, .int .i64 c7], .c (.int .i64 a)] => match decide (c4 = 0) with | true => False | false => K (.c (.int .i64 ((lOf c1 c2 c3 c4 c5 c6 c7 a)))) H
  | _ => False

theorem h_lOf_ok : HOK 21 h_lOf := by
  intro args H K h
  unfold h_lOf at h
  split at h
  · rename_i c1 c2 c3 c4 c5 c6 c7 a
    split at h
    · exact h.elim
    rename_i hc
    have hc : c4 ≠ 0 := of_decide_eq_false hc
    have e := lOf_ev c1 c2 c3 c4 c5 c6 c7 a (fun x => K (.c (.int .i64 x)) H)
    rw [lOfK_eq False c1 c2 c3 c4 c5 c6 c7 a hc] at e
    have e := e.mpr h
    refine pure_ok (fuel := 10) (d := 20) own0_ok rfl e ?_
    intro v H₁ hv
    split at hv
    · exact ⟨rfl, hv⟩
    · exact hv.elim
  · exact h.elim

theorem lClass_ev (a : Int) (K : Int → Prop) : evF Tryz.prog own0 10 20 36 [.c (.int .i64 a)] ⟨[], []⟩ (fun v _ => match v with | .c (.int .i64 x) => K x | _ => False) = lClassK False a K := by kernel_rfl

def h_lClass : Hd := fun args H K => match args with
  | [.c (.int .i64 a)] => K (.c (.int .i64 ((lClass a)))) H
  | _ => False

theorem h_lClass_ok : HOK 36 h_lClass := by
  intro args H K h
  unfold h_lClass at h
  split at h
  · rename_i a
    have e := lClass_ev a (fun x => K (.c (.int .i64 x)) H)
    rw [lClassK_eq False a] at e
    have e := e.mpr h
    refine pure_ok (fuel := 10) (d := 20) own0_ok rfl e ?_
    intro v H₁ hv
    split at hv
    · exact ⟨rfl, hv⟩
    · exact hv.elim
  · exact h.elim

theorem lRoom_ev (a : Int) (K : Int → Prop) : evF Tryz.prog own0 10 20 80 [.c (.int .i64 a)] ⟨[], []⟩ (fun v _ => match v with | .c (.int .i64 x) => K x | _ => False) = lRoomK False a K := by kernel_rfl

def h_lRoom : Hd := fun args H K => match args with
  | [.c (.int .i64 a)] => K (.c (.int .i64 ((lRoom a)))) H
  | _ => False

theorem h_lRoom_ok : HOK 80 h_lRoom := by
  intro args H K h
  unfold h_lRoom at h
  split at h
  · rename_i a
    have e := lRoom_ev a (fun x => K (.c (.int .i64 x)) H)
    rw [lRoomK_eq False a] at e
    have e := e.mpr h
    refine pure_ok (fuel := 10) (d := 20) own0_ok rfl e ?_
    intro v H₁ hv
    split at hv
    · exact ⟨rfl, hv⟩
    · exact hv.elim
  · exact h.elim

theorem live_ev (a b c d p q : Int) (K : Bool → Prop) : evF Tryz.prog own0 10 20 112 [.agg [.int .i64 a, .int .i64 b, .int .i64 c, .int .i64 d], .agg [.int .i64 p, .int .i64 q]] ⟨[], []⟩ (fun v _ => match v with | .c (.bool x) => K x | _ => False) = liveK False a b c d p q K := by kernel_rfl

def h_live : Hd := fun args H K => match args with
  | [.agg [.int .i64 a, .int .i64 b, .int .i64 c, .int .i64 d], .agg [.int .i64 p, .int .i64 q]] => K (.c (.bool ((live a b c d p q)))) H
  | _ => False

theorem h_live_ok : HOK 112 h_live := by
  intro args H K h
  unfold h_live at h
  split at h
  · rename_i a b c d p q
    have e := live_ev a b c d p q (fun x => K (.c (.bool x)) H)
    rw [liveK_eq False a b c d p q] at e
    have e := e.mpr h
    refine pure_ok (fuel := 10) (d := 20) own0_ok rfl e ?_
    intro v H₁ hv
    split at hv
    · exact ⟨rfl, hv⟩
    · exact hv.elim
  · exact h.elim

end Go.Proofs.YtfjnkneoddankaaGreat

/-
  Contracts over objects: the frames.
-/
set_option linter.unusedVariables false
set_option linter.unusedSimpArgs false
set_option maxRecDepth 100000
set_option linter.unusedSectionVars false
namespace Go.FL

def headOK (b : Nat) : List Nat → Bool
  | m :: _ => Nat.beq m b
  | [] => false

def rangeOK (b l tot : Nat) : List Nat → Bool
  | [] => true
  | m :: r => match Nat.ble tot m || (Nat.ble b m && Nat.blt m (b + l)) with
    | true => rangeOK b l tot r
    | false => false

def chkCs : List (Bool × Ob) → Nat → Nat → List (List Nat) → Bool
  | [], _, _, [] => true
  | x :: xs, k, tot, c :: cs => match headOK k c && rangeOK k (llen (exB x)) tot c with
    | true => chkCs xs (k + llen (exB x)) tot cs
    | false => false
  | _, _, _, _ => false

def allGe (tot : Nat) : List Nat → Bool
  | [] => true
  | m :: r => match Nat.ble tot m with
    | true => allGe tot r
    | false => false

def chkDs (tot : Nat) : List (List Nat) → Bool
  | [] => true
  | [] :: _ => false
  | (m :: d) :: ds => match allGe tot (m :: d) with
    | true => chkDs tot ds
    | false => false

def memB (x : Nat) : List Nat → Bool
  | [] => false
  | y :: r => match Nat.beq x y with
    | true => true
    | false => memB x r

def nodupB : List Nat → Bool
  | [] => true
  | x :: r => match memB x r with
    | true => false
    | false => nodupB r

def chkAll (xs : List (Bool × Ob)) (cs ds : List (List Nat)) : Bool :=
  match chkCs xs 0 (llen (cat xs 0)) cs with
  | true => match chkDs (llen (cat xs 0)) ds with
    | true => nodupB (cs.flatten ++ ds.flatten)
    | false => false
  | false => false

def ClusL (H : LH) : List (List Nat) → List (Bool × Ob) → Prop
  | [], [] => True
  | c :: cs, x :: xs => Clus H c x ∧ ClusL H cs xs
  | _, _ => False

theorem memB_eq (x : Nat) : ∀ l : List Nat, memB x l = true ↔ x ∈ l
  | [] => by simp [memB]
  | y :: r => by
    simp only [memB]
    split
    · rename_i h; have := Nat.eq_of_beq_eq_true h; simp [this]
    · rename_i h
      have := Nat.ne_of_beq_eq_false h
      rw [memB_eq x r]; simp [this]

theorem nodupB_eq : ∀ l : List Nat, nodupB l = true → l.Nodup
  | [], _ => List.nodup_nil
  | x :: r, h => by
    simp only [nodupB] at h
    split at h
    · cases h
    · rename_i hm
      refine List.nodup_cons.2 ⟨fun hx => ?_, nodupB_eq r h⟩
      rw [(memB_eq x r).2 hx] at hm; cases hm

theorem rangeOK_eq {b l tot : Nat} : ∀ {c : List Nat}, rangeOK b l tot c = true → ∀ m ∈ c, m < tot → b ≤ m ∧ m < b + l
  | [], _, m, hm, _ => by simp at hm
  | x :: r, h, m, hm, ht => by
    simp only [rangeOK] at h
    split at h
    · rename_i hx
      rcases List.mem_cons.1 hm with rfl | hm
      · simp only [Bool.or_eq_true, Bool.and_eq_true] at hx
        rcases hx with hx | hx
        · have := Nat.le_of_ble_eq_true hx; omega
        · have h1 := Nat.le_of_ble_eq_true hx.1
          have h2 : m < b + l := by have := hx.2; simpa using this
          exact ⟨h1, h2⟩
      · exact rangeOK_eq h m hm ht
    · cases h

theorem allGe_eq {tot : Nat} : ∀ {d : List Nat}, allGe tot d = true → ∀ m ∈ d, tot ≤ m
  | [], _, m, hm => by simp at hm
  | x :: r, h, m, hm => by
    simp only [allGe] at h
    split at h
    · rename_i hx
      rcases List.mem_cons.1 hm with rfl | hm
      · exact Nat.le_of_ble_eq_true hx
      · exact allGe_eq h m hm
    · cases h

theorem chkCs_eq {tot : Nat} : ∀ {xs : List (Bool × Ob)} {k : Nat} {cs : List (List Nat)}, chkCs xs k tot cs = true → cs.length = xs.length ∧
    (∀ (i : Nat) (c : List Nat), cs[i]? = some c → c[0]? = some (base xs i k)) ∧
    (∀ (i : Nat) (c : List Nat) (x : Bool × Ob) (m : Nat), cs[i]? = some c → xs[i]? = some x → m ∈ c → m < tot → base xs i k ≤ m ∧ m < base xs i k + (exB x).length)
  | [], k, [], _ => ⟨rfl, by simp, by simp⟩
  | [], k, _ :: _, h => by simp [chkCs] at h
  | _ :: _, k, [], h => by simp [chkCs] at h
  | x :: xs, k, c :: cs, h => by
    simp only [chkCs] at h
    split at h
    · rename_i hx
      simp only [Bool.and_eq_true] at hx
      obtain ⟨h1, h2, h3⟩ := chkCs_eq h
      refine ⟨by simp [h1], ?_, ?_⟩
      · intro i c' hc
        cases i with
        | zero =>
          simp at hc; subst hc
          have := hx.1
          unfold headOK at this
          split at this
          · have := Nat.eq_of_beq_eq_true this; simp [base, this]
          · cases this
        | succ i =>
          have := h2 i c' (by simpa using hc)
          rw [llen_eq] at this
          simpa [base] using this
      · intro i c' x' m hc hx' hm ht
        cases i with
        | zero =>
          simp at hc hx'; subst hc; subst hx'
          have := rangeOK_eq hx.2 m hm ht
          rw [llen_eq] at this
          simpa [base] using this
        | succ i =>
          have := h3 i c' x' m (by simpa using hc) (by simpa using hx') hm ht
          rw [llen_eq] at this
          simpa [base] using this
    · cases h

theorem chkDs_eq {tot : Nat} : ∀ {ds : List (List Nat)}, chkDs tot ds = true → (∀ (j : Nat) (d : List Nat), ds[j]? = some d → ∃ m, d[0]? = some m) ∧ (∀ (j : Nat) (d : List Nat) (m : Nat), ds[j]? = some d → m ∈ d → tot ≤ m)
  | [], _ => ⟨by simp, by simp⟩
  | [] :: _, h => by simp [chkDs] at h
  | (m :: d) :: ds, h => by
    simp only [chkDs] at h
    split at h
    · rename_i hx
      obtain ⟨h1, h2⟩ := chkDs_eq h
      refine ⟨?_, ?_⟩
      · intro j d' hj
        cases j with
        | zero => simp at hj; subst hj; exact ⟨m, rfl⟩
        | succ j => exact h1 j d' (by simpa using hj)
      · intro j d' m' hj hm
        cases j with
        | zero => simp at hj; subst hj; exact allGe_eq hx m' hm
        | succ j => exact h2 j d' m' (by simpa using hj) hm
    · cases h

theorem ClusL_eq {H : LH} : ∀ {cs : List (List Nat)} {xs : List (Bool × Ob)}, ClusL H cs xs → cs.length = xs.length ∧ ∀ (i : Nat) (c : List Nat) (x : Bool × Ob), cs[i]? = some c → xs[i]? = some x → Clus H c x
  | [], [], _ => ⟨rfl, by simp⟩
  | [], _ :: _, h => h.elim
  | _ :: _, [], h => h.elim
  | c :: cs, x :: xs, h => by
    obtain ⟨h1, h2⟩ := ClusL_eq h.2
    refine ⟨by simp [h1], ?_⟩
    intro i c' x' hc hx
    cases i with
    | zero => simp at hc hx; subst hc; subst hx; exact h.1
    | succ i => exact h2 i c' x' (by simpa using hc) (by simpa using hx)

theorem closeOK_of {xs xs' ys : List (Bool × Ob)} {H : LH} {cs ds : List (List Nat)} (h : chkAll xs cs ds = true) (hc : ClusL H cs xs') (hd : ClusL H ds ys) : CloseOK xs H cs xs' ds ys := by
  unfold chkAll at h
  split at h
  · rename_i h1
    split at h
    · rename_i h2
      obtain ⟨a1, a2, a3⟩ := chkCs_eq h1
      obtain ⟨b1, b2⟩ := chkDs_eq h2
      obtain ⟨c1, c2⟩ := ClusL_eq hc
      obtain ⟨d1, d2⟩ := ClusL_eq hd
      rw [llen_eq] at a3 b2
      exact ⟨a1, by omega, d1, c2, a2, a3, d2, b1, b2, nodupB_eq _ h⟩
    · cases h
  · cases h

end Go.FL

namespace Go.Proofs.YtfjnkneoddankaaGreat
open Go Go.FL Go.Proofs
variable [Go.FL.Fz]

/-- A call over objects: 'ns' are their names, 'xs' the objects, laid open or not. -/
theorem objs_of {f : FuncId} {args args₁ : List LV} {H : LH} {K K₁ : LV → LH → Prop} {ns : List Nat} {xs : List (Bool × Ob)} (hl : ns.length = xs.length)
    (hget : ∀ (i n : Nat) (x : Bool × Ob), ns[i]? = some n → xs[i]? = some x → H.bl[n]? = some (.obj x.2)) (hnd : ns.Nodup)
    (hargs : ∀ (s s₁ : Mp) (vs : List Value), (∀ (i n : Nat), ns[i]? = some n → hd s₁ (base xs i 0) = hd s n) → RelVs s args vs → RelVs s₁ args₁ vs)
    (hev : (∃ fn, Tryz.prog.funcs[f]? = some fn ∧ fn.body.isSome = true) ∧ CSpec Tryz.prog f args₁ ⟨cat xs 0, []⟩ K₁)
    (hK : ∀ v₁ H₁, K₁ v₁ H₁ → ∃ cs xs' ds ys v, chkAll xs cs ds = true ∧ ClusL H₁ cs xs' ∧ ClusL H₁ ds ys ∧
      (∀ (s₁ s' : Mp) (v' : Value), (∀ (i n : Nat), ns[i]? = some n → hd s' n = hd s₁ (base xs i 0)) → (∀ (j : Nat) (d : List Nat) (m : Nat), ds[j]? = some d → d[0]? = some m → hd s' (H.len + j) = hd s₁ m) → RelV s₁ v₁ v' → RelV s' v v') ∧
      K v (newObs (putObs H ns (xs'.map (·.2))) (ys.map (·.2)))) :
    (∃ fn, Tryz.prog.funcs[f]? = some fn ∧ fn.body.isSome = true) ∧ CSpec Tryz.prog f args H K := by
  obtain ⟨h1, h2⟩ := hev
  refine ⟨h1, CSpec.objs hl hget hnd hargs h2 ?_⟩
  intro v₁ H₁ hk
  obtain ⟨cs, xs', ds, ys, v, a, b, c, e, g⟩ := hK v₁ H₁ hk
  exact ⟨cs, xs', ds, ys, v, closeOK_of a b c, e, g⟩

/-- A call over objects: 'ns' are their names, 'xs' the objects, laid open or not. -/
theorem objs_ok {own : FuncId → Option Hd} (hown : OwnOK Tryz.prog own) {fuel d : Nat} {f : FuncId} {args args₁ : List LV} {H : LH} {K K₁ : LV → LH → Prop} {ns : List Nat} {xs : List (Bool × Ob)} (hl : ns.length = xs.length)
    (hget : ∀ (i n : Nat) (x : Bool × Ob), ns[i]? = some n → xs[i]? = some x → H.bl[n]? = some (.obj x.2)) (hnd : ns.Nodup)
    (hargs : ∀ (s s₁ : Mp) (vs : List Value), (∀ (i n : Nat), ns[i]? = some n → hd s₁ (base xs i 0) = hd s n) → RelVs s args vs → RelVs s₁ args₁ vs)
    (hev : evF Tryz.prog own fuel d f args₁ ⟨cat xs 0, []⟩ K₁)
    (hK : ∀ v₁ H₁, K₁ v₁ H₁ → ∃ cs xs' ds ys v, chkAll xs cs ds = true ∧ ClusL H₁ cs xs' ∧ ClusL H₁ ds ys ∧
      (∀ (s₁ s' : Mp) (v' : Value), (∀ (i n : Nat), ns[i]? = some n → hd s' n = hd s₁ (base xs i 0)) → (∀ (j : Nat) (d : List Nat) (m : Nat), ds[j]? = some d → d[0]? = some m → hd s' (H.len + j) = hd s₁ m) → RelV s₁ v₁ v' → RelV s' v v') ∧
      K v (newObs (putObs H ns (xs'.map (·.2))) (ys.map (·.2)))) :
    (∃ fn, Tryz.prog.funcs[f]? = some fn ∧ fn.body.isSome = true) ∧ CSpec Tryz.prog f args H K := objs_of hl hget hnd hargs (evF_ok fnOK mixed hown fuel d f args₁ _ K₁ hev) hK

theorem get_obj {H : LH} {n : Nat} {b : LB} (h : H.get n = some b) : H.bl[n]? = some b := by rw [← LH.get_eq]; exact h

/-- The arena as an argument. -/
abbrev envV (c : PCfg) (m : Nat) (who : Int) : LV := .agg [cI c.threads, cI c.slots, cI c.chunks, cI c.words, cI c.gens, cI c.sparse, cI c.tries, .ptr m 0, cI who]

theorem rel_env {s s₁ : Mp} {c : PCfg} {m m₁ : Nat} {who : Int} {v : Value} (h : hd s₁ m₁ = hd s m) (hr : RelV s (envV c m who) v) : RelV s₁ (envV c m₁ who) v := by
  obtain ⟨cs, rfl, hl⟩ := hr
  refine ⟨cs, rfl, ?_⟩
  generalize cs.toList = vs at hl ⊢
  match vs, hl with
  | [a, b, c, d, e, f, g, p, q], ⟨h1, h2, h3, h4, h5, h6, h7, ⟨r, h8, h9⟩, h10, _⟩ => exact ⟨h1, h2, h3, h4, h5, h6, h7, ⟨r, by rw [h]; exact h8, h9⟩, h10, trivial⟩

theorem rel_ptr {s s₁ : Mp} {m m₁ off : Nat} {v : Value} (h : hd s₁ m₁ = hd s m) (hr : RelV s (.c (.ptr m off)) v) : RelV s₁ (.c (.ptr m₁ off)) v := by
  obtain ⟨r, h1, h2⟩ := hr
  exact ⟨r, by rw [h]; exact h1, h2⟩

/-- One object, and the memory: a step. -/
theorem step_ok {own : FuncId → Option Hd} (hown : OwnOK Tryz.prog own) {fuel d : Nat} {f : FuncId} {R : Type} {mk : R → Ob} {sh : LH → Nat → (R → List Nat → Prop) → Prop}
    (hsh : ∀ H n k, sh H n k → ∃ x c, k x c ∧ Clus H c (true, mk x)) {H : LH} {K : LV → LH → Prop} {p m : Nat} {x : R} {pm : PMem} {c : PCfg} {who : Int} (hne : mk x ≠ .mem pm)
    (hp : H.get p = some (.obj (mk x))) (hm : H.get m = some (.obj (.mem pm)))
    (hev : evF Tryz.prog own fuel d f [.c (.ptr 0 0), envV c (llen (ex (mk x))) who] ⟨cat [(true, mk x), (false, .mem pm)] 0, []⟩ (fun v H₁ => match v with
      | .c (.bool r) => sh H₁ 0 fun x' c => shF H₁ (llen (ex (mk x))) fun o c2 => match o with
        | .mem pm' => match chkAll [(true, mk x), (false, .mem pm)] [c, c2] [] with
          | true => K (.c (.bool r)) ((H.put p (.obj (mk x'))).put m (.obj (.mem pm')))
          | false => False
        | _ => False
      | _ => False)) :
    (∃ fn, Tryz.prog.funcs[f]? = some fn ∧ fn.body.isSome = true) ∧ CSpec Tryz.prog f [.c (.ptr p 0), envV c m who] H K := by
  have hpm : p ≠ m := by
    rintro rfl
    rw [hp] at hm
    exact hne (by injection hm with hm; injection hm)
  refine objs_ok hown (ns := [p, m]) (xs := [(true, mk x), (false, .mem pm)]) rfl ?_ (by simpa using hpm) ?_ hev ?_
  · intro i n x' hi hx
    match i, hi, hx with
    | 0, hi, hx => simp at hi hx; subst hi; subst hx; exact get_obj hp
    | 1, hi, hx => simp at hi hx; subst hi; subst hx; exact get_obj hm
    | i + 2, hi, hx => simp at hi
  · intro s s₁ vs hh hr
    match vs, hr with
    | [u, v], ⟨h1, h2, _⟩ =>
      have e0 := hh 0 p rfl
      have e1 := hh 1 m rfl
      simp only [base, Nat.zero_add] at e0 e1
      refine ⟨rel_ptr e0 h1, rel_env ?_ h2, trivial⟩
      rw [llen_eq]
      exact e1
    | [], h => exact h.elim
    | [_], h => exact h.2.elim
    | _ :: _ :: _ :: _, h => exact h.2.2.elim
  · intro v₁ H₁ hk
    split at hk
    · rename_i r
      obtain ⟨x', c1, hk, hc1⟩ := hsh _ _ _ hk
      obtain ⟨o, c2, hk, hc2⟩ := shF_ok hk
      split at hk
      · rename_i pm'
        split at hk
        · rename_i hchk
          exact ⟨[c1, c2], [(true, mk x'), (false, .mem pm')], [], [], .c (.bool r), hchk, ⟨hc1, hc2, trivial⟩, trivial, fun _ _ _ _ _ h => h, hk⟩
        · exact hk.elim
      · exact hk.elim
    · exact hk.elim

end Go.Proofs.YtfjnkneoddankaaGreat

/-
  The memory's operations, as the evaluator has them and in short.
-/
set_option linter.unusedVariables false
set_option linter.unusedSimpArgs false
namespace Go.FL

def upd (f : Nat → Int) (i : Nat) (v : Int) : Nat → Int := fun j => bif Nat.beq j (i) then v else f j

def PMem.by_ (m : PMem) (who : Int) : PMem := { m with who := who }

def PMem.touch (m : PMem) (who a : Int) : PMem := { m with steps := wrI (m.steps + 1), who := who, la := a, lw := who, lc := false }

def PMem.lay (m : PMem) (who a x : Int) : PMem :=
  { m with w := upd m.w a.toNat x, t := if m.w a.toNat = x then m.t else upd m.t a.toNat (wrI (m.steps + 1)), steps := wrI (m.steps + 1), who := who, la := a, lw := who, lc := !decide (m.w a.toNat = x) }

def PMem.eLoad (m : PMem) (who a : Int) : Int × PMem :=
  if a < 0 then (0, m.by_ who) else if (m.n : Int) ≤ a then (0, m.by_ who) else (m.w a.toNat, m.touch who a)

def PMem.eStore (m : PMem) (who a b : Int) : PMem :=
  if a < 0 then m.by_ who else if (m.n : Int) ≤ a then m.by_ who else m.lay who a b

def PMem.eCas (m : PMem) (who a b d : Int) : Bool × PMem :=
  if a < 0 then (false, m.by_ who) else if (m.n : Int) ≤ a then (false, m.by_ who) else if m.w a.toNat = b then (true, m.lay who a d) else (false, m.touch who a)

def PMem.eAdd (m : PMem) (who a b : Int) : PMem :=
  if a < 0 then m.by_ who else if (m.n : Int) ≤ a then m.by_ who else m.lay who a (wrU (m.w a.toNat + wrU b))

def PMem.peek (m : PMem) (a : Int) : Int :=
  if a < 0 then 0 else if (m.n : Int) ≤ a then 0 else m.w a.toNat

def PMem.when_ (m : PMem) (a : Int) : Int :=
  if a < 0 then 0 else if (m.n : Int) ≤ a then 0 else m.t a.toNat

def eLoadT (m : PMem) (who a b d : Int) (bot : Prop) (K : Int → PMem → Prop) : Prop :=
  bif decide (a < 0) then
   (m.n = m.n ∧ m.n = m.n ∧ m.n = m.n ∧ m.n = m.n ∧ m.n = m.n) ∧
   K 0 ⟨(m.n), (m.w), (m.t), (m.steps), (who), (m.la), (m.lw), (m.lc)⟩
  else
   bif decide (↑m.n ≤ a) then
    (m.n = m.n ∧ m.n = m.n ∧ m.n = m.n ∧ m.n = m.n ∧ m.n = m.n) ∧
    K 0 ⟨(m.n), (m.w), (m.t), (m.steps), (who), (m.la), (m.lw), (m.lc)⟩
   else
    bif decide (0 ≤ a ∧ a < ↑m.n) then
     (Int.toNat a < m.n) ∧
     (m.n = m.n ∧ m.n = m.n ∧ m.n = m.n ∧ m.n = m.n ∧ m.n = m.n) ∧
     K (m.w (Int.toNat a)) ⟨(m.n), (m.w), (m.t), (wrI (m.steps + 1)), (who), (a), (who), false⟩
    else
     bot

theorem eLoadT_of (m : PMem) (who a b d : Int) {K : Int → PMem → Prop} (h : K (m.eLoad who a).1 (m.eLoad who a).2) : eLoadT m who a b d False K := by
  unfold eLoadT
  by_cases h1 : a < 0
  · simp [PMem.eLoad, h1] at h ⊢
    exact h
  · by_cases h2 : (m.n : Int) ≤ a
    · simp [PMem.eLoad, h1, h2] at h ⊢
      exact h
    · have h3 : 0 ≤ a ∧ a < (m.n : Int) := by omega
      have h4 : a.toNat < m.n := by omega
      simp [PMem.eLoad, h1, h2, h3, h4] at h ⊢
      exact h

def eStoreT (m : PMem) (who a b d : Int) (bot : Prop) (K : PMem → Prop) : Prop :=
  bif decide (a < 0) then
   (m.n = m.n ∧ m.n = m.n ∧ m.n = m.n ∧ m.n = m.n ∧ m.n = m.n) ∧
   K ⟨(m.n), (m.w), (m.t), (m.steps), (who), (m.la), (m.lw), (m.lc)⟩
  else
   bif decide (↑m.n ≤ a) then
    (m.n = m.n ∧ m.n = m.n ∧ m.n = m.n ∧ m.n = m.n ∧ m.n = m.n) ∧
    K ⟨(m.n), (m.w), (m.t), (m.steps), (who), (m.la), (m.lw), (m.lc)⟩
   else
    bif decide (0 ≤ a ∧ a < ↑m.n) then
     (Int.toNat a < m.n) ∧
     bif !decide (m.w (Int.toNat a) = b) then
      bif decide (0 ≤ a ∧ a < ↑m.n) then
       (Int.toNat a < m.n) ∧
       bif decide (0 ≤ a ∧ a < ↑m.n) then
        (Int.toNat a < m.n) ∧
        (m.n = m.n ∧ m.n = m.n ∧ m.n = m.n ∧ m.n = m.n ∧ m.n = m.n) ∧
        K ⟨(m.n), (fun j => bif Nat.beq j (Int.toNat a) then b else m.w j), (fun j => bif Nat.beq j (Int.toNat a) then wrI (m.steps + 1) else m.t j), (wrI (m.steps + 1)), (who), (a), (who), (!decide (m.w (Int.toNat a) = b))⟩
       else
        bot
      else
       bot
     else
      bif decide (0 ≤ a ∧ a < ↑m.n) then
       (Int.toNat a < m.n) ∧
       (m.n = m.n ∧ m.n = m.n ∧ m.n = m.n ∧ m.n = m.n ∧ m.n = m.n) ∧
       K ⟨(m.n), (fun j => bif Nat.beq j (Int.toNat a) then b else m.w j), (m.t), (wrI (m.steps + 1)), (who), (a), (who), (!decide (m.w (Int.toNat a) = b))⟩
      else
       bot
    else
     bot

theorem eStoreT_of (m : PMem) (who a b d : Int) {K : PMem → Prop} (h : K (m.eStore who a b)) : eStoreT m who a b d False K := by
  unfold eStoreT
  by_cases h1 : a < 0
  · simp [PMem.eStore, h1] at h ⊢
    exact h
  · by_cases h2 : (m.n : Int) ≤ a
    · simp [PMem.eStore, h1, h2] at h ⊢
      exact h
    · have h3 : 0 ≤ a ∧ a < (m.n : Int) := by omega
      have h4 : a.toNat < m.n := by omega
      by_cases h5 : m.w a.toNat = b
      · simp [PMem.eStore, PMem.lay, upd, h1, h2, h3, h4, h5] at h ⊢
        exact h
      · simp [PMem.eStore, PMem.lay, upd, h1, h2, h3, h4, h5] at h ⊢
        exact h

def eCasT (m : PMem) (who a b d : Int) (bot : Prop) (K : Bool → PMem → Prop) : Prop :=
  bif decide (a < 0) then
   (m.n = m.n ∧ m.n = m.n ∧ m.n = m.n ∧ m.n = m.n ∧ m.n = m.n) ∧
   K false ⟨(m.n), (m.w), (m.t), (m.steps), (who), (m.la), (m.lw), (m.lc)⟩
  else
   bif decide (↑m.n ≤ a) then
    (m.n = m.n ∧ m.n = m.n ∧ m.n = m.n ∧ m.n = m.n ∧ m.n = m.n) ∧
    K false ⟨(m.n), (m.w), (m.t), (m.steps), (who), (m.la), (m.lw), (m.lc)⟩
   else
    bif decide (0 ≤ a ∧ a < ↑m.n) then
     (Int.toNat a < m.n) ∧
     bif !decide (m.w (Int.toNat a) = b) then
      (m.n = m.n ∧ m.n = m.n ∧ m.n = m.n ∧ m.n = m.n ∧ m.n = m.n) ∧
      K false ⟨(m.n), (m.w), (m.t), (wrI (m.steps + 1)), (who), (a), (who), false⟩
     else
      bif decide (0 ≤ a ∧ a < ↑m.n) then
       (Int.toNat a < m.n) ∧
       bif !decide (m.w (Int.toNat a) = d) then
        bif decide (0 ≤ a ∧ a < ↑m.n) then
         (Int.toNat a < m.n) ∧
         bif decide (0 ≤ a ∧ a < ↑m.n) then
          (Int.toNat a < m.n) ∧
          (m.n = m.n ∧ m.n = m.n ∧ m.n = m.n ∧ m.n = m.n ∧ m.n = m.n) ∧
          K true ⟨(m.n), (fun j => bif Nat.beq j (Int.toNat a) then d else m.w j), (fun j => bif Nat.beq j (Int.toNat a) then wrI (m.steps + 1) else m.t j), (wrI (m.steps + 1)), (who), (a), (who), (!decide (m.w (Int.toNat a) = d))⟩
         else
          bot
        else
         bot
       else
        bif decide (0 ≤ a ∧ a < ↑m.n) then
         (Int.toNat a < m.n) ∧
         (m.n = m.n ∧ m.n = m.n ∧ m.n = m.n ∧ m.n = m.n ∧ m.n = m.n) ∧
         K true ⟨(m.n), (fun j => bif Nat.beq j (Int.toNat a) then d else m.w j), (m.t), (wrI (m.steps + 1)), (who), (a), (who), (!decide (m.w (Int.toNat a) = d))⟩
        else
         bot
      else
       bot
    else
     bot

theorem eCasT_of (m : PMem) (who a b d : Int) {K : Bool → PMem → Prop} (h : K (m.eCas who a b d).1 (m.eCas who a b d).2) : eCasT m who a b d False K := by
  unfold eCasT
  by_cases h1 : a < 0
  · simp [PMem.eCas, h1] at h ⊢
    exact h
  · by_cases h2 : (m.n : Int) ≤ a
    · simp [PMem.eCas, h1, h2] at h ⊢
      exact h
    · have h3 : 0 ≤ a ∧ a < (m.n : Int) := by omega
      have h4 : a.toNat < m.n := by omega
      by_cases h5 : m.w a.toNat = b
      · by_cases h6 : m.w a.toNat = d
        · have h7 : b = d := by rw [← h5, h6]
          subst h7
          simp only [PMem.eCas, PMem.lay, upd, h1, h2, h3, h4, h5, if_true, if_false, decide_true, decide_false, Bool.not_true, Bool.not_false, cond_true, cond_false, and_self, true_and] at h ⊢
          exact h
        · have h7 : ¬ b = d := by rw [← h5]; exact h6
          simp only [PMem.eCas, PMem.lay, upd, h1, h2, h3, h4, h5, h7, if_true, if_false, decide_true, decide_false, Bool.not_true, Bool.not_false, cond_true, cond_false, and_self, true_and] at h ⊢
          exact h
      · simp [PMem.eCas, PMem.touch, h1, h2, h3, h4, h5] at h ⊢
        exact h

def eAddT (m : PMem) (who a b d : Int) (bot : Prop) (K : PMem → Prop) : Prop :=
  bif decide (a < 0) then
   (m.n = m.n ∧ m.n = m.n ∧ m.n = m.n ∧ m.n = m.n ∧ m.n = m.n) ∧
   K ⟨(m.n), (m.w), (m.t), (m.steps), (who), (m.la), (m.lw), (m.lc)⟩
  else
   bif decide (↑m.n ≤ a) then
    (m.n = m.n ∧ m.n = m.n ∧ m.n = m.n ∧ m.n = m.n ∧ m.n = m.n) ∧
    K ⟨(m.n), (m.w), (m.t), (m.steps), (who), (m.la), (m.lw), (m.lc)⟩
   else
    bif decide (0 ≤ a ∧ a < ↑m.n) then
     (Int.toNat a < m.n) ∧
     bif decide (0 ≤ a ∧ a < ↑m.n) then
      (Int.toNat a < m.n) ∧
      bif !decide (m.w (Int.toNat a) = wrU (m.w (Int.toNat a) + wrU b)) then
       bif decide (0 ≤ a ∧ a < ↑m.n) then
        (Int.toNat a < m.n) ∧
        bif decide (0 ≤ a ∧ a < ↑m.n) then
         (Int.toNat a < m.n) ∧
         (m.n = m.n ∧ m.n = m.n ∧ m.n = m.n ∧ m.n = m.n ∧ m.n = m.n) ∧
         K ⟨(m.n), (fun j => bif Nat.beq j (Int.toNat a) then wrU (m.w (Int.toNat a) + wrU b) else m.w j), (fun j => bif Nat.beq j (Int.toNat a) then wrI (m.steps + 1) else m.t j), (wrI (m.steps + 1)), (who), (a), (who), (!decide (m.w (Int.toNat a) = wrU (m.w (Int.toNat a) + wrU b)))⟩
        else
         bot
       else
        bot
      else
       bif decide (0 ≤ a ∧ a < ↑m.n) then
        (Int.toNat a < m.n) ∧
        (m.n = m.n ∧ m.n = m.n ∧ m.n = m.n ∧ m.n = m.n ∧ m.n = m.n) ∧
        K ⟨(m.n), (fun j => bif Nat.beq j (Int.toNat a) then wrU (m.w (Int.toNat a) + wrU b) else m.w j), (m.t), (wrI (m.steps + 1)), (who), (a), (who), (!decide (m.w (Int.toNat a) = wrU (m.w (Int.toNat a) + wrU b)))⟩
       else
        bot
     else
      bot
    else
     bot

theorem eAddT_of (m : PMem) (who a b d : Int) {K : PMem → Prop} (h : K (m.eAdd who a b)) : eAddT m who a b d False K := by
  unfold eAddT
  by_cases h1 : a < 0
  · simp [PMem.eAdd, h1] at h ⊢
    exact h
  · by_cases h2 : (m.n : Int) ≤ a
    · simp [PMem.eAdd, h1, h2] at h ⊢
      exact h
    · have h3 : 0 ≤ a ∧ a < (m.n : Int) := by omega
      have h4 : a.toNat < m.n := by omega
      by_cases h5 : m.w a.toNat = wrU (m.w a.toNat + wrU b)
      · simp only [PMem.eAdd, PMem.lay, upd, h1, h2, h3, h4, ← h5, if_true, if_false, decide_true, decide_false, Bool.not_true, Bool.not_false, cond_true, cond_false, and_self, true_and] at h ⊢
        exact h
      · simp only [PMem.eAdd, PMem.lay, upd, h1, h2, h3, h4, h5, if_true, if_false, decide_true, decide_false, Bool.not_true, Bool.not_false, cond_true, cond_false, and_self, true_and] at h ⊢
        exact h

def eNowT (m : PMem) (who a b d : Int) (bot : Prop) (K : Int → PMem → Prop) : Prop :=
  (m.n = m.n ∧ m.n = m.n ∧ m.n = m.n ∧ m.n = m.n ∧ m.n = m.n) ∧
  K (m.steps) ⟨(m.n), (m.w), (m.t), (m.steps), (m.who), (m.la), (m.lw), (m.lc)⟩

theorem eNowT_of (m : PMem) (who a b d : Int) {K : Int → PMem → Prop} (h : K m.steps m) : eNowT m who a b d False K := by
  unfold eNowT
  exact ⟨⟨rfl, rfl, rfl, rfl, rfl⟩, h⟩

def mPeekT (m : PMem) (who a b d : Int) (bot : Prop) (K : Int → PMem → Prop) : Prop :=
  bif decide (a < 0) then
   (m.n = m.n ∧ m.n = m.n ∧ m.n = m.n ∧ m.n = m.n ∧ m.n = m.n) ∧
   K 0 ⟨(m.n), (m.w), (m.t), (m.steps), (m.who), (m.la), (m.lw), (m.lc)⟩
  else
   bif decide (↑m.n ≤ a) then
    (m.n = m.n ∧ m.n = m.n ∧ m.n = m.n ∧ m.n = m.n ∧ m.n = m.n) ∧
    K 0 ⟨(m.n), (m.w), (m.t), (m.steps), (m.who), (m.la), (m.lw), (m.lc)⟩
   else
    bif decide (0 ≤ a ∧ a < ↑m.n) then
     (Int.toNat a < m.n) ∧
     (m.n = m.n ∧ m.n = m.n ∧ m.n = m.n ∧ m.n = m.n ∧ m.n = m.n) ∧
     K (m.w (Int.toNat a)) ⟨(m.n), (m.w), (m.t), (m.steps), (m.who), (m.la), (m.lw), (m.lc)⟩
    else
     bot

theorem mPeekT_of (m : PMem) (who a b d : Int) {K : Int → PMem → Prop} (h : K (m.peek a) m) : mPeekT m who a b d False K := by
  unfold mPeekT
  by_cases h1 : a < 0
  · simp [PMem.peek, h1] at h ⊢
    exact h
  · by_cases h2 : (m.n : Int) ≤ a
    · simp [PMem.peek, h1, h2] at h ⊢
      exact h
    · have h3 : 0 ≤ a ∧ a < (m.n : Int) := by omega
      have h4 : a.toNat < m.n := by omega
      simp [PMem.peek, h1, h2, h3, h4] at h ⊢
      exact h

def mWhenT (m : PMem) (who a b d : Int) (bot : Prop) (K : Int → PMem → Prop) : Prop :=
  bif decide (a < 0) then
   (m.n = m.n ∧ m.n = m.n ∧ m.n = m.n ∧ m.n = m.n ∧ m.n = m.n) ∧
   K 0 ⟨(m.n), (m.w), (m.t), (m.steps), (m.who), (m.la), (m.lw), (m.lc)⟩
  else
   bif decide (↑m.n ≤ a) then
    (m.n = m.n ∧ m.n = m.n ∧ m.n = m.n ∧ m.n = m.n ∧ m.n = m.n) ∧
    K 0 ⟨(m.n), (m.w), (m.t), (m.steps), (m.who), (m.la), (m.lw), (m.lc)⟩
   else
    bif decide (0 ≤ a ∧ a < ↑m.n) then
     (Int.toNat a < m.n) ∧
     (m.n = m.n ∧ m.n = m.n ∧ m.n = m.n ∧ m.n = m.n ∧ m.n = m.n) ∧
     K (m.t (Int.toNat a)) ⟨(m.n), (m.w), (m.t), (m.steps), (m.who), (m.la), (m.lw), (m.lc)⟩
    else
     bot

theorem mWhenT_of (m : PMem) (who a b d : Int) {K : Int → PMem → Prop} (h : K (m.when_ a) m) : mWhenT m who a b d False K := by
  unfold mWhenT
  by_cases h1 : a < 0
  · simp [PMem.when_, h1] at h ⊢
    exact h
  · by_cases h2 : (m.n : Int) ≤ a
    · simp [PMem.when_, h1, h2] at h ⊢
      exact h
    · have h3 : 0 ≤ a ∧ a < (m.n : Int) := by omega
      have h4 : a.toNat < m.n := by omega
      simp [PMem.when_, h1, h2, h3, h4] at h ⊢
      exact h

end Go.FL

/-
  The contracts of the memory's operations.
-/
set_option linter.unusedVariables false
set_option linter.unusedSimpArgs false
set_option maxRecDepth 100000
set_option linter.unusedSectionVars false
namespace Go.Proofs.YtfjnkneoddankaaGreat
open Go Go.FL Go.Proofs
variable [Go.FL.Fz]

theorem rel_args1 {s s₁ : Mp} {x y : LV} {r : List LV} {vs : List Value} (hx : ∀ {v}, RelV s x v → RelV s₁ y v) (h : RelVs s (x :: r) vs) (hr : lowVs r = true := by rfl) : RelVs s₁ (y :: r) vs := by
  match vs, h with
  | v :: vs, h => exact ⟨hx h.1, RelVs.low hr h.2⟩
  | [], h => exact h.elim

theorem get_one {H : LH} {m : Nat} {pm : PMem} (hm : H.get m = some (.obj (.mem pm))) : ∀ (i n : Nat) (x : Bool × Ob), [m][i]? = some n → [(true, Ob.mem pm)][i]? = some x → H.bl[n]? = some (.obj x.2) := by
  intro i n x hi hx
  match i, hi, hx with
  | 0, hi, hx => simp at hi hx; subst hi; subst hx; exact get_obj hm
  | i + 1, hi, hx => simp at hi

theorem eLoad_ev (c : PCfg) (m : PMem) (who a b d : Int) (K : Int → PMem → Prop) : evF Tryz.prog own0 10 20 54 [(envV c 0 who), .c (.int .i64 a)] ⟨cat [(true, .mem m)] 0, []⟩ (fun v H => match v with | .c (.int .u64 x) => (shMem H 0 fun m' c' => match chkAll [(true, .mem m)] [c'] [] with | true => K x m' | false => False) | _ => False) = eLoadT m who a b d False K := by kernel_rfl

def h_eLoad : Hd := fun args H K => match args with
  | [.agg [.int .i64 c1, .int .i64 c2, .int .i64 c3, .int .i64 c4, .int .i64 c5, .int .i64 c6, .int .i64 c7, .ptr m 0, .int .i64 who], .c (.int .i64 a)] => match H.get m with
    | some (.obj (.mem pm)) => K (.c (.int .u64 (pm.eLoad who a).1)) (H.put m (.obj (.mem (pm.eLoad who a).2)))
    | _ => False
  | _ => False

theorem h_eLoad_ok : HOK 54 h_eLoad := by
  intro args H K h
  unfold h_eLoad at h
  split at h
  · rename_i c1 c2 c3 c4 c5 c6 c7 m who a
    split at h
    · rename_i pm hm
      have e := (eLoad_ev ⟨c1, c2, c3, c4, c5, c6, c7⟩ pm who a 0 0 (fun x m' => K (.c (.int .u64 x)) (H.put m (.obj (.mem m'))))).mpr (eLoadT_of pm who a 0 0 h)
      refine objs_ok own0_ok (ns := [m]) (xs := [(true, .mem pm)]) rfl (get_one hm) (by simp) ?_ e ?_
      · intro s s₁ vs hh hr
        have e0 := hh 0 m rfl
        simp only [base] at e0
        exact rel_args1 (rel_env (c := ⟨c1, c2, c3, c4, c5, c6, c7⟩) e0) hr
      · intro v₁ H₁ hk
        split at hk
        · obtain ⟨m', c', hk, hc⟩ := shMem_ok hk
          split at hk
          · rename_i hchk
            exact ⟨[c'], [(true, .mem m')], [], [], _, hchk, ⟨hc, trivial⟩, trivial, fun _ _ _ _ _ h => RelV.low rfl h, hk⟩
          · exact hk.elim
        · exact hk.elim
    · exact h.elim
  · exact h.elim

theorem eStore_ev (c : PCfg) (m : PMem) (who a b d : Int) (K : PMem → Prop) : evF Tryz.prog own0 10 20 56 [(envV c 0 who), .c (.int .i64 a), .c (.int .u64 b)] ⟨cat [(true, .mem m)] 0, []⟩ (fun v H => match v with | .tup [] => (shMem H 0 fun m' c' => match chkAll [(true, .mem m)] [c'] [] with | true => K  m' | false => False) | _ => False) = eStoreT m who a b d False K := by kernel_rfl

def h_eStore : Hd := fun args H K => match args with
  | [.agg [.int .i64 c1, .int .i64 c2, .int .i64 c3, .int .i64 c4, .int .i64 c5, .int .i64 c6, .int .i64 c7, .ptr m 0, .int .i64 who], .c (.int .i64 a), .c (.int .u64 b)] => match H.get m with
    | some (.obj (.mem pm)) => K (.tup []) (H.put m (.obj (.mem (pm.eStore who a b))))
    | _ => False
  | _ => False

theorem h_eStore_ok : HOK 56 h_eStore := by
  intro args H K h
  unfold h_eStore at h
  split at h
  · rename_i c1 c2 c3 c4 c5 c6 c7 m who a b
    split at h
    · rename_i pm hm
      have e := (eStore_ev ⟨c1, c2, c3, c4, c5, c6, c7⟩ pm who a b 0 (fun  m' => K (.tup []) (H.put m (.obj (.mem m'))))).mpr (eStoreT_of pm who a b 0 h)
      refine objs_ok own0_ok (ns := [m]) (xs := [(true, .mem pm)]) rfl (get_one hm) (by simp) ?_ e ?_
      · intro s s₁ vs hh hr
        have e0 := hh 0 m rfl
        simp only [base] at e0
        exact rel_args1 (rel_env (c := ⟨c1, c2, c3, c4, c5, c6, c7⟩) e0) hr
      · intro v₁ H₁ hk
        split at hk
        · obtain ⟨m', c', hk, hc⟩ := shMem_ok hk
          split at hk
          · rename_i hchk
            exact ⟨[c'], [(true, .mem m')], [], [], _, hchk, ⟨hc, trivial⟩, trivial, fun _ _ _ _ _ h => RelV.low rfl h, hk⟩
          · exact hk.elim
        · exact hk.elim
    · exact h.elim
  · exact h.elim

theorem eCas_ev (c : PCfg) (m : PMem) (who a b d : Int) (K : Bool → PMem → Prop) : evF Tryz.prog own0 10 20 49 [(envV c 0 who), .c (.int .i64 a), .c (.int .u64 b), .c (.int .u64 d)] ⟨cat [(true, .mem m)] 0, []⟩ (fun v H => match v with | .c (.bool x) => (shMem H 0 fun m' c' => match chkAll [(true, .mem m)] [c'] [] with | true => K x m' | false => False) | _ => False) = eCasT m who a b d False K := by kernel_rfl

def h_eCas : Hd := fun args H K => match args with
  | [.agg [.int .i64 c1, .int .i64 c2, .int .i64 c3, .int .i64 c4, .int .i64 c5, .int .i64 c6, .int .i64 c7, .ptr m 0, .int .i64 who], .c (.int .i64 a), .c (.int .u64 b), .c (.int .u64 d)] => match H.get m with
    | some (.obj (.mem pm)) => K (.c (.bool (pm.eCas who a b d).1)) (H.put m (.obj (.mem (pm.eCas who a b d).2)))
    | _ => False
  | _ => False

theorem h_eCas_ok : HOK 49 h_eCas := by
  intro args H K h
  unfold h_eCas at h
  split at h
  · rename_i c1 c2 c3 c4 c5 c6 c7 m who a b d
    split at h
    · rename_i pm hm
      have e := (eCas_ev ⟨c1, c2, c3, c4, c5, c6, c7⟩ pm who a b d (fun x m' => K (.c (.bool x)) (H.put m (.obj (.mem m'))))).mpr (eCasT_of pm who a b d h)
      refine objs_ok own0_ok (ns := [m]) (xs := [(true, .mem pm)]) rfl (get_one hm) (by simp) ?_ e ?_
      · intro s s₁ vs hh hr
        have e0 := hh 0 m rfl
        simp only [base] at e0
        exact rel_args1 (rel_env (c := ⟨c1, c2, c3, c4, c5, c6, c7⟩) e0) hr
      · intro v₁ H₁ hk
        split at hk
        · obtain ⟨m', c', hk, hc⟩ := shMem_ok hk
          split at hk
          · rename_i hchk
            exact ⟨[c'], [(true, .mem m')], [], [], _, hchk, ⟨hc, trivial⟩, trivial, fun _ _ _ _ _ h => RelV.low rfl h, hk⟩
          · exact hk.elim
        · exact hk.elim
    · exact h.elim
  · exact h.elim

theorem eAdd_ev (c : PCfg) (m : PMem) (who a b d : Int) (K : PMem → Prop) : evF Tryz.prog own0 10 20 79 [(envV c 0 who), .c (.int .i64 a), .c (.int .i64 b)] ⟨cat [(true, .mem m)] 0, []⟩ (fun v H => match v with | .tup [] => (shMem H 0 fun m' c' => match chkAll [(true, .mem m)] [c'] [] with | true => K  m' | false => False) | _ => False) = eAddT m who a b d False K := by kernel_rfl

def h_eAdd : Hd := fun args H K => match args with
  | [.agg [.int .i64 c1, .int .i64 c2, .int .i64 c3, .int .i64 c4, .int .i64 c5, .int .i64 c6, .int .i64 c7, .ptr m 0, .int .i64 who], .c (.int .i64 a), .c (.int .i64 b)] => match H.get m with
    | some (.obj (.mem pm)) => K (.tup []) (H.put m (.obj (.mem (pm.eAdd who a b))))
    | _ => False
  | _ => False

theorem h_eAdd_ok : HOK 79 h_eAdd := by
  intro args H K h
  unfold h_eAdd at h
  split at h
  · rename_i c1 c2 c3 c4 c5 c6 c7 m who a b
    split at h
    · rename_i pm hm
      have e := (eAdd_ev ⟨c1, c2, c3, c4, c5, c6, c7⟩ pm who a b 0 (fun  m' => K (.tup []) (H.put m (.obj (.mem m'))))).mpr (eAddT_of pm who a b 0 h)
      refine objs_ok own0_ok (ns := [m]) (xs := [(true, .mem pm)]) rfl (get_one hm) (by simp) ?_ e ?_
      · intro s s₁ vs hh hr
        have e0 := hh 0 m rfl
        simp only [base] at e0
        exact rel_args1 (rel_env (c := ⟨c1, c2, c3, c4, c5, c6, c7⟩) e0) hr
      · intro v₁ H₁ hk
        split at hk
        · obtain ⟨m', c', hk, hc⟩ := shMem_ok hk
          split at hk
          · rename_i hchk
            exact ⟨[c'], [(true, .mem m')], [], [], _, hchk, ⟨hc, trivial⟩, trivial, fun _ _ _ _ _ h => RelV.low rfl h, hk⟩
          · exact hk.elim
        · exact hk.elim
    · exact h.elim
  · exact h.elim

theorem eNow_ev (c : PCfg) (m : PMem) (who a b d : Int) (K : Int → PMem → Prop) : evF Tryz.prog own0 10 20 18 [(envV c 0 who)] ⟨cat [(true, .mem m)] 0, []⟩ (fun v H => match v with | .c (.int .i64 x) => (shMem H 0 fun m' c' => match chkAll [(true, .mem m)] [c'] [] with | true => K x m' | false => False) | _ => False) = eNowT m who a b d False K := by kernel_rfl

def h_eNow : Hd := fun args H K => match args with
  | [.agg [.int .i64 c1, .int .i64 c2, .int .i64 c3, .int .i64 c4, .int .i64 c5, .int .i64 c6, .int .i64 c7, .ptr m 0, .int .i64 who]] => match H.get m with
    | some (.obj (.mem pm)) => K (.c (.int .i64 pm.steps)) (H.put m (.obj (.mem pm)))
    | _ => False
  | _ => False

theorem h_eNow_ok : HOK 18 h_eNow := by
  intro args H K h
  unfold h_eNow at h
  split at h
  · rename_i c1 c2 c3 c4 c5 c6 c7 m who
    split at h
    · rename_i pm hm
      have e := (eNow_ev ⟨c1, c2, c3, c4, c5, c6, c7⟩ pm who 0 0 0 (fun x m' => K (.c (.int .i64 x)) (H.put m (.obj (.mem m'))))).mpr (eNowT_of pm who 0 0 0 h)
      refine objs_ok own0_ok (ns := [m]) (xs := [(true, .mem pm)]) rfl (get_one hm) (by simp) ?_ e ?_
      · intro s s₁ vs hh hr
        have e0 := hh 0 m rfl
        simp only [base] at e0
        exact rel_args1 (rel_env (c := ⟨c1, c2, c3, c4, c5, c6, c7⟩) e0) hr
      · intro v₁ H₁ hk
        split at hk
        · obtain ⟨m', c', hk, hc⟩ := shMem_ok hk
          split at hk
          · rename_i hchk
            exact ⟨[c'], [(true, .mem m')], [], [], _, hchk, ⟨hc, trivial⟩, trivial, fun _ _ _ _ _ h => RelV.low rfl h, hk⟩
          · exact hk.elim
        · exact hk.elim
    · exact h.elim
  · exact h.elim

theorem mPeek_ev (c : PCfg) (m : PMem) (who a b d : Int) (K : Int → PMem → Prop) : evF Tryz.prog own0 10 20 13 [.c (.ptr 0 0), .c (.int .i64 a)] ⟨cat [(true, .mem m)] 0, []⟩ (fun v H => match v with | .c (.int .u64 x) => (shMem H 0 fun m' c' => match chkAll [(true, .mem m)] [c'] [] with | true => K x m' | false => False) | _ => False) = mPeekT m who a b d False K := by kernel_rfl

def h_mPeek : Hd := fun args H K => match args with
  | [.c (.ptr m 0), .c (.int .i64 a)] => match H.get m with
    | some (.obj (.mem pm)) => K (.c (.int .u64 (pm.peek a))) (H.put m (.obj (.mem pm)))
    | _ => False
  | _ => False

theorem h_mPeek_ok : HOK 13 h_mPeek := by
  intro args H K h
  unfold h_mPeek at h
  split at h
  · rename_i m a
    split at h
    · rename_i pm hm
      have e := (mPeek_ev ⟨0, 0, 0, 0, 0, 0, 0⟩ pm 0 a 0 0 (fun x m' => K (.c (.int .u64 x)) (H.put m (.obj (.mem m'))))).mpr (mPeekT_of pm 0 a 0 0 h)
      refine objs_ok own0_ok (ns := [m]) (xs := [(true, .mem pm)]) rfl (get_one hm) (by simp) ?_ e ?_
      · intro s s₁ vs hh hr
        have e0 := hh 0 m rfl
        simp only [base] at e0
        exact rel_args1 (rel_ptr e0) hr
      · intro v₁ H₁ hk
        split at hk
        · obtain ⟨m', c', hk, hc⟩ := shMem_ok hk
          split at hk
          · rename_i hchk
            exact ⟨[c'], [(true, .mem m')], [], [], _, hchk, ⟨hc, trivial⟩, trivial, fun _ _ _ _ _ h => RelV.low rfl h, hk⟩
          · exact hk.elim
        · exact hk.elim
    · exact h.elim
  · exact h.elim

theorem mWhen_ev (c : PCfg) (m : PMem) (who a b d : Int) (K : Int → PMem → Prop) : evF Tryz.prog own0 10 20 89 [.c (.ptr 0 0), .c (.int .i64 a)] ⟨cat [(true, .mem m)] 0, []⟩ (fun v H => match v with | .c (.int .i64 x) => (shMem H 0 fun m' c' => match chkAll [(true, .mem m)] [c'] [] with | true => K x m' | false => False) | _ => False) = mWhenT m who a b d False K := by kernel_rfl

def h_mWhen : Hd := fun args H K => match args with
  | [.c (.ptr m 0), .c (.int .i64 a)] => match H.get m with
    | some (.obj (.mem pm)) => K (.c (.int .i64 (pm.when_ a))) (H.put m (.obj (.mem pm)))
    | _ => False
  | _ => False

theorem h_mWhen_ok : HOK 89 h_mWhen := by
  intro args H K h
  unfold h_mWhen at h
  split at h
  · rename_i m a
    split at h
    · rename_i pm hm
      have e := (mWhen_ev ⟨0, 0, 0, 0, 0, 0, 0⟩ pm 0 a 0 0 (fun x m' => K (.c (.int .i64 x)) (H.put m (.obj (.mem m'))))).mpr (mWhenT_of pm 0 a 0 0 h)
      refine objs_ok own0_ok (ns := [m]) (xs := [(true, .mem pm)]) rfl (get_one hm) (by simp) ?_ e ?_
      · intro s s₁ vs hh hr
        have e0 := hh 0 m rfl
        simp only [base] at e0
        exact rel_args1 (rel_ptr e0) hr
      · intro v₁ H₁ hk
        split at hk
        · obtain ⟨m', c', hk, hc⟩ := shMem_ok hk
          split at hk
          · rename_i hchk
            exact ⟨[c'], [(true, .mem m')], [], [], _, hchk, ⟨hc, trivial⟩, trivial, fun _ _ _ _ _ h => RelV.low rfl h, hk⟩
          · exact hk.elim
        · exact hk.elim
    · exact h.elim
  · exact h.elim

end Go.Proofs.YtfjnkneoddankaaGreat

/-
  The table of contracts; frames for what makes an object and for what asks one.
-/
set_option linter.unusedVariables false
set_option linter.unusedSimpArgs false
set_option maxRecDepth 100000
set_option linter.unusedSectionVars false
namespace Go.Proofs.YtfjnkneoddankaaGreat
open Go Go.FL Go.Proofs
variable [Go.FL.Fz]

def look : List (FuncId × Hd) → FuncId → Option Hd
  | [], _ => none
  | (g, h) :: r, f => match Nat.beq g f with
    | true => some h
    | false => look r f

def AllOK : List (FuncId × Hd) → Prop
  | [] => True
  | (g, h) :: r => HOK g h ∧ AllOK r

theorem look_ok : ∀ {l : List (FuncId × Hd)}, AllOK l → OwnOK Tryz.prog (look l)
  | [], _, f, h, hf => by simp [look] at hf
  | (g, h) :: r, hl, f, h', hf => by
    simp only [look] at hf
    split at hf
    · rename_i hb
      have := Nat.eq_of_beq_eq_true hb
      subst this
      cases hf
      exact hl.1
    · exact look_ok hl.2 f h' hf

def tab1 : List (FuncId × Hd) := [(54, h_eLoad), (56, h_eStore), (49, h_eCas), (79, h_eAdd), (18, h_eNow),
  (13, h_mPeek), (89, h_mWhen), (66, h_fit), (82, h_putHandle), (61, h_handle), (69, h_putSlot), (62, h_slotOf),
  (91, h_putChunk), (22, h_chunkOf), (34, h_putHead), (31, h_headOf), (102, h_putCell), (101, h_cellOf), (70, h_putTop), (116, h_topOf),
  (63, h_lSlot), (23, h_lChunk), (24, h_lBase), (58, h_lLen), (21, h_lOf), (36, h_lClass), (80, h_lRoom), (112, h_live)]

def own1 : FuncId → Option Hd := look tab1

theorem all1 : AllOK tab1 := ⟨h_eLoad_ok, h_eStore_ok, h_eCas_ok, h_eAdd_ok, h_eNow_ok, h_mPeek_ok, h_mWhen_ok, h_fit_ok, h_putHandle_ok, h_handle_ok, h_putSlot_ok, h_slotOf_ok,
  h_putChunk_ok, h_chunkOf_ok, h_putHead_ok, h_headOf_ok, h_putCell_ok, h_cellOf_ok, h_putTop_ok, h_topOf_ok, h_lSlot_ok, h_lChunk_ok, h_lBase_ok, h_lLen_ok, h_lOf_ok, h_lClass_ok, h_lRoom_ok, h_live_ok, trivial⟩

theorem own1_ok : OwnOK Tryz.prog own1 := look_ok all1

/-- A new object. -/
theorem new_ok {own : FuncId → Option Hd} (hown : OwnOK Tryz.prog own) {fuel d : Nat} {f : FuncId} {R : Type} {mk : R → Ob} {sh : LH → Nat → (R → List Nat → Prop) → Prop}
    (hsh : ∀ H n k, sh H n k → ∃ x c, k x c ∧ Clus H c (true, mk x)) {args : List LV} {H : LH} {K : LV → LH → Prop} (hlow : lowVs args = true)
    (hev : evF Tryz.prog own fuel d f args ⟨[], []⟩ (fun v H₁ => match v with
      | .c (.ptr i 0) => (sh H₁ i fun x c => match chkAll [] [] [c] && headOK i c with
        | true => K (.c (.ptr H.len 0)) (H.new (.obj (mk x)))
        | false => False)
      | _ => False)) :
    (∃ fn, Tryz.prog.funcs[f]? = some fn ∧ fn.body.isSome = true) ∧ CSpec Tryz.prog f args H K := by
  refine objs_ok hown (ns := []) (xs := []) rfl (by simp) List.nodup_nil (fun s s₁ vs _ h => RelVs.low hlow h) hev ?_
  intro v₁ H₁ hk
  split at hk
  · rename_i i
    obtain ⟨x, c, hk, hc⟩ := hsh _ _ _ hk
    split at hk
    · rename_i hchk
      simp only [Bool.and_eq_true] at hchk
      refine ⟨[], [], [c], [(true, mk x)], _, hchk.1, trivial, ⟨hc, trivial⟩, ?_, hk⟩
      intro s₁ s' v' _ hd' hr
      have hi : c[0]? = some i := by
        have := hchk.2
        unfold headOK at this
        split at this
        · have := Nat.eq_of_beq_eq_true this; simp [this]
        · cases this
      have := hd' 0 c i rfl hi
      obtain ⟨r, h1, h2⟩ := hr
      rw [Nat.add_zero] at this
      exact ⟨r, by rw [this]; exact h1, h2⟩
    · exact hk.elim
  · exact hk.elim

/-- One object, asked: a plain value. -/
theorem ask_ok {own : FuncId → Option Hd} (hown : OwnOK Tryz.prog own) {fuel d : Nat} {f : FuncId} {R : Type} {mk : R → Ob} {sh : LH → Nat → (R → List Nat → Prop) → Prop}
    (hsh : ∀ H n k, sh H n k → ∃ x c, k x c ∧ Clus H c (true, mk x)) {H : LH} {K : LV → LH → Prop} {p : Nat} {x : R} {rest : List LV} (hlow : lowVs rest = true)
    (hp : H.get p = some (.obj (mk x)))
    (hev : evF Tryz.prog own fuel d f (.c (.ptr 0 0) :: rest) ⟨cat [(true, mk x)] 0, []⟩ (fun v H₁ => match lowV v with
      | true => (sh H₁ 0 fun x' c => match chkAll [(true, mk x)] [c] [] with
          | true => K v (H.put p (.obj (mk x')))
          | false => False)
      | false => False)) :
    (∃ fn, Tryz.prog.funcs[f]? = some fn ∧ fn.body.isSome = true) ∧ CSpec Tryz.prog f (.c (.ptr p 0) :: rest) H K := by
  refine objs_ok hown (ns := [p]) (xs := [(true, mk x)]) rfl ?_ (by simp) ?_ hev ?_
  · intro i n x' hi hx
    match i, hi, hx with
    | 0, hi, hx => simp at hi hx; subst hi; subst hx; exact get_obj hp
    | i + 1, hi, hx => simp at hi
  · intro s s₁ vs hh hr
    have e0 := hh 0 p rfl
    simp only [base] at e0
    exact rel_args1 (rel_ptr e0) hr hlow
  · intro v₁ H₁ hk
    split at hk
    · rename_i hv
      obtain ⟨x', c, hk, hc⟩ := hsh _ _ _ hk
      split at hk
      · rename_i hchk
        exact ⟨[c], [(true, mk x')], [], [], v₁, hchk, ⟨hc, trivial⟩, trivial, fun _ _ _ _ _ h => RelV.low hv h, hk⟩
      · exact hk.elim
    · exact hk.elim

/-- A step of nobody. -/
def orNil (h : Hd) : Hd := fun args H K => match args with
  | [.c .nilp, .agg [.int .i64 c1, .int .i64 c2, .int .i64 c3, .int .i64 c4, .int .i64 c5, .int .i64 c6, .int .i64 c7, .ptr m 0, .int .i64 who]] => match H.get m with
    | some (.obj (.mem pm)) => K (.c (.bool false)) (H.put m (.obj (.mem pm)))
    | _ => False
  | _ => h args H K

theorem orNil_ok {own : FuncId → Option Hd} (hown : OwnOK Tryz.prog own) {fuel d : Nat} {f : FuncId} {h : Hd} (hh : HOK f h)
    (hn : ∀ (c : PCfg) (who : Int) (pm : PMem) (K : Bool → PMem → Prop), K false pm → evF Tryz.prog own fuel d f [.c .nilp, envV c 0 who] ⟨cat [(false, .mem pm)] 0, []⟩ (fun v H₁ => match v with
      | .c (.bool r) => shF H₁ 0 fun o c2 => match o with
        | .mem pm' => match chkAll [(false, .mem pm)] [c2] [] with
          | true => K r pm'
          | false => False
        | _ => False
      | _ => False)) : HOK f (orNil h) := by
  intro args H K hk
  unfold orNil at hk
  split at hk
  · rename_i c1 c2 c3 c4 c5 c6 c7 m who
    split at hk
    · rename_i pm hm
      have e := hn ⟨c1, c2, c3, c4, c5, c6, c7⟩ who pm (fun r pm' => K (.c (.bool r)) (H.put m (.obj (.mem pm')))) hk
      refine objs_ok hown (ns := [m]) (xs := [(false, .mem pm)]) rfl ?_ (by simp) ?_ e ?_
      · intro i n x' hi hx
        match i, hi, hx with
        | 0, hi, hx => simp at hi hx; subst hi; subst hx; exact get_obj hm
        | i + 1, hi, hx => simp at hi
      · intro s s₁ vs hh hr
        match vs, hr with
        | [u, v], ⟨h1, h2, _⟩ =>
          have e0 := hh 0 m rfl
          simp only [base, Nat.zero_add] at e0
          exact ⟨h1, rel_env (c := ⟨c1, c2, c3, c4, c5, c6, c7⟩) e0 h2, trivial⟩
        | [], h => exact h.elim
        | [_], h => exact h.2.elim
        | _ :: _ :: _ :: _, h => exact h.2.2.elim
      · intro v₁ H₁ hk
        split at hk
        · rename_i r
          obtain ⟨o, c2, hk, hc2⟩ := shF_ok hk
          split at hk
          · rename_i pm'
            split at hk
            · rename_i hchk
              exact ⟨[c2], [(false, .mem pm')], [], [], .c (.bool r), hchk, ⟨hc2, trivial⟩, trivial, fun _ _ _ _ _ h => h, hk⟩
            · exact hk.elim
          · exact hk.elim
        · exact hk.elim
    · exact hk.elim
  · exact hh args H K hk

end Go.Proofs.YtfjnkneoddankaaGreat

/-
  A tree of choices, read as a proposition and as a value.
-/
set_option linter.unusedVariables false
namespace Go.FL

/-- The orders of a drawn region: each has to go well. -/
def twP (f : Prop → Prop) (p : Prop) : Prop := f p

/-- They all yield the same. -/
def twV {R : Type} (f : Prop → Prop) (r : R) : R := r

def app3 {A B C : Type} (K : A → B → C → Prop) (t : A × B × C) : Prop := K t.1 t.2.1 t.2.2

theorem cond3 {A B C : Type} {K : A → B → C → Prop} {b : Bool} {p q : Prop} {u v : A × B × C} (h1 : p = app3 K u) (h2 : q = app3 K v) : cond b p q = app3 K (cond b u v) := by
  cases b
  · exact h2
  · exact h1

theorem condH {A B C : Type} {K : A → B → C → Prop} {b : Bool} {q : Prop} {u v : A × B × C} (hb : b = false) (h2 : q = app3 K v) : cond b False q = app3 K (cond b u v) := by
  subst hb
  exact h2

theorem tw3 {A B C : Type} {K : A → B → C → Prop} {f : Prop → Prop} {p : Prop} {u : A × B × C} (hf : ∀ p, f p = p) (h : p = app3 K u) : twP f p = app3 K (twV f u) :=
  (hf p).trans h

end Go.FL

/-
  Steps of the program's objects, as the evaluator has them.
-/
set_option linter.unusedVariables false
set_option linter.unusedSimpArgs false
set_option maxRecDepth 100000
namespace Go.FL

def giveStepK {R : Type} (bot : R) (tw : (Prop → Prop) → R → R) (c : PCfg) (who : Int) (x : PGive) (m : PMem) (K : Bool → PGive → PMem → R) : R :=
  bif decide (x.pc = 0) then
   K false ⟨1, (x.slot), ((PMem.eLoad m who 1).fst)⟩ ((PMem.eLoad m who 1).snd)
  else
   bif decide (x.pc = 1) then
    K false ⟨2, (x.slot), (x.top)⟩ (PMem.eStore m who (wrI (lSlot c.threads c.slots c.chunks c.words c.gens c.sparse c.tries x.slot + 1)) (putTop (topOf x.top).fst 0))
   else
    K ((PMem.eCas m who 1 x.top (putTop x.slot (wrI ((topOf x.top).snd + 1)))).fst) ⟨0, (x.slot), (x.top)⟩ ((PMem.eCas m who 1 x.top (putTop x.slot (wrI ((topOf x.top).snd + 1)))).snd)

def giveStep (c : PCfg) (who : Int) (x : PGive) (m : PMem) : Bool × PGive × PMem := giveStepK (false, x, m) twV c who x m fun r x m => (r, x, m)

theorem giveStepK_eq (c : PCfg) (who : Int) (x : PGive) (m : PMem) (K : Bool → PGive → PMem → Prop) : giveStepK False twP c who x m K = K (giveStep c who x m).1 (giveStep c who x m).2.1 (giveStep c who x m).2.2 := by
  show _ = app3 K (giveStepK (false, x, m) twV c who x m fun r x m => (r, x, m))
  unfold giveStepK
  repeat' first
    | refine cond3 ?_ ?_
    | refine tw3 (fun p => by simp only [and_self]) ?_
    | exact rfl

def placeStepK {R : Type} (bot : R) (tw : (Prop → Prop) → R → R) (c : PCfg) (who : Int) (x : PPlace) (m : PMem) (K : Bool → PPlace → PMem → R) : R :=
  bif decide (x.pc = 0) then
   bif decide (wrI (wrI (PMem.eLoad m who (wrI (2 + x.cls))).fst - 1) < 0) then
    K false ⟨(x.cls), 3, ((PMem.eLoad m who (wrI (2 + x.cls))).fst), 0, (x.w), (x.sa), (x.sc), (x.ok)⟩ ((PMem.eLoad m who (wrI (2 + x.cls))).snd)
   else
    K false ⟨(x.cls), 1, ((PMem.eLoad m who (wrI (2 + x.cls))).fst), (wrI (wrI (PMem.eLoad m who (wrI (2 + x.cls))).fst - 1)), (x.w), (x.sa), (x.sc), (x.ok)⟩ ((PMem.eLoad m who (wrI (2 + x.cls))).snd)
  else
   bif decide (x.pc = 1) then
    bif !decide ((chunkOf (PMem.eLoad m who (lChunk c.threads c.slots c.chunks c.words c.gens c.sparse c.tries x.at_)).fst).fst = 1) then
     K false ⟨(x.cls), 3, (x.opn), 0, ((PMem.eLoad m who (lChunk c.threads c.slots c.chunks c.words c.gens c.sparse c.tries x.at_)).fst), (x.sa), (x.sc), (x.ok)⟩ ((PMem.eLoad m who (lChunk c.threads c.slots c.chunks c.words c.gens c.sparse c.tries x.at_)).snd)
    else
     bif !decide ((chunkOf (PMem.eLoad m who (lChunk c.threads c.slots c.chunks c.words c.gens c.sparse c.tries x.at_)).fst).snd.fst = x.cls) then
      K false ⟨(x.cls), 3, (x.opn), 0, ((PMem.eLoad m who (lChunk c.threads c.slots c.chunks c.words c.gens c.sparse c.tries x.at_)).fst), (x.sa), (x.sc), (x.ok)⟩ ((PMem.eLoad m who (lChunk c.threads c.slots c.chunks c.words c.gens c.sparse c.tries x.at_)).snd)
     else
      bif decide (c.words < wrI ((chunkOf (PMem.eLoad m who (lChunk c.threads c.slots c.chunks c.words c.gens c.sparse c.tries x.at_)).fst).snd.snd.fst + lRoom x.cls)) then
       K false ⟨(x.cls), 3, (x.opn), 0, ((PMem.eLoad m who (lChunk c.threads c.slots c.chunks c.words c.gens c.sparse c.tries x.at_)).fst), (x.sa), (x.sc), (x.ok)⟩ ((PMem.eLoad m who (lChunk c.threads c.slots c.chunks c.words c.gens c.sparse c.tries x.at_)).snd)
      else
       K false ⟨(x.cls), 2, (x.opn), (x.at_), ((PMem.eLoad m who (lChunk c.threads c.slots c.chunks c.words c.gens c.sparse c.tries x.at_)).fst), (x.sa), (x.sc), (x.ok)⟩ ((PMem.eLoad m who (lChunk c.threads c.slots c.chunks c.words c.gens c.sparse c.tries x.at_)).snd)
   else
    bif decide (x.pc = 2) then
     bif !(PMem.eCas m who (lChunk c.threads c.slots c.chunks c.words c.gens c.sparse c.tries x.at_) x.w (putChunk (chunkOf x.w).fst (chunkOf x.w).snd.fst (wrI ((chunkOf x.w).snd.snd.fst + lRoom x.cls)) (chunkOf x.w).snd.snd.snd)).fst then
      K false ⟨(x.cls), 0, (x.opn), (x.at_), (x.w), (x.sa), (x.sc), (x.ok)⟩ ((PMem.eCas m who (lChunk c.threads c.slots c.chunks c.words c.gens c.sparse c.tries x.at_) x.w (putChunk (chunkOf x.w).fst (chunkOf x.w).snd.fst (wrI ((chunkOf x.w).snd.snd.fst + lRoom x.cls)) (chunkOf x.w).snd.snd.snd)).snd)
     else
      K true ⟨(x.cls), 0, (x.opn), (x.at_), (x.w), (wrI (lBase c.threads c.slots c.chunks c.words c.gens c.sparse c.tries x.at_ + (chunkOf x.w).snd.snd.fst)), (x.at_), true⟩ ((PMem.eCas m who (lChunk c.threads c.slots c.chunks c.words c.gens c.sparse c.tries x.at_) x.w (putChunk (chunkOf x.w).fst (chunkOf x.w).snd.fst (wrI ((chunkOf x.w).snd.snd.fst + lRoom x.cls)) (chunkOf x.w).snd.snd.snd)).snd)
    else
     bif decide (x.pc = 3) then
      bif !decide ((chunkOf (PMem.eLoad m who (lChunk c.threads c.slots c.chunks c.words c.gens c.sparse c.tries x.at_)).fst).fst = 0) then
       K (decide (c.chunks ≤ wrI (x.at_ + 1))) ⟨(x.cls), 3, (x.opn), (wrI (x.at_ + 1)), ((PMem.eLoad m who (lChunk c.threads c.slots c.chunks c.words c.gens c.sparse c.tries x.at_)).fst), (x.sa), (x.sc), (x.ok)⟩ ((PMem.eLoad m who (lChunk c.threads c.slots c.chunks c.words c.gens c.sparse c.tries x.at_)).snd)
      else
       K false ⟨(x.cls), 4, (x.opn), (x.at_), ((PMem.eLoad m who (lChunk c.threads c.slots c.chunks c.words c.gens c.sparse c.tries x.at_)).fst), (x.sa), (x.sc), (x.ok)⟩ ((PMem.eLoad m who (lChunk c.threads c.slots c.chunks c.words c.gens c.sparse c.tries x.at_)).snd)
     else
      bif decide (x.pc = 4) then
       bif !(PMem.eCas m who (lChunk c.threads c.slots c.chunks c.words c.gens c.sparse c.tries x.at_) x.w (putChunk 1 x.cls 0 (wrI ((chunkOf x.w).snd.snd.snd + 1)))).fst then
        K (decide (c.chunks ≤ wrI (x.at_ + 1))) ⟨(x.cls), 3, (x.opn), (wrI (x.at_ + 1)), (x.w), (x.sa), (x.sc), (x.ok)⟩ ((PMem.eCas m who (lChunk c.threads c.slots c.chunks c.words c.gens c.sparse c.tries x.at_) x.w (putChunk 1 x.cls 0 (wrI ((chunkOf x.w).snd.snd.snd + 1)))).snd)
       else
        K false ⟨(x.cls), 5, (x.opn), (x.at_), (x.w), (x.sa), (x.sc), (x.ok)⟩ ((PMem.eCas m who (lChunk c.threads c.slots c.chunks c.words c.gens c.sparse c.tries x.at_) x.w (putChunk 1 x.cls 0 (wrI ((chunkOf x.w).snd.snd.snd + 1)))).snd)
      else
       bif decide (x.pc = 5) then
        bif (PMem.eCas m who (wrI (2 + x.cls)) x.opn (wrU (wrI (x.at_ + 1)))).fst then
         K false ⟨(x.cls), 0, (x.opn), (x.at_), (x.w), (x.sa), (x.sc), (x.ok)⟩ ((PMem.eCas m who (wrI (2 + x.cls)) x.opn (wrU (wrI (x.at_ + 1)))).snd)
        else
         K false ⟨(x.cls), 6, (x.opn), (x.at_), (x.w), (x.sa), (x.sc), (x.ok)⟩ ((PMem.eCas m who (wrI (2 + x.cls)) x.opn (wrU (wrI (x.at_ + 1)))).snd)
       else
        K false ⟨(x.cls), 0, (x.opn), (x.at_), (x.w), (x.sa), (x.sc), (x.ok)⟩ ((PMem.eCas m who (lChunk c.threads c.slots c.chunks c.words c.gens c.sparse c.tries x.at_) (putChunk 1 x.cls 0 (wrI ((chunkOf x.w).snd.snd.snd + 1))) (putChunk 0 0 0 (wrI ((chunkOf x.w).snd.snd.snd + 2)))).snd)

def placeStep (c : PCfg) (who : Int) (x : PPlace) (m : PMem) : Bool × PPlace × PMem := placeStepK (false, x, m) twV c who x m fun r x m => (r, x, m)

theorem placeStepK_eq (c : PCfg) (who : Int) (x : PPlace) (m : PMem) (K : Bool → PPlace → PMem → Prop) : placeStepK False twP c who x m K = K (placeStep c who x m).1 (placeStep c who x m).2.1 (placeStep c who x m).2.2 := by
  show _ = app3 K (placeStepK (false, x, m) twV c who x m fun r x m => (r, x, m))
  unfold placeStepK
  repeat' first
    | refine cond3 ?_ ?_
    | refine tw3 (fun p => by simp only [and_self]) ?_
    | exact rfl

def helpStepK {R : Type} (bot : R) (tw : (Prop → Prop) → R → R) (c : PCfg) (who : Int) (x : PHelp) (m : PMem) (K : Bool → PHelp → PMem → R) : R :=
  bif decide (x.size ≤ x.i) then
   bif decide (c.gens ≤ (slotOf x.w).snd.snd.fst) then
    K true ⟨(x.slot), (x.w), (x.size), (x.i), (x.cell), (x.read), ((PMem.eCas m who (lSlot c.threads c.slots c.chunks c.words c.gens c.sparse c.tries x.slot) x.w (putSlot 3 0 (slotOf x.w).snd.snd.fst 0)).fst)⟩ ((PMem.eCas m who (lSlot c.threads c.slots c.chunks c.words c.gens c.sparse c.tries x.slot) x.w (putSlot 3 0 (slotOf x.w).snd.snd.fst 0)).snd)
   else
    K true ⟨(x.slot), (x.w), (x.size), (x.i), (x.cell), (x.read), ((PMem.eCas m who (lSlot c.threads c.slots c.chunks c.words c.gens c.sparse c.tries x.slot) x.w (putSlot 0 0 (wrI ((slotOf x.w).snd.snd.fst + 1)) 0)).fst)⟩ ((PMem.eCas m who (lSlot c.threads c.slots c.chunks c.words c.gens c.sparse c.tries x.slot) x.w (putSlot 0 0 (wrI ((slotOf x.w).snd.snd.fst + 1)) 0)).snd)
  else
   bif !x.read then
    bif !(cellOf (PMem.eLoad m who (wrI (wrI ((slotOf x.w).snd.fst + 1) + x.i))).fst).snd.fst then
     K false ⟨(x.slot), (x.w), (x.size), (x.i), ((PMem.eLoad m who (wrI (wrI ((slotOf x.w).snd.fst + 1) + x.i))).fst), true, (x.won)⟩ ((PMem.eLoad m who (wrI (wrI ((slotOf x.w).snd.fst + 1) + x.i))).snd)
    else
     bif !!decide ((cellOf (PMem.eLoad m who (wrI (wrI ((slotOf x.w).snd.fst + 1) + x.i))).fst).snd.snd = (slotOf x.w).snd.snd.snd) then
      K false ⟨(x.slot), (x.w), (x.size), (wrI (x.i + 1)), ((PMem.eLoad m who (wrI (wrI ((slotOf x.w).snd.fst + 1) + x.i))).fst), (!decide ((cellOf (PMem.eLoad m who (wrI (wrI ((slotOf x.w).snd.fst + 1) + x.i))).fst).snd.snd = (slotOf x.w).snd.snd.snd)), (x.won)⟩ ((PMem.eLoad m who (wrI (wrI ((slotOf x.w).snd.fst + 1) + x.i))).snd)
     else
      K false ⟨(x.slot), (x.w), (x.size), (x.i), ((PMem.eLoad m who (wrI (wrI ((slotOf x.w).snd.fst + 1) + x.i))).fst), (!decide ((cellOf (PMem.eLoad m who (wrI (wrI ((slotOf x.w).snd.fst + 1) + x.i))).fst).snd.snd = (slotOf x.w).snd.snd.snd)), (x.won)⟩ ((PMem.eLoad m who (wrI (wrI ((slotOf x.w).snd.fst + 1) + x.i))).snd)
   else
    bif (PMem.eCas m who (wrI (wrI ((slotOf x.w).snd.fst + 1) + x.i)) x.cell (putCell (cellOf x.cell).fst true (slotOf x.w).snd.snd.snd)).fst then
     K false ⟨(x.slot), (x.w), (x.size), (wrI (x.i + 1)), (x.cell), false, (x.won)⟩ ((PMem.eCas m who (wrI (wrI ((slotOf x.w).snd.fst + 1) + x.i)) x.cell (putCell (cellOf x.cell).fst true (slotOf x.w).snd.snd.snd)).snd)
    else
     K false ⟨(x.slot), (x.w), (x.size), (x.i), (x.cell), false, (x.won)⟩ ((PMem.eCas m who (wrI (wrI ((slotOf x.w).snd.fst + 1) + x.i)) x.cell (putCell (cellOf x.cell).fst true (slotOf x.w).snd.snd.snd)).snd)

def helpStep (c : PCfg) (who : Int) (x : PHelp) (m : PMem) : Bool × PHelp × PMem := helpStepK (false, x, m) twV c who x m fun r x m => (r, x, m)

theorem helpStepK_eq (c : PCfg) (who : Int) (x : PHelp) (m : PMem) (K : Bool → PHelp → PMem → Prop) : helpStepK False twP c who x m K = K (helpStep c who x m).1 (helpStep c who x m).2.1 (helpStep c who x m).2.2 := by
  show _ = app3 K (helpStepK (false, x, m) twV c who x m fun r x m => (r, x, m))
  unfold helpStepK
  repeat' first
    | refine cond3 ?_ ?_
    | refine tw3 (fun p => by simp only [and_self]) ?_
    | exact rfl

end Go.FL

/-
  The contracts of steps.
-/
set_option linter.unusedVariables false
set_option linter.unusedSimpArgs false
set_option maxRecDepth 100000
set_option linter.unusedSectionVars false
namespace Go.Proofs.YtfjnkneoddankaaGreat
open Go Go.FL Go.Proofs
variable [Go.FL.Fz]

theorem giveStep_ev (c : PCfg) (who : Int) (x : PGive) (m : PMem) (K : Bool → PGive → PMem → Prop) : evF Tryz.prog own1 10 20 83 [.c (.ptr 0 0), envV c 1 who] ⟨cat [(true, .give x), (false, .mem m)] 0, []⟩ (fun v H₁ => match v with | .c (.bool r) => (shGive H₁ 0 fun x' c' => shF H₁ 1 fun o c2 => match o with | .mem m' => (match chkAll [(true, .give x), (false, .mem m)] [c', c2] [] with | true => K r x' m' | false => False) | _ => False) | _ => False) = giveStepK False twP c who x m K := by kernel_rfl

def h_giveStep0 : Hd := fun args H K => match args with
  | [.c (.ptr p0 0), .agg [.int .i64 c1, .int .i64 c2, .int .i64 c3, .int .i64 c4, .int .i64 c5, .int .i64 c6, .int .i64 c7, .ptr m 0, .int .i64 who]] => match H.get p0, H.get m with
    | some (.obj (.give x)), some (.obj (.mem pm)) => K (.c (.bool (giveStep ⟨c1, c2, c3, c4, c5, c6, c7⟩ who x pm).1)) ((H.put p0 (.obj (.give (giveStep ⟨c1, c2, c3, c4, c5, c6, c7⟩ who x pm).2.1))).put m (.obj (.mem (giveStep ⟨c1, c2, c3, c4, c5, c6, c7⟩ who x pm).2.2)))
    | _, _ => False
  | _ => False

theorem h_giveStep0_ok : HOK 83 h_giveStep0 := by
  intro args H K h
  unfold h_giveStep0 at h
  split at h
  · rename_i p0 c1 c2 c3 c4 c5 c6 c7 m who
    split at h
    · rename_i x pm hp hm
      have e := (giveStep_ev ⟨c1, c2, c3, c4, c5, c6, c7⟩ who x pm (fun r x' m' => K (.c (.bool r)) ((H.put p0 (.obj (.give x'))).put m (.obj (.mem m'))))).mpr (by rw [giveStepK_eq]; exact h)
      exact step_ok own1_ok (c := ⟨c1, c2, c3, c4, c5, c6, c7⟩) (mk := .give) (fun _ _ _ => shGive_ok) (by intro hh; cases hh) hp hm e
    · exact h.elim
  · exact h.elim

def h_giveStep : Hd := orNil h_giveStep0

theorem h_giveStep_ok : HOK 83 h_giveStep := orNil_ok own1_ok h_giveStep0_ok (fuel := 10) (d := 20) (fun c who pm K h => cast (by kernel_rfl) h)

theorem placeStep_ev (c : PCfg) (who : Int) (x : PPlace) (m : PMem) (K : Bool → PPlace → PMem → Prop) : evF Tryz.prog own1 10 20 76 [.c (.ptr 0 0), envV c 1 who] ⟨cat [(true, .place x), (false, .mem m)] 0, []⟩ (fun v H₁ => match v with | .c (.bool r) => (shPlace H₁ 0 fun x' c' => shF H₁ 1 fun o c2 => match o with | .mem m' => (match chkAll [(true, .place x), (false, .mem m)] [c', c2] [] with | true => K r x' m' | false => False) | _ => False) | _ => False) = placeStepK False twP c who x m K := by kernel_rfl

def h_placeStep0 : Hd := fun args H K => match args with
  | [.c (.ptr p0 0), .agg [.int .i64 c1, .int .i64 c2, .int .i64 c3, .int .i64 c4, .int .i64 c5, .int .i64 c6, .int .i64 c7, .ptr m 0, .int .i64 who]] => match H.get p0, H.get m with
    | some (.obj (.place x)), some (.obj (.mem pm)) => K (.c (.bool (placeStep ⟨c1, c2, c3, c4, c5, c6, c7⟩ who x pm).1)) ((H.put p0 (.obj (.place (placeStep ⟨c1, c2, c3, c4, c5, c6, c7⟩ who x pm).2.1))).put m (.obj (.mem (placeStep ⟨c1, c2, c3, c4, c5, c6, c7⟩ who x pm).2.2)))
    | _, _ => False
  | _ => False

theorem h_placeStep0_ok : HOK 76 h_placeStep0 := by
  intro args H K h
  unfold h_placeStep0 at h
  split at h
  · rename_i p0 c1 c2 c3 c4 c5 c6 c7 m who
    split at h
    · rename_i x pm hp hm
      have e := (placeStep_ev ⟨c1, c2, c3, c4, c5, c6, c7⟩ who x pm (fun r x' m' => K (.c (.bool r)) ((H.put p0 (.obj (.place x'))).put m (.obj (.mem m'))))).mpr (by rw [placeStepK_eq]; exact h)
      exact step_ok own1_ok (c := ⟨c1, c2, c3, c4, c5, c6, c7⟩) (mk := .place) (fun _ _ _ => shPlace_ok) (by intro hh; cases hh) hp hm e
    · exact h.elim
  · exact h.elim

def h_placeStep : Hd := orNil h_placeStep0

theorem h_placeStep_ok : HOK 76 h_placeStep := orNil_ok own1_ok h_placeStep0_ok (fuel := 10) (d := 20) (fun c who pm K h => cast (by kernel_rfl) h)

theorem helpStep_ev (c : PCfg) (who : Int) (x : PHelp) (m : PMem) (K : Bool → PHelp → PMem → Prop) : evF Tryz.prog own1 10 20 88 [.c (.ptr 0 0), envV c 1 who] ⟨cat [(true, .help x), (false, .mem m)] 0, []⟩ (fun v H₁ => match v with | .c (.bool r) => (shHelp H₁ 0 fun x' c' => shF H₁ 1 fun o c2 => match o with | .mem m' => (match chkAll [(true, .help x), (false, .mem m)] [c', c2] [] with | true => K r x' m' | false => False) | _ => False) | _ => False) = helpStepK False twP c who x m K := by kernel_rfl

def h_helpStep0 : Hd := fun args H K => match args with
  | [.c (.ptr p0 0), .agg [.int .i64 c1, .int .i64 c2, .int .i64 c3, .int .i64 c4, .int .i64 c5, .int .i64 c6, .int .i64 c7, .ptr m 0, .int .i64 who]] => match H.get p0, H.get m with
    | some (.obj (.help x)), some (.obj (.mem pm)) => K (.c (.bool (helpStep ⟨c1, c2, c3, c4, c5, c6, c7⟩ who x pm).1)) ((H.put p0 (.obj (.help (helpStep ⟨c1, c2, c3, c4, c5, c6, c7⟩ who x pm).2.1))).put m (.obj (.mem (helpStep ⟨c1, c2, c3, c4, c5, c6, c7⟩ who x pm).2.2)))
    | _, _ => False
  | _ => False

theorem h_helpStep0_ok : HOK 88 h_helpStep0 := by
  intro args H K h
  unfold h_helpStep0 at h
  split at h
  · rename_i p0 c1 c2 c3 c4 c5 c6 c7 m who
    split at h
    · rename_i x pm hp hm
      have e := (helpStep_ev ⟨c1, c2, c3, c4, c5, c6, c7⟩ who x pm (fun r x' m' => K (.c (.bool r)) ((H.put p0 (.obj (.help x'))).put m (.obj (.mem m'))))).mpr (by rw [helpStepK_eq]; exact h)
      exact step_ok own1_ok (c := ⟨c1, c2, c3, c4, c5, c6, c7⟩) (mk := .help) (fun _ _ _ => shHelp_ok) (by intro hh; cases hh) hp hm e
    · exact h.elim
  · exact h.elim

def h_helpStep : Hd := orNil h_helpStep0

theorem h_helpStep_ok : HOK 88 h_helpStep := orNil_ok own1_ok h_helpStep0_ok (fuel := 10) (d := 20) (fun c who pm K h => cast (by kernel_rfl) h)

def h_placeSpot : Hd := fun args H K => match args with
  | [.c (.ptr p0 0)] => match H.get p0 with
    | some (.obj (.place x)) => K (.tup [.agg [cI (bif x.ok then x.sa else 0), cI (bif x.ok then x.sc else 0)], .c (.bool x.ok)]) (H.put p0 (.obj (.place x)))
    | _ => False
  | _ => False

theorem h_placeSpot_ok : HOK 77 h_placeSpot := by
  intro args H K h
  unfold h_placeSpot at h
  split at h
  · rename_i p0
    split at h
    · rename_i x hp
      obtain ⟨cls, pc, opn, at_, w, sa, sc, ok⟩ := x
      cases ok with
      | true =>
        have e : evF Tryz.prog own1 10 20 77 [.c (.ptr 0 0)] ⟨cat [(true, .place ⟨cls, pc, opn, at_, w, sa, sc, true⟩)] 0, []⟩ (fun v H₁ => match lowV v with
            | true => (shPlace H₁ 0 fun x' c => match chkAll [(true, .place ⟨cls, pc, opn, at_, w, sa, sc, true⟩)] [c] [] with
                | true => K v (H.put p0 (.obj (.place x')))
                | false => False)
            | false => False) := cast (by kernel_rfl) h
        exact ask_ok own1_ok (mk := .place) (fun _ _ _ => shPlace_ok) (rest := []) rfl hp e
      | false =>
        have e : evF Tryz.prog own1 10 20 77 [.c (.ptr 0 0)] ⟨cat [(true, .place ⟨cls, pc, opn, at_, w, sa, sc, false⟩)] 0, []⟩ (fun v H₁ => match lowV v with
            | true => (shPlace H₁ 0 fun x' c => match chkAll [(true, .place ⟨cls, pc, opn, at_, w, sa, sc, false⟩)] [c] [] with
                | true => K v (H.put p0 (.obj (.place x')))
                | false => False)
            | false => False) := cast (by kernel_rfl) h
        exact ask_ok own1_ok (mk := .place) (fun _ _ _ => shPlace_ok) (rest := []) rfl hp e
    · exact h.elim
  · exact h.elim

def h_placeNew : Hd := fun args H K => match args with
  | [.c (.int .i64 a)] => K (.c (.ptr H.len 0)) (H.new (.obj (.place ⟨a, 0, 0, 0, 0, 0, 0, false⟩)))
  | _ => False

theorem h_placeNew_ok : HOK 75 h_placeNew := by
  intro args H K h
  unfold h_placeNew at h
  split at h
  · rename_i a
    have e : evF Tryz.prog own1 10 20 75 [.c (.int .i64 a)] ⟨[], []⟩ (fun v H₁ => match v with
        | .c (.ptr i 0) => (shPlace H₁ i fun x c => match chkAll [] [] [c] && headOK i c with
          | true => K (.c (.ptr H.len 0)) (H.new (.obj (.place x)))
          | false => False)
        | _ => False) := cast (by kernel_rfl) h
    exact new_ok own1_ok (mk := .place) (fun _ _ _ => shPlace_ok) rfl e
  · exact h.elim

def h_giveNew : Hd := fun args H K => match args with
  | [.c (.int .i64 a)] => K (.c (.ptr H.len 0)) (H.new (.obj (.give ⟨0, a, 0⟩)))
  | _ => False

theorem h_giveNew_ok : HOK 78 h_giveNew := by
  intro args H K h
  unfold h_giveNew at h
  split at h
  · rename_i a
    have e : evF Tryz.prog own1 10 20 78 [.c (.int .i64 a)] ⟨[], []⟩ (fun v H₁ => match v with
        | .c (.ptr i 0) => (shGive H₁ i fun x c => match chkAll [] [] [c] && headOK i c with
          | true => K (.c (.ptr H.len 0)) (H.new (.obj (.give x)))
          | false => False)
        | _ => False) := cast (by kernel_rfl) h
    exact new_ok own1_ok (mk := .give) (fun _ _ _ => shGive_ok) rfl e
  · exact h.elim

def h_helpNew : Hd := fun args H K => match args with
  | [.c (.int .i64 a), .c (.int .u64 b), .c (.int .i64 d)] => K (.c (.ptr H.len 0)) (H.new (.obj (.help ⟨a, b, d, 0, 0, false, false⟩)))
  | _ => False

theorem h_helpNew_ok : HOK 86 h_helpNew := by
  intro args H K h
  unfold h_helpNew at h
  split at h
  · rename_i a b d
    have e : evF Tryz.prog own1 10 20 86 [.c (.int .i64 a), .c (.int .u64 b), .c (.int .i64 d)] ⟨[], []⟩ (fun v H₁ => match v with
        | .c (.ptr i 0) => (shHelp H₁ i fun x c => match chkAll [] [] [c] && headOK i c with
          | true => K (.c (.ptr H.len 0)) (H.new (.obj (.help x)))
          | false => False)
        | _ => False) := cast (by kernel_rfl) h
    exact new_ok own1_ok (mk := .help) (fun _ _ _ => shHelp_ok) rfl e
  · exact h.elim

def tab2 : List (FuncId × Hd) := [(83, h_giveStep), (76, h_placeStep), (88, h_helpStep), (77, h_placeSpot), (75, h_placeNew), (78, h_giveNew), (86, h_helpNew)] ++ tab1

def own2 : FuncId → Option Hd := look tab2

theorem all2 : AllOK tab2 := ⟨h_giveStep_ok, h_placeStep_ok, h_helpStep_ok, h_placeSpot_ok, h_placeNew_ok, h_giveNew_ok, h_helpNew_ok, all1⟩

theorem own2_ok : OwnOK Tryz.prog own2 := look_ok all2

end Go.Proofs.YtfjnkneoddankaaGreat
