/-
  Objects shut again; the contract over objects.
-/
import Derived.Test.YtfjnkneoddankaaGreatEvOpen
set_option linter.unusedVariables false
set_option linter.unusedSimpArgs false
set_option linter.unusedSectionVars false
namespace Go.FL

/-- The blocks of the names 'c' are those of an object. -/
def Clus (H : LH) (c : List Nat) (x : Bool × Ob) : Prop :=
  c.length = (exB x).length ∧ ∀ (j : Nat) (b : LB), (exB x)[j]? = some b → b.low c.length = true ∧ ∃ m : Nat, c[j]? = some m ∧ H.bl[m]? = some (b.ren fun i => c.getD i 0)

theorem fold_obj {s : Mp} {r : Nat} {f : List Nat} {h : Array Obj} {x : Ob} {b : Bool} {sx : Mp} (h0 : hd sx 0 = some r) (hf : ∀ y, (y = r ∨ y ∈ f) ↔ ∃ n, ownB sx n y) (hlen : sx.length = (exB (b, x)).length) (hdx : Disj sx)
    (hb : ∀ (i : Nat) (b' : LB) (q : Nat) (g : List Nat), (exB (b, x))[i]? = some b' → sx[i]? = some (q, g) → RelB sx b' q g h) : RelB s (.obj x) r f h := by
  cases b with
  | true => exact .obj sx h0 hf hlen hdx hb
  | false =>
    obtain ⟨g, hg⟩ := hd_some h0
    cases hb 0 _ r g rfl hg with
    | obj s2 h0' hf' hlen' hdx' hb' =>
      refine .obj s2 h0' ?_ hlen' hdx' hb'
      intro y
      rw [hf y, ← hf' y]
      constructor
      · rintro ⟨n, q, k, hn, hy⟩
        have hn0 : n = 0 := by
          have := (List.getElem?_eq_some_iff.1 hn).1
          rw [hlen] at this
          simp [exB] at this; omega
        subst hn0
        rw [hg] at hn; cases hn
        exact hy
      · intro hy; exact ⟨0, r, g, hg, hy⟩

/-- What belongs to a cluster. -/
def ent (s : Mp) (c : List Nat) : Nat × List Nat := ((hd s (c.getD 0 0)).getD 0, (c.map fun m => (s[m]?).getD (0, [])).flatMap fun p => p.1 :: p.2)

theorem clus_rel {s : Mp} {H : LH} {w : World} (hH : Rel s H w) {c : List Nat} {x : Bool × Ob} (hc : Clus H c x) (hnd : c.Nodup) {m0 : Nat} (h0 : c[0]? = some m0) (s' : Mp) :
    hd s m0 = some (ent s c).1 ∧ RelB s' (.obj x.2) (ent s c).1 (ent s c).2 w.heap ∧ ∀ y, (y = (ent s c).1 ∨ y ∈ (ent s c).2) ↔ ∃ m, m ∈ c ∧ ownB s m y := by
  obtain ⟨hcl, hcb⟩ := hc
  have hin : ∀ (j m : Nat), c[j]? = some m → ∃ p, s[m]? = some p := by
    intro j m hj
    have hjl : j < (exB x).length := by rw [← hcl]; exact (List.getElem?_eq_some_iff.1 hj).1
    obtain ⟨_, m', h1, h2⟩ := hcb j _ (List.getElem?_eq_getElem hjl)
    rw [hj] at h1; cases h1
    have := (List.getElem?_eq_some_iff.1 h2).1
    rw [← hH.len] at this
    exact ⟨_, List.getElem?_eq_getElem this⟩
  let sx : Mp := c.map fun m => (s[m]?).getD (0, [])
  have hsx : ∀ (j m : Nat) p, c[j]? = some m → s[m]? = some p → sx[j]? = some p := by
    intro j m p hj hm
    simp [sx, hj, hm]
  have hsx' : ∀ (j : Nat) p, sx[j]? = some p → ∃ m, c[j]? = some m ∧ s[m]? = some p := by
    intro j p hj
    simp only [sx, List.getElem?_map] at hj
    cases hx : c[j]? with
    | none => rw [hx] at hj; cases hj
    | some m =>
      rw [hx] at hj
      obtain ⟨p', hp'⟩ := hin j m hx
      simp [hp'] at hj
      subst hj
      exact ⟨m, rfl, hp'⟩
  have hown : ∀ j y, ownB sx j y ↔ ∃ m, c[j]? = some m ∧ ownB s m y := by
    intro j y
    constructor
    · rintro ⟨r, f, h, hy⟩
      obtain ⟨m, h1, h2⟩ := hsx' j _ h
      exact ⟨m, h1, r, f, h2, hy⟩
    · rintro ⟨m, h1, r, f, h2, hy⟩
      exact ⟨r, f, hsx j m _ h1 h2, hy⟩
  obtain ⟨⟨r, f0⟩, hp0⟩ := hin 0 m0 h0
  have hent : ent s c = (r, sx.flatMap fun p => p.1 :: p.2) := by
    unfold ent
    have : c.getD 0 0 = m0 := by simp [List.getD, h0]
    rw [this, hd_of hp0]
    rfl
  rw [hent]
  refine ⟨hd_of hp0, ?_, ?_⟩
  · have hmem : ∀ y, (y = r ∨ y ∈ sx.flatMap fun p => p.1 :: p.2) ↔ ∃ n, ownB sx n y := by
      intro y
      have h1 : y ∈ sx.flatMap (fun p => p.1 :: p.2) ↔ ∃ n, ownB sx n y := by
        rw [List.mem_flatMap]
        constructor
        · rintro ⟨⟨q, g⟩, hq, hy⟩
          obtain ⟨n, hn⟩ := List.getElem?_of_mem hq
          exact ⟨n, q, g, hn, by simpa using hy⟩
        · rintro ⟨n, q, g, hn, hy⟩
          exact ⟨(q, g), List.mem_of_getElem? hn, by simpa using hy⟩
      rw [h1]
      constructor
      · rintro (rfl | h)
        · exact ⟨0, (hown 0 y).2 ⟨m0, h0, y, f0, hp0, .inl rfl⟩⟩
        · exact h
      · exact .inr
    refine fold_obj (b := x.1) (hd_of (hsx 0 m0 _ h0 hp0)) hmem (by simp [sx, hcl]) ?_ ?_
    · intro a b y ha hb
      obtain ⟨m, h1, h2⟩ := (hown a y).1 ha
      obtain ⟨m', h3, h4⟩ := (hown b y).1 hb
      have := hH.dis m m' y h2 h4
      subst this
      obtain ⟨ha', ha''⟩ := List.getElem?_eq_some_iff.1 h1
      obtain ⟨hb', hb''⟩ := List.getElem?_eq_some_iff.1 h3
      exact (List.getElem_inj hnd).1 (ha''.trans hb''.symm)
    · intro i b' q g hi hs
      obtain ⟨m, h1, h2⟩ := hsx' i _ hs
      obtain ⟨hlow, m', h3, h4⟩ := hcb i b' hi
      rw [h1] at h3; cases h3
      refine RelB.unren (k := c.length) ?_ hlow (hH.blk m _ q g h4 h2)
      intro n z hn hz
      have hcn : c[n]? = some (c.getD n 0) := by simp [List.getElem?_eq_getElem hn, List.getD]
      obtain ⟨k, hk⟩ := hd_some hz
      exact hd_of (hsx n _ _ hcn hk)
  · intro y
    constructor
    · rintro (rfl | h)
      · exact ⟨m0, List.mem_of_getElem? h0, y, f0, hp0, .inl rfl⟩
      · rw [List.mem_flatMap] at h
        obtain ⟨⟨q, g⟩, hq, hy⟩ := h
        obtain ⟨n, hn⟩ := List.getElem?_of_mem hq
        obtain ⟨m, h1, h2⟩ := hsx' n _ hn
        exact ⟨m, List.mem_of_getElem? h1, q, g, h2, by simpa using hy⟩
    · rintro ⟨m, hm, hy⟩
      obtain ⟨j, hj⟩ := List.getElem?_of_mem hm
      obtain ⟨q, g, h2, hy⟩ := hy
      right
      rw [List.mem_flatMap]
      exact ⟨(q, g), List.mem_of_getElem? (hsx j m _ hj h2), by simpa using hy⟩

def putObs : LH → List Nat → List Ob → LH
  | H, n :: ns, x :: xs => putObs (H.put n (.obj x)) ns xs
  | H, _, _ => H

def newObs : LH → List Ob → LH
  | H, [] => H
  | H, y :: ys => newObs (H.new (.obj y)) ys

/-- How the blocks behind a walk are objects again. -/
structure CloseOK (xs : List (Bool × Ob)) (H₁ : LH) (cs : List (List Nat)) (xs' : List (Bool × Ob)) (ds : List (List Nat)) (ys : List (Bool × Ob)) : Prop where
  lc : cs.length = xs.length
  lx : xs'.length = xs.length
  ld : ds.length = ys.length
  clus : ∀ (i : Nat) (c : List Nat) (x' : Bool × Ob), cs[i]? = some c → xs'[i]? = some x' → Clus H₁ c x'
  head : ∀ (i : Nat) (c : List Nat), cs[i]? = some c → c[0]? = some (base xs i 0)
  own : ∀ (i : Nat) (c : List Nat) (x : Bool × Ob) (m : Nat), cs[i]? = some c → xs[i]? = some x → m ∈ c → m < (cat xs 0).length → base xs i 0 ≤ m ∧ m < base xs i 0 + (exB x).length
  dclus : ∀ (j : Nat) (d : List Nat) (y : Bool × Ob), ds[j]? = some d → ys[j]? = some y → Clus H₁ d y
  dhead : ∀ (j : Nat) (d : List Nat), ds[j]? = some d → ∃ m, d[0]? = some m
  down : ∀ (j : Nat) (d : List Nat) (m : Nat), ds[j]? = some d → m ∈ d → (cat xs 0).length ≤ m
  nodup : (cs.flatten ++ ds.flatten).Nodup

theorem putObs_bl : ∀ (ns : List Nat) (xs : List Ob) (H : LH), ns.length = xs.length → ns.Nodup → (∀ n ∈ ns, n < H.bl.length) → (putObs H ns xs).bl.length = H.bl.length ∧
    (∀ (i n : Nat) (x : Ob), ns[i]? = some n → xs[i]? = some x → (putObs H ns xs).bl[n]? = some (.obj x)) ∧ (∀ n : Nat, n ∉ ns → (putObs H ns xs).bl[n]? = H.bl[n]?) ∧
    (∀ n, n ∈ (putObs H ns xs).wr ↔ n ∈ ns ∨ n ∈ H.wr)
  | [], [], H, _, _, _ => ⟨rfl, by simp, fun _ _ => rfl, by simp [putObs]⟩
  | [], _ :: _, _, h, _, _ => by simp at h
  | _ :: _, [], _, h, _, _ => by simp at h
  | n :: ns, x :: xs, H, hl, hnd, hlt => by
    obtain ⟨h1, h2, h3, h4⟩ := putObs_bl ns xs (H.put n (.obj x)) (by simpa using hl) (List.nodup_cons.1 hnd).2 (fun m hm => by simpa [LH.put, lset_eq] using hlt m (by simp [hm]))
    have hn : n < H.bl.length := hlt n (by simp)
    have hnn := (List.nodup_cons.1 hnd).1
    simp only [putObs]
    refine ⟨by rw [h1]; simp [LH.put, lset_eq], ?_, ?_, ?_⟩
    · intro i m y hm hy
      cases i with
      | zero =>
        simp at hm hy
        subst hm; subst hy
        rw [h3 n hnn]
        simp [LH.put, lset_eq, hn]
      | succ i => exact h2 i m y (by simpa using hm) (by simpa using hy)
    · intro m hm
      simp only [List.mem_cons, not_or] at hm
      rw [h3 m hm.2]
      simp only [LH.put, lset_eq, List.getElem?_set]
      rw [if_neg (fun h => hm.1 h.symm)]
    · intro m
      rw [h4 m]
      simp only [LH.put, List.mem_cons]
      constructor
      · rintro (h | h | h)
        · exact .inl (.inr h)
        · exact .inl (.inl h)
        · exact .inr h
      · rintro ((h | h) | h)
        · exact .inr (.inl h)
        · exact .inl h
        · exact .inr (.inr h)

theorem newObs_bl : ∀ (ys : List Ob) (H : LH), (newObs H ys).bl = H.bl ++ ys.map .obj ∧ (newObs H ys).wr = H.wr
  | [], H => by simp [newObs]
  | y :: ys, H => by
    obtain ⟨h1, h2⟩ := newObs_bl ys (H.new (.obj y))
    simp only [newObs]
    rw [h1, h2]
    simp [LH.new]

def setE : Mp → List Nat → List (Nat × List Nat) → Mp
  | s, n :: ns, e :: es => setE (s.set n e) ns es
  | s, _, _ => s

theorem setE_get : ∀ (ns : List Nat) (es : List (Nat × List Nat)) (s : Mp), ns.length = es.length → ns.Nodup → (∀ n ∈ ns, n < s.length) → (setE s ns es).length = s.length ∧
    (∀ (i n : Nat) e, ns[i]? = some n → es[i]? = some e → (setE s ns es)[n]? = some e) ∧ (∀ n : Nat, n ∉ ns → (setE s ns es)[n]? = s[n]?)
  | [], [], s, _, _, _ => ⟨rfl, by simp, fun _ _ => rfl⟩
  | [], _ :: _, _, h, _, _ => by simp at h
  | _ :: _, [], _, h, _, _ => by simp at h
  | n :: ns, e :: es, s, hl, hnd, hlt => by
    obtain ⟨h1, h2, h3⟩ := setE_get ns es (s.set n e) (by simpa using hl) (List.nodup_cons.1 hnd).2 (fun m hm => by simpa using hlt m (by simp [hm]))
    have hn : n < s.length := hlt n (by simp)
    have hnn := (List.nodup_cons.1 hnd).1
    simp only [setE]
    refine ⟨by rw [h1]; simp, ?_, ?_⟩
    · intro i m y hm hy
      cases i with
      | zero =>
        simp at hm hy
        subst hm; subst hy
        rw [h3 n hnn]
        simp [hn]
      | succ i => exact h2 i m y (by simpa using hm) (by simpa using hy)
    · intro m hm
      simp only [List.mem_cons, not_or] at hm
      rw [h3 m hm.2, List.getElem?_set, if_neg (fun h => hm.1 h.symm)]

theorem nodup_flatten_disj {ls : List (List Nat)} (h : ls.flatten.Nodup) : ∀ (i j : Nat) (a b : List Nat) (m : Nat), ls[i]? = some a → ls[j]? = some b → m ∈ a → m ∈ b → i = j := by
  induction ls with
  | nil => intro i j a b m h1; simp at h1
  | cons l ls ih =>
    rw [List.flatten_cons, List.nodup_append] at h
    intro i j a b m h1 h2 ha hb
    have hmem : ∀ (k : Nat) (c : List Nat), ls[k]? = some c → m ∈ c → m ∈ ls.flatten := fun k c hk hc => List.mem_flatten.2 ⟨c, List.mem_of_getElem? hk, hc⟩
    cases i with
    | zero =>
      cases j with
      | zero => rfl
      | succ j =>
        simp at h1 h2
        subst h1
        exact absurd rfl (h.2.2 m ha m (hmem j b h2 hb))
    | succ i =>
      cases j with
      | zero =>
        simp at h1 h2
        subst h2
        exact absurd rfl (h.2.2 m hb m (hmem i a h1 ha))
      | succ j =>
        simp at h1 h2
        rw [ih h.2.1 i j a b m h1 h2 ha hb]

theorem nodup_of_flatten {ls : List (List Nat)} (h : ls.flatten.Nodup) {l : List Nat} (hl : l ∈ ls) : l.Nodup := by
  induction ls with
  | nil => simp at hl
  | cons a ls ih =>
    rw [List.flatten_cons, List.nodup_append] at h
    rcases List.mem_cons.1 hl with rfl | hl
    · exact h.1
    · exact ih h.2.1 hl

theorem CSpec.objs {P : Program} {f : FuncId} {args args₁ : List LV} {H : LH} {K K₁ : LV → LH → Prop} {ns : List Nat} {xs : List (Bool × Ob)} (hl : ns.length = xs.length)
    (hget : ∀ (i n : Nat) (x : Bool × Ob), ns[i]? = some n → xs[i]? = some x → H.bl[n]? = some (.obj x.2)) (hnd : ns.Nodup)
    (hargs : ∀ (s s₁ : Mp) (vs : List Value), (∀ (i n : Nat), ns[i]? = some n → hd s₁ (base xs i 0) = hd s n) → RelVs s args vs → RelVs s₁ args₁ vs)
    (hc : CSpec P f args₁ ⟨cat xs 0, []⟩ K₁)
    (hK : ∀ v₁ H₁, K₁ v₁ H₁ → ∃ cs xs' ds ys v, CloseOK xs H₁ cs xs' ds ys ∧
      (∀ (s₁ s' : Mp) (v' : Value), (∀ (i n : Nat), ns[i]? = some n → hd s' n = hd s₁ (base xs i 0)) → (∀ (j : Nat) (d : List Nat) (m : Nat), ds[j]? = some d → d[0]? = some m → hd s' (H.len + j) = hd s₁ m) → RelV s₁ v₁ v' → RelV s' v v') ∧
      K v (newObs (putObs H ns (xs'.map (·.2))) (ys.map (·.2)))) : CSpec P f args H K := by
  intro s vs w hr hH
  obtain ⟨s₁, hop⟩ := open_rel hH ns xs 0 hl hget hnd
  have hheads : ∀ (i n : Nat), ns[i]? = some n → hd s₁ (base xs i 0) = hd s n := fun i n hi => by simpa using (hop.heads i n hi).1
  have hlt : ∀ n ∈ ns, n < H.bl.length := by
    intro n hn
    obtain ⟨i, hi⟩ := List.getElem?_of_mem hn
    have hil : i < xs.length := by rw [← hl]; exact (List.getElem?_eq_some_iff.1 hi).1
    exact (List.getElem?_eq_some_iff.1 (hget i n _ hi (List.getElem?_eq_getElem hil))).1
  refine (hc s₁ vs w (hargs s s₁ vs hheads hr) (hop.rel hH)).mono ?_
  intro e w' he
  cases e with
  | panicked c => exact he.elim
  | outgrown => exact he.elim
  | returned v' =>
    obtain ⟨s₂, v₁, H₁, hk, hv, hR, hp⟩ := he
    obtain ⟨cs, xs', ds, ys, v, hcl, hvv, hKv⟩ := hK v₁ H₁ hk
    have hlc := hcl.lc; have hlx := hcl.lx; have hld := hcl.ld
    have hlt' : ∀ n ∈ ns, n < s.length := fun n hn => by rw [hH.len]; exact hlt n hn
    obtain ⟨e1, e2, e3⟩ := setE_get ns (cs.map (ent s₂)) s (by simp [hl, hlc]) hnd hlt'
    obtain ⟨p1, p2, p3, p4⟩ := putObs_bl ns (xs'.map (·.2)) H (by simp [hl, hlx]) hnd hlt
    obtain ⟨q1, q2⟩ := newObs_bl (ys.map (·.2)) (putObs H ns (xs'.map (·.2)))
    have hflat : (cs.flatten).Nodup := (List.nodup_append.1 hcl.nodup).1
    have hflatd : (ds.flatten).Nodup := (List.nodup_append.1 hcl.nodup).2.1
    have hcd : ∀ (i j : Nat) (c d : List Nat) (m : Nat), cs[i]? = some c → ds[j]? = some d → m ∈ c → m ∈ d → False := fun i j c d m h1 h2 h3 h4 =>
      (List.nodup_append.1 hcl.nodup).2.2 m (List.mem_flatten.2 ⟨c, List.mem_of_getElem? h1, h3⟩) m (List.mem_flatten.2 ⟨d, List.mem_of_getElem? h2, h4⟩) rfl
    have hcat : s₁.length = (cat xs 0).length := hop.len
    -- the new map
    let s' : Mp := setE s ns (cs.map (ent s₂)) ++ ds.map (ent s₂)
    have hs'l : (setE s ns (cs.map (ent s₂))).length = s.length := e1
    have hidx : ∀ (i n : Nat), ns[i]? = some n → ∃ c x x', cs[i]? = some c ∧ xs[i]? = some x ∧ xs'[i]? = some x' ∧ s'[n]? = some (ent s₂ c) := by
      intro i n hi
      have h1 : i < ns.length := (List.getElem?_eq_some_iff.1 hi).1
      have h2 : i < cs.length := by omega
      have h3 : i < xs.length := by omega
      have h4 : i < xs'.length := by omega
      refine ⟨_, _, _, List.getElem?_eq_getElem h2, List.getElem?_eq_getElem h3, List.getElem?_eq_getElem h4, ?_⟩
      show (setE s ns (cs.map (ent s₂)) ++ ds.map (ent s₂))[n]? = _
      rw [List.getElem?_append_left (by rw [hs'l]; exact hlt' n (List.mem_of_getElem? hi))]
      exact e2 i n _ hi (by simp [List.getElem?_eq_getElem h2])
    have hother : ∀ (n : Nat), n < s.length → n ∉ ns → s'[n]? = s[n]? := by
      intro n hn hno
      show (setE s ns (cs.map (ent s₂)) ++ ds.map (ent s₂))[n]? = _
      rw [List.getElem?_append_left (by rw [hs'l]; exact hn)]
      exact e3 n hno
    have hnew : ∀ (n : Nat) p, s.length ≤ n → s'[n]? = some p → ∃ d y, ds[n - s.length]? = some d ∧ ys[n - s.length]? = some y ∧ p = ent s₂ d := by
      intro n p hn hp
      have hp : (setE s ns (cs.map (ent s₂)) ++ ds.map (ent s₂))[n]? = some p := hp
      rw [List.getElem?_append_right (by rw [hs'l]; exact hn), hs'l, List.getElem?_map] at hp
      cases hx : ds[n - s.length]? with
      | none => rw [hx] at hp; cases hp
      | some d =>
        rw [hx] at hp; cases hp
        have h2 : n - s.length < ys.length := by rw [← hld]; exact (List.getElem?_eq_some_iff.1 hx).1
        exact ⟨d, _, rfl, List.getElem?_eq_getElem h2, rfl⟩
    have hcr : ∀ (i : Nat) (c : List Nat) (x' : Bool × Ob), cs[i]? = some c → xs'[i]? = some x' → hd s₂ (base xs i 0) = some (ent s₂ c).1 ∧ RelB s' (.obj x'.2) (ent s₂ c).1 (ent s₂ c).2 w'.heap ∧ ∀ y, (y = (ent s₂ c).1 ∨ y ∈ (ent s₂ c).2) ↔ ∃ m, m ∈ c ∧ ownB s₂ m y :=
      fun i c x' h1 h2 => clus_rel hR (hcl.clus i c x' h1 h2) (nodup_of_flatten hflat (List.mem_of_getElem? h1)) (hcl.head i c h1) s'
    have hdr : ∀ (j : Nat) (d : List Nat) (y : Bool × Ob), ds[j]? = some d → ys[j]? = some y → ∃ m0, d[0]? = some m0 ∧ hd s₂ m0 = some (ent s₂ d).1 ∧ RelB s' (.obj y.2) (ent s₂ d).1 (ent s₂ d).2 w'.heap ∧ ∀ z, (z = (ent s₂ d).1 ∨ z ∈ (ent s₂ d).2) ↔ ∃ m, m ∈ d ∧ ownB s₂ m z := by
      intro j d y h1 h2
      obtain ⟨m0, hm0⟩ := hcl.dhead j d h1
      obtain ⟨a1, a2, a3⟩ := clus_rel hR (hcl.dclus j d y h1 h2) (nodup_of_flatten hflatd (List.mem_of_getElem? h1)) hm0 s'
      exact ⟨m0, hm0, a1, a2, a3⟩
    -- who owns what
    have own1 : ∀ (i n : Nat) (c : List Nat) (y : Nat), ns[i]? = some n → cs[i]? = some c → (ownB s' n y ↔ ∃ m, m ∈ c ∧ ownB s₂ m y) := by
      intro i n c y hi hc'
      obtain ⟨c', x, x', h1, h2, h3, h4⟩ := hidx i n hi
      rw [hc'] at h1; cases h1
      rw [← (hcr i c x' hc' h3).2.2 y]
      constructor
      · rintro ⟨r, g, h5, hy⟩
        rw [h4] at h5
        have h5 := Option.some.inj h5
        rw [h5]; exact hy
      · intro hy; exact ⟨_, _, h4, hy⟩
    have own2 : ∀ (n y : Nat), n < s.length → n ∉ ns → (ownB s' n y ↔ ownB s n y) := by
      intro n y hn hno
      unfold ownB
      rw [hother n hn hno]
    have own3 : ∀ (n y : Nat), s.length ≤ n → ownB s' n y → ∃ d m, ds[n - s.length]? = some d ∧ m ∈ d ∧ ownB s₂ m y := by
      rintro n y hn ⟨r, g, h5, hy⟩
      obtain ⟨d, y', h1, h2, h3⟩ := hnew n _ hn h5
      obtain ⟨m0, _, _, _, h4⟩ := hdr _ d y' h1 h2
      rw [← h3] at h4
      obtain ⟨m, hm, ho⟩ := (h4 y).1 hy
      exact ⟨d, m, h1, hm, ho⟩
    -- an old block of a cluster is an old block of the object
    have oldOwn : ∀ (i n : Nat) (c : List Nat) (m y : Nat), ns[i]? = some n → cs[i]? = some c → m ∈ c → ownB s₂ m y → y < w.heap.size → ownB s n y := by
      intro i n c m y hi hc' hm ho hy
      obtain ⟨hml, ho1⟩ := hp.fresh m y ho hy
      obtain ⟨c', x, x', h1, h2, h3, h4⟩ := hidx i n hi
      rw [hc'] at h1; cases h1
      obtain ⟨k, n', xk, h5, h6, h7, h8, h9⟩ := hop.own m y ho1
      obtain ⟨h10, h11⟩ := hcl.own i c x m hc' h2 hm (by rw [← hcat]; exact hml)
      -- the ranges are apart
      have hki : k = i := by
        have rng : ∀ (zs : List (Bool × Ob)) (a b o : Nat) (u v : Bool × Ob), a < b → zs[a]? = some u → zs[b]? = some v → base zs a o + (exB u).length ≤ base zs b o := by
          intro zs
          induction zs with
          | nil => intro a b o u v _ h; simp at h
          | cons z zs ih =>
            intro a b o u v hab hu hv
            cases b with
            | zero => omega
            | succ b =>
              cases a with
              | zero =>
                simp at hu; subst hu
                simp only [base]
                exact base_ge zs b _
              | succ a =>
                simp only [base]
                exact ih a b _ u v (by omega) (by simpa using hu) (by simpa using hv)
        rcases Nat.lt_trichotomy k i with hlt | heq | hgt
        · have := rng xs k i 0 xk x hlt h6 h2; omega
        · exact heq
        · have := rng xs i k 0 x xk hgt h2 h6; omega
      subst hki
      rw [hi] at h5; cases h5
      exact h9
    have dNew : ∀ (j : Nat) (d : List Nat) (m y : Nat), ds[j]? = some d → m ∈ d → ownB s₂ m y → w.heap.size ≤ y := by
      intro j d m y hj hm ho
      rcases Nat.lt_or_ge y w.heap.size with hy | hy
      · have := (hp.fresh m y ho hy).1
        have := hcl.down j d m hj hm
        omega
      · exact hy
    have hframe : ∀ y, y < w.heap.size → (∀ n ∈ ns, ¬ ownB s n y) → w'.heap[y]? = w.heap[y]? := by
      intro y hy hno
      refine hp.frame y hy fun m _ ho => ?_
      obtain ⟨i, n, x, h1, _, _, _, h5⟩ := hop.own m y ho
      exact hno n (List.mem_of_getElem? h1) h5
    have hext : HExt s s' := by
      intro n r hr'
      have hn := hd_lt hr'
      by_cases hmem : n ∈ ns
      · obtain ⟨i, hi⟩ := List.getElem?_of_mem hmem
        obtain ⟨c, x, x', h1, h2, h3, h4⟩ := hidx i n hi
        have h5 := (hcr i c x' h1 h3).1
        have h6 := hp.hext (base xs i 0) r (by rw [hheads i n hi]; exact hr')
        rw [h5] at h6; cases h6
        exact hd_of h4
      · unfold hd at hr' ⊢
        rw [hother n hn hmem]; exact hr'
    have hHbl : ∀ (n : Nat), n < H.bl.length → (newObs (putObs H ns (xs'.map (·.2))) (ys.map (·.2))).bl[n]? = (putObs H ns (xs'.map (·.2))).bl[n]? := by
      intro n hn
      rw [q1, List.getElem?_append_left (by rw [p1]; exact hn)]
    have hs'len : s'.length = s.length + ds.length := by
      show (setE s ns (cs.map (ent s₂)) ++ ds.map (ent s₂)).length = _
      simp [hs'l]
    have hrel : Rel s' (newObs (putObs H ns (xs'.map (·.2))) (ys.map (·.2))) w' := by
      refine ⟨?_, ?_, ?_, ?_⟩
      · rw [hs'len, q1]; simp [p1, hH.len, hld]
      · intro n b r g hb hs'n
        rcases Nat.lt_or_ge n s.length with hn | hn
        · rw [hHbl n (by rw [← hH.len]; exact hn)] at hb
          by_cases hmem : n ∈ ns
          · obtain ⟨i, hi⟩ := List.getElem?_of_mem hmem
            obtain ⟨c, x, x', h1, h2, h3, h4⟩ := hidx i n hi
            rw [h4] at hs'n
            have := p2 i n x'.2 hi (by simp [h3])
            rw [this] at hb; cases hb
            have h5 := (hcr i c x' h1 h3).2.1
            have hs'n := Option.some.inj hs'n
            rw [hs'n] at h5
            exact h5
          · rw [hother n hn hmem] at hs'n
            rw [p3 n hmem] at hb
            refine ((hH.blk n b r g hb hs'n).mono hext).local fun y hy => ?_
            have hoy : ownB s n y := ⟨r, g, hs'n, hy⟩
            refine hframe y (hH.bnd n y hoy) fun n' hn' ho' => ?_
            have := hH.dis n n' y hoy ho'
            subst this
            exact hmem hn'
        · obtain ⟨d, y, h1, h2, h3⟩ := hnew n _ hn hs'n
          obtain ⟨m0, _, _, h4, _⟩ := hdr _ d y h1 h2
          rw [← h3] at h4
          rw [q1, List.getElem?_append_right (by rw [p1, ← hH.len]; exact hn), p1, ← hH.len, List.getElem?_map, List.getElem?_map, h2] at hb
          cases hb
          exact h4
      · intro a b y ha hb
        -- one of three kinds each
        have kinds : ∀ (n : Nat), ownB s' n y → (n < s.length ∧ n ∉ ns ∧ ownB s n y) ∨ (∃ (i : Nat) (c : List Nat) (m : Nat), ns[i]? = some n ∧ cs[i]? = some c ∧ m ∈ c ∧ ownB s₂ m y) ∨ (s.length ≤ n ∧ ∃ d m, ds[n - s.length]? = some d ∧ m ∈ d ∧ ownB s₂ m y) := by
          intro n hn
          rcases Nat.lt_or_ge n s.length with hlt2 | hge
          · by_cases hmem : n ∈ ns
            · obtain ⟨i, hi⟩ := List.getElem?_of_mem hmem
              obtain ⟨c, x, x', h1, h2, h3, h4⟩ := hidx i n hi
              obtain ⟨m, hm, ho⟩ := (own1 i n c y hi h1).1 hn
              exact .inr (.inl ⟨i, c, m, hi, h1, hm, ho⟩)
            · exact .inl ⟨hlt2, hmem, (own2 n y hlt2 hmem).1 hn⟩
          · obtain ⟨d, m, h1, h2, h3⟩ := own3 n y hge hn
            exact .inr (.inr ⟨hge, d, m, h1, h2, h3⟩)
        rcases kinds a ha with ⟨a1, a2, a3⟩ | ⟨i, c, m, a1, a2, a3, a4⟩ | ⟨a1, d, m, a2, a3, a4⟩ <;>
          rcases kinds b hb with ⟨b1, b2, b3⟩ | ⟨i', c', m', b1, b2, b3, b4⟩ | ⟨b1, d', m', b2, b3, b4⟩
        · exact hH.dis a b y a3 b3
        · have := oldOwn i' b c' m' y b1 b2 b3 b4 (hH.bnd a y a3)
          exact hH.dis a b y a3 this
        · have := dNew _ d' m' y b2 b3 b4
          have := hH.bnd a y a3; omega
        · have := oldOwn i a c m y a1 a2 a3 a4 (hH.bnd b y b3)
          exact hH.dis a b y this b3
        · have := hR.dis m m' y a4 b4
          subst this
          have := nodup_flatten_disj hflat i i' c c' m a2 b2 a3 b3
          subst this
          rw [a1] at b1; exact Option.some.inj b1
        · have := hR.dis m m' y a4 b4
          subst this
          exact (hcd i _ c d' m a2 b2 a3 b3).elim
        · have := dNew _ d m y a2 a3 a4
          have := hH.bnd b y b3; omega
        · have := hR.dis m m' y a4 b4
          subst this
          exact (hcd i' _ c' d m b2 a2 b3 a3).elim
        · have := hR.dis m m' y a4 b4
          subst this
          have := nodup_flatten_disj hflatd _ _ d d' m a2 b2 a3 b3
          omega
      · intro n y hn
        rcases Nat.lt_or_ge n s.length with hlt2 | hge
        · by_cases hmem : n ∈ ns
          · obtain ⟨i, hi⟩ := List.getElem?_of_mem hmem
            obtain ⟨c, x, x', h1, h2, h3, h4⟩ := hidx i n hi
            obtain ⟨m, hm, ho⟩ := (own1 i n c y hi h1).1 hn
            exact hR.bnd m y ho
          · exact Nat.lt_of_lt_of_le (hH.bnd n y ((own2 n y hlt2 hmem).1 hn)) hp.size
        · obtain ⟨d, m, h1, h2, h3⟩ := own3 n y hge hn
          exact hR.bnd m y h3
    refine ⟨s', v, _, hKv, ?_, hrel, ?_⟩
    · refine hvv s₂ s' v' ?_ ?_ hv
      · intro i n hi
        obtain ⟨c, x, x', h1, h2, h3, h4⟩ := hidx i n hi
        rw [(hcr i c x' h1 h3).1]
        exact hd_of h4
      · intro j d m hj hm
        have hjl : j < ys.length := by rw [← hld]; exact (List.getElem?_eq_some_iff.1 hj).1
        obtain ⟨m0, h1, h2, _, _⟩ := hdr j d _ hj (List.getElem?_eq_getElem hjl)
        rw [hm] at h1; cases h1
        rw [h2, LH.len_eq, ← hH.len]
        refine hd_of (f := (ent s₂ d).2) ?_
        show (setE s ns (cs.map (ent s₂)) ++ ds.map (ent s₂))[s.length + j]? = _
        rw [List.getElem?_append_right (by rw [hs'l]; omega), hs'l, Nat.add_sub_cancel_left, List.getElem?_map, hj]
        rfl
    · refine ⟨hext, by rw [hs'len]; omega, ?_, ?_, ?_, hp.size, ?_, hp.tape, hp.os, hp.output⟩
      · intro n y hn hy
        rcases Nat.lt_or_ge n s.length with hlt2 | hge
        · refine ⟨hlt2, ?_⟩
          by_cases hmem : n ∈ ns
          · obtain ⟨i, hi⟩ := List.getElem?_of_mem hmem
            obtain ⟨c, x, x', h1, h2, h3, h4⟩ := hidx i n hi
            obtain ⟨m, hm, ho⟩ := (own1 i n c y hi h1).1 hn
            exact oldOwn i n c m y hi h1 hm ho hy
          · exact (own2 n y hlt2 hmem).1 hn
        · obtain ⟨d, m, h1, h2, h3⟩ := own3 n y hge hn
          have := dNew _ d m y h1 h2 h3
          omega
      · intro n hn hw
        refine hother n hn fun hmem => hw ?_
        rw [q2]
        exact (p4 n).2 (.inl hmem)
      · intro n hn
        rw [q2]
        exact (p4 n).2 (.inr hn)
      · intro y hy hno
        refine hframe y hy fun n hn => hno n ?_
        rw [q2]
        exact (p4 n).2 (.inl hn)

end Go.FL
