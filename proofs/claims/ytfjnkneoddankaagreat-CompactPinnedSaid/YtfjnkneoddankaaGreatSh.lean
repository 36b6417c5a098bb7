/-
  Blocks read as objects again.
-/
import Derived.Test.YtfjnkneoddankaaGreatEvClose
set_option linter.unusedVariables false
set_option linter.unusedSimpArgs false
namespace Go.FL

/-- api.Config. -/
structure PCfg where
  threads : Int
  slots : Int
  chunks : Int
  words : Int
  gens : Int
  sparse : Int
  tries : Int

def shF (H : LH) (n : Nat) (k : Ob → List Nat → Prop) : Prop := match H.get n with
  | some (.obj x) => k x [n]
  | _ => False

def shMem (H : LH) (n : Nat) (k : PMem → List Nat → Prop) : Prop := match H.get n with
  | some (.cells 89 [.slice i 0 n1 n2, .slice j 0 n3 n4, .int .i64 steps, .int .i64 who, .int .i64 la, .int .i64 lw, .bool lc]) =>
    match H.get i, H.get j with
    | some (.ints 32 .u64 n5 w), some (.ints 3 .i64 n6 t) => (n1 = n5 ∧ n2 = n5 ∧ n3 = n5 ∧ n4 = n5 ∧ n6 = n5) ∧ k ⟨n5, w, t, steps, who, la, lw, lc⟩ [n, i, j]
    | _, _ => False
  | _ => False

def shIn (H : LH) (n : Nat) (k : PIn → List Nat → Prop) : Prop := match H.get n with
  | some (.cells 59 [.int .i64 a, .int .u64 b]) => k ⟨a, b⟩ [n]
  | _ => False

def shGive (H : LH) (n : Nat) (k : PGive → List Nat → Prop) : Prop := match H.get n with
  | some (.cells 168 [.int .i64 a, .int .i64 b, .int .u64 c]) => k ⟨a, b, c⟩ [n]
  | _ => False

def shPlace (H : LH) (n : Nat) (k : PPlace → List Nat → Prop) : Prop := match H.get n with
  | some (.cells 165 [.int .i64 a, .int .i64 b, .int .u64 c, .int .i64 d, .int .u64 e, .int .i64 f, .int .i64 g, .bool h]) => k ⟨a, b, c, d, e, f, g, h⟩ [n]
  | _ => False

def shHelp (H : LH) (n : Nat) (k : PHelp → List Nat → Prop) : Prop := match H.get n with
  | some (.cells 171 [.int .i64 a, .int .u64 b, .int .i64 c, .int .i64 d, .int .u64 e, .bool f, .bool g]) => k ⟨a, b, c, d, e, f, g⟩ [n]
  | _ => False

def shAlloc (H : LH) (n : Nat) (k : PAlloc → List Nat → Prop) : Prop := match H.get n with
  | some (.cells 124 [.int .i64 size, .bool own, .int .i64 pc, .int .i64 tpc, .int .u64 ttop, .int .i64 tnext, .int .i64 tslot, .bool tok, .int .i64 at_, .int .i64 gen, p, .int .i64 sa, .int .i64 sc, g,
      .int .i64 e, .int .u64 h, .int .i64 v, .int .i64 st]) =>
    match p, g with
    | .nilp, .nilp => k ⟨size, own, pc, ⟨tpc, ttop, tnext, tslot, tok⟩, at_, gen, none, sa, sc, none, ⟨e, h, v, st⟩⟩ [n]
    | .ptr i 0, .nilp => match H.get i with
      | some (.obj (.place p)) => k ⟨size, own, pc, ⟨tpc, ttop, tnext, tslot, tok⟩, at_, gen, some p, sa, sc, none, ⟨e, h, v, st⟩⟩ [n, i]
      | _ => False
    | .nilp, .ptr j 0 => match H.get j with
      | some (.obj (.give g)) => k ⟨size, own, pc, ⟨tpc, ttop, tnext, tslot, tok⟩, at_, gen, none, sa, sc, some g, ⟨e, h, v, st⟩⟩ [n, j]
      | _ => False
    | .ptr i 0, .ptr j 0 => match H.get i, H.get j with
      | some (.obj (.place p)), some (.obj (.give g)) => k ⟨size, own, pc, ⟨tpc, ttop, tnext, tslot, tok⟩, at_, gen, some p, sa, sc, some g, ⟨e, h, v, st⟩⟩ [n, i, j]
      | _, _ => False
    | _, _ => False
  | _ => False

def shDrop (H : LH) (n : Nat) (k : PDrop → List Nat → Prop) : Prop := match H.get n with
  | some (.cells 135 [.int .u64 m, .bool own, .int .i64 hs, .int .i64 hg, .int .i64 pc, .int .u64 w, .int .i64 size, p, g, .int .i64 e, .int .u64 h, .int .i64 v, .int .i64 st]) =>
    match p, g with
    | .nilp, .nilp => k ⟨m, own, hs, hg, pc, w, size, none, none, ⟨e, h, v, st⟩⟩ [n]
    | .ptr i 0, .nilp => match H.get i with
      | some (.obj (.help p)) => k ⟨m, own, hs, hg, pc, w, size, some p, none, ⟨e, h, v, st⟩⟩ [n, i]
      | _ => False
    | .nilp, .ptr j 0 => match H.get j with
      | some (.obj (.give g)) => k ⟨m, own, hs, hg, pc, w, size, none, some g, ⟨e, h, v, st⟩⟩ [n, j]
      | _ => False
    | .ptr i 0, .ptr j 0 => match H.get i, H.get j with
      | some (.obj (.help p)), some (.obj (.give g)) => k ⟨m, own, hs, hg, pc, w, size, some p, some g, ⟨e, h, v, st⟩⟩ [n, i, j]
      | _, _ => False
    | _, _ => False
  | _ => False

def shAccess (H : LH) (n : Nat) (k : PAccess → List Nat → Prop) : Prop := match H.get n with
  | some (.cells 113 [.int .i64 x1, .int .u64 x2, .int .i64 x3, .int .i64 x4, .int .i64 x5, .bool own, .int .i64 hs, .int .i64 hg, .int .i64 pc, .int .u64 w, .int .u64 cell, .int .i64 seen, .int .i64 read, .int .i64 size, p,
      .int .i64 e, .int .u64 h, .int .i64 v, .int .i64 st]) =>
    match p with
    | .nilp => k ⟨⟨x1, x2, x3, x4, x5⟩, own, hs, hg, pc, w, cell, seen, read, size, none, ⟨e, h, v, st⟩⟩ [n]
    | .ptr i 0 => match H.get i with
      | some (.obj (.help p)) => k ⟨⟨x1, x2, x3, x4, x5⟩, own, hs, hg, pc, w, cell, seen, read, size, some p, ⟨e, h, v, st⟩⟩ [n, i]
      | _ => False
    | _ => False
  | _ => False

def shAct (H : LH) (n : Nat) (k : PAct → List Nat → Prop) : Prop := match H.get n with
  | some (.cells 999999 [.int .i64 a, .int .u64 b, .int .i64 pc, .iface t (.ptr i 0), .int .i64 e, .int .u64 h, .int .i64 v, .int .i64 st]) =>
    match H.get i with
    | some (.obj (.alloc x)) => match Nat.beq t 86 with
      | true => k ⟨⟨a, b⟩, pc, .alloc x, ⟨e, h, v, st⟩⟩ [n, i]
      | false => False
    | some (.obj (.drop x)) => match Nat.beq t 96 with
      | true => k ⟨⟨a, b⟩, pc, .drop x, ⟨e, h, v, st⟩⟩ [n, i]
      | false => False
    | some (.obj (.access x)) => match Nat.beq t 76 with
      | true => k ⟨⟨a, b⟩, pc, .access x, ⟨e, h, v, st⟩⟩ [n, i]
      | false => False
    | _ => False
  | _ => False

theorem shF_ok {H : LH} {n : Nat} {k : Ob → List Nat → Prop} (h : shF H n k) : ∃ x c, k x c ∧ Clus H c (false, x) := by
  unfold shF at h
  split at h
  · rename_i x hg
    rw [LH.get_eq] at hg
    refine ⟨x, _, h, rfl, ?_⟩
    intro j b hj
    cases j with
    | zero => simp [exB] at hj; subst hj; exact ⟨rfl, n, rfl, hg⟩
    | succ j => simp [exB] at hj
  · exact h.elim

theorem clus1 {H : LH} {n : Nat} {x : Ob} {b : LB} (he : ex x = [b]) (hl : b.low 1 = true) (hg : H.get n = some (b.ren fun i => [n].getD i 0)) : Clus H [n] (true, x) := by
  refine ⟨by simp [exB, he], ?_⟩
  intro j b' hj
  simp only [exB, he] at hj
  cases j with
  | zero => simp at hj; subst hj; exact ⟨hl, n, rfl, by rw [← LH.get_eq]; exact hg⟩
  | succ j => simp at hj

theorem clus2 {H : LH} {n i : Nat} {x : Ob} {b b2 : LB} (he : ex x = [b, b2]) (hl : b.low 2 = true) (hl2 : b2.low 2 = true) (hg : H.get n = some (b.ren fun k => [n, i].getD k 0)) (hg2 : H.get i = some (b2.ren fun k => [n, i].getD k 0)) :
    Clus H [n, i] (true, x) := by
  refine ⟨by simp [exB, he], ?_⟩
  intro j b' hj
  simp only [exB, he] at hj
  match j, hj with
  | 0, hj => simp at hj; subst hj; exact ⟨hl, n, rfl, by rw [← LH.get_eq]; exact hg⟩
  | 1, hj => simp at hj; subst hj; exact ⟨hl2, i, rfl, by rw [← LH.get_eq]; exact hg2⟩
  | j + 2, hj => simp at hj

theorem clus3 {H : LH} {n i m : Nat} {x : Ob} {b b2 b3 : LB} (he : ex x = [b, b2, b3]) (hl : b.low 3 = true) (hl2 : b2.low 3 = true) (hl3 : b3.low 3 = true) (hg : H.get n = some (b.ren fun k => [n, i, m].getD k 0))
    (hg2 : H.get i = some (b2.ren fun k => [n, i, m].getD k 0)) (hg3 : H.get m = some (b3.ren fun k => [n, i, m].getD k 0)) : Clus H [n, i, m] (true, x) := by
  refine ⟨by simp [exB, he], ?_⟩
  intro j b' hj
  simp only [exB, he] at hj
  match j, hj with
  | 0, hj => simp at hj; subst hj; exact ⟨hl, n, rfl, by rw [← LH.get_eq]; exact hg⟩
  | 1, hj => simp at hj; subst hj; exact ⟨hl2, i, rfl, by rw [← LH.get_eq]; exact hg2⟩
  | 2, hj => simp at hj; subst hj; exact ⟨hl3, m, rfl, by rw [← LH.get_eq]; exact hg3⟩
  | j + 3, hj => simp at hj

theorem shMem_ok {H : LH} {n : Nat} {k : PMem → List Nat → Prop} (h : shMem H n k) : ∃ x c, k x c ∧ Clus H c (true, .mem x) := by
  unfold shMem at h
  split at h
  · rename_i hg
    split at h
    · rename_i hi hj
      obtain ⟨⟨rfl, rfl, rfl, rfl, rfl⟩, h⟩ := h
      exact ⟨_, _, h, clus3 rfl rfl rfl rfl hg hi hj⟩
    · exact h.elim
  · exact h.elim

theorem shIn_ok {H : LH} {n : Nat} {k : PIn → List Nat → Prop} (h : shIn H n k) : ∃ x c, k x c ∧ Clus H c (true, .in_ x) := by
  unfold shIn at h
  split at h
  · rename_i hg; exact ⟨_, _, h, clus1 rfl rfl hg⟩
  · exact h.elim

theorem shGive_ok {H : LH} {n : Nat} {k : PGive → List Nat → Prop} (h : shGive H n k) : ∃ x c, k x c ∧ Clus H c (true, .give x) := by
  unfold shGive at h
  split at h
  · rename_i hg; exact ⟨_, _, h, clus1 rfl rfl hg⟩
  · exact h.elim

theorem shPlace_ok {H : LH} {n : Nat} {k : PPlace → List Nat → Prop} (h : shPlace H n k) : ∃ x c, k x c ∧ Clus H c (true, .place x) := by
  unfold shPlace at h
  split at h
  · rename_i hg; exact ⟨_, _, h, clus1 rfl rfl hg⟩
  · exact h.elim

theorem shHelp_ok {H : LH} {n : Nat} {k : PHelp → List Nat → Prop} (h : shHelp H n k) : ∃ x c, k x c ∧ Clus H c (true, .help x) := by
  unfold shHelp at h
  split at h
  · rename_i hg; exact ⟨_, _, h, clus1 rfl rfl hg⟩
  · exact h.elim

theorem shAlloc_ok {H : LH} {n : Nat} {k : PAlloc → List Nat → Prop} (h : shAlloc H n k) : ∃ x c, k x c ∧ Clus H c (true, .alloc x) := by
  unfold shAlloc at h
  split at h
  · rename_i hg
    split at h
    · exact ⟨_, _, h, clus1 rfl rfl hg⟩
    · split at h
      · rename_i hi; exact ⟨_, _, h, clus2 rfl rfl rfl hg hi⟩
      · exact h.elim
    · split at h
      · rename_i hi; exact ⟨_, _, h, clus2 rfl rfl rfl hg hi⟩
      · exact h.elim
    · split at h
      · rename_i hi hj; exact ⟨_, _, h, clus3 rfl rfl rfl rfl hg hi hj⟩
      · exact h.elim
    · exact h.elim
  · exact h.elim

theorem shDrop_ok {H : LH} {n : Nat} {k : PDrop → List Nat → Prop} (h : shDrop H n k) : ∃ x c, k x c ∧ Clus H c (true, .drop x) := by
  unfold shDrop at h
  split at h
  · rename_i hg
    split at h
    · exact ⟨_, _, h, clus1 rfl rfl hg⟩
    · split at h
      · rename_i hi; exact ⟨_, _, h, clus2 rfl rfl rfl hg hi⟩
      · exact h.elim
    · split at h
      · rename_i hi; exact ⟨_, _, h, clus2 rfl rfl rfl hg hi⟩
      · exact h.elim
    · split at h
      · rename_i hi hj; exact ⟨_, _, h, clus3 rfl rfl rfl rfl hg hi hj⟩
      · exact h.elim
    · exact h.elim
  · exact h.elim

theorem shAccess_ok {H : LH} {n : Nat} {k : PAccess → List Nat → Prop} (h : shAccess H n k) : ∃ x c, k x c ∧ Clus H c (true, .access x) := by
  unfold shAccess at h
  split at h
  · rename_i hg
    split at h
    · exact ⟨_, _, h, clus1 rfl rfl hg⟩
    · split at h
      · rename_i hi; exact ⟨_, _, h, clus2 rfl rfl rfl hg hi⟩
      · exact h.elim
    · exact h.elim
  · exact h.elim

theorem shAct_ok {H : LH} {n : Nat} {k : PAct → List Nat → Prop} (h : shAct H n k) : ∃ x c, k x c ∧ Clus H c (true, .act x) := by
  unfold shAct at h
  split at h
  · rename_i hg
    split at h
    · rename_i hi
      split at h
      · rename_i ht; have ht := Nat.eq_of_beq_eq_true ht; subst ht; exact ⟨_, _, h, clus2 rfl rfl rfl hg hi⟩
      · exact h.elim
    · rename_i hi
      split at h
      · rename_i ht; have ht := Nat.eq_of_beq_eq_true ht; subst ht; exact ⟨_, _, h, clus2 rfl rfl rfl hg hi⟩
      · exact h.elim
    · rename_i hi
      split at h
      · rename_i ht; have ht := Nat.eq_of_beq_eq_true ht; subst ht; exact ⟨_, _, h, clus2 rfl rfl rfl hg hi⟩
      · exact h.elim
    · exact h.elim
  · exact h.elim

end Go.FL
