/-
  Blocks read as the compactor's objects again.
-/
import Derived.Test.YtfjnkneoddankaaGreatSh
import Derived.Test.YtfjnkneoddankaaGreatEvReab
set_option linter.unusedVariables false
set_option linter.unusedSimpArgs false
namespace Go.FL

def shMove (H : LH) (n : Nat) (k : PMove → List Nat → Prop) : Prop := match H.get n with
  | some (.cells 147 [.int .i64 addr, .int .i64 h1, .int .i64 h2, .int .i64 h3, .int .i64 h4, .bool h5, .int .i64 pc, .int .u64 w, p, .int .i64 sa, .int .i64 sc, .bool got, .int .i64 i, .int .u64 cell, .int .i64 m, .int .i64 out]) =>
    match p with
    | .nilp => k ⟨addr, ⟨h1, h2, h3, h4, h5⟩, pc, w, none, sa, sc, got, i, cell, m, out⟩ [n]
    | .ptr j 0 => match H.get j with
      | some (.obj (.place p)) => k ⟨addr, ⟨h1, h2, h3, h4, h5⟩, pc, w, some p, sa, sc, got, i, cell, m, out⟩ [n, j]
      | _ => False
    | _ => False
  | _ => False

def shAdv (H : LH) (n : Nat) (k : PAdv → List Nat → Prop) : Prop := match H.get n with
  | some (.cells 157 [.int .i64 pc, .int .u64 now, .int .i64 at_, .bool went]) => k ⟨pc, now, at_, went⟩ [n]
  | _ => False

def shSettle (H : LH) (n : Nat) (k : PSettle → List Nat → Prop) : Prop := match H.get n with
  | some (.cells 175 [.int .i64 chunk, .int .i64 pc, .int .u64 w, .int .u64 since, .int .i64 at_, .bool freed]) => k ⟨chunk, pc, w, since, at_, freed⟩ [n]
  | _ => False

theorem shMove_ok {H : LH} {n : Nat} {k : PMove → List Nat → Prop} (h : shMove H n k) : ∃ x c, k x c ∧ Clus H c (true, .move x) := by
  unfold shMove at h
  split at h
  · rename_i hg
    split at h
    · exact ⟨_, _, h, clus1 rfl rfl hg⟩
    · split at h
      · rename_i hi; exact ⟨_, _, h, clus2 rfl rfl rfl hg hi⟩
      · exact h.elim
    · exact h.elim
  · exact h.elim

theorem shAdv_ok {H : LH} {n : Nat} {k : PAdv → List Nat → Prop} (h : shAdv H n k) : ∃ x c, k x c ∧ Clus H c (true, .adv x) := by
  unfold shAdv at h
  split at h
  · rename_i hg; exact ⟨_, _, h, clus1 rfl rfl hg⟩
  · exact h.elim

theorem shSettle_ok {H : LH} {n : Nat} {k : PSettle → List Nat → Prop} (h : shSettle H n k) : ∃ x c, k x c ∧ Clus H c (true, .settle x) := by
  unfold shSettle at h
  split at h
  · rename_i hg; exact ⟨_, _, h, clus1 rfl rfl hg⟩
  · exact h.elim

theorem clusN {H : LH} {c : List Nat} {x : Ob} {bs : List LB} (he : ex x = bs) (h : blocksAt H c.length c bs c) : Clus H c (true, x) := by
  obtain ⟨h1, h2⟩ := blocksAt_get h
  refine ⟨by simp [exB, he, h1], ?_⟩
  intro j b hj
  simp only [exB, he] at hj
  exact h2 j b hj

def shComp (H : LH) (n : Nat) (k : PComp → Nat → List Nat → Prop) : Prop := match H.get n with
  | some (.cells 95 [.int .i64 pc, sl, .int .i64 at_, .int .i64 pos, .int .u64 w, .int .u64 now, pm, pa, pt, .int .i64 k1, .int .i64 k2, .int .i64 k3, .int .i64 k4, .int .i64 k5, .int .i64 l1, .int .i64 l2, .int .i64 l3, .int .i64 l4, .int .i64 l5, .int .i64 idle]) =>
    match sl with
    | .nils =>
      match pm with
      | .nilp =>
        match pa with
        | .nilp =>
          match pt with
          | .nilp => k ⟨pc, none, at_, pos, w, now, none, none, none, ⟨k1, k2, k3, k4, k5⟩, ⟨l1, l2, l3, l4, l5⟩, idle⟩ 0 [n]
          | .ptr jt 0 => match H.get jt with
            | some (.obj (.settle xpt)) => k ⟨pc, none, at_, pos, w, now, none, none, (some xpt), ⟨k1, k2, k3, k4, k5⟩, ⟨l1, l2, l3, l4, l5⟩, idle⟩ 0 [n, jt]
            | _ => False
          | _ => False
        | .ptr ja 0 => match H.get ja with
          | some (.obj (.adv xpa)) =>
            match pt with
            | .nilp => k ⟨pc, none, at_, pos, w, now, none, (some xpa), none, ⟨k1, k2, k3, k4, k5⟩, ⟨l1, l2, l3, l4, l5⟩, idle⟩ 0 [n, ja]
            | .ptr jt 0 => match H.get jt with
              | some (.obj (.settle xpt)) => k ⟨pc, none, at_, pos, w, now, none, (some xpa), (some xpt), ⟨k1, k2, k3, k4, k5⟩, ⟨l1, l2, l3, l4, l5⟩, idle⟩ 0 [n, ja, jt]
              | _ => False
            | _ => False
          | _ => False
        | _ => False
      | .ptr jm 0 => match H.get jm with
        | some (.obj (.move xpm)) =>
          match pa with
          | .nilp =>
            match pt with
            | .nilp => k ⟨pc, none, at_, pos, w, now, (some xpm), none, none, ⟨k1, k2, k3, k4, k5⟩, ⟨l1, l2, l3, l4, l5⟩, idle⟩ 0 [n, jm]
            | .ptr jt 0 => match H.get jt with
              | some (.obj (.settle xpt)) => k ⟨pc, none, at_, pos, w, now, (some xpm), none, (some xpt), ⟨k1, k2, k3, k4, k5⟩, ⟨l1, l2, l3, l4, l5⟩, idle⟩ 0 [n, jm, jt]
              | _ => False
            | _ => False
          | .ptr ja 0 => match H.get ja with
            | some (.obj (.adv xpa)) =>
              match pt with
              | .nilp => k ⟨pc, none, at_, pos, w, now, (some xpm), (some xpa), none, ⟨k1, k2, k3, k4, k5⟩, ⟨l1, l2, l3, l4, l5⟩, idle⟩ 0 [n, jm, ja]
              | .ptr jt 0 => match H.get jt with
                | some (.obj (.settle xpt)) => k ⟨pc, none, at_, pos, w, now, (some xpm), (some xpa), (some xpt), ⟨k1, k2, k3, k4, k5⟩, ⟨l1, l2, l3, l4, l5⟩, idle⟩ 0 [n, jm, ja, jt]
                | _ => False
              | _ => False
            | _ => False
          | _ => False
        | _ => False
      | _ => False
    | .slice j1 0 len cap => match H.get j1 with
      | some (.rows 138 6 len' cap' [.int .i64 c1, .int .i64 c2, .int .i64 c3, .int .i64 c4, .int .i64 c5, .bool c6]) => (len = len' ∧ cap = cap') ∧ (
        match pm with
        | .nilp =>
          match pa with
          | .nilp =>
            match pt with
            | .nilp => k ⟨pc, (some ⟨len', c1, c2, c3, c4, c5, c6⟩), at_, pos, w, now, none, none, none, ⟨k1, k2, k3, k4, k5⟩, ⟨l1, l2, l3, l4, l5⟩, idle⟩ cap' [n, j1]
            | .ptr jt 0 => match H.get jt with
              | some (.obj (.settle xpt)) => k ⟨pc, (some ⟨len', c1, c2, c3, c4, c5, c6⟩), at_, pos, w, now, none, none, (some xpt), ⟨k1, k2, k3, k4, k5⟩, ⟨l1, l2, l3, l4, l5⟩, idle⟩ cap' [n, j1, jt]
              | _ => False
            | _ => False
          | .ptr ja 0 => match H.get ja with
            | some (.obj (.adv xpa)) =>
              match pt with
              | .nilp => k ⟨pc, (some ⟨len', c1, c2, c3, c4, c5, c6⟩), at_, pos, w, now, none, (some xpa), none, ⟨k1, k2, k3, k4, k5⟩, ⟨l1, l2, l3, l4, l5⟩, idle⟩ cap' [n, j1, ja]
              | .ptr jt 0 => match H.get jt with
                | some (.obj (.settle xpt)) => k ⟨pc, (some ⟨len', c1, c2, c3, c4, c5, c6⟩), at_, pos, w, now, none, (some xpa), (some xpt), ⟨k1, k2, k3, k4, k5⟩, ⟨l1, l2, l3, l4, l5⟩, idle⟩ cap' [n, j1, ja, jt]
                | _ => False
              | _ => False
            | _ => False
          | _ => False
        | .ptr jm 0 => match H.get jm with
          | some (.obj (.move xpm)) =>
            match pa with
            | .nilp =>
              match pt with
              | .nilp => k ⟨pc, (some ⟨len', c1, c2, c3, c4, c5, c6⟩), at_, pos, w, now, (some xpm), none, none, ⟨k1, k2, k3, k4, k5⟩, ⟨l1, l2, l3, l4, l5⟩, idle⟩ cap' [n, j1, jm]
              | .ptr jt 0 => match H.get jt with
                | some (.obj (.settle xpt)) => k ⟨pc, (some ⟨len', c1, c2, c3, c4, c5, c6⟩), at_, pos, w, now, (some xpm), none, (some xpt), ⟨k1, k2, k3, k4, k5⟩, ⟨l1, l2, l3, l4, l5⟩, idle⟩ cap' [n, j1, jm, jt]
                | _ => False
              | _ => False
            | .ptr ja 0 => match H.get ja with
              | some (.obj (.adv xpa)) =>
                match pt with
                | .nilp => k ⟨pc, (some ⟨len', c1, c2, c3, c4, c5, c6⟩), at_, pos, w, now, (some xpm), (some xpa), none, ⟨k1, k2, k3, k4, k5⟩, ⟨l1, l2, l3, l4, l5⟩, idle⟩ cap' [n, j1, jm, ja]
                | .ptr jt 0 => match H.get jt with
                  | some (.obj (.settle xpt)) => k ⟨pc, (some ⟨len', c1, c2, c3, c4, c5, c6⟩), at_, pos, w, now, (some xpm), (some xpa), (some xpt), ⟨k1, k2, k3, k4, k5⟩, ⟨l1, l2, l3, l4, l5⟩, idle⟩ cap' [n, j1, jm, ja, jt]
                  | _ => False
                | _ => False
              | _ => False
            | _ => False
          | _ => False
        | _ => False
        )
      | _ => False
    | _ => False
  | _ => False

theorem shComp_ok {H : LH} {n : Nat} {k : PComp → Nat → List Nat → Prop} (h : shComp H n k) : ∃ x cap c, k x cap c ∧ Clus H c (true, .comp x cap) := by
  unfold shComp at h
  split at h
  case h_2 => exact h.elim
  rename_i hg
  split at h
  case h_3 => exact h.elim
  · skip
    split at h
    case h_3 => exact h.elim
    · skip
      split at h
      case h_3 => exact h.elim
      · skip
        split at h
        case h_3 => exact h.elim
        · skip
          exact ⟨_, _, _, h, clusN rfl ⟨⟨rfl, hg⟩, trivial⟩⟩
        · split at h
          case h_2 => exact h.elim
          rename_i hpt
          exact ⟨_, _, _, h, clusN rfl ⟨⟨rfl, hg⟩, ⟨rfl, hpt⟩, trivial⟩⟩
      · split at h
        case h_2 => exact h.elim
        rename_i hpa
        split at h
        case h_3 => exact h.elim
        · skip
          exact ⟨_, _, _, h, clusN rfl ⟨⟨rfl, hg⟩, ⟨rfl, hpa⟩, trivial⟩⟩
        · split at h
          case h_2 => exact h.elim
          rename_i hpt
          exact ⟨_, _, _, h, clusN rfl ⟨⟨rfl, hg⟩, ⟨rfl, hpa⟩, ⟨rfl, hpt⟩, trivial⟩⟩
    · split at h
      case h_2 => exact h.elim
      rename_i hpm
      split at h
      case h_3 => exact h.elim
      · skip
        split at h
        case h_3 => exact h.elim
        · skip
          exact ⟨_, _, _, h, clusN rfl ⟨⟨rfl, hg⟩, ⟨rfl, hpm⟩, trivial⟩⟩
        · split at h
          case h_2 => exact h.elim
          rename_i hpt
          exact ⟨_, _, _, h, clusN rfl ⟨⟨rfl, hg⟩, ⟨rfl, hpm⟩, ⟨rfl, hpt⟩, trivial⟩⟩
      · split at h
        case h_2 => exact h.elim
        rename_i hpa
        split at h
        case h_3 => exact h.elim
        · skip
          exact ⟨_, _, _, h, clusN rfl ⟨⟨rfl, hg⟩, ⟨rfl, hpm⟩, ⟨rfl, hpa⟩, trivial⟩⟩
        · split at h
          case h_2 => exact h.elim
          rename_i hpt
          exact ⟨_, _, _, h, clusN rfl ⟨⟨rfl, hg⟩, ⟨rfl, hpm⟩, ⟨rfl, hpa⟩, ⟨rfl, hpt⟩, trivial⟩⟩
  · split at h
    case h_2 => exact h.elim
    rename_i hs
    obtain ⟨⟨rfl, rfl⟩, h⟩ := h
    split at h
    case h_3 => exact h.elim
    · skip
      split at h
      case h_3 => exact h.elim
      · skip
        split at h
        case h_3 => exact h.elim
        · skip
          exact ⟨_, _, _, h, clusN rfl ⟨⟨rfl, hg⟩, ⟨rfl, hs⟩, trivial⟩⟩
        · split at h
          case h_2 => exact h.elim
          rename_i hpt
          exact ⟨_, _, _, h, clusN rfl ⟨⟨rfl, hg⟩, ⟨rfl, hs⟩, ⟨rfl, hpt⟩, trivial⟩⟩
      · split at h
        case h_2 => exact h.elim
        rename_i hpa
        split at h
        case h_3 => exact h.elim
        · skip
          exact ⟨_, _, _, h, clusN rfl ⟨⟨rfl, hg⟩, ⟨rfl, hs⟩, ⟨rfl, hpa⟩, trivial⟩⟩
        · split at h
          case h_2 => exact h.elim
          rename_i hpt
          exact ⟨_, _, _, h, clusN rfl ⟨⟨rfl, hg⟩, ⟨rfl, hs⟩, ⟨rfl, hpa⟩, ⟨rfl, hpt⟩, trivial⟩⟩
    · split at h
      case h_2 => exact h.elim
      rename_i hpm
      split at h
      case h_3 => exact h.elim
      · skip
        split at h
        case h_3 => exact h.elim
        · skip
          exact ⟨_, _, _, h, clusN rfl ⟨⟨rfl, hg⟩, ⟨rfl, hs⟩, ⟨rfl, hpm⟩, trivial⟩⟩
        · split at h
          case h_2 => exact h.elim
          rename_i hpt
          exact ⟨_, _, _, h, clusN rfl ⟨⟨rfl, hg⟩, ⟨rfl, hs⟩, ⟨rfl, hpm⟩, ⟨rfl, hpt⟩, trivial⟩⟩
      · split at h
        case h_2 => exact h.elim
        rename_i hpa
        split at h
        case h_3 => exact h.elim
        · skip
          exact ⟨_, _, _, h, clusN rfl ⟨⟨rfl, hg⟩, ⟨rfl, hs⟩, ⟨rfl, hpm⟩, ⟨rfl, hpa⟩, trivial⟩⟩
        · split at h
          case h_2 => exact h.elim
          rename_i hpt
          exact ⟨_, _, _, h, clusN rfl ⟨⟨rfl, hg⟩, ⟨rfl, hs⟩, ⟨rfl, hpm⟩, ⟨rfl, hpa⟩, ⟨rfl, hpt⟩, trivial⟩⟩

end Go.FL
