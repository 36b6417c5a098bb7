/-
  Memory is made.
-/
import Derived.Test.YtfjnkneoddankaaGreatRun1
set_option linter.unusedVariables false
set_option linter.unusedSimpArgs false
set_option maxRecDepth 100000
namespace Go.FL

def PMem.store (m : PMem) (a b : Int) : Int × PMem :=
  if a < 0 then (2, m) else if (m.n : Int) ≤ a then (2, m) else (0, m.lay m.who a b)

def mStoreT (m : PMem) (a b : Int) (bot : Prop) (K : Int → PMem → Prop) : Prop :=
  bif decide (a < 0) then
   (m.n = m.n ∧ m.n = m.n ∧ m.n = m.n ∧ m.n = m.n ∧ m.n = m.n) ∧
   K 2 ⟨(m.n), (m.w), (m.t), (m.steps), (m.who), (m.la), (m.lw), (m.lc)⟩
  else
   bif decide (↑m.n ≤ a) then
    (m.n = m.n ∧ m.n = m.n ∧ m.n = m.n ∧ m.n = m.n ∧ m.n = m.n) ∧
    K 2 ⟨(m.n), (m.w), (m.t), (m.steps), (m.who), (m.la), (m.lw), (m.lc)⟩
   else
    bif decide (0 ≤ a ∧ a < ↑m.n) then
     (Int.toNat a < m.n) ∧
     bif !decide (m.w (Int.toNat a) = b) then
      bif decide (0 ≤ a ∧ a < ↑m.n) then
       (Int.toNat a < m.n) ∧
       bif decide (0 ≤ a ∧ a < ↑m.n) then
        (Int.toNat a < m.n) ∧
        (m.n = m.n ∧ m.n = m.n ∧ m.n = m.n ∧ m.n = m.n ∧ m.n = m.n) ∧
        K 0 ⟨(m.n), (fun j => bif Nat.beq j (Int.toNat a) then b else m.w j), (fun j => bif Nat.beq j (Int.toNat a) then IntKind.wrap IntKind.i64 (m.steps + 1) else m.t j), (IntKind.wrap IntKind.i64 (m.steps + 1)), (m.who), (a), (m.who), (!decide (m.w (Int.toNat a) = b))⟩
       else
        bot
      else
       bot
     else
      bif decide (0 ≤ a ∧ a < ↑m.n) then
       (Int.toNat a < m.n) ∧
       (m.n = m.n ∧ m.n = m.n ∧ m.n = m.n ∧ m.n = m.n ∧ m.n = m.n) ∧
       K 0 ⟨(m.n), (fun j => bif Nat.beq j (Int.toNat a) then b else m.w j), (m.t), (IntKind.wrap IntKind.i64 (m.steps + 1)), (m.who), (a), (m.who), (!decide (m.w (Int.toNat a) = b))⟩
      else
       bot
    else
     bot

theorem mStoreT_of (m : PMem) (a b : Int) {K : Int → PMem → Prop} (h : K (m.store a b).1 (m.store a b).2) : mStoreT m a b False K := by
  unfold mStoreT
  by_cases h1 : a < 0
  · simp [PMem.store, h1] at h ⊢
    exact h
  · by_cases h2 : (m.n : Int) ≤ a
    · simp [PMem.store, h1, h2] at h ⊢
      exact h
    · have h3 : 0 ≤ a ∧ a < (m.n : Int) := by omega
      have h4 : a.toNat < m.n := by omega
      by_cases h5 : m.w a.toNat = b
      · simp [PMem.store, PMem.lay, upd, h1, h2, h3, h4, h5] at h ⊢
        exact h
      · simp [PMem.store, PMem.lay, upd, h1, h2, h3, h4, h5] at h ⊢
        exact h

def lCheckK (c1 c2 c3 c4 c5 c6 c7 : Int) (K : Bool → Prop) : Prop :=
  bif decide (1 ≤ c1) then
   bif decide (c1 ≤ 8) then
    bif decide (1 ≤ c2) then
     bif decide (1 ≤ c3) then
      bif decide (c3 ≤ 64) then
       bif decide (17 ≤ c4) then
        bif decide (1 ≤ c5) then
         bif decide (c5 ≤ 65535) then
          bif decide (0 ≤ c6) then
           bif decide (c6 ≤ 1000) then
            bif decide (1 ≤ c7) then
             bif decide (c2 ≤ 65536) then
              bif decide (c4 ≤ 256) then
               K (decide (c7 ≤ 16))
              else
               K false
             else
              K false
            else
             bif decide (c2 ≤ 65536) then
              bif decide (c4 ≤ 256) then
               K false
              else
               K false
             else
              K false
           else
            bif decide (c2 ≤ 65536) then
             bif decide (c4 ≤ 256) then
              K false
             else
              K false
            else
             K false
          else
           bif decide (c2 ≤ 65536) then
            bif decide (c4 ≤ 256) then
             K false
            else
             K false
           else
            K false
         else
          bif decide (c2 ≤ 65536) then
           bif decide (c4 ≤ 256) then
            K false
           else
            K false
          else
           K false
        else
         bif decide (c2 ≤ 65536) then
          bif decide (c4 ≤ 256) then
           K false
          else
           K false
         else
          K false
       else
        bif decide (1 ≤ c5) then
         bif decide (c5 ≤ 65535) then
          bif decide (0 ≤ c6) then
           bif decide (c6 ≤ 1000) then
            bif decide (1 ≤ c7) then
             bif decide (c2 ≤ 65536) then
              K false
             else
              K false
            else
             bif decide (c2 ≤ 65536) then
              K false
             else
              K false
           else
            bif decide (c2 ≤ 65536) then
             K false
            else
             K false
          else
           bif decide (c2 ≤ 65536) then
            K false
           else
            K false
         else
          bif decide (c2 ≤ 65536) then
           K false
          else
           K false
        else
         bif decide (c2 ≤ 65536) then
          K false
         else
          K false
      else
       bif decide (1 ≤ c5) then
        bif decide (c5 ≤ 65535) then
         bif decide (0 ≤ c6) then
          bif decide (c6 ≤ 1000) then
           bif decide (1 ≤ c7) then
            bif decide (c2 ≤ 65536) then
             K false
            else
             K false
           else
            bif decide (c2 ≤ 65536) then
             K false
            else
             K false
          else
           bif decide (c2 ≤ 65536) then
            K false
           else
            K false
         else
          bif decide (c2 ≤ 65536) then
           K false
          else
           K false
        else
         bif decide (c2 ≤ 65536) then
          K false
         else
          K false
       else
        bif decide (c2 ≤ 65536) then
         K false
        else
         K false
     else
      bif decide (1 ≤ c5) then
       bif decide (c5 ≤ 65535) then
        bif decide (0 ≤ c6) then
         bif decide (c6 ≤ 1000) then
          bif decide (1 ≤ c7) then
           bif decide (c2 ≤ 65536) then
            K false
           else
            K false
          else
           bif decide (c2 ≤ 65536) then
            K false
           else
            K false
         else
          bif decide (c2 ≤ 65536) then
           K false
          else
           K false
        else
         bif decide (c2 ≤ 65536) then
          K false
         else
          K false
       else
        bif decide (c2 ≤ 65536) then
         K false
        else
         K false
      else
       bif decide (c2 ≤ 65536) then
        K false
       else
        K false
    else
     bif decide (1 ≤ c3) then
      bif decide (c3 ≤ 64) then
       bif decide (17 ≤ c4) then
        bif decide (1 ≤ c5) then
         bif decide (c5 ≤ 65535) then
          bif decide (0 ≤ c6) then
           bif decide (c6 ≤ 1000) then
            bif decide (1 ≤ c7) then
             K false
            else
             K false
           else
            K false
          else
           K false
         else
          K false
        else
         K false
       else
        bif decide (1 ≤ c5) then
         bif decide (c5 ≤ 65535) then
          bif decide (0 ≤ c6) then
           bif decide (c6 ≤ 1000) then
            bif decide (1 ≤ c7) then
             K false
            else
             K false
           else
            K false
          else
           K false
         else
          K false
        else
         K false
      else
       bif decide (1 ≤ c5) then
        bif decide (c5 ≤ 65535) then
         bif decide (0 ≤ c6) then
          bif decide (c6 ≤ 1000) then
           bif decide (1 ≤ c7) then
            K false
           else
            K false
          else
           K false
         else
          K false
        else
         K false
       else
        K false
     else
      bif decide (1 ≤ c5) then
       bif decide (c5 ≤ 65535) then
        bif decide (0 ≤ c6) then
         bif decide (c6 ≤ 1000) then
          bif decide (1 ≤ c7) then
           K false
          else
           K false
         else
          K false
        else
         K false
       else
        K false
      else
       K false
   else
    bif decide (1 ≤ c3) then
     bif decide (c3 ≤ 64) then
      bif decide (17 ≤ c4) then
       bif decide (1 ≤ c5) then
        bif decide (c5 ≤ 65535) then
         bif decide (0 ≤ c6) then
          bif decide (c6 ≤ 1000) then
           bif decide (1 ≤ c7) then
            K false
           else
            K false
          else
           K false
         else
          K false
        else
         K false
       else
        K false
      else
       bif decide (1 ≤ c5) then
        bif decide (c5 ≤ 65535) then
         bif decide (0 ≤ c6) then
          bif decide (c6 ≤ 1000) then
           bif decide (1 ≤ c7) then
            K false
           else
            K false
          else
           K false
         else
          K false
        else
         K false
       else
        K false
     else
      bif decide (1 ≤ c5) then
       bif decide (c5 ≤ 65535) then
        bif decide (0 ≤ c6) then
         bif decide (c6 ≤ 1000) then
          bif decide (1 ≤ c7) then
           K false
          else
           K false
         else
          K false
        else
         K false
       else
        K false
      else
       K false
    else
     bif decide (1 ≤ c5) then
      bif decide (c5 ≤ 65535) then
       bif decide (0 ≤ c6) then
        bif decide (c6 ≤ 1000) then
         bif decide (1 ≤ c7) then
          K false
         else
          K false
        else
         K false
       else
        K false
      else
       K false
     else
      K false
  else
   bif decide (1 ≤ c3) then
    bif decide (c3 ≤ 64) then
     bif decide (17 ≤ c4) then
      bif decide (1 ≤ c5) then
       bif decide (c5 ≤ 65535) then
        bif decide (0 ≤ c6) then
         bif decide (c6 ≤ 1000) then
          bif decide (1 ≤ c7) then
           K false
          else
           K false
         else
          K false
        else
         K false
       else
        K false
      else
       K false
     else
      bif decide (1 ≤ c5) then
       bif decide (c5 ≤ 65535) then
        bif decide (0 ≤ c6) then
         bif decide (c6 ≤ 1000) then
          bif decide (1 ≤ c7) then
           K false
          else
           K false
         else
          K false
        else
         K false
       else
        K false
      else
       K false
    else
     bif decide (1 ≤ c5) then
      bif decide (c5 ≤ 65535) then
       bif decide (0 ≤ c6) then
        bif decide (c6 ≤ 1000) then
         bif decide (1 ≤ c7) then
          K false
         else
          K false
        else
         K false
       else
        K false
      else
       K false
     else
      K false
   else
    bif decide (1 ≤ c5) then
     bif decide (c5 ≤ 65535) then
      bif decide (0 ≤ c6) then
       bif decide (c6 ≤ 1000) then
        bif decide (1 ≤ c7) then
         K false
        else
         K false
       else
        K false
      else
       K false
     else
      K false
    else
     K false

/-- Which arenas may be. -/
def lCheck (c1 c2 c3 c4 c5 c6 c7 : Int) : Bool := decide (1 ≤ c1) && (decide (c1 ≤ 8) && (decide (1 ≤ c2) && (decide (1 ≤ c3) && (decide (c3 ≤ 64) && (decide (17 ≤ c4) && (decide (1 ≤ c5) && (decide (c5 ≤ 65535) && (decide (0 ≤ c6) && (decide (c6 ≤ 1000) &&
  (decide (1 ≤ c7) && (decide (c2 ≤ 65536) && (decide (c4 ≤ 256) && decide (c7 ≤ 16)))))))))))))

theorem cond_and {K : Bool → Prop} {b x : Bool} : (bif b then K x else K false) = K (b && x) := by cases b <;> rfl

theorem cond_same {p : Prop} {b : Bool} : (bif b then p else p) = p := by cases b <;> rfl

theorem lCheckK_eq (c1 c2 c3 c4 c5 c6 c7 : Int) (K : Bool → Prop) : lCheckK c1 c2 c3 c4 c5 c6 c7 K = K (lCheck c1 c2 c3 c4 c5 c6 c7) := by
  unfold lCheckK lCheck
  simp only [cond_same, cond_and]

def newMem (n : Int) : PMem := ⟨n.toNat, fun _ => 0, fun _ => 0, 0, 0, 0, 0, false⟩

end Go.FL

namespace Go.Proofs.YtfjnkneoddankaaGreat
open Go Go.FL Go.Proofs

theorem lCheck_ev (c1 c2 c3 c4 c5 c6 c7 : Int) (K : Bool → Prop) : evF Tryz.prog ownK7 10 20 67 [.agg [.int .i64 c1, .int .i64 c2, .int .i64 c3, .int .i64 c4, .int .i64 c5, .int .i64 c6, .int .i64 c7]] ⟨[], []⟩ (fun v _ => match v with
    | .c (.bool x) => K x
    | _ => False) = lCheckK c1 c2 c3 c4 c5 c6 c7 K := by kernel_rfl

def h_lCheck : Hd := fun args H K => match args with
  | [.agg [.int .i64 c1, .int .i64 c2, .int .i64 c3, .int .i64 c4, .int .i64 c5, .int .i64 c6, .int .i64 c7]] => K (.c (.bool (lCheck c1 c2 c3 c4 c5 c6 c7))) H
  | _ => False

theorem h_lCheck_ok : HOK 67 h_lCheck := by
  intro args H K h
  unfold h_lCheck at h
  split at h
  · rename_i c1 c2 c3 c4 c5 c6 c7
    have e := lCheck_ev c1 c2 c3 c4 c5 c6 c7 (fun x => K (.c (.bool x)) H)
    rw [lCheckK_eq] at e
    have e := e.mpr h
    refine pure_ok (fuel := 10) (d := 20) ownK7_ok rfl e ?_
    intro v H₁ hv
    split at hv
    · exact ⟨rfl, hv⟩
    · exact hv.elim
  · exact h.elim

theorem mStore_ev (m : PMem) (a b : Int) (K : Int → PMem → Prop) : evF Tryz.prog ownK7 10 20 33 [.c (.ptr 0 0), .c (.int .i64 a), .c (.int .u64 b)] ⟨cat [(true, .mem m)] 0, []⟩ (fun v H => match v with
    | .c (.int .i64 e) => (shMem H 0 fun m' c' => match chkAll [(true, .mem m)] [c'] [] with | true => K e m' | false => False)
    | _ => False) = mStoreT m a b False K := by kernel_rfl

def h_mStore : Hd := fun args H K => match args with
  | [.c (.ptr m 0), .c (.int .i64 a), .c (.int .u64 b)] => match H.get m with
    | some (.obj (.mem pm)) => K (.c (.int .i64 (pm.store a b).1)) (H.put m (.obj (.mem (pm.store a b).2)))
    | _ => False
  | _ => False

theorem h_mStore_ok : HOK 33 h_mStore := by
  intro args H K h
  unfold h_mStore at h
  split at h
  · rename_i m a b
    split at h
    · rename_i pm hm
      have e := (mStore_ev pm a b (fun e m' => K (.c (.int .i64 e)) (H.put m (.obj (.mem m'))))).mpr (mStoreT_of pm a b h)
      refine objs_ok ownK7_ok (ns := [m]) (xs := [(true, .mem pm)]) rfl (get_one hm) (by simp) ?_ e ?_
      · intro s s₁ vs hh hr
        have e0 := hh 0 m rfl
        simp only [base] at e0
        exact rel_args1 (rel_ptr e0) hr
      · intro v₁ H₁ hk
        split at hk
        · obtain ⟨m', c', hk, hc⟩ := shMem_ok hk
          split at hk
          · rename_i hchk
            exact ⟨[c'], [(true, .mem m')], [], [], _, hchk, ⟨hc, trivial⟩, trivial, fun _ _ _ _ _ h => RelV.low rfl h, hk⟩
          · exact hk.elim
        · exact hk.elim
    · exact h.elim
  · exact h.elim

theorem memNew_ev (n : Int) (K : Option PMem → Int → Prop) : evF Tryz.prog ownK7 10 20 68 [.c (.int .i64 n)] ⟨[], []⟩ (fun v H₁ => match v with
    | .tup [.c .nilp, .c (.int .i64 e)] => K none e
    | .tup [.c (.ptr i 0), .c (.int .i64 e)] => (shMem H₁ i fun x c => match chkAll [] [] [c] && headOK i c with
      | true => K (some x) e
      | false => False)
    | _ => False) = (bif decide (n < 1) then K none 1 else bif decide (1048576 < n) then K none 1 else
      (((IntKind.u64 = IntKind.u64 ∧ 1 = 1 ∧ 8 ≤ 8) ∧ n = n ∧ 0 ≤ n ∧ n ≤ 1048576) ∧ ((IntKind.i64 = IntKind.i64 ∧ 1 = 1 ∧ 8 ≤ 8) ∧ n = n ∧ 0 ≤ n ∧ n ≤ 1048576) ∧
        (n.toNat = n.toNat ∧ n.toNat = n.toNat ∧ n.toNat = n.toNat ∧ n.toNat = n.toNat ∧ n.toNat = n.toNat) ∧ K (some (newMem n)) 0) ∧
      (((IntKind.i64 = IntKind.i64 ∧ 1 = 1 ∧ 8 ≤ 8) ∧ n = n ∧ 0 ≤ n ∧ n ≤ 1048576) ∧ ((IntKind.u64 = IntKind.u64 ∧ 1 = 1 ∧ 8 ≤ 8) ∧ n = n ∧ 0 ≤ n ∧ n ≤ 1048576) ∧
        (n.toNat = n.toNat ∧ n.toNat = n.toNat ∧ n.toNat = n.toNat ∧ n.toNat = n.toNat ∧ n.toNat = n.toNat) ∧ K (some (newMem n)) 0)) := by kernel_rfl

def h_memNew : Hd := fun args H K => match args with
  | [.c (.int .i64 n)] => match decide (n < 1) || decide (1048576 < n) with
    | true => K (.tup [.c .nilp, .c (cI 1)]) H
    | false => K (.tup [.c (.ptr H.len 0), .c (cI 0)]) (H.new (.obj (.mem (newMem n))))
  | _ => False

/-- Something that makes an object, or says why not. -/
theorem new2_ok {own : FuncId → Option Hd} {b : Bool} {f : FuncId} {R : Type} {mk : R → Ob} {sh : LH → Nat → (R → List Nat → Prop) → Prop}
    (hsh : ∀ H n k, sh H n k → ∃ x c, k x c ∧ Clus H c (b, mk x)) {args : List LV} {H : LH} {K : LV → LH → Prop} (hlow : lowVs args = true)
    (hev : (∃ fn, Tryz.prog.funcs[f]? = some fn ∧ fn.body.isSome = true) ∧ CSpec Tryz.prog f args ⟨[], []⟩ (fun v H₁ => match v with
      | .tup [.c .nilp, .c (.int .i64 e)] => K (.tup [.c .nilp, .c (cI e)]) H
      | .tup [.c (.ptr i 0), .c (.int .i64 e)] => (sh H₁ i fun x c => match chkAll [] [] [c] && headOK i c with
        | true => K (.tup [.c (.ptr H.len 0), .c (cI e)]) (H.new (.obj (mk x)))
        | false => False)
      | _ => False)) :
    (∃ fn, Tryz.prog.funcs[f]? = some fn ∧ fn.body.isSome = true) ∧ CSpec Tryz.prog f args H K := by
  refine objs_of (ns := []) (xs := []) rfl (by simp) List.nodup_nil (fun s s₁ vs _ h => RelVs.low hlow h) hev ?_
  intro v₁ H₁ hk
  split at hk
  · rename_i e'
    exact ⟨[], [], [], [], .tup [.c .nilp, .c (cI e')], rfl, trivial, trivial, fun s₁ s' v' _ _ hr => RelV.low rfl hr, hk⟩
  · rename_i i e'
    obtain ⟨x, c, hk, hc⟩ := hsh _ _ _ hk
    split at hk
    · rename_i hchk
      simp only [Bool.and_eq_true] at hchk
      obtain ⟨h1, h2⟩ := hchk
      refine ⟨[], [], [c], [(b, mk x)], .tup [.c (.ptr H.len 0), .c (cI e')], h1, trivial, ⟨hc, trivial⟩, ?_, hk⟩
      intro s₁ s' v' _ hd' hr
      have h0 : c[0]? = some i := by
        unfold headOK at h2
        split at h2
        · have := Nat.eq_of_beq_eq_true h2; simp [this]
        · cases h2
      have := hd' 0 c i rfl h0
      simp only [Nat.add_zero] at this
      obtain ⟨vs, rfl, hr⟩ := hr
      refine ⟨vs, rfl, ?_⟩
      generalize vs.toList = us at hr ⊢
      match us, hr with
      | [u, v], ⟨h3, h4, _⟩ =>
        refine ⟨?_, h4, trivial⟩
        obtain ⟨r, h5, h6⟩ := h3
        exact ⟨r, by rw [this]; exact h5, h6⟩
    · exact hk.elim
  · exact hk.elim

theorem h_memNew_ok : HOK 68 h_memNew := by
  intro args H K h
  unfold h_memNew at h
  split at h
  · rename_i n
    refine new2_ok (own := ownK7) (mk := .mem) (fun _ _ _ => shMem_ok) rfl (evF_ok fnOK mixed ownK7_ok 10 20 _ _ _ _ ((memNew_ev n (fun o e => match o with
      | some x => K (.tup [.c (.ptr H.len 0), .c (cI e)]) (H.new (.obj (.mem x)))
      | none => K (.tup [.c .nilp, .c (cI e)]) H)).mpr ?_))
    by_cases h1 : n < 1
    · simp only [h1, decide_true, Bool.true_or, cond_true] at h ⊢
      exact h
    · by_cases h2 : 1048576 < n
      · simp only [h1, h2, decide_true, decide_false, Bool.or_true, cond_true, cond_false] at h ⊢
        exact h
      · simp only [h1, h2, decide_false, Bool.or_false, cond_false, true_and, and_self, Nat.le_refl] at h ⊢
        have h3 : 0 ≤ n := by omega
        have h4 : n ≤ 1048576 := by omega
        exact ⟨⟨h3, h4⟩, ⟨h3, h4⟩, h⟩
  · exact h.elim

def tab7 : List (FuncId × Hd) := (67, h_lCheck) :: (33, h_mStore) :: (68, h_memNew) :: tabK7

def own7 : FuncId → Option Hd := look tab7

theorem all7 : AllOK tab7 := ⟨h_lCheck_ok, h_mStore_ok, h_memNew_ok, allK7⟩

theorem own7_ok : OwnOK Tryz.prog own7 := look_ok all7

end Go.Proofs.YtfjnkneoddankaaGreat
