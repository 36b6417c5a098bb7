/-
  The contracts of the memory's operations.
-/
import Derived.Test.YtfjnkneoddankaaGreatStepOk
import Derived.Test.YtfjnkneoddankaaGreatModM
set_option linter.unusedVariables false
set_option linter.unusedSimpArgs false
set_option maxRecDepth 100000
namespace Go.Proofs.YtfjnkneoddankaaGreat
open Go Go.FL Go.Proofs

theorem rel_args1 {s s₁ : Mp} {x y : LV} {r : List LV} {vs : List Value} (hx : ∀ {v}, RelV s x v → RelV s₁ y v) (h : RelVs s (x :: r) vs) (hr : lowVs r = true := by rfl) : RelVs s₁ (y :: r) vs := by
  match vs, h with
  | v :: vs, h => exact ⟨hx h.1, RelVs.low hr h.2⟩
  | [], h => exact h.elim

theorem get_one {H : LH} {m : Nat} {pm : PMem} (hm : H.get m = some (.obj (.mem pm))) : ∀ (i n : Nat) (x : Bool × Ob), [m][i]? = some n → [(true, Ob.mem pm)][i]? = some x → H.bl[n]? = some (.obj x.2) := by
  intro i n x hi hx
  match i, hi, hx with
  | 0, hi, hx => simp at hi hx; subst hi; subst hx; exact get_obj hm
  | i + 1, hi, hx => simp at hi

theorem eLoad_ev (c : PCfg) (m : PMem) (who a b d : Int) (K : Int → PMem → Prop) : evF Tryz.prog own0 10 20 54 [(envV c 0 who), .c (.int .i64 a)] ⟨cat [(true, .mem m)] 0, []⟩ (fun v H => match v with | .c (.int .u64 x) => (shMem H 0 fun m' c' => match chkAll [(true, .mem m)] [c'] [] with | true => K x m' | false => False) | _ => False) = eLoadT m who a b d False K := by kernel_rfl

def h_eLoad : Hd := fun args H K => match args with
  | [.agg [.int .i64 c1, .int .i64 c2, .int .i64 c3, .int .i64 c4, .int .i64 c5, .int .i64 c6, .int .i64 c7, .ptr m 0, .int .i64 who], .c (.int .i64 a)] => match H.get m with
    | some (.obj (.mem pm)) => K (.c (.int .u64 (pm.eLoad who a).1)) (H.put m (.obj (.mem (pm.eLoad who a).2)))
    | _ => False
  | _ => False

theorem h_eLoad_ok : HOK 54 h_eLoad := by
  intro args H K h
  unfold h_eLoad at h
  split at h
  · rename_i c1 c2 c3 c4 c5 c6 c7 m who a
    split at h
    · rename_i pm hm
      have e := (eLoad_ev ⟨c1, c2, c3, c4, c5, c6, c7⟩ pm who a 0 0 (fun x m' => K (.c (.int .u64 x)) (H.put m (.obj (.mem m'))))).mpr (eLoadT_of pm who a 0 0 h)
      refine objs_ok own0_ok (ns := [m]) (xs := [(true, .mem pm)]) rfl (get_one hm) (by simp) ?_ e ?_
      · intro s s₁ vs hh hr
        have e0 := hh 0 m rfl
        simp only [base] at e0
        exact rel_args1 (rel_env (c := ⟨c1, c2, c3, c4, c5, c6, c7⟩) e0) hr
      · intro v₁ H₁ hk
        split at hk
        · obtain ⟨m', c', hk, hc⟩ := shMem_ok hk
          split at hk
          · rename_i hchk
            exact ⟨[c'], [(true, .mem m')], [], [], _, hchk, ⟨hc, trivial⟩, trivial, fun _ _ _ _ _ h => RelV.low rfl h, hk⟩
          · exact hk.elim
        · exact hk.elim
    · exact h.elim
  · exact h.elim

theorem eStore_ev (c : PCfg) (m : PMem) (who a b d : Int) (K : PMem → Prop) : evF Tryz.prog own0 10 20 56 [(envV c 0 who), .c (.int .i64 a), .c (.int .u64 b)] ⟨cat [(true, .mem m)] 0, []⟩ (fun v H => match v with | .tup [] => (shMem H 0 fun m' c' => match chkAll [(true, .mem m)] [c'] [] with | true => K  m' | false => False) | _ => False) = eStoreT m who a b d False K := by kernel_rfl

def h_eStore : Hd := fun args H K => match args with
  | [.agg [.int .i64 c1, .int .i64 c2, .int .i64 c3, .int .i64 c4, .int .i64 c5, .int .i64 c6, .int .i64 c7, .ptr m 0, .int .i64 who], .c (.int .i64 a), .c (.int .u64 b)] => match H.get m with
    | some (.obj (.mem pm)) => K (.tup []) (H.put m (.obj (.mem (pm.eStore who a b))))
    | _ => False
  | _ => False

theorem h_eStore_ok : HOK 56 h_eStore := by
  intro args H K h
  unfold h_eStore at h
  split at h
  · rename_i c1 c2 c3 c4 c5 c6 c7 m who a b
    split at h
    · rename_i pm hm
      have e := (eStore_ev ⟨c1, c2, c3, c4, c5, c6, c7⟩ pm who a b 0 (fun  m' => K (.tup []) (H.put m (.obj (.mem m'))))).mpr (eStoreT_of pm who a b 0 h)
      refine objs_ok own0_ok (ns := [m]) (xs := [(true, .mem pm)]) rfl (get_one hm) (by simp) ?_ e ?_
      · intro s s₁ vs hh hr
        have e0 := hh 0 m rfl
        simp only [base] at e0
        exact rel_args1 (rel_env (c := ⟨c1, c2, c3, c4, c5, c6, c7⟩) e0) hr
      · intro v₁ H₁ hk
        split at hk
        · obtain ⟨m', c', hk, hc⟩ := shMem_ok hk
          split at hk
          · rename_i hchk
            exact ⟨[c'], [(true, .mem m')], [], [], _, hchk, ⟨hc, trivial⟩, trivial, fun _ _ _ _ _ h => RelV.low rfl h, hk⟩
          · exact hk.elim
        · exact hk.elim
    · exact h.elim
  · exact h.elim

theorem eCas_ev (c : PCfg) (m : PMem) (who a b d : Int) (K : Bool → PMem → Prop) : evF Tryz.prog own0 10 20 49 [(envV c 0 who), .c (.int .i64 a), .c (.int .u64 b), .c (.int .u64 d)] ⟨cat [(true, .mem m)] 0, []⟩ (fun v H => match v with | .c (.bool x) => (shMem H 0 fun m' c' => match chkAll [(true, .mem m)] [c'] [] with | true => K x m' | false => False) | _ => False) = eCasT m who a b d False K := by kernel_rfl

def h_eCas : Hd := fun args H K => match args with
  | [.agg [.int .i64 c1, .int .i64 c2, .int .i64 c3, .int .i64 c4, .int .i64 c5, .int .i64 c6, .int .i64 c7, .ptr m 0, .int .i64 who], .c (.int .i64 a), .c (.int .u64 b), .c (.int .u64 d)] => match H.get m with
    | some (.obj (.mem pm)) => K (.c (.bool (pm.eCas who a b d).1)) (H.put m (.obj (.mem (pm.eCas who a b d).2)))
    | _ => False
  | _ => False

theorem h_eCas_ok : HOK 49 h_eCas := by
  intro args H K h
  unfold h_eCas at h
  split at h
  · rename_i c1 c2 c3 c4 c5 c6 c7 m who a b d
    split at h
    · rename_i pm hm
      have e := (eCas_ev ⟨c1, c2, c3, c4, c5, c6, c7⟩ pm who a b d (fun x m' => K (.c (.bool x)) (H.put m (.obj (.mem m'))))).mpr (eCasT_of pm who a b d h)
      refine objs_ok own0_ok (ns := [m]) (xs := [(true, .mem pm)]) rfl (get_one hm) (by simp) ?_ e ?_
      · intro s s₁ vs hh hr
        have e0 := hh 0 m rfl
        simp only [base] at e0
        exact rel_args1 (rel_env (c := ⟨c1, c2, c3, c4, c5, c6, c7⟩) e0) hr
      · intro v₁ H₁ hk
        split at hk
        · obtain ⟨m', c', hk, hc⟩ := shMem_ok hk
          split at hk
          · rename_i hchk
            exact ⟨[c'], [(true, .mem m')], [], [], _, hchk, ⟨hc, trivial⟩, trivial, fun _ _ _ _ _ h => RelV.low rfl h, hk⟩
          · exact hk.elim
        · exact hk.elim
    · exact h.elim
  · exact h.elim

theorem eAdd_ev (c : PCfg) (m : PMem) (who a b d : Int) (K : PMem → Prop) : evF Tryz.prog own0 10 20 79 [(envV c 0 who), .c (.int .i64 a), .c (.int .i64 b)] ⟨cat [(true, .mem m)] 0, []⟩ (fun v H => match v with | .tup [] => (shMem H 0 fun m' c' => match chkAll [(true, .mem m)] [c'] [] with | true => K  m' | false => False) | _ => False) = eAddT m who a b d False K := by kernel_rfl

def h_eAdd : Hd := fun args H K => match args with
  | [.agg [.int .i64 c1, .int .i64 c2, .int .i64 c3, .int .i64 c4, .int .i64 c5, .int .i64 c6, .int .i64 c7, .ptr m 0, .int .i64 who], .c (.int .i64 a), .c (.int .i64 b)] => match H.get m with
    | some (.obj (.mem pm)) => K (.tup []) (H.put m (.obj (.mem (pm.eAdd who a b))))
    | _ => False
  | _ => False

theorem h_eAdd_ok : HOK 79 h_eAdd := by
  intro args H K h
  unfold h_eAdd at h
  split at h
  · rename_i c1 c2 c3 c4 c5 c6 c7 m who a b
    split at h
    · rename_i pm hm
      have e := (eAdd_ev ⟨c1, c2, c3, c4, c5, c6, c7⟩ pm who a b 0 (fun  m' => K (.tup []) (H.put m (.obj (.mem m'))))).mpr (eAddT_of pm who a b 0 h)
      refine objs_ok own0_ok (ns := [m]) (xs := [(true, .mem pm)]) rfl (get_one hm) (by simp) ?_ e ?_
      · intro s s₁ vs hh hr
        have e0 := hh 0 m rfl
        simp only [base] at e0
        exact rel_args1 (rel_env (c := ⟨c1, c2, c3, c4, c5, c6, c7⟩) e0) hr
      · intro v₁ H₁ hk
        split at hk
        · obtain ⟨m', c', hk, hc⟩ := shMem_ok hk
          split at hk
          · rename_i hchk
            exact ⟨[c'], [(true, .mem m')], [], [], _, hchk, ⟨hc, trivial⟩, trivial, fun _ _ _ _ _ h => RelV.low rfl h, hk⟩
          · exact hk.elim
        · exact hk.elim
    · exact h.elim
  · exact h.elim

theorem eNow_ev (c : PCfg) (m : PMem) (who a b d : Int) (K : Int → PMem → Prop) : evF Tryz.prog own0 10 20 18 [(envV c 0 who)] ⟨cat [(true, .mem m)] 0, []⟩ (fun v H => match v with | .c (.int .i64 x) => (shMem H 0 fun m' c' => match chkAll [(true, .mem m)] [c'] [] with | true => K x m' | false => False) | _ => False) = eNowT m who a b d False K := by kernel_rfl

def h_eNow : Hd := fun args H K => match args with
  | [.agg [.int .i64 c1, .int .i64 c2, .int .i64 c3, .int .i64 c4, .int .i64 c5, .int .i64 c6, .int .i64 c7, .ptr m 0, .int .i64 who]] => match H.get m with
    | some (.obj (.mem pm)) => K (.c (.int .i64 pm.steps)) (H.put m (.obj (.mem pm)))
    | _ => False
  | _ => False

theorem h_eNow_ok : HOK 18 h_eNow := by
  intro args H K h
  unfold h_eNow at h
  split at h
  · rename_i c1 c2 c3 c4 c5 c6 c7 m who
    split at h
    · rename_i pm hm
      have e := (eNow_ev ⟨c1, c2, c3, c4, c5, c6, c7⟩ pm who 0 0 0 (fun x m' => K (.c (.int .i64 x)) (H.put m (.obj (.mem m'))))).mpr (eNowT_of pm who 0 0 0 h)
      refine objs_ok own0_ok (ns := [m]) (xs := [(true, .mem pm)]) rfl (get_one hm) (by simp) ?_ e ?_
      · intro s s₁ vs hh hr
        have e0 := hh 0 m rfl
        simp only [base] at e0
        exact rel_args1 (rel_env (c := ⟨c1, c2, c3, c4, c5, c6, c7⟩) e0) hr
      · intro v₁ H₁ hk
        split at hk
        · obtain ⟨m', c', hk, hc⟩ := shMem_ok hk
          split at hk
          · rename_i hchk
            exact ⟨[c'], [(true, .mem m')], [], [], _, hchk, ⟨hc, trivial⟩, trivial, fun _ _ _ _ _ h => RelV.low rfl h, hk⟩
          · exact hk.elim
        · exact hk.elim
    · exact h.elim
  · exact h.elim

theorem mPeek_ev (c : PCfg) (m : PMem) (who a b d : Int) (K : Int → PMem → Prop) : evF Tryz.prog own0 10 20 13 [.c (.ptr 0 0), .c (.int .i64 a)] ⟨cat [(true, .mem m)] 0, []⟩ (fun v H => match v with | .c (.int .u64 x) => (shMem H 0 fun m' c' => match chkAll [(true, .mem m)] [c'] [] with | true => K x m' | false => False) | _ => False) = mPeekT m who a b d False K := by kernel_rfl

def h_mPeek : Hd := fun args H K => match args with
  | [.c (.ptr m 0), .c (.int .i64 a)] => match H.get m with
    | some (.obj (.mem pm)) => K (.c (.int .u64 (pm.peek a))) (H.put m (.obj (.mem pm)))
    | _ => False
  | _ => False

theorem h_mPeek_ok : HOK 13 h_mPeek := by
  intro args H K h
  unfold h_mPeek at h
  split at h
  · rename_i m a
    split at h
    · rename_i pm hm
      have e := (mPeek_ev ⟨0, 0, 0, 0, 0, 0, 0⟩ pm 0 a 0 0 (fun x m' => K (.c (.int .u64 x)) (H.put m (.obj (.mem m'))))).mpr (mPeekT_of pm 0 a 0 0 h)
      refine objs_ok own0_ok (ns := [m]) (xs := [(true, .mem pm)]) rfl (get_one hm) (by simp) ?_ e ?_
      · intro s s₁ vs hh hr
        have e0 := hh 0 m rfl
        simp only [base] at e0
        exact rel_args1 (rel_ptr e0) hr
      · intro v₁ H₁ hk
        split at hk
        · obtain ⟨m', c', hk, hc⟩ := shMem_ok hk
          split at hk
          · rename_i hchk
            exact ⟨[c'], [(true, .mem m')], [], [], _, hchk, ⟨hc, trivial⟩, trivial, fun _ _ _ _ _ h => RelV.low rfl h, hk⟩
          · exact hk.elim
        · exact hk.elim
    · exact h.elim
  · exact h.elim

theorem mWhen_ev (c : PCfg) (m : PMem) (who a b d : Int) (K : Int → PMem → Prop) : evF Tryz.prog own0 10 20 89 [.c (.ptr 0 0), .c (.int .i64 a)] ⟨cat [(true, .mem m)] 0, []⟩ (fun v H => match v with | .c (.int .i64 x) => (shMem H 0 fun m' c' => match chkAll [(true, .mem m)] [c'] [] with | true => K x m' | false => False) | _ => False) = mWhenT m who a b d False K := by kernel_rfl

def h_mWhen : Hd := fun args H K => match args with
  | [.c (.ptr m 0), .c (.int .i64 a)] => match H.get m with
    | some (.obj (.mem pm)) => K (.c (.int .i64 (pm.when_ a))) (H.put m (.obj (.mem pm)))
    | _ => False
  | _ => False

theorem h_mWhen_ok : HOK 89 h_mWhen := by
  intro args H K h
  unfold h_mWhen at h
  split at h
  · rename_i m a
    split at h
    · rename_i pm hm
      have e := (mWhen_ev ⟨0, 0, 0, 0, 0, 0, 0⟩ pm 0 a 0 0 (fun x m' => K (.c (.int .i64 x)) (H.put m (.obj (.mem m'))))).mpr (mWhenT_of pm 0 a 0 0 h)
      refine objs_ok own0_ok (ns := [m]) (xs := [(true, .mem pm)]) rfl (get_one hm) (by simp) ?_ e ?_
      · intro s s₁ vs hh hr
        have e0 := hh 0 m rfl
        simp only [base] at e0
        exact rel_args1 (rel_ptr e0) hr
      · intro v₁ H₁ hk
        split at hk
        · obtain ⟨m', c', hk, hc⟩ := shMem_ok hk
          split at hk
          · rename_i hchk
            exact ⟨[c'], [(true, .mem m')], [], [], _, hchk, ⟨hc, trivial⟩, trivial, fun _ _ _ _ _ h => RelV.low rfl h, hk⟩
          · exact hk.elim
        · exact hk.elim
    · exact h.elim
  · exact h.elim

end Go.Proofs.YtfjnkneoddankaaGreat
