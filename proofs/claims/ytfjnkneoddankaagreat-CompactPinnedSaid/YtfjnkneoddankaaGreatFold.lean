/-
  A block that is an object by itself is taken as one where its method is called.
-/
import Derived.Test.YtfjnkneoddankaaGreatCho
set_option linter.unusedVariables false
set_option linter.unusedSimpArgs false
set_option maxRecDepth 100000
namespace Go.FL

theorem CSpec.fold {P : Program} {f : FuncId} {args : List LV} {H : LH} {K : LV → LH → Prop} {p : Nat} {x : Ob} {T : TypeId} {l : List LC} (hg : H.get p = some (.cells T l)) (he : ex x = [.cells T l]) (hlow : lowL 0 l = true)
    (h : CSpec P f args ⟨lset H.bl p (.obj x), H.wr⟩ K) : CSpec P f args H K := by
  intro s vs w hr hH
  rw [LH.get_eq] at hg
  have hpl := (List.getElem?_eq_some_iff.1 hg).1
  have hrel : Rel s ⟨lset H.bl p (.obj x), H.wr⟩ w := by
    refine ⟨by simp [lset_eq, hH.len], ?_, hH.dis, hH.bnd⟩
    intro n b r f hn hs
    simp only [lset_eq, List.getElem?_set] at hn
    split at hn
    · rename_i hpn
      subst hpn
      cases hn
      have hb := hH.blk _ _ _ _ hg hs
      cases hb with
      | cells c ho hl =>
        refine .obj [(r, [])] rfl ?_ (by rw [he]; rfl) ?_ ?_
        · intro y
          constructor
          · rintro (rfl | hy)
            · exact ⟨0, y, [], rfl, .inl rfl⟩
            · cases hy
          · rintro ⟨n, q, g, hn, hy⟩
            cases n with
            | zero => simp at hn; obtain ⟨rfl, rfl⟩ := hn; simpa using hy
            | succ n => simp at hn
        · intro n m y hn hm
          have h0 := ownB_lt hn
          have h1 := ownB_lt hm
          simp at h0 h1
          omega
        · intro i b q g hi hq
          rw [he] at hi
          cases i with
          | zero =>
            simp at hi hq
            obtain ⟨rfl, rfl⟩ := hq
            subst hi
            exact .cells c ho (Go.Proofs.YtfjnkneoddankaaGreat.RelL.low hlow hl)
          | succ i => simp at hi
    · exact hH.blk _ _ _ _ hn hs
  refine (h s vs w hr hrel).mono ?_
  intro en w' hq
  cases en with
  | panicked c => exact hq
  | outgrown => exact hq
  | returned v' =>
    obtain ⟨s', v, H', h1, h2, h3, h4⟩ := hq
    exact ⟨s', v, H', h1, h2, h3, ⟨h4.hext, h4.len, h4.fresh, h4.keep, h4.wr, h4.size, h4.frame, h4.tape, h4.os, h4.output⟩⟩

end Go.FL

namespace Go.Proofs.YtfjnkneoddankaaGreat
open Go Go.FL Go.Proofs

def h_advRaw : Hd := fun args H K => match args with
  | .c (.ptr p 0) :: r => match H.get p with
    | some (.cells 157 [.int .i64 a, .int .u64 b, .int .i64 c, .bool d]) => h_advStep (.c (.ptr p 0) :: r) ⟨lset H.bl p (.obj (.adv ⟨a, b, c, d⟩)), H.wr⟩ K
    | _ => h_advStep (.c (.ptr p 0) :: r) H K
  | args => h_advStep args H K

theorem h_advRaw_ok : HOK 107 h_advRaw := by
  intro args H K h
  unfold h_advRaw at h
  split at h
  · rename_i p r
    split at h
    · rename_i a b c d hg
      obtain ⟨h1, h2⟩ := h_advStep_ok _ _ _ h
      exact ⟨h1, CSpec.fold (x := .adv ⟨a, b, c, d⟩) hg rfl rfl h2⟩
    · exact h_advStep_ok _ _ _ h
  · exact h_advStep_ok _ _ _ h

def tabK4 : List (FuncId × Hd) := (107, h_advRaw) :: tabK3
def ownK4 : FuncId → Option Hd := look tabK4
theorem allK4 : AllOK tabK4 := ⟨h_advRaw_ok, allK3⟩
theorem ownK4_ok : OwnOK Tryz.prog ownK4 := look_ok allK4

end Go.Proofs.YtfjnkneoddankaaGreat
