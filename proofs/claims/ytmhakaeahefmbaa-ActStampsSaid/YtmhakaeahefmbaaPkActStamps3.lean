/-
  Words of a class are got alone.
-/
import Derived.Test.YtmhakaeahefmbaaPkActStamps2
import Derived.Test.YtmhakaeahefmbaaPkActStamps1
import Derived.Test.YtmhakaeahefmbaaProg
import Derived.KernelRfl
set_option linter.unusedVariables false
set_option linter.unusedSimpArgs false
set_option maxRecDepth 20000
namespace Go.FL
open Go

abbrev cfA (sp : Int) : PCfg := ⟨1, 6, 8, 40, 100, sp, 3⟩

theorem chA_eq (sp : Int) (k : Nat) (hk : k < 8) : chA (cfA sp) (k : Int) = ((19 + 3 * k : Nat) : Int) := by
  show lChunk 1 6 8 40 100 sp 3 (k : Int) = _
  rw [lChunk_eq (by omega) (by omega) (by omega)]; omega

theorem slA_eq (sp : Int) (i : Nat) (hi : i < 6) : lSlot 1 6 8 40 100 sp 3 (i : Int) = ((7 + 2 * i : Nat) : Int) := by
  rw [lSlot_eq (by omega) (by omega)]; omega

theorem bsA_eq (sp : Int) (k : Nat) (hk : k < 8) : lBase 1 6 8 40 100 sp 3 (k : Int) = ((43 + 40 * k : Nat) : Int) := by
  rw [lBase_eq (by omega) (by omega) (by omega) (by omega)]; omega

theorem room_bnd {cls : Int} (hc : 0 ≤ cls ∧ cls ≤ 3) : 3 ≤ lRoom cls ∧ lRoom cls ≤ 17 := by
  have : cls = 0 ∨ cls = 1 ∨ cls = 2 ∨ cls = 3 := by omega
  rcases this with rfl | rfl | rfl | rfl
  · rw [lRoom_0]; omega
  · rw [lRoom_1]; omega
  · rw [lRoom_2]; omega
  · rw [lRoom_3]; omega

section
variable {D : Nat} {L B : Int} {m : PMem} {who v d : Int}

theorem Inv.ld (h : Inv D L B m) {a : Nat} (ha : a < 363) : m.eLoad who (a : Int) = (m.w a, m.touch who (a : Int)) := by
  have := h.n
  rw [PMem.eLoad_in (by omega) (by omega), Int.toNat_natCast]

theorem Inv.stq (h : Inv D L B m) {a : Nat} (ha : a < 363) : m.eStore who (a : Int) v = m.lay who (a : Int) v := by
  have := h.n
  rw [PMem.eStore_in (by omega) (by omega)]

theorem Inv.cas (h : Inv D L B m) {a : Nat} (ha : a < 363) (hw : m.w a = v) : m.eCas who (a : Int) v d = (true, m.lay who (a : Int) d) := by
  have := h.n
  rw [PMem.eCas_in (by omega) (by omega) (by rw [Int.toNat_natCast]; exact hw)]

theorem Inv.lay' (h : Inv D L B m) {a : Nat} (hB : B ≤ 1000000000000) (hs : Shape D (upd m.w a v)) : Inv D L (B + 1) (m.lay who (a : Int) v) :=
  h.lay hB (by rw [Int.toNat_natCast]; exact hs)

theorem lay_w' {a : Nat} : (m.lay who (a : Int) v).w = upd m.w a v := by rw [PMem.lay_w, Int.toNat_natCast]
end

/-- Words that nobody has. -/
structure Res (w : Nat → Int) (A r : Nat) : Prop where
  lo : 43 ≤ A
  hi : A + r ≤ 363
  zer : ∀ j, j < r → w (A + j) = 0
  inc : Inc w A (r - 1)
  apt : ∀ i, i < 6 → Prs w i → Apt (oA w i) (oZ w i) A (r - 1)

/-- What it comes to. -/
def PlQ (D : Nat) (L B cls : Int) (p : PPlace) (m : PMem) : Prop := Inv D L B m ∧ (p.ok = false ∨ p.ok = true ∧ ∃ A k : Nat, p.sa = (A : Int) ∧ p.sc = (k : Int) ∧ k < 8 ∧ Res m.w A (lRoom cls).toNat)

theorem PlQ.le {D : Nat} {L B B' cls : Int} {p : PPlace} {m : PMem} (h : PlQ D L B cls p m) (hb : B ≤ B') (hL : 0 ≤ L) : PlQ D L B' cls p m := ⟨h.1.le ⟨hL, Int.le_refl _⟩ hb, h.2⟩

theorem putChunk_top (a b c : Int) : putChunk a b c 68719476736 = putChunk a b c 68719476735 := by
  unfold putChunk putChunkK
  rfl

theorem stamp_up {a b c d : Int} (hd : 0 ≤ d ∧ d ≤ 68719476735) : ∃ e : Int, (0 ≤ e ∧ e ≤ 68719476735) ∧ putChunk a b c (wrI (d + 1)) = putChunk a b c e := by
  rw [wrI_id (by omega) (by omega)]
  by_cases h : d = 68719476735
  · subst h; exact ⟨68719476735, ⟨by omega, by omega⟩, putChunk_top a b c⟩
  · exact ⟨d + 1, ⟨by omega, by omega⟩, rfl⟩

section
variable {D : Nat} {L B : Int} {m : PMem} {who sp cls opn w sa sc : Int} {ok : Bool}

theorem get_wp (h : Inv D L B m) (hB : B ≤ 900000000000) {k : Nat} (hk : k < 8) (hw : w = m.w (19 + 3 * k)) (hs : kS m.w k = 1) (hc : 0 ≤ cls ∧ cls ≤ 3) (hu : (kU m.w k : Int) + lRoom cls ≤ 40) :
    Wp (placeStep (cfA sp) who) 1 ⟨cls, 2, opn, k, w, sa, sc, ok⟩ m (PlQ D L (B + 1) cls) := by
  obtain ⟨r1, r2⟩ := room_bnd hc
  have hw0 : 0 ≤ m.w (19 + 3 * k) ∧ m.w (19 + 3 * k) < 18446744073709551616 := h.sh.wd _ (by omega)
  have hU : (kU m.w k : Int) = w / 256 % 1048576 := by unfold kU; rw [← hw]; omega
  have hS : w % 4 = 1 := by unfold kS at hs; rw [← hw] at hs; exact hs
  rw [← hw] at hw0
  have ev : plUsed cls w = w % 4 + w / 4 % 64 * 4 + (w / 256 % 1048576 + lRoom cls) * 256 + w / 268435456 * 268435456 := by
    unfold plUsed
    rw [chunkOf_eq hw0.1 hw0.2]
    simp only
    rw [wrI_id (by omega) (by omega), putChunk_eq (by omega) (by omega) (by omega) (by omega)]
  generalize hv : plUsed cls w = v at ev
  have hu1 : (v / 256 % 1048576).toNat = kU m.w k + (lRoom cls).toNat := by omega
  have hsh : Shape D (upd m.w (19 + 3 * k) v) := h.sh.chk hk (by omega) (by omega) (by omega) (by omega)
  have e := pl_get (cfA sp) who cls opn k w sa sc ok m
  rw [chA_eq sp k hk, hv, h.cas (by omega) hw.symm] at e
  simp only [Bool.not_true, cond_false] at e
  refine Wp.t e ⟨h.lay' (by omega) hsh, .inr ⟨rfl, 43 + 40 * k + kU m.w k, k, ?_, rfl, hk, ?_⟩⟩
  · show wrI (lBase 1 6 8 40 100 sp 3 (k : Int) + (chunkOf w).2.2.1) = _
    rw [bsA_eq sp k hk, chunkOf_eq hw0.1 hw0.2]
    simp only
    rw [← hU, wrI_id (by omega) (by omega)]
    omega
  · rw [lay_w']
    have hch := h.sh.chs k hk
    refine ⟨by omega, by omega, ?_, ?_, ?_⟩
    · intro j hj
      rw [upd_other _ _ (by omega)]
      have := h.sh.zer k (kU m.w k + j) hk (by omega) (by omega)
      rw [show 43 + 40 * k + kU m.w k + j = 43 + 40 * k + (kU m.w k + j) by omega]
      exact this
    · intro q hq
      by_cases hqk : q = k
      · subst hqk
        rw [kU_upd, if_pos rfl]
        exact .inl (by omega)
      · rcases Nat.lt_or_ge q k with h1 | h1
        · exact .inr (by omega)
        · exact .inl (by omega)
    · intro i hi hp
      have eS : oS (upd m.w (19 + 3 * k) v) i = oS m.w i := by rw [oS_upd, if_neg (by omega)]
      have eA : oA (upd m.w (19 + 3 * k) v) i = oA m.w i := by rw [oA_upd, if_neg (by omega)]
      have hp : Prs m.w i := by unfold Prs at *; rw [eS] at hp; exact hp
      have hr := h.sh.rng i hi hp
      have eZ : oZ (upd m.w (19 + 3 * k) v) i = oZ m.w i := by unfold oZ; rw [eA, zA_upd, if_neg (by omega)]
      rw [eA, eZ]
      rcases h.sh.inc i hi hp k hk with h1 | h1
      · exact .inl (by omega)
      · exact .inr (by omega)

theorem see_wp (h : Inv D L B m) (hB : B ≤ 800000000000) {k : Nat} (hk : k < 8) (hs : kS m.w k = 1) (hc : 0 ≤ cls ∧ cls ≤ 3) (hcl : m.w (19 + 3 * k) / 4 % 64 = cls) (hu : (kU m.w k : Int) + lRoom cls ≤ 40) :
    Wp (placeStep (cfA sp) who) 2 ⟨cls, 1, opn, k, w, sa, sc, ok⟩ m (PlQ D L (B + 2) cls) := by
  obtain ⟨r1, r2⟩ := room_bnd hc
  have hw0 : 0 ≤ m.w (19 + 3 * k) ∧ m.w (19 + 3 * k) < 18446744073709551616 := h.sh.wd _ (by omega)
  have hU : (kU m.w k : Int) = m.w (19 + 3 * k) / 256 % 1048576 := by unfold kU; omega
  have hS : m.w (19 + 3 * k) % 4 = 1 := hs
  have e := pl_see (cfA sp) who cls opn k w sa sc ok m
  rw [chA_eq sp k hk, h.ld (by omega)] at e
  simp only [chunkOf_eq hw0.1 hw0.2] at e
  rw [hS, hcl, ← hU, wrI_id (by omega) (by omega)] at e
  have d3 : decide ((cfA sp).words < (kU m.w k : Int) + lRoom cls) = false := by
    show decide ((40 : Int) < (kU m.w k : Int) + lRoom cls) = false
    simp; omega
  rw [d3] at e
  simp only [decide_true, Bool.not_true, cond_false] at e
  have := get_wp (sp := sp) (who := who) (opn := opn) (sa := sa) (sc := sc) (ok := ok) (h.touch (who := who) (a := ((19 + 3 * k : Nat) : Int)) (by omega)) (by omega) hk rfl hs hc hu
  exact Wp.f e (Wp.up this (fun _ _ hq => by rw [show B + 2 = B + 1 + 1 by omega]; exact hq) (Nat.le_refl _))

theorem look_good (h : Inv D L B m) (hB : B ≤ 700000000000) {k : Nat} (hk : k < 8) (hs : kS m.w k = 1) (hc : 0 ≤ cls ∧ cls ≤ 3) (ho : m.w (2 + cls.toNat) = (k : Int) + 1) (hcl : m.w (19 + 3 * k) / 4 % 64 = cls) (hu : (kU m.w k : Int) + lRoom cls ≤ 40)
    {at_ : Int} : Wp (placeStep (cfA sp) who) 3 ⟨cls, 0, opn, at_, w, sa, sc, ok⟩ m (PlQ D L (B + 3) cls) := by
  have e := pl_look (cfA sp) who cls opn at_ w sa sc ok m
  have ea : wrI (2 + cls) = ((2 + cls.toNat : Nat) : Int) := by rw [wrI_id (by omega) (by omega)]; omega
  rw [ea, h.ld (by omega)] at e
  simp only [ho] at e
  rw [wrI_id (n := (k : Int) + 1) (by omega) (by omega), wrI_id (n := (k : Int) + 1 - 1) (by omega) (by omega)] at e
  have d : decide ((k : Int) + 1 - 1 < 0) = false := by simp
  rw [d] at e
  simp only [cond_false] at e
  rw [show (k : Int) + 1 - 1 = (k : Int) by omega] at e
  have := see_wp (sp := sp) (who := who) (opn := (k : Int) + 1) (w := w) (sa := sa) (sc := sc) (ok := ok) (h.touch (who := who) (a := ((2 + cls.toNat : Nat) : Int)) (by omega)) (by omega) hk hs hc hcl hu
  exact Wp.f e (Wp.up this (fun _ _ hq => by rw [show B + 3 = B + 1 + 2 by omega]; exact hq) (Nat.le_refl _))

theorem open_wp (h : Inv D L B m) (hB : B ≤ 600000000000) {k : Nat} (hk : k < 8) (hs : kS m.w k = 1) (hc : 0 ≤ cls ∧ cls ≤ 3) (ho : m.w (2 + cls.toNat) = opn) (hcl : m.w (19 + 3 * k) / 4 % 64 = cls) (hu : (kU m.w k : Int) + lRoom cls ≤ 40) :
    Wp (placeStep (cfA sp) who) 4 ⟨cls, 5, opn, k, w, sa, sc, ok⟩ m (PlQ D L (B + 4) cls) := by
  have e := pl_open (cfA sp) who cls opn k w sa sc ok m
  have ea : wrI (2 + cls) = ((2 + cls.toNat : Nat) : Int) := by rw [wrI_id (by omega) (by omega)]; omega
  rw [ea, h.cas (by omega) ho, wrI_id (n := (k : Int) + 1) (by omega) (by omega), wrU_id (n := (k : Int) + 1) (by omega) (by omega)] at e
  simp only [cond_true] at e
  have hsh : Shape D (upd m.w (2 + cls.toNat) ((k : Int) + 1)) := h.sh.ctl (by omega) (by omega) (by omega) (fun i hi => by omega) (fun i hi => by omega) (.inl ⟨by omega, fun i hi => by omega⟩) (.inr (by omega))
  have h1 := h.lay' (who := who) (by omega) hsh
  have := look_good (sp := sp) (who := who) (cls := cls) (opn := opn) (w := w) (sa := sa) (sc := sc) (ok := ok) (at_ := (k : Int)) h1 (by omega) hk (by rw [lay_w', kS_upd, if_neg (by omega)]; exact hs) hc (by rw [lay_w', upd_same]) (by rw [lay_w', upd_other _ _ (by omega)]; exact hcl)
    (by rw [lay_w', kU_upd, if_neg (by omega)]; exact hu)
  exact Wp.f e (Wp.up this (fun _ _ hq => by rw [show B + 4 = B + 1 + 3 by omega]; exact hq) (Nat.le_refl _))

theorem take_wp (h : Inv D L B m) (hB : B ≤ 500000000000) {k : Nat} (hk : k < 8) (hw : w = m.w (19 + 3 * k)) (hs : kS m.w k = 0) (hc : 0 ≤ cls ∧ cls ≤ 3) (ho : m.w (2 + cls.toNat) = opn) :
    Wp (placeStep (cfA sp) who) 5 ⟨cls, 4, opn, k, w, sa, sc, ok⟩ m (PlQ D L (B + 5) cls) := by
  obtain ⟨r1, r2⟩ := room_bnd hc
  have hw0 : 0 ≤ m.w (19 + 3 * k) ∧ m.w (19 + 3 * k) < 18446744073709551616 := h.sh.wd _ (by omega)
  rw [← hw] at hw0
  obtain ⟨st, hst, hst2⟩ := stamp_up (a := 1) (b := cls) (c := 0) (d := w / 268435456) (by omega)
  have ev : plFresh cls w = 1 + cls * 4 + 0 * 256 + st * 268435456 := by
    unfold plFresh
    rw [chunkOf_eq hw0.1 hw0.2]
    simp only
    rw [hst2, putChunk_eq (by omega) (by omega) (by omega) (by omega)]
  generalize hv : plFresh cls w = v at ev
  have hz := (h.sh.chs k hk).2.2 hs
  have hsh : Shape D (upd m.w (19 + 3 * k) v) := h.sh.chk hk (by omega) (by omega) (by omega) (by omega)
  have e := pl_take (cfA sp) who cls opn k w sa sc ok m
  rw [chA_eq sp k hk, hv, h.cas (by omega) hw.symm] at e
  simp only [Bool.not_true, cond_false] at e
  have h1 := h.lay' (who := who) (by omega) hsh
  have := open_wp (sp := sp) (who := who) (cls := cls) (opn := opn) (w := w) (sa := sa) (sc := sc) (ok := ok) h1 (by omega) hk (by rw [lay_w', kS_upd, if_pos rfl]; omega) hc (by rw [lay_w', upd_other _ _ (by omega)]; exact ho)
    (by rw [lay_w', upd_same]; omega) (by rw [lay_w', kU_upd, if_pos rfl]; omega)
  exact Wp.f e (Wp.up this (fun _ _ hq => by rw [show B + 5 = B + 1 + 4 by omega]; exact hq) (Nat.le_refl _))

theorem scan_wp (h : Inv D L B m) (hB : B ≤ 400000000000) (hok : ok = false) (hc : 0 ≤ cls ∧ cls ≤ 3) (ho : m.w (2 + cls.toNat) = opn) : ∀ (d k : Nat) (B' : Int) (m' : PMem), k + d = 8 → Inv D L B' m' → m'.w = m.w → B' ≤ 400000000000 + k → k < 8 → ∀ w,
    Wp (placeStep (cfA sp) who) (d + 6) ⟨cls, 3, opn, k, w, sa, sc, ok⟩ m' (PlQ D L (B' + d + 6) cls) := by
  intro d
  induction d with
  | zero => intro k B' m' hk _ _ _ h8; omega
  | succ d ih =>
    intro k B' m' hkd h' hw hB' hk w
    have hw0 : 0 ≤ m'.w (19 + 3 * k) ∧ m'.w (19 + 3 * k) < 18446744073709551616 := h'.sh.wd _ (by omega)
    have e := pl_scan (cfA sp) who cls opn k w sa sc ok m'
    rw [chA_eq sp k hk, h'.ld (by omega)] at e
    simp only [chunkOf_eq hw0.1 hw0.2] at e
    have hL := h'.lo.1
    have ht := h'.touch (who := who) (a := ((19 + 3 * k : Nat) : Int)) (by omega)
    by_cases hz : m'.w (19 + 3 * k) % 4 = 0
    · rw [hz] at e
      simp only [decide_true, Bool.not_true, cond_false] at e
      have := take_wp (sp := sp) (who := who) (cls := cls) (opn := opn) (sa := sa) (sc := sc) (ok := ok) ht (by omega) hk rfl hz hc (by rw [PMem.touch_w, hw]; exact ho)
      exact Wp.f e (Wp.up this (fun _ _ hq => hq.le (by omega) hL) (by omega))
    · have d1 : decide (m'.w (19 + 3 * k) % 4 = 0) = false := by simp; exact hz
      rw [d1] at e
      simp only [Bool.not_false, cond_true] at e
      rw [show wrI ((k : Int) + 1) = ((k + 1 : Nat) : Int) by rw [wrI_id (by omega) (by omega)]; omega] at e
      by_cases hl : k + 1 < 8
      · have d2 : decide ((cfA sp).chunks ≤ ((k + 1 : Nat) : Int)) = false := by
          show decide ((8 : Int) ≤ ((k + 1 : Nat) : Int)) = false
          simp; omega
        rw [d2] at e
        have := ih (k + 1) (B' + 1) _ (by omega) ht hw (by omega) hl (m'.w (19 + 3 * k))
        exact Wp.f e (Wp.up this (fun _ _ hq => hq.le (by omega) hL) (by omega))
      · have d2 : decide ((cfA sp).chunks ≤ ((k + 1 : Nat) : Int)) = true := by
          show decide ((8 : Int) ≤ ((k + 1 : Nat) : Int)) = true
          simp; omega
        rw [d2] at e
        exact Wp.t e ⟨ht.le ⟨hL, Int.le_refl _⟩ (by omega), .inl hok⟩

theorem look_wp (h : Inv D L B m) (hB : B ≤ 300000000000) (hok : ok = false) (hc : 0 ≤ cls ∧ cls ≤ 3) {at_ : Int} : Wp (placeStep (cfA sp) who) 16 ⟨cls, 0, opn, at_, w, sa, sc, ok⟩ m (PlQ D L (B + 16) cls) := by
  obtain ⟨r1, r2⟩ := room_bnd hc
  have hL := h.lo.1
  have e := pl_look (cfA sp) who cls opn at_ w sa sc ok m
  have ea : wrI (2 + cls) = ((2 + cls.toNat : Nat) : Int) := by rw [wrI_id (by omega) (by omega)]; omega
  have hop := h.sh.opn cls.toNat (by omega)
  have hop0 := (h.sh.wd (2 + cls.toNat) (by omega)).1
  rw [ea, h.ld (by omega)] at e
  simp only at e
  have ht := h.touch (who := who) (a := ((2 + cls.toNat : Nat) : Int)) (by omega)
  rw [wrI_id (n := m.w (2 + cls.toNat)) (by omega) (by omega)] at e
  by_cases hz : m.w (2 + cls.toNat) = 0
  · have d : decide (wrI (m.w (2 + cls.toNat) - 1) < 0) = true := by rw [hz]; decide
    rw [d] at e
    simp only [cond_true] at e
    have := scan_wp (sp := sp) (who := who) (cls := cls) (opn := m.w (2 + cls.toNat)) (sa := sa) (sc := sc) (ok := ok) h (by omega) hok hc rfl 8 0 (B + 1) _ rfl ht rfl (by omega) (by omega) w
    exact Wp.f e (Wp.up this (fun _ _ hq => hq.le (by omega) hL) (by omega))
  · rw [wrI_id (n := m.w (2 + cls.toNat) - 1) (by omega) (by omega)] at e
    have d : decide (m.w (2 + cls.toNat) - 1 < 0) = false := by simp; omega
    rw [d] at e
    simp only [cond_false] at e
    obtain ⟨k, hk⟩ : ∃ k : Nat, m.w (2 + cls.toNat) - 1 = (k : Int) := ⟨(m.w (2 + cls.toNat) - 1).toNat, by omega⟩
    have hk8 : k < 8 := by omega
    rw [hk] at e
    have hw0 : 0 ≤ m.w (19 + 3 * k) ∧ m.w (19 + 3 * k) < 18446744073709551616 := h.sh.wd _ (by omega)
    have hch := h.sh.chs k hk8
    have hU : (kU m.w k : Int) = m.w (19 + 3 * k) / 256 % 1048576 := by unfold kU; omega
    by_cases hg : kS m.w k = 1 ∧ m.w (19 + 3 * k) / 4 % 64 = cls ∧ (kU m.w k : Int) + lRoom cls ≤ 40
    · have := see_wp (sp := sp) (who := who) (opn := m.w (2 + cls.toNat)) (w := w) (sa := sa) (sc := sc) (ok := ok) ht (by omega) hk8 hg.1 hc hg.2.1 hg.2.2
      exact Wp.f e (Wp.up this (fun _ _ hq => hq.le (by omega) hL) (by omega))
    · have e2 := pl_see (cfA sp) who cls (m.w (2 + cls.toNat)) k w sa sc ok (m.touch who ((2 + cls.toNat : Nat) : Int))
      rw [chA_eq sp k hk8, ht.ld (by omega)] at e2
      simp only [PMem.touch_w, chunkOf_eq hw0.1 hw0.2] at e2
      rw [← hU, wrI_id (n := (kU m.w k : Int) + lRoom cls) (by omega) (by omega)] at e2
      have e3 : placeStep (cfA sp) who ⟨cls, 1, m.w (2 + cls.toNat), k, w, sa, sc, ok⟩ (m.touch who ((2 + cls.toNat : Nat) : Int)) =
          (false, ⟨cls, 3, m.w (2 + cls.toNat), 0, m.w (19 + 3 * k), sa, sc, ok⟩, (m.touch who ((2 + cls.toNat : Nat) : Int)).touch who ((19 + 3 * k : Nat) : Int)) := by
        rw [e2]
        by_cases g1 : m.w (19 + 3 * k) % 4 = 1
        · by_cases g2 : m.w (19 + 3 * k) / 4 % 64 = cls
          · have g3 : decide ((cfA sp).words < (kU m.w k : Int) + lRoom cls) = true := by
              show decide ((40 : Int) < (kU m.w k : Int) + lRoom cls) = true
              simp
              have : ¬ ((kU m.w k : Int) + lRoom cls ≤ 40) := fun hc3 => hg ⟨g1, g2, hc3⟩
              omega
            rw [g3, g1, g2]
            simp only [decide_true, Bool.not_true, cond_false, cond_true]
          · have g2 : decide (m.w (19 + 3 * k) / 4 % 64 = cls) = false := by simp; exact g2
            rw [g2, g1]
            simp only [decide_true, Bool.not_true, Bool.not_false, cond_false, cond_true]
        · have g1 : decide (m.w (19 + 3 * k) % 4 = 1) = false := by simp; exact g1
          rw [g1]
          simp only [Bool.not_false, cond_true]
      have ht2 := ht.touch (who := who) (a := ((19 + 3 * k : Nat) : Int)) (by omega)
      have := scan_wp (sp := sp) (who := who) (cls := cls) (opn := m.w (2 + cls.toNat)) (sa := sa) (sc := sc) (ok := ok) h (by omega) hok hc rfl 8 0 (B + 1 + 1) _ rfl ht2 rfl (by omega) (by omega) (m.w (19 + 3 * k))
      exact Wp.f e (Wp.f e3 (Wp.up this (fun _ _ hq => hq.le (by omega) hL) (by omega)))

end
end Go.FL

/-
  An object is made alone.
-/
set_option linter.unusedVariables false
set_option linter.unusedSimpArgs false
set_option maxRecDepth 20000
namespace Go.FL
open Go

section
variable (c : PCfg) (who size : Int) (own ok : Bool) (top next slot at_ gen sa sc : Int) (out : PDone) (p : PPlace) (g : PGive) (tk : PTake) (m : PMem)

theorem al_give : allocStep c who ⟨size, own, 7, tk, at_, gen, some p, sa, sc, some g, out⟩ m =
    ((giveStep c who g m).1, ⟨size, own, 7, tk, at_, gen, some p, sa, sc, some (giveStep c who g m).2.1, out⟩, (giveStep c who g m).2.2) := by kernel_rfl

theorem gv_0 : giveStep c who ⟨0, slot, top⟩ m = (false, ⟨1, slot, (m.eLoad who 1).1⟩, (m.eLoad who 1).2) := by kernel_rfl
theorem gv_1 : giveStep c who ⟨1, slot, top⟩ m = (false, ⟨2, slot, top⟩, m.eStore who (wrI (lSlot c.threads c.slots c.chunks c.words c.gens c.sparse c.tries slot + 1)) (putTop (topOf top).1 0)) := by kernel_rfl
theorem gv_2 : giveStep c who ⟨2, slot, top⟩ m = ((m.eCas who 1 top (putTop slot (wrI ((topOf top).2 + 1)))).1, ⟨0, slot, top⟩, (m.eCas who 1 top (putTop slot (wrI ((topOf top).2 + 1)))).2) := by kernel_rfl
end

theorem putTop_hi (a : Int) : putTop a 68719476736 = putTop a 68719476735 := by
  unfold putTop putTopK
  rfl

theorem topUp {a d : Int} (hd : 0 ≤ d ∧ d ≤ 68719476735) : ∃ e : Int, (0 ≤ e ∧ e ≤ 68719476735) ∧ putTop a (wrI (d + 1)) = putTop a e := by
  rw [wrI_id (by omega) (by omega)]
  by_cases h : d = 68719476735
  · subst h; exact ⟨68719476735, ⟨by omega, by omega⟩, putTop_hi a⟩
  · exact ⟨d + 1, ⟨by omega, by omega⟩, rfl⟩

theorem head_bd {k z s g : Int} (o : Bool) (hk : 0 ≤ k ∧ k ≤ 3) (hz : 0 ≤ z ∧ z ≤ 65535) (hs : 0 ≤ s ∧ s ≤ 65535) (hg : 0 ≤ g ∧ g ≤ 65535) :
    (0 ≤ putHead k z s g o ∧ putHead k z s g o < 9223372036854775808) ∧ putHead k z s g o / 4 % 65536 = z := by
  rw [putHead_eq o hk hz hs hg]
  cases o <;> simp <;> omega

theorem cls_room {size : Int} (h : 1 ≤ size ∧ size ≤ 16) : (0 ≤ lClass size ∧ lClass size ≤ 3) ∧ size + 1 ≤ lRoom (lClass size) := by
  rw [lClass_eq size h]
  split
  · rw [lRoom_0]; omega
  · split
    · rw [lRoom_1]; omega
    · split
      · rw [lRoom_2]; omega
      · rw [lRoom_3]; omega

/-- A stamp between a step and the last one. -/
def StQ (D : Nat) (L B : Int) (o : PDone) (m : PMem) : Prop := Inv D L B m ∧ L ≤ o.st ∧ o.st ≤ m.steps ∧ 0 ≤ o.h ∧ o.h < 18446744073709551616

theorem StQ.le {D : Nat} {L B B' : Int} {o : PDone} {m : PMem} (h : StQ D L B o m) (hb : B ≤ B') : StQ D L B' o m := ⟨h.1.le ⟨h.1.lo.1, Int.le_refl _⟩ hb, h.2⟩

section
variable {D : Nat} {L B : Int} {m : PMem} {who sp size gen sa sc : Int} {own : Bool} {tk : PTake} {out : PDone}

/-- A slot is given back. -/
theorem give_wp (h : Inv D L B m) (hB : B ≤ 900000000000) {i : Nat} (hi : i < 6) {top : Int} : Wp (giveStep (cfA sp) who) 3 ⟨0, (i : Int), top⟩ m fun _ m' => Inv D L (B + 3) m' ∧ m.steps ≤ m'.steps := by
  have hw1 := h.sh.wd 1 (by omega)
  have ht1 := h.sh.top
  have hlo := h.lo
  have hhi := h.hi
  have e := gv_0 (cfA sp) who top i m
  have l1 := h.ld (who := who) (a := 1) (by omega)
  rw [show ((1 : Nat) : Int) = 1 from rfl] at l1
  rw [l1] at e
  refine Wp.f e ?_
  have ht := h.touch (who := who) (a := (1 : Int)) (by omega)
  have e := gv_1 (cfA sp) who (m.w 1) i (m.touch who 1)
  have ea : wrI (lSlot 1 6 8 40 100 sp 3 (i : Int) + 1) = ((8 + 2 * i : Nat) : Int) := by
    rw [slA_eq sp i hi, wrI_id (by omega) (by omega)]; omega
  rw [show (cfA sp).threads = 1 from rfl, show (cfA sp).slots = 6 from rfl, show (cfA sp).chunks = 8 from rfl, show (cfA sp).words = 40 from rfl, show (cfA sp).gens = 100 from rfl, show (cfA sp).sparse = sp from rfl, show (cfA sp).tries = 3 from rfl, ea, ht.stq (by omega)] at e
  refine Wp.f e ?_
  have t1 : topOf (m.w 1) = (m.w 1 % 131072 - 1, m.w 1 / 131072 % 68719476736) := topOf_eq hw1.1 hw1.2
  have v1 : putTop (topOf (m.w 1)).1 0 = m.w 1 % 131072 := by
    rw [t1, putTop_eq (by omega) (by omega)]; omega
  rw [v1]
  have hs1 : Shape D (upd (m.touch who 1).w (8 + 2 * i) (m.w 1 % 131072)) := h.sh.ctl (a := 8 + 2 * i) (v := m.w 1 % 131072) (by omega) (by omega) (by omega) (fun k hk => by omega) (fun k hk => by omega) (.inr (by omega)) (.inl (by omega))
  have h2 := ht.lay' (who := who) (by omega) hs1
  have e := gv_2 (cfA sp) who (m.w 1) i ((m.touch who 1).lay who ((8 + 2 * i : Nat) : Int) (m.w 1 % 131072))
  have hwe : ((m.touch who 1).lay who ((8 + 2 * i : Nat) : Int) (m.w 1 % 131072)).w 1 = m.w 1 := by
    rw [lay_w', upd_other _ _ (by omega)]; rfl
  have c1 := h2.cas (who := who) (d := putTop (i : Int) (wrI ((topOf (m.w 1)).2 + 1))) (a := 1) (by omega) hwe
  rw [show ((1 : Nat) : Int) = 1 from rfl] at c1
  rw [c1] at e
  have s1 : (m.touch who 1).steps = m.steps + 1 := by rw [PMem.touch_steps, h.step_eq (by omega)]
  have s2 : ((m.touch who 1).lay who ((8 + 2 * i : Nat) : Int) (m.w 1 % 131072)).steps = m.steps + 2 := by rw [PMem.lay_steps, ht.step_eq (by omega), s1]; omega
  obtain ⟨st, hst, hst2⟩ := topUp (a := (i : Int)) (d := (topOf (m.w 1)).2) (by rw [t1]; simp only; omega)
  rw [hst2] at e
  have ev : putTop (i : Int) st = i + 1 + st * 131072 := putTop_eq (by omega) hst
  generalize ((m.touch who 1).lay who ((8 + 2 * i : Nat) : Int) (m.w 1 % 131072)) = m2 at h2 e s2
  have hs3 := h2.sh.ctl (a := 1) (v := putTop (i : Int) st) (by omega) (by omega) (by omega) (fun k hk => by omega) (fun k hk => by omega) (.inr (by omega)) (.inl (by omega))
  have h3 := h2.lay' (who := who) (a := 1) (by omega) hs3
  have s3 : (m2.lay who ((1 : Nat) : Int) (putTop (i : Int) st)).steps = m.steps + 3 := by rw [PMem.lay_steps, h2.step_eq (by omega), s2]; omega
  rw [show ((1 : Nat) : Int) = 1 from rfl] at h3 s3
  exact Wp.t e ⟨h3.le ⟨hlo.1, Int.le_refl _⟩ (by omega), by rw [s3]; omega⟩

theorem place_in {n j : Nat} {i : Int} {p : PPlace} {Q : PPlace → PMem → Prop} {R : PAlloc → PMem → Prop} (h : Wp (placeStep (cfA sp) who) n p m Q)
    (hy : ∀ p' m', Q p' m' → p'.ok = true → Wp (allocStep (cfA sp) who) j ⟨size, own, 3, tk, i, gen, some p', p'.sa, p'.sc, none, out⟩ m' R)
    (hn : ∀ p' m', Q p' m' → p'.ok = false → Wp (allocStep (cfA sp) who) j ⟨size, own, 7, tk, i, gen, some p', 0, 0, some ⟨0, i, 0⟩, ⟨6, 0, 0, m'.steps⟩⟩ m' R) :
    Wp (allocStep (cfA sp) who) (n + j) ⟨size, own, 2, tk, i, gen, some p, sa, sc, none, out⟩ m R := by
  induction n generalizing p m with
  | zero => exact h.elim
  | succ n ih =>
    have e := al_place (cfA sp) who size own i gen sa sc out p tk m
    rw [show n + 1 + j = (n + j) + 1 by omega]
    rcases h.inv with ⟨p1, m1, ep, h⟩ | ⟨p1, m1, ep, h⟩
    · rw [ep] at e
      simp only [cond_true] at e
      cases ho : p1.ok with
      | true =>
        rw [ho] at e
        simp only [Bool.not_true, cond_true, cond_false] at e
        exact Wp.f e (Wp.up (hy p1 m1 h ho) (fun _ _ hq => hq) (by omega))
      | false =>
        rw [ho] at e
        simp only [Bool.not_false, cond_true, cond_false] at e
        exact Wp.f e (Wp.up (hn p1 m1 h ho) (fun _ _ hq => hq) (by omega))
    · rw [ep] at e
      simp only [cond_false] at e
      exact Wp.f e (ih h)

theorem give_in {n : Nat} {i : Int} {p : PPlace} {g : PGive} {G : PMem → Prop} {R : PAlloc → PMem → Prop} (hR : ∀ a m', a.out = out → G m' → R a m') (h : Wp (giveStep (cfA sp) who) n g m fun _ m' => G m') :
    Wp (allocStep (cfA sp) who) n ⟨size, own, 7, tk, i, gen, some p, sa, sc, some g, out⟩ m R := by
  induction n generalizing g m with
  | zero => exact h.elim
  | succ n ih =>
    have e := al_give (cfA sp) who size own i gen sa sc out p g tk m
    rcases h.inv with ⟨p1, m1, ep, h⟩ | ⟨p1, m1, ep, h⟩
    · rw [ep] at e
      exact Wp.t e (hR _ _ rfl h)
    · rw [ep] at e
      exact Wp.f e (ih h)

theorem Inc.mono {w : Nat → Int} {a z y : Nat} (h : Inc w a z) (hy : y ≤ z) : Inc w a y := fun k hk => by
  rcases h k hk with h | h
  · exact .inl (by omega)
  · exact .inr h

theorem Apt.mono {a z b y x : Nat} (h : Apt a z b y) (hx : x ≤ y) : Apt a z b x := by unfold Apt at *; omega

/-- What is laid out for an object: its words are got, and no other's. -/
structure Got (w : Nat → Int) (A r : Nat) : Prop where
  lo : 43 ≤ A
  hi : A + r ≤ 363
  zer : ∀ j, 0 < j → j < r → w (A + j) = 0
  inc : Inc w A (r - 1)
  apt : ∀ i, i < 6 → Prs w i → Apt (oA w i) (oZ w i) A (r - 1)

/-- The words got stay so, where a word beside them, that is no slot's, no chunk's, no head's, is laid. -/
theorem Got.ctl {w : Nat → Int} {A r a : Nat} {v : Int} (h : Got w A r) (ha : a < 43) (hs : ∀ i, i < 6 → a ≠ 7 + 2 * i) (hc : ∀ k, k < 8 → a ≠ 19 + 3 * k) (hr : ∀ i, i < 6 → Prs w i → 43 ≤ oA w i) : Got (upd w a v) A r := by
  have eS : ∀ i, i < 6 → oS (upd w a v) i = oS w i := fun i hi => by rw [oS_upd, if_neg fun hc => hs i hi hc.symm]
  have eA : ∀ i, i < 6 → oA (upd w a v) i = oA w i := fun i hi => by rw [oA_upd, if_neg fun hc => hs i hi hc.symm]
  refine ⟨h.lo, h.hi, fun j h0 hj => ?_, fun k hk => ?_, fun i hi hp => ?_⟩
  · have := h.lo
    rw [upd_other _ _ (by omega)]; exact h.zer j h0 hj
  · rw [kU_upd, if_neg fun h => hc k hk h.symm]; exact h.inc k hk
  · have hp : Prs w i := by unfold Prs at *; rw [eS i hi] at hp; exact hp
    have hr := hr i hi hp
    unfold oZ
    rw [eA i hi, zA_upd, if_neg (by omega)]
    exact h.apt i hi hp

theorem Got.head {w : Nat → Int} {A r : Nat} {v : Int} (h : Got w A r) : Got (upd w A v) A r := by
  have hl := h.lo
  have eS : ∀ i, i < 6 → oS (upd w A v) i = oS w i := fun i hi => by rw [oS_upd, if_neg (by omega)]
  have eA : ∀ i, i < 6 → oA (upd w A v) i = oA w i := fun i hi => by rw [oA_upd, if_neg (by omega)]
  refine ⟨h.lo, h.hi, fun j h0 hj => ?_, fun k hk => ?_, fun i hi hp => ?_⟩
  · rw [upd_other _ _ (by omega)]; exact h.zer j h0 hj
  · rw [kU_upd, if_neg (by omega)]; exact h.inc k hk
  · have hp : Prs w i := by unfold Prs at *; rw [eS i hi] at hp; exact hp
    have ha := h.apt i hi hp
    unfold oZ
    rw [eA i hi, zA_upd, if_neg (by unfold Apt at ha; omega)]
    exact ha

/-- An object is made, or not. -/
theorem make_wp (h : Inv 6 L B m) (hB : B ≤ 200000000000) (hz : 1 ≤ size ∧ size ≤ 16) {out : PDone} :
    Wp (allocStep (cfA sp) who) 60 ⟨size, own, 0, ⟨0, 0, 0, 0, false⟩, 0, 0, none, 0, 0, none, out⟩ m fun a m' => StQ 6 L (B + 60) a.out m' := by
  obtain ⟨hcl, hroom⟩ := cls_room hz
  have dcl : decide (lClass size < 0) = false := by simp; omega
  have hlo := h.lo
  have hhi := h.hi
  have hw1 := h.sh.wd 1 (by omega)
  have ht1 := h.sh.top
  have l1 := h.ld (who := who) (a := 1) (by omega)
  rw [show ((1 : Nat) : Int) = 1 from rfl] at l1
  have t1 : topOf (m.w 1) = (m.w 1 % 131072 - 1, m.w 1 / 131072 % 68719476736) := topOf_eq hw1.1 hw1.2
  have e := al_0 (cfA sp) who size own false 0 0 0 0 0 0 0 out m
  rw [dcl, l1] at e
  simp only [cond_false, t1] at e
  have ht := h.touch (who := who) (a := (1 : Int)) (by omega)
  by_cases hz0 : m.w 1 % 131072 = 0
  · have d : decide (m.w 1 % 131072 - 1 < 0) = true := by simp; omega
    rw [d] at e
    simp only [cond_true, Bool.not_false] at e
    refine Wp.t e ⟨ht.le ⟨hlo.1, Int.le_refl _⟩ (by omega), ?_, Int.le_refl _, Int.le_refl _, (by show (0 : Int) < 18446744073709551616; omega)⟩
    show L ≤ (m.touch who 1).steps
    rw [PMem.touch_steps, h.step_eq (by omega)]; omega
  have d : decide (m.w 1 % 131072 - 1 < 0) = false := by simp; omega
  rw [d] at e
  simp only [cond_false] at e
  refine Wp.f e ?_
  obtain ⟨i, hi⟩ : ∃ i : Nat, m.w 1 % 131072 - 1 = (i : Int) := ⟨(m.w 1 % 131072 - 1).toNat, by omega⟩
  have hi6 : i < 6 := by omega
  rw [hi]
  have e := al_1 (cfA sp) who size own (m.w 1) 0 i 0 0 0 0 out (m.touch who 1)
  have ea : wrI (lSlot 1 6 8 40 100 sp 3 (i : Int) + 1) = ((8 + 2 * i : Nat) : Int) := by
    rw [slA_eq sp i hi6, wrI_id (by omega) (by omega)]; omega
  rw [dcl, show (cfA sp).threads = 1 from rfl, show (cfA sp).slots = 6 from rfl, show (cfA sp).chunks = 8 from rfl, show (cfA sp).words = 40 from rfl, show (cfA sp).gens = 100 from rfl, show (cfA sp).sparse = sp from rfl, show (cfA sp).tries = 3 from rfl, ea, ht.ld (by omega)] at e
  simp only [cond_false] at e
  refine Wp.f e ?_
  have hl := h.sh.wd (8 + 2 * i) (by omega)
  have hl2 := h.sh.link i hi6
  have t2 : topOf (m.w (8 + 2 * i)) = (m.w (8 + 2 * i) % 131072 - 1, m.w (8 + 2 * i) / 131072 % 68719476736) := topOf_eq hl.1 hl.2
  rw [PMem.touch_w, t2]
  simp only
  have ht2 := ht.touch (who := who) (a := ((8 + 2 * i : Nat) : Int)) (by omega)
  have e := al_2 (cfA sp) who size own false (m.w 1) (m.w (8 + 2 * i) % 131072 - 1) i 0 0 0 0 out ((m.touch who 1).touch who ((8 + 2 * i : Nat) : Int))
  obtain ⟨st, hst, hst2⟩ := topUp (a := m.w (8 + 2 * i) % 131072 - 1) (d := (topOf (m.w 1)).2) (by rw [t1]; simp only; omega)
  rw [hst2] at e
  have ev : putTop (m.w (8 + 2 * i) % 131072 - 1) st = m.w (8 + 2 * i) % 131072 - 1 + 1 + st * 131072 := putTop_eq (by omega) hst
  generalize hv : putTop (m.w (8 + 2 * i) % 131072 - 1) st = v at e ev
  have c1 := ht2.cas (who := who) (d := v) (a := 1) (v := m.w 1) (by omega) rfl
  rw [show ((1 : Nat) : Int) = 1 from rfl] at c1
  rw [dcl, c1] at e
  simp only [cond_false, cond_true, Bool.not_true] at e
  refine Wp.f e ?_
  have h3 : Inv 6 L (B + 3) (((m.touch who 1).touch who ((8 + 2 * i : Nat) : Int)).lay who 1 v) :=
    (ht2.lay' (who := who) (a := 1) (by omega) (h.sh.ctl (a := 1) (v := v) (by omega) (by omega) (by omega) (fun k hk => by omega) (fun k hk => by omega) (.inr (by omega)) (.inl (by omega)))).le ⟨hlo.1, Int.le_refl _⟩ (by omega)
  generalize ((m.touch who 1).touch who ((8 + 2 * i : Nat) : Int)).lay who 1 v = m3 at h3
  generalize (⟨0, m.w 1, m.w (8 + 2 * i) % 131072 - 1, (i : Int), true⟩ : PTake) = tk
  have e := al_see (cfA sp) who size own i 0 0 0 out tk m3
  rw [show (cfA sp).threads = 1 from rfl, show (cfA sp).slots = 6 from rfl, show (cfA sp).chunks = 8 from rfl, show (cfA sp).words = 40 from rfl, show (cfA sp).gens = 100 from rfl, show (cfA sp).sparse = sp from rfl, show (cfA sp).tries = 3 from rfl, slA_eq sp i hi6, h3.ld (by omega)] at e
  refine Wp.f e ?_
  have hs := h3.sh.wd (7 + 2 * i) (by omega)
  have hgen : 0 ≤ (slotOf (m3.w (7 + 2 * i))).2.2.1 ∧ (slotOf (m3.w (7 + 2 * i))).2.2.1 ≤ 65535 := by
    rw [slotOf_eq hs.1 hs.2]; simp only; omega
  simp only
  generalize (slotOf (m3.w (7 + 2 * i))).2.2.1 = gen at hgen
  have h4 := h3.touch (who := who) (a := ((7 + 2 * i : Nat) : Int)) (by omega)
  generalize m3.touch who ((7 + 2 * i : Nat) : Int) = m4 at h4
  refine Wp.up (place_in (n := 16) (j := 8) (look_wp h4 (by omega) rfl hcl) ?_ ?_) (fun _ _ hq => hq) (by omega)
  · intro p' m' hq ho
    obtain ⟨h5, hq⟩ := hq
    rcases hq with hf | ⟨_, A, k, hA, hk, hk8, hres⟩
    · rw [ho] at hf; cases hf
    rw [hA, hk]
    obtain ⟨r1, r2⟩ := room_bnd hcl
    obtain ⟨R, hR⟩ : ∃ R : Nat, lRoom (lClass size) = (R : Int) := ⟨(lRoom (lClass size)).toNat, by omega⟩
    rw [hR, Int.toNat_natCast] at hres
    have e := al_count (cfA sp) who size own i gen A k out p' tk m'
    have ea : wrI (lChunk 1 6 8 40 100 sp 3 (k : Int) + 1) = ((20 + 3 * k : Nat) : Int) := by
      have := chA_eq sp k hk8
      unfold chA at this
      rw [show lChunk 1 6 8 40 100 sp 3 (k : Int) = _ from this, wrI_id (by omega) (by omega)]; omega
    have hn := h5.n
    have hc0 := h5.sh.wd (20 + 3 * k) (by omega)
    rw [show (cfA sp).threads = 1 from rfl, show (cfA sp).slots = 6 from rfl, show (cfA sp).chunks = 8 from rfl, show (cfA sp).words = 40 from rfl, show (cfA sp).gens = 100 from rfl, show (cfA sp).sparse = sp from rfl, show (cfA sp).tries = 3 from rfl, ea,
      PMem.eAdd_in (by omega) (by omega), Int.toNat_natCast] at e
    refine Wp.f e ?_
    have hwu : ∀ x : Int, 0 ≤ wrU x ∧ wrU x < 18446744073709551616 := fun x => by
      unfold wrU
      simp only [Bool.false_and, Bool.false_eq_true, if_false]
      omega
    have got : Got m'.w A R := ⟨hres.lo, hres.hi, fun j _ hj => hres.zer j hj, hres.inc, hres.apt⟩
    have hv6 := hwu (m'.w (20 + 3 * k) + wrU (R : Int))
    rw [hR]
    generalize wrU (m'.w (20 + 3 * k) + wrU (R : Int)) = v6 at hv6
    have hr : ∀ q, q < 6 → Prs m'.w q → 43 ≤ oA m'.w q := fun q hq hp => (h5.sh.rng q hq hp).1
    have h6 := h5.lay' (who := who) (a := 20 + 3 * k) (v := v6) (by omega) (h5.sh.ctl (by omega) (by omega) hv6 (fun q hq => by omega) (fun q hq => by omega) (.inl ⟨by omega, fun q hq => by omega⟩) (.inl (by omega)))
    have got6 : Got (m'.lay who ((20 + 3 * k : Nat) : Int) v6).w A R := by
      rw [lay_w']; exact got.ctl (by omega) (fun q hq => by omega) (fun q hq => by omega) hr
    generalize m'.lay who ((20 + 3 * k : Nat) : Int) v6 = m6 at h6 got6
    have hd1 := head_bd own (k := 1) (z := size) (s := i) (g := gen) (by omega) (by omega) (by omega) hgen
    have hd2 := head_bd own (k := 2) (z := size) (s := i) (g := gen) (by omega) (by omega) (by omega) hgen
    have hlo6 := got6.lo
    have hhi6 := got6.hi
    have hin : ∀ (w : Nat → Int), Got w A R → ∀ q j, q < 8 → j < 40 → kU w q ≤ j → A ≠ 43 + 40 * q + j := by
      intro w hg q j hq hj hu hc
      rcases hg.inc q hq with h1 | h1
      · omega
      · omega
    have e := al_head (cfA sp) who size own i gen A k out p' tk m6
    rw [h6.stq (by omega)] at e
    refine Wp.f e ?_
    have sh7 : Shape 6 (upd m6.w A (putHead 1 size i gen own)) := by
      refine h6.sh.obj hlo6 (by omega) (hin _ got6) (fun q hq hp hc => ?_) (fun q j hq h1 hj hc => by omega)
      have := got6.apt q hq hp
      unfold Apt at this
      omega
    have h7 := h6.lay' (who := who) (by omega) sh7
    have got7 : Got (m6.lay who (A : Int) (putHead 1 size i gen own)).w A R := by rw [lay_w']; exact got6.head
    have hz7 : zA (m6.lay who (A : Int) (putHead 1 size i gen own)).w A = size.toNat := by rw [lay_w', zA_upd, if_pos rfl, hd1.2]
    generalize m6.lay who (A : Int) (putHead 1 size i gen own) = m7 at h7 got7 hz7
    have e := al_show (cfA sp) who size own i gen A k out p' tk m7
    rw [show (cfA sp).threads = 1 from rfl, show (cfA sp).slots = 6 from rfl, show (cfA sp).chunks = 8 from rfl, show (cfA sp).words = 40 from rfl, show (cfA sp).gens = 100 from rfl, show (cfA sp).sparse = sp from rfl, show (cfA sp).tries = 3 from rfl, slA_eq sp i hi6, h7.stq (by omega)] at e
    refine Wp.f e ?_
    have es : putSlot 1 A gen 0 = 1 + A * 8 + gen * 8388608 := by rw [putSlot_eq (by omega) (by omega) hgen (by omega)]; omega
    generalize hvs : putSlot 1 A gen 0 = vs at e es
    have ea1 : (vs / 8 % 1048576).toNat = A := by omega
    have sh8 : Shape 6 (upd m7.w (7 + 2 * i) vs) := by
      refine h7.sh.slot 6 (fun j _ _ h => h) hi6 (by omega) (.inr (.inl (by omega))) (fun _ => ?_) (fun _ => ?_)
      · rw [ea1, hz7]
        refine ⟨hlo6, by omega, by omega, got7.inc.mono (by omega), fun j hj _ hp => (got7.apt j hj hp).mono (by omega)⟩
      · rw [ea1, hz7]
        intro j hj
        have := got7.zer (j + 1) (by omega) (by omega)
        rw [show A + 1 + j = A + (j + 1) by omega, this]
        omega
    have h8 := h7.lay' (who := who) (by omega) sh8
    have hz8 : zA (m7.lay who ((7 + 2 * i : Nat) : Int) vs).w A = size.toNat := by rw [lay_w', zA_upd, if_neg (by omega)]; exact hz7
    have hin8 : ∀ q j, q < 8 → j < 40 → kU (m7.lay who ((7 + 2 * i : Nat) : Int) vs).w q ≤ j → A ≠ 43 + 40 * q + j := by
      intro q j hq hj hu
      rw [lay_w', kU_upd, if_neg (by omega)] at hu
      exact hin _ got7 q j hq hj hu
    generalize m7.lay who ((7 + 2 * i : Nat) : Int) vs = m8 at h8 hz8 hin8
    have e := al_ready (cfA sp) who size own i gen A k ⟨0, putHandle i gen, 0, m8.steps⟩ p' tk m8
    rw [h8.stq (by omega)] at e
    have sh9 : Shape 6 (upd m8.w A (putHead 2 size i gen own)) := by
      refine h8.sh.obj hlo6 (by omega) hin8 (fun q hq hp hc => ?_) (fun q j hq h1 hj hc => by omega)
      rw [hd2.2]
      unfold oZ
      rw [← hc, hz8]
    have h9 := h8.lay' (who := who) (by omega) sh9
    have hph : putHandle (i : Int) gen = i + gen * 65536 := putHandle_eq (by omega) hgen
    refine Wp.up (Wp.t (n := 0) e ⟨h9.le ⟨hlo.1, Int.le_refl _⟩ (by omega), ?_, ?_, (by show 0 ≤ putHandle (i : Int) gen; omega), (by show putHandle (i : Int) gen < _; omega)⟩) (fun _ _ hq => hq) (by omega)
    · exact h8.lo.2
    · show m8.steps ≤ (m8.lay who (A : Int) (putHead 2 size i gen own)).steps
      rw [PMem.lay_steps, h8.step_eq (by omega)]; omega
  · intro p' m' hq ho
    obtain ⟨h5, hq⟩ := hq
    have g := give_wp (sp := sp) (who := who) h5 (by omega) hi6 (top := 0)
    refine Wp.up (give_in (out := ⟨6, 0, 0, m'.steps⟩) (G := fun m2 => Inv 6 L (B + 30) m2 ∧ m'.steps ≤ m2.steps) (R := fun a m2 => StQ 6 L (B + 60) a.out m2) (fun a m2 ha hg => ?_) (Wp.up g (fun _ m2 hg => ⟨hg.1.le ⟨hlo.1, Int.le_refl _⟩ (by omega), hg.2⟩) (Nat.le_refl _))) (fun _ _ hq => hq) (by omega)
    rw [ha]
    exact ⟨hg.1.le ⟨hlo.1, Int.le_refl _⟩ (by omega), h5.lo.2, hg.2, Int.le_refl _, (by show (0 : Int) < 18446744073709551616; omega)⟩

end
end Go.FL

/-
  An object is let go alone: step by step.
-/
set_option linter.unusedVariables false
set_option linter.unusedSimpArgs false
set_option maxRecDepth 20000
namespace Go.FL
open Go

section
variable (c : PCfg) (who n : Int) (own : Bool) (hs hg w size i cell slot : Int) (read won : Bool) (hp : PHelp) (g : PGive) (out : PDone) (m : PMem)

abbrev slA (c : PCfg) (k : Int) : Int := lSlot c.threads c.slots c.chunks c.words c.gens c.sparse c.tries k

theorem dr_0 : dropStep c who ⟨n, own, hs, hg, 0, w, size, none, none, out⟩ m =
    (bif !(handle n).2.2 then (true, ⟨n, own, (handle n).1, (handle n).2.1, 0, w, size, none, none, ⟨3, 0, 0, m.steps⟩⟩, m)
    else bif decide (c.slots ≤ (handle n).1) then (true, ⟨n, own, (handle n).1, (handle n).2.1, 0, w, size, none, none, ⟨3, 0, 0, m.steps⟩⟩, m)
    else bif !live (slotOf (m.eLoad who (slA c (handle n).1)).1).1 (slotOf (m.eLoad who (slA c (handle n).1)).1).2.1 (slotOf (m.eLoad who (slA c (handle n).1)).1).2.2.1 (slotOf (m.eLoad who (slA c (handle n).1)).1).2.2.2 (handle n).1 (handle n).2.1 then
      (true, ⟨n, own, (handle n).1, (handle n).2.1, 0, (m.eLoad who (slA c (handle n).1)).1, size, none, none, ⟨3, 0, 0, (m.eLoad who (slA c (handle n).1)).2.steps⟩⟩, (m.eLoad who (slA c (handle n).1)).2)
    else (false, ⟨n, own, (handle n).1, (handle n).2.1, 1, (m.eLoad who (slA c (handle n).1)).1, size, none, none, out⟩, (m.eLoad who (slA c (handle n).1)).2)) := by kernel_rfl

theorem dr_1 : dropStep c who ⟨n, own, hs, hg, 1, w, size, none, none, out⟩ m =
    (bif !((headOf (m.eLoad who (slotOf w).2.1).1).2.2.2.2 == own) then (true, ⟨n, own, hs, hg, 1, w, size, none, none, ⟨3, 0, 0, (m.eLoad who (slotOf w).2.1).2.steps⟩⟩, (m.eLoad who (slotOf w).2.1).2)
    else bif decide ((slotOf w).1 = 4) then (false, ⟨n, own, hs, hg, 4, w, (headOf (m.eLoad who (slotOf w).2.1).1).2.1, some ⟨hs, w, (headOf (m.eLoad who (slotOf w).2.1).1).2.1, 0, 0, false, false⟩, none, out⟩, (m.eLoad who (slotOf w).2.1).2)
    else (false, ⟨n, own, hs, hg, 2, w, (headOf (m.eLoad who (slotOf w).2.1).1).2.1, none, none, out⟩, (m.eLoad who (slotOf w).2.1).2)) := by kernel_rfl

abbrev dropV (w : Int) : Int := putSlot 4 (slotOf w).2.1 (slotOf w).2.2.1 (wrI ((slotOf w).2.2.2 + 1))

theorem dr_2 : dropStep c who ⟨n, own, hs, hg, 2, w, size, none, none, out⟩ m =
    (bif (m.eCas who (slA c hs) w (dropV w)).1 then (false, ⟨n, own, hs, hg, 3, w, size, some ⟨hs, dropV w, size, 0, 0, false, false⟩, none, out⟩, (m.eCas who (slA c hs) w (dropV w)).2)
    else (false, ⟨n, own, hs, hg, 0, w, size, none, none, out⟩, (m.eCas who (slA c hs) w (dropV w)).2)) := by kernel_rfl

theorem dr_3 : dropStep c who ⟨n, own, hs, hg, 3, w, size, some hp, none, out⟩ m =
    (bif (helpStep c who hp m).1 then (false, ⟨n, own, hs, hg, 5, w, size, some (helpStep c who hp m).2.1, none, ⟨0, 0, 0, PMem.when_ (helpStep c who hp m).2.2 (slA c hs)⟩⟩, (helpStep c who hp m).2.2)
    else (false, ⟨n, own, hs, hg, 3, w, size, some (helpStep c who hp m).2.1, none, out⟩, (helpStep c who hp m).2.2)) := by kernel_rfl

theorem dr_5 : dropStep c who ⟨n, own, hs, hg, 5, w, size, some hp, none, out⟩ m =
    (bif decide (c.words = 0) then (false, ⟨n, own, hs, hg, 5, w, size, some hp, none, out⟩, m)
    else (decide (c.gens ≤ hg), ⟨n, own, hs, hg, 6, w, size, some hp, some ⟨0, hs, 0⟩, out⟩, m.eAdd who (wrI (chA c (lOf c.threads c.slots c.chunks c.words c.gens c.sparse c.tries (slotOf w).2.1) + 1)) (wrI (0 - lRoom (lClass size))))) := by kernel_rfl

theorem dr_6 : dropStep c who ⟨n, own, hs, hg, 6, w, size, some hp, some g, out⟩ m =
    ((giveStep c who g m).1, ⟨n, own, hs, hg, 6, w, size, some hp, some (giveStep c who g m).2.1, out⟩, (giveStep c who g m).2.2) := by kernel_rfl

theorem hp_end : helpStep c who ⟨slot, w, size, i, cell, read, won⟩ m = bif decide (size ≤ i) then
    bif decide (c.gens ≤ (slotOf w).2.2.1) then (true, ⟨slot, w, size, i, cell, read, (m.eCas who (slA c slot) w (putSlot 3 0 (slotOf w).2.2.1 0)).1⟩, (m.eCas who (slA c slot) w (putSlot 3 0 (slotOf w).2.2.1 0)).2)
    else (true, ⟨slot, w, size, i, cell, read, (m.eCas who (slA c slot) w (putSlot 0 0 (wrI ((slotOf w).2.2.1 + 1)) 0)).1⟩, (m.eCas who (slA c slot) w (putSlot 0 0 (wrI ((slotOf w).2.2.1 + 1)) 0)).2)
    else bif !read then
      bif !(cellOf (m.eLoad who (wrI (wrI ((slotOf w).2.1 + 1) + i))).1).2.1 then (false, ⟨slot, w, size, i, (m.eLoad who (wrI (wrI ((slotOf w).2.1 + 1) + i))).1, true, won⟩, (m.eLoad who (wrI (wrI ((slotOf w).2.1 + 1) + i))).2)
      else bif !!decide ((cellOf (m.eLoad who (wrI (wrI ((slotOf w).2.1 + 1) + i))).1).2.2 = (slotOf w).2.2.2) then
        (false, ⟨slot, w, size, wrI (i + 1), (m.eLoad who (wrI (wrI ((slotOf w).2.1 + 1) + i))).1, !decide ((cellOf (m.eLoad who (wrI (wrI ((slotOf w).2.1 + 1) + i))).1).2.2 = (slotOf w).2.2.2), won⟩, (m.eLoad who (wrI (wrI ((slotOf w).2.1 + 1) + i))).2)
      else (false, ⟨slot, w, size, i, (m.eLoad who (wrI (wrI ((slotOf w).2.1 + 1) + i))).1, !decide ((cellOf (m.eLoad who (wrI (wrI ((slotOf w).2.1 + 1) + i))).1).2.2 = (slotOf w).2.2.2), won⟩, (m.eLoad who (wrI (wrI ((slotOf w).2.1 + 1) + i))).2)
    else bif (m.eCas who (wrI (wrI ((slotOf w).2.1 + 1) + i)) cell (putCell (cellOf cell).1 true (slotOf w).2.2.2)).1 then
      (false, ⟨slot, w, size, wrI (i + 1), cell, false, won⟩, (m.eCas who (wrI (wrI ((slotOf w).2.1 + 1) + i)) cell (putCell (cellOf cell).1 true (slotOf w).2.2.2)).2)
    else (false, ⟨slot, w, size, i, cell, false, won⟩, (m.eCas who (wrI (wrI ((slotOf w).2.1 + 1) + i)) cell (putCell (cellOf cell).1 true (slotOf w).2.2.2)).2) := by kernel_rfl

end
end Go.FL

/-
  An object is let go alone.
-/
set_option linter.unusedVariables false
set_option linter.unusedSimpArgs false
set_option maxRecDepth 20000
namespace Go.FL
open Go

theorem putSlot_hi (a b c : Int) : putSlot a b c 4194304 = putSlot a b c 4194303 := by
  unfold putSlot putSlotK
  rfl

theorem verUp {a b c d : Int} (hd : 0 ≤ d ∧ d ≤ 4194303) : ∃ e : Int, (0 ≤ e ∧ e ≤ 4194303) ∧ putSlot a b c (wrI (d + 1)) = putSlot a b c e := by
  rw [wrI_id (by omega) (by omega)]
  by_cases h : d = 4194303
  · subst h; exact ⟨4194303, ⟨by omega, by omega⟩, putSlot_hi a b c⟩
  · exact ⟨d + 1, ⟨by omega, by omega⟩, rfl⟩

theorem putSlot_gen (a b d : Int) : putSlot a b 65536 d = putSlot a b 65535 d := by
  unfold putSlot putSlotK
  rfl

theorem genUp {a b c d : Int} (hc : 0 ≤ c ∧ c ≤ 65535) : ∃ e : Int, (0 ≤ e ∧ e ≤ 65535) ∧ putSlot a b (wrI (c + 1)) d = putSlot a b e d := by
  rw [wrI_id (by omega) (by omega)]
  by_cases h : c = 65535
  · subst h; exact ⟨65535, ⟨by omega, by omega⟩, putSlot_gen a b d⟩
  · exact ⟨c + 1, ⟨by omega, by omega⟩, rfl⟩

section
variable {L B : Int} {m : PMem} {who sp : Int} {i A z : Nat} {g ver : Int}

theorem Inv.layE {D E : Nat} {v : Int} (h : Inv D L B m) {a : Nat} (hB : B ≤ 1000000000000) (hs : Shape E (upd m.w a v)) : Inv E L (B + 1) (m.lay who (a : Int) v) := by
  have e := h.step_eq hB
  have := h.lo; have := h.hi
  refine ⟨h.n, by rw [lay_w']; exact hs, ?_, ?_, ?_⟩
  · rw [PMem.lay_steps, e]; omega
  · rw [PMem.lay_steps, e]; omega
  · trivial

/-- The slot of an object that is being let go. -/
structure Going (w : Nat → Int) (i A z : Nat) (sv : Int) : Prop where
  hi : i < 6
  sw : w (7 + 2 * i) = sv
  st : sv % 8 = 4
  ad : (sv / 8 % 1048576).toNat = A
  zz : zA w A = z

theorem Going.prs {w : Nat → Int} {sv : Int} (h : Going w i A z sv) : Prs w i ∧ oA w i = A ∧ oZ w i = z := by
  have h1 : oA w i = A := by unfold oA; rw [h.sw]; exact h.ad
  refine ⟨.inr ?_, h1, ?_⟩
  · unfold oS; rw [h.sw]; exact h.st
  · unfold oZ; rw [h1]; exact h.zz

/-- The object's cells are frozen, and then it lives no more. -/
theorem help_wp {sv : Int} : ∀ (d j : Nat) (rd won : Bool) (cell B : Int) (m : PMem), Inv i L B m → Going m.w i A z sv → B + 4 * d ≤ 300000000000 → d + j = z → (rd = true → j < z ∧ m.w (A + 1 + j) = cell) →
    Wp (helpStep (cfA sp) who) (2 * d + 1) ⟨(i : Int), sv, (z : Int), (j : Int), cell, rd, won⟩ m fun h m' => Inv 6 L (B + 2 * d + 1) m' ∧ m'.t (7 + 2 * i) = m'.steps := by
  intro d
  induction d with
  | zero =>
    intro j rd won cell B m h hg hB hd _
    have hlo := h.lo
    have hhi := h.hi
    have hi := hg.hi
    have hsv := h.sh.wd (7 + 2 * i) (by omega)
    rw [hg.sw] at hsv
    have e := hp_end (cfA sp) who sv (z : Int) (j : Int) cell (i : Int) rd won m
    have d1 : decide ((z : Int) ≤ (j : Int)) = true := by simp; omega
    rw [d1] at e
    simp only [cond_true, slotOf_eq hsv.1 hsv.2] at e
    have ea : slA (cfA sp) (i : Int) = ((7 + 2 * i : Nat) : Int) := slA_eq sp i hi
    have fin : ∀ v : Int, 0 ≤ v ∧ v < 18446744073709551616 → v % 8 = 0 ∨ v % 8 = 3 → (m.eCas who ((7 + 2 * i : Nat) : Int) sv v).2 = m.lay who ((7 + 2 * i : Nat) : Int) v ∧ Inv 6 L (B + 2 * (0 : Nat) + 1) (m.lay who ((7 + 2 * i : Nat) : Int) v) ∧
        (m.lay who ((7 + 2 * i : Nat) : Int) v).t (7 + 2 * i) = (m.lay who ((7 + 2 * i : Nat) : Int) v).steps := by
      intro v hv h8
      refine ⟨by rw [h.cas (by omega) hg.sw], ?_, ?_⟩
      · have := h.lay' (who := who) (a := 7 + 2 * i) (v := v) (by omega) (h.sh.slot i (fun j hj hji h => h) hi hv (by omega) (fun hc => by omega) (fun hc => by omega))
        obtain ⟨k1, k2, k3, k4, k5⟩ := this
        refine ⟨k1, ?_, k3, by omega, k5⟩
        have hne : v % 8 ≠ 4 := by omega
        obtain ⟨a1, a2, a3, a4, a5, a6, a7, a8, a9, a10, a11, a12⟩ := k2
        refine ⟨a1, a2, a3, a4, a5, a6, a7, fun q hq => ?_, a9, a10, a11, a12⟩
        rcases a8 q hq with h1 | h1 | h1 | h1
        · exact .inl h1
        · exact .inr (.inl h1)
        · exact .inr (.inr (.inl h1))
        · exfalso
          obtain ⟨h1, rfl⟩ := h1
          rw [lay_w', oS_upd, if_pos rfl] at h1
          exact hne h1
      · show (if m.w ((7 + 2 * i : Nat) : Int).toNat = v then m.t else upd m.t ((7 + 2 * i : Nat) : Int).toNat (wrI (m.steps + 1))) (7 + 2 * i) = wrI (m.steps + 1)
        rw [Int.toNat_natCast, hg.sw, if_neg (by have := hg.st; omega), upd_same]
    rw [ea] at e
    by_cases hgn : (cfA sp).gens ≤ sv / 8388608 % 65536
    · have d2 : decide ((cfA sp).gens ≤ sv / 8388608 % 65536) = true := by simpa using hgn
      rw [d2] at e
      simp only [cond_true] at e
      have ev : putSlot 3 0 (sv / 8388608 % 65536) 0 = 3 + sv / 8388608 % 65536 * 8388608 := by rw [putSlot_eq (by omega) (by omega) (by omega) (by omega)]; omega
      obtain ⟨f1, f2, f3⟩ := fin (putSlot 3 0 (sv / 8388608 % 65536) 0) (by rw [ev]; omega) (.inr (by rw [ev]; omega))
      rw [f1] at e
      exact Wp.t e ⟨f2, f3⟩
    · have d2 : decide ((cfA sp).gens ≤ sv / 8388608 % 65536) = false := by simpa using hgn
      rw [d2] at e
      simp only [cond_false] at e
      obtain ⟨ge, hge, hge2⟩ := genUp (a := 0) (b := 0) (c := sv / 8388608 % 65536) (d := 0) (by omega)
      rw [hge2] at e
      have ev : putSlot 0 0 ge 0 = ge * 8388608 := by rw [putSlot_eq (by omega) (by omega) (by omega) (by omega)]; omega
      obtain ⟨f1, f2, f3⟩ := fin (putSlot 0 0 ge 0) (by rw [ev]; omega) (.inl (by rw [ev]; omega))
      rw [f1] at e
      exact Wp.t e ⟨f2, f3⟩
  | succ d ih =>
    intro j rd won cell B m h hg hB hd hrd
    have hlo := h.lo
    have hhi := h.hi
    have hi := hg.hi
    obtain ⟨hp, hA, hZ⟩ := hg.prs
    have hr := h.sh.rng i hi hp
    rw [hA, hZ] at hr
    have hsv := h.sh.wd (7 + 2 * i) (by omega)
    rw [hg.sw] at hsv
    have hjz : j < z := by omega
    have hcl := h.sh.wd (A + 1 + j) (by omega)
    have d1 : decide ((z : Int) ≤ (j : Int)) = false := by simp; omega
    have eadr : wrI (wrI (sv / 8 % 1048576 + 1) + (j : Int)) = ((A + 1 + j : Nat) : Int) := by
      have := hg.ad
      rw [wrI_id (n := sv / 8 % 1048576 + 1) (by omega) (by omega), wrI_id (by omega) (by omega)]; omega
    have ej : wrI ((j : Int) + 1) = ((j + 1 : Nat) : Int) := by rw [wrI_id (by omega) (by omega)]; omega
    -- the cell is laid
    have lay1 : ∀ (B' : Int) (m1 : PMem) (cl : Int) (won : Bool), Inv i L B' m1 → Going m1.w i A z sv → m1.w (A + 1 + j) = cl → B' ≤ B + 1 →
        Wp (helpStep (cfA sp) who) (2 * d + 2) ⟨(i : Int), sv, (z : Int), (j : Int), cl, true, won⟩ m1 fun h m' => Inv 6 L (B + 2 * ((d + 1 : Nat) : Int) + 1) m' ∧ m'.t (7 + 2 * i) = m'.steps := by
      intro B' m1 cl won h1 hg1 hc1 hB'
      have hcl1 := h1.sh.wd (A + 1 + j) (by omega)
      rw [hc1] at hcl1
      obtain ⟨hp1, hA1, hZ1⟩ := hg1.prs
      have e := hp_end (cfA sp) who sv (z : Int) (j : Int) cl (i : Int) true won m1
      rw [d1] at e
      simp only [cond_false, Bool.not_true, slotOf_eq hsv.1 hsv.2, eadr, cellOf_eq hcl1.1 hcl1.2] at e
      have ev : putCell (cl % 1099511627776) true (sv / 549755813888 % 4194304) = cl % 1099511627776 + 9223372036854775808 + sv / 549755813888 % 4194304 * 1099511627776 := putCell_frozen (by omega) (by omega)
      generalize putCell (cl % 1099511627776) true (sv / 549755813888 % 4194304) = v at e ev
      rw [h1.cas (by omega) hc1] at e
      simp only [cond_true, ej] at e
      have sh : Shape i (upd m1.w (A + 1 + j) v) := by
        refine h1.sh.obj (by omega) (by omega) (fun q x hq hx hu hc => ?_) (fun q hq hpq hc => ?_) (fun q x hq hs hx hc => ?_)
        · have := h1.sh.inc i hi hp1 q hq
          rw [hA1, hZ1] at this
          omega
        · by_cases hqi : q = i
          · subst hqi; rw [hA1] at hc; omega
          · have := h1.sh.dis q i hq hi hqi hpq hp1
            rw [hA1, hZ1] at this
            unfold Apt at this
            omega
        · have hpq : Prs m1.w q := .inl hs
          by_cases hqi : q = i
          · subst hqi
            have h2 := hg1.st
            unfold oS at hs
            rw [hg1.sw] at hs
            omega
          · have := h1.sh.dis q i hq hi hqi hpq hp1
            rw [hA1, hZ1] at this
            unfold Apt at this
            omega
      have h2 := h1.lay' (who := who) (by omega) sh
      have hg2 : Going (m1.lay who ((A + 1 + j : Nat) : Int) v).w i A z sv := by
        rw [lay_w']
        refine ⟨hi, ?_, hg1.st, hg1.ad, ?_⟩
        · rw [upd_other _ _ (by omega)]; exact hg1.sw
        · rw [zA_upd, if_neg (by omega)]; exact hg1.zz
      have := ih (j + 1) false won cl (B' + 1) _ h2 hg2 (by omega) (by omega) (fun h => by cases h)
      exact Wp.f e (Wp.up this (fun _ m' hq => ⟨hq.1.le ⟨hlo.1, Int.le_refl _⟩ (by omega), hq.2⟩) (by omega))
    cases rd with
    | true => exact Wp.up (lay1 B m cell won h hg (hrd rfl).2 (by omega)) (fun _ _ hq => hq) (by omega)
    | false =>
      have e := hp_end (cfA sp) who sv (z : Int) (j : Int) cell (i : Int) false won m
      rw [d1] at e
      simp only [cond_false, cond_true, Bool.not_false, slotOf_eq hsv.1 hsv.2, eadr, h.ld (who := who) (a := A + 1 + j) (by omega), cellOf_eq hcl.1 hcl.2] at e
      have ht := h.touch (who := who) (a := ((A + 1 + j : Nat) : Int)) (by omega)
      have hgt : Going (m.touch who ((A + 1 + j : Nat) : Int)).w i A z sv := ⟨hi, hg.sw, hg.st, hg.ad, hg.zz⟩
      have next := lay1 (B + 1) (m.touch who ((A + 1 + j : Nat) : Int)) (m.w (A + 1 + j)) won ht hgt rfl (by omega)
      cases d2 : decide (m.w (A + 1 + j) / 9223372036854775808 = 1) with
      | false =>
        rw [d2] at e
        simp only [Bool.not_false, cond_true] at e
        exact Wp.up (Wp.f e next) (fun _ _ hq => hq) (by omega)
      | true =>
        rw [d2] at e
        simp only [Bool.not_true, cond_false] at e
        have hfz : m.w (A + 1 + j) / 9223372036854775808 = 1 := of_decide_eq_true d2
        simp only [if_pos hfz] at e
        cases d3 : decide (m.w (A + 1 + j) / 1099511627776 % 4194304 = sv / 549755813888 % 4194304) with
        | false =>
          rw [d3] at e
          simp only [Bool.not_true, Bool.not_false, cond_false] at e
          exact Wp.up (Wp.f e next) (fun _ _ hq => hq) (by omega)
        | true =>
          rw [d3] at e
          simp only [Bool.not_true, Bool.not_false, cond_true, ej] at e
          have := ih (j + 1) false won (m.w (A + 1 + j)) (B + 1) _ ht hgt (by omega) (by omega) (fun h => by cases h)
          exact Wp.up (Wp.f e this) (fun _ m' hq => ⟨hq.1.le ⟨hlo.1, Int.le_refl _⟩ (by omega), hq.2⟩) (by omega)

theorem help_in {n : Nat} {nn hs hg w size : Int} {own : Bool} {out : PDone} {hp : PHelp} {Q : PHelp → PMem → Prop} {R : PDrop → PMem → Prop} {j : Nat} (h : Wp (helpStep (cfA sp) who) n hp m Q)
    (hy : ∀ p' m', Q p' m' → Wp (dropStep (cfA sp) who) j ⟨nn, own, hs, hg, 5, w, size, some p', none, ⟨0, 0, 0, PMem.when_ m' (slA (cfA sp) hs)⟩⟩ m' R) :
    Wp (dropStep (cfA sp) who) (n + j) ⟨nn, own, hs, hg, 3, w, size, some hp, none, out⟩ m R := by
  induction n generalizing hp m with
  | zero => exact h.elim
  | succ n ih =>
    have e := dr_3 (cfA sp) who nn own hs hg w size hp out m
    rw [show n + 1 + j = (n + j) + 1 by omega]
    rcases h.inv with ⟨p1, m1, ep, h⟩ | ⟨p1, m1, ep, h⟩
    · rw [ep] at e
      simp only [cond_true] at e
      exact Wp.f e (Wp.up (hy p1 m1 h) (fun _ _ hq => hq) (by omega))
    · rw [ep] at e
      simp only [cond_false] at e
      exact Wp.f e (ih h)

theorem dgive_in {n : Nat} {nn hs hg w size : Int} {own : Bool} {out : PDone} {hp : PHelp} {g : PGive} {G : PMem → Prop} {R : PDrop → PMem → Prop} (hR : ∀ a m', a.out = out → G m' → R a m') (h : Wp (giveStep (cfA sp) who) n g m fun _ m' => G m') :
    Wp (dropStep (cfA sp) who) n ⟨nn, own, hs, hg, 6, w, size, some hp, some g, out⟩ m R := by
  induction n generalizing g m with
  | zero => exact h.elim
  | succ n ih =>
    have e := dr_6 (cfA sp) who nn own hs hg w size hp g out m
    rcases h.inv with ⟨p1, m1, ep, h⟩ | ⟨p1, m1, ep, h⟩
    · rw [ep] at e
      exact Wp.t e (hR _ _ rfl h)
    · rw [ep] at e
      exact Wp.f e (ih h)

/-- A live slot's word. -/
theorem live_1 {s q g : Int} (h0 : 0 ≤ s ∧ s < 18446744073709551616) (hl : live (slotOf s).1 (slotOf s).2.1 (slotOf s).2.2.1 (slotOf s).2.2.2 q g = true) : s % 8 = 1 ∨ s % 8 = 2 ∨ s % 8 = 4 := by
  rw [slotOf_eq h0.1 h0.2] at hl
  unfold live liveK at hl
  simp only at hl
  by_cases h1 : s % 8 = 1
  · exact .inl h1
  · by_cases h2 : s % 8 = 2
    · exact .inr (.inl h2)
    · by_cases h3 : s % 8 = 4
      · exact .inr (.inr h3)
      · simp [h1, h2, h3] at hl

theorem Inv.live6 (h : Inv 6 L B m) {i : Nat} (hi : i < 6) {q g : Int} (hl : live (slotOf (m.w (7 + 2 * i))).1 (slotOf (m.w (7 + 2 * i))).2.1 (slotOf (m.w (7 + 2 * i))).2.2.1 (slotOf (m.w (7 + 2 * i))).2.2.2 q g = true) : oS m.w i = 1 := by
  have := live_1 (h.sh.wd (7 + 2 * i) (by omega)) hl
  have hs := h.sh.sts i hi
  unfold oS at *
  omega

theorem rooms_bnd (size : Int) (h : 0 ≤ size ∧ size ≤ 16) : 0 ≤ lRoom (lClass size) ∧ lRoom (lClass size) ≤ 17 := by
  by_cases hz : size = 0
  · subst hz
    rw [lClass_neg 0 (by omega)]
    decide
  · have := cls_room (size := size) (by omega)
    have := room_bnd this.1
    omega

/-- An object is let go, or there is none. -/
theorem drop_wp (h : Inv 6 L B m) (hB : B ≤ 200000000000) {n : Int} (hn : 0 ≤ n ∧ n < 18446744073709551616) {own : Bool} {out : PDone} :
    Wp (dropStep (cfA sp) who) 60 ⟨n, own, 0, 0, 0, 0, 0, none, none, out⟩ m fun a m' => StQ 6 L (B + 60) a.out m' := by
  have hlo := h.lo
  have hhi := h.hi
  have e := dr_0 (cfA sp) who n own 0 0 0 0 out m
  have done : ∀ {m' : PMem} {B' : Int}, Inv 6 L B' m' → B' ≤ B + 60 → StQ 6 L (B + 60) ⟨3, 0, 0, m'.steps⟩ m' := fun h' hb => ⟨h'.le ⟨hlo.1, Int.le_refl _⟩ hb, h'.lo.2, Int.le_refl _, Int.le_refl _, (by show (0 : Int) < 18446744073709551616; omega)⟩
  cases his : (handle n).2.2 with
  | false =>
    rw [his] at e
    simp only [Bool.not_false, cond_true] at e
    exact Wp.t e (done h (by omega))
  | true =>
    rw [his] at e
    simp only [Bool.not_true, cond_false] at e
    have hh := handle_eq hn.1 hn.2
    by_cases hs : (cfA sp).slots ≤ (handle n).1
    · have d1 : decide ((cfA sp).slots ≤ (handle n).1) = true := by simpa using hs
      rw [d1] at e
      simp only [cond_true] at e
      exact Wp.t e (done h (by omega))
    · have d1 : decide ((cfA sp).slots ≤ (handle n).1) = false := by simpa using hs
      have hs : ¬ (6 ≤ (handle n).1) := hs
      have hs0 : 0 ≤ (handle n).1 := by rw [hh]; split <;> simp only <;> omega
      obtain ⟨i, hi⟩ : ∃ i : Nat, (handle n).1 = (i : Int) := ⟨(handle n).1.toNat, by omega⟩
      have hi6 : i < 6 := by omega
      have ea : slA (cfA sp) (i : Int) = ((7 + 2 * i : Nat) : Int) := slA_eq sp i hi6
      rw [d1, hi, ea, h.ld (by omega)] at e
      simp only [cond_false] at e
      have ht := h.touch (who := who) (a := ((7 + 2 * i : Nat) : Int)) (by omega)
      generalize hhg : (handle n).2.1 = hg at e
      cases hlv : live (slotOf (m.w (7 + 2 * i))).1 (slotOf (m.w (7 + 2 * i))).2.1 (slotOf (m.w (7 + 2 * i))).2.2.1 (slotOf (m.w (7 + 2 * i))).2.2.2 (i : Int) hg with
      | false =>
        rw [hlv] at e
        simp only [Bool.not_false, cond_true] at e
        exact Wp.t e (done ht (by omega))
      | true =>
        rw [hlv] at e
        simp only [Bool.not_true, cond_false] at e
        refine Wp.f e ?_
        have hst : oS m.w i = 1 := h.live6 hi6 hlv
        have hp : Prs m.w i := .inl hst
        obtain ⟨r1, r2, r3⟩ := h.sh.rng i hi6 hp
        have hsv := h.sh.wd (7 + 2 * i) (by omega)
        have hst' : m.w (7 + 2 * i) % 8 = 1 := hst
        have hA : (m.w (7 + 2 * i) / 8 % 1048576).toNat = oA m.w i := rfl
        generalize hsw : m.w (7 + 2 * i) = sv at *
        generalize hAe : oA m.w i = A at *
        have hZ : oZ m.w i = zA m.w A := by unfold oZ; rw [hAe]
        rw [hZ] at r2 r3
        have hhd := h.sh.wd A (by omega)
        generalize hze : zA m.w A = z at *
        have hzz : (z : Int) = m.w A / 4 % 65536 := by rw [← hze]; unfold zA; omega
        -- the head
        have e := dr_1 (cfA sp) who n own (i : Int) hg sv 0 out (m.touch who ((7 + 2 * i : Nat) : Int))
        have eA : sv / 8 % 1048576 = (A : Int) := by omega
        simp only [slotOf_eq hsv.1 hsv.2, eA, ht.ld (who := who) (a := A) (by omega), PMem.touch_w, headOf_eq hhd.1 hhd.2] at e
        have ht2 := ht.touch (who := who) (a := (A : Int)) (by omega)
        have s2 : ((m.touch who ((7 + 2 * i : Nat) : Int)).touch who (A : Int)).steps = m.steps + 2 := by
          rw [PMem.touch_steps, ht.step_eq (by omega), PMem.touch_steps, h.step_eq (by omega)]; omega
        generalize ((decide (m.w A / 1125899906842624 % 2 = 1)) == own) = same at e
        cases same with
        | false =>
          simp only [Bool.not_false, cond_true] at e
          exact Wp.up (Wp.t (n := 0) e (done ht2 (by omega))) (fun _ _ hq => hq) (by omega)
        | true =>
          have d4 : decide (sv % 8 = 4) = false := by simp; omega
          rw [d4, ← hzz] at e
          simp only [Bool.not_true, cond_false] at e
          refine Wp.f e ?_
          -- the claim
          have e := dr_2 (cfA sp) who n own (i : Int) hg sv (z : Int) out ((m.touch who ((7 + 2 * i : Nat) : Int)).touch who (A : Int))
          obtain ⟨ve, hve, hve2⟩ := verUp (a := 4) (b := (A : Int)) (c := sv / 8388608 % 65536) (d := sv / 549755813888 % 4194304) (by omega)
          have hdv : dropV sv = putSlot 4 A (sv / 8388608 % 65536) ve := by
            unfold dropV
            rw [slotOf_eq hsv.1 hsv.2]
            simp only [eA]
            exact hve2
          have ev : putSlot 4 A (sv / 8388608 % 65536) ve = 4 + A * 8 + sv / 8388608 % 65536 * 8388608 + ve * 549755813888 := by rw [putSlot_eq (by omega) (by omega) (by omega) (by omega)]
          rw [ea, hdv] at e
          generalize putSlot 4 A (sv / 8388608 % 65536) ve = v at e ev
          have hww : ((m.touch who ((7 + 2 * i : Nat) : Int)).touch who (A : Int)).w (7 + 2 * i) = sv := hsw
          rw [ht2.cas (by omega) hww] at e
          simp only [cond_true] at e
          refine Wp.f e ?_
          have eA2 : (v / 8 % 1048576).toNat = A := by omega
          have sh3 : Shape i (upd m.w (7 + 2 * i) v) := by
            refine h.sh.slot i (fun j hj hji h => by omega) hi6 (by omega) (.inr (.inr (.inr ⟨by omega, rfl⟩))) (fun _ => ?_) (fun hc => by omega)
            rw [eA2, hze]
            refine ⟨by omega, by omega, r3, ?_, fun j hj hji hpj => ?_⟩
            · have := h.sh.inc i hi6 hp
              rw [hAe, hZ] at this
              exact this
            · have := h.sh.dis j i hj hi6 hji hpj hp
              rw [hAe, hZ] at this
              exact this
          have h3 : Inv i L (B + 3) (((m.touch who ((7 + 2 * i : Nat) : Int)).touch who (A : Int)).lay who ((7 + 2 * i : Nat) : Int) v) := by
            exact (ht2.layE (E := i) (by omega) sh3).le ⟨hlo.1, Int.le_refl _⟩ (by omega)
          have hg3 : Going (((m.touch who ((7 + 2 * i : Nat) : Int)).touch who (A : Int)).lay who ((7 + 2 * i : Nat) : Int) v).w i A z v := by
            rw [lay_w']
            refine ⟨hi6, by rw [upd_same], by omega, eA2, ?_⟩
            rw [zA_upd, if_neg (by omega)]; exact hze
          generalize ((m.touch who ((7 + 2 * i : Nat) : Int)).touch who (A : Int)).lay who ((7 + 2 * i : Nat) : Int) v = m3 at h3 hg3
          have hw := help_wp (sp := sp) (who := who) z 0 false false 0 (B + 3) m3 h3 hg3 (by omega) rfl (fun h => by cases h)
          refine Wp.up (help_in (j := 5) hw ?_) (fun _ _ hq => hq) (by omega)
          intro p' m4 ⟨h4, ht4⟩
          have hn4 := h4.n
          have hlo4 := h4.lo
          have hhi4 := h4.hi
          have ew : PMem.when_ m4 (slA (cfA sp) (i : Int)) = m4.steps := by
            rw [ea]
            unfold PMem.when_
            rw [if_neg (by omega), if_neg (by omega), Int.toNat_natCast, ht4]
          rw [ew]
          -- the count
          have e := dr_5 (cfA sp) who n own (i : Int) hg sv (z : Int) p' ⟨0, 0, 0, m4.steps⟩ m4
          have d5 : decide ((cfA sp).words = 0) = false := by
            show decide ((40 : Int) = 0) = false
            decide
          have hin := h.sh.inc i hi6 hp
          rw [hAe, hZ] at hin
          obtain ⟨q, hq8, hqa⟩ : ∃ q : Nat, q < 8 ∧ 43 + 40 * q ≤ A ∧ A < 83 + 40 * q := ⟨(A - 43) / 40, by omega, by omega⟩
          have eof : lOf 1 6 8 40 100 sp 3 (A : Int) = (q : Int) := lOf_eq (by omega) (by omega) (by omega) (by omega) (by omega) (by omega) (q : Int) ((A : Int) - 43 - 40 * q) (by omega) (by omega) (by omega) (by omega) (by omega)
          rw [d5, show lOf (cfA sp).threads (cfA sp).slots (cfA sp).chunks (cfA sp).words (cfA sp).gens (cfA sp).sparse (cfA sp).tries (slotOf sv).2.1 = lOf 1 6 8 40 100 sp 3 (A : Int) by rw [slotOf_eq hsv.1 hsv.2]; simp only [eA],
            eof, chA_eq sp q hq8, show wrI (((19 + 3 * q : Nat) : Int) + 1) = ((20 + 3 * q : Nat) : Int) by rw [wrI_id (by omega) (by omega)]; omega, PMem.eAdd_in (by omega) (by omega), Int.toNat_natCast] at e
          simp only [cond_false] at e
          have hwu : ∀ x : Int, 0 ≤ wrU x ∧ wrU x < 18446744073709551616 := fun x => by
            unfold wrU
            simp only [Bool.false_and, Bool.false_eq_true, if_false]
            omega
          have hv6 := hwu (m4.w (20 + 3 * q) + wrU (wrI (0 - lRoom (lClass (z : Int)))))
          generalize wrU (m4.w (20 + 3 * q) + wrU (wrI (0 - lRoom (lClass (z : Int))))) = v6 at e hv6
          have h5 := h4.lay' (who := who) (a := 20 + 3 * q) (v := v6) (by omega) (h4.sh.ctl (by omega) (by omega) hv6 (fun q hq => by omega) (fun q hq => by omega) (.inl ⟨by omega, fun q hq => by omega⟩) (.inl (by omega)))
          have s5 : m4.steps ≤ (m4.lay who ((20 + 3 * q : Nat) : Int) v6).steps := by rw [PMem.lay_steps, h4.step_eq (by omega)]; omega
          generalize m4.lay who ((20 + 3 * q : Nat) : Int) v6 = m5 at e h5 s5
          cases d6 : decide ((cfA sp).gens ≤ hg) with
          | true =>
            rw [d6] at e
            exact Wp.up (Wp.t (n := 0) e ⟨h5.le ⟨hlo.1, Int.le_refl _⟩ (by omega), hlo4.2, s5, Int.le_refl _, (by show (0 : Int) < 18446744073709551616; omega)⟩) (fun _ _ hq => hq) (by omega)
          | false =>
            rw [d6] at e
            have g := give_wp (sp := sp) (who := who) h5 (by omega) hi6 (top := 0)
            refine Wp.up (Wp.f e (dgive_in (G := fun m2 => Inv 6 L (B + 60) m2 ∧ m5.steps ≤ m2.steps) (R := fun a m2 => StQ 6 L (B + 60) a.out m2) (fun a m2 ha hg => ?_) (Wp.up g (fun _ m2 hg => ⟨hg.1.le ⟨hlo.1, Int.le_refl _⟩ (by omega), hg.2⟩) (Nat.le_refl _)))) (fun _ _ hq => hq) (by omega)
            rw [ha]
            exact ⟨hg.1, hlo4.2, Int.le_trans s5 hg.2, Int.le_refl _, (by show (0 : Int) < 18446744073709551616; omega)⟩

end
end Go.FL

/-
  A word of an object is read or laid alone.
-/
set_option linter.unusedVariables false
set_option linter.unusedSimpArgs false
set_option maxRecDepth 20000
namespace Go.FL
open Go

section
variable (c : PCfg) (who : Int) (x : PWant) (own : Bool) (hs hg w cell seen read size : Int) (out : PDone) (m : PMem)

theorem ac_0 : accessStep c who ⟨x, own, hs, hg, 0, w, cell, seen, read, size, none, out⟩ m =
    (bif !(handle x.handle).2.2 then (true, ⟨x, own, (handle x.handle).1, (handle x.handle).2.1, 0, w, cell, seen, read, size, none, ⟨3, 0, 0, m.steps⟩⟩, m)
    else bif decide (c.slots ≤ (handle x.handle).1) then (true, ⟨x, own, (handle x.handle).1, (handle x.handle).2.1, 0, w, cell, seen, read, size, none, ⟨3, 0, 0, m.steps⟩⟩, m)
    else bif !live (slotOf (m.eLoad who (slA c (handle x.handle).1)).1).1 (slotOf (m.eLoad who (slA c (handle x.handle).1)).1).2.1 (slotOf (m.eLoad who (slA c (handle x.handle).1)).1).2.2.1 (slotOf (m.eLoad who (slA c (handle x.handle).1)).1).2.2.2 (handle x.handle).1 (handle x.handle).2.1 then
      (true, ⟨x, own, (handle x.handle).1, (handle x.handle).2.1, 1, (m.eLoad who (slA c (handle x.handle).1)).1, cell, (m.eLoad who (slA c (handle x.handle).1)).2.steps, read, size, none, ⟨3, 0, 0, (m.eLoad who (slA c (handle x.handle).1)).2.steps⟩⟩, (m.eLoad who (slA c (handle x.handle).1)).2)
    else (false, ⟨x, own, (handle x.handle).1, (handle x.handle).2.1, 1, (m.eLoad who (slA c (handle x.handle).1)).1, cell, (m.eLoad who (slA c (handle x.handle).1)).2.steps, read, size, none, out⟩, (m.eLoad who (slA c (handle x.handle).1)).2)) := by kernel_rfl

theorem ac_1 : accessStep c who ⟨x, own, hs, hg, 1, w, cell, seen, read, size, none, out⟩ m =
    (bif !((headOf (m.eLoad who (slotOf w).2.1).1).2.2.2.2 == own) then (true, ⟨x, own, hs, hg, 2, w, cell, seen, read, (headOf (m.eLoad who (slotOf w).2.1).1).2.1, none, ⟨3, 0, 0, (m.eLoad who (slotOf w).2.1).2.steps⟩⟩, (m.eLoad who (slotOf w).2.1).2)
    else bif decide (x.index < 0) then (true, ⟨x, own, hs, hg, 2, w, cell, seen, read, (headOf (m.eLoad who (slotOf w).2.1).1).2.1, none, ⟨4, 0, 0, seen⟩⟩, (m.eLoad who (slotOf w).2.1).2)
    else bif decide ((headOf (m.eLoad who (slotOf w).2.1).1).2.1 ≤ x.index) then (true, ⟨x, own, hs, hg, 2, w, cell, seen, read, (headOf (m.eLoad who (slotOf w).2.1).1).2.1, none, ⟨4, 0, 0, seen⟩⟩, (m.eLoad who (slotOf w).2.1).2)
    else (false, ⟨x, own, hs, hg, 2, w, cell, seen, read, (headOf (m.eLoad who (slotOf w).2.1).1).2.1, none, out⟩, (m.eLoad who (slotOf w).2.1).2)) := by kernel_rfl

abbrev acAt (w i : Int) : Int := wrI (wrI ((slotOf w).2.1 + 1) + i)

/-- Where a word that is not frozen leads. -/
theorem ac_2 (h4 : decide ((slotOf w).1 = 4) = false) (hf : (cellOf (m.eLoad who (acAt w x.index)).1).2.1 = false) :
    accessStep c who ⟨x, own, hs, hg, 2, w, cell, seen, read, size, none, out⟩ m =
    (false, ⟨x, own, hs, hg, (bif decide (x.kind = 1) then 6 else bif decide (x.kind = 3) then bif !decide ((cellOf (m.eLoad who (acAt w x.index)).1).1 = x.old) then 6 else 5 else 5), w, (m.eLoad who (acAt w x.index)).1, seen, (m.eLoad who (acAt w x.index)).2.steps, size, none, out⟩, (m.eLoad who (acAt w x.index)).2) := by
  show accessStep0 c who ⟨x, own, hs, hg, 2, w, cell, seen, read, size, none, out⟩ m = _
  unfold accessStep0 accessStep0K
  simp only [show decide ((2 : Int) = 0) = false from rfl, show decide ((2 : Int) = 1) = false from rfl, show decide ((2 : Int) = 2) = true from rfl, cond_true, cond_false, twV, decide_true]
  rw [h4]
  have hf : (cellOf (PMem.eLoad m who (wrI (wrI ((slotOf w).2.1 + 1) + x.index))).1).2.1 = false := hf
  rw [hf]
  simp only [cond_false, Bool.not_false, cond_true]
  cases decide (x.kind = 1) <;> simp only [cond_true, cond_false]
  cases decide (x.kind = 3) <;> simp only [cond_true, cond_false]
  cases decide ((cellOf (PMem.eLoad m who (wrI (wrI ((slotOf w).2.1 + 1) + x.index))).1).1 = x.old) <;> rfl

theorem ac_5 : accessStep c who ⟨x, own, hs, hg, 5, w, cell, seen, read, size, none, out⟩ m =
    (bif (m.eCas who (acAt w x.index) cell (putCell x.value false 0)).1 then (true, ⟨x, own, hs, hg, 0, w, cell, seen, read, size, none, ⟨0, 0, (cellOf cell).1, (m.eCas who (acAt w x.index) cell (putCell x.value false 0)).2.steps⟩⟩, (m.eCas who (acAt w x.index) cell (putCell x.value false 0)).2)
    else (false, ⟨x, own, hs, hg, 0, w, cell, seen, read, size, none, out⟩, (m.eCas who (acAt w x.index) cell (putCell x.value false 0)).2)) := by kernel_rfl

theorem ac_6 : accessStep c who ⟨x, own, hs, hg, 6, w, cell, seen, read, size, none, out⟩ m =
    (bif !live (slotOf (m.eLoad who (slA c hs)).1).1 (slotOf (m.eLoad who (slA c hs)).1).2.1 (slotOf (m.eLoad who (slA c hs)).1).2.2.1 (slotOf (m.eLoad who (slA c hs)).1).2.2.2 hs hg then
      (true, ⟨x, own, hs, hg, 6, w, cell, seen, read, size, none, ⟨3, 0, 0, (m.eLoad who (slA c hs)).2.steps⟩⟩, (m.eLoad who (slA c hs)).2)
    else bif !decide ((slotOf (m.eLoad who (slA c hs)).1).2.1 = (slotOf w).2.1) then (false, ⟨x, own, hs, hg, 0, w, cell, seen, read, size, none, out⟩, (m.eLoad who (slA c hs)).2)
    else bif decide (x.kind = 3) then (true, ⟨x, own, hs, hg, 6, w, cell, seen, read, size, none, ⟨8, 0, (cellOf cell).1, read⟩⟩, (m.eLoad who (slA c hs)).2)
    else (true, ⟨x, own, hs, hg, 6, w, cell, seen, read, size, none, ⟨0, 0, (cellOf cell).1, read⟩⟩, (m.eLoad who (slA c hs)).2)) := by kernel_rfl
end

section
variable {L B : Int} {m : PMem} {who sp : Int}

theorem acc_wp (h : Inv 6 L B m) (hB : B ≤ 200000000000) {x : PWant} (hn : 0 ≤ x.handle ∧ x.handle < 18446744073709551616) (hv : 0 ≤ x.value ∧ x.value ≤ 1099511627775) {own : Bool} {out : PDone} :
    Wp (accessStep (cfA sp) who) 10 ⟨x, own, 0, 0, 0, 0, 0, 0, 0, 0, none, out⟩ m fun a m' => StQ 6 L (B + 10) a.out m' := by
  have hlo := h.lo
  have hhi := h.hi
  have e := ac_0 (cfA sp) who x own 0 0 0 0 0 0 0 out m
  have done : ∀ {m' : PMem} {B' : Int} {er v st : Int}, Inv 6 L B' m' → B' ≤ B + 10 → L ≤ st → st ≤ m'.steps → StQ 6 L (B + 10) ⟨er, 0, v, st⟩ m' := fun h' hb h1 h2 => ⟨h'.le ⟨hlo.1, Int.le_refl _⟩ hb, h1, h2, Int.le_refl _, (by show (0 : Int) < 18446744073709551616; omega)⟩
  cases his : (handle x.handle).2.2 with
  | false =>
    rw [his] at e
    simp only [Bool.not_false, cond_true] at e
    exact Wp.t e (done h (by omega) hlo.2 (Int.le_refl _))
  | true =>
    rw [his] at e
    simp only [Bool.not_true, cond_false] at e
    have hh := handle_eq hn.1 hn.2
    by_cases hs : (cfA sp).slots ≤ (handle x.handle).1
    · have d1 : decide ((cfA sp).slots ≤ (handle x.handle).1) = true := by simpa using hs
      rw [d1] at e
      simp only [cond_true] at e
      exact Wp.t e (done h (by omega) hlo.2 (Int.le_refl _))
    · have d1 : decide ((cfA sp).slots ≤ (handle x.handle).1) = false := by simpa using hs
      have hs : ¬ (6 ≤ (handle x.handle).1) := hs
      have hs0 : 0 ≤ (handle x.handle).1 := by rw [hh]; split <;> simp only <;> omega
      obtain ⟨i, hi⟩ : ∃ i : Nat, (handle x.handle).1 = (i : Int) := ⟨(handle x.handle).1.toNat, by omega⟩
      have hi6 : i < 6 := by omega
      have ea : slA (cfA sp) (i : Int) = ((7 + 2 * i : Nat) : Int) := slA_eq sp i hi6
      rw [d1, hi, ea, h.ld (by omega)] at e
      simp only [cond_false] at e
      have ht := h.touch (who := who) (a := ((7 + 2 * i : Nat) : Int)) (by omega)
      have s1 : (m.touch who ((7 + 2 * i : Nat) : Int)).steps = m.steps + 1 := by rw [PMem.touch_steps, h.step_eq (by omega)]
      generalize hhg : (handle x.handle).2.1 = hg at e
      cases hlv : live (slotOf (m.w (7 + 2 * i))).1 (slotOf (m.w (7 + 2 * i))).2.1 (slotOf (m.w (7 + 2 * i))).2.2.1 (slotOf (m.w (7 + 2 * i))).2.2.2 (i : Int) hg with
      | false =>
        rw [hlv] at e
        simp only [Bool.not_false, cond_true] at e
        exact Wp.t e (done ht (by omega) (by omega) (Int.le_refl _))
      | true =>
        rw [hlv] at e
        simp only [Bool.not_true, cond_false] at e
        refine Wp.f e ?_
        rw [s1]
        have hst : oS m.w i = 1 := h.live6 hi6 hlv
        have hp : Prs m.w i := .inl hst
        obtain ⟨r1, r2, r3⟩ := h.sh.rng i hi6 hp
        have hsv := h.sh.wd (7 + 2 * i) (by omega)
        have hst' : m.w (7 + 2 * i) % 8 = 1 := hst
        have hA : (m.w (7 + 2 * i) / 8 % 1048576).toNat = oA m.w i := rfl
        generalize hsw : m.w (7 + 2 * i) = sv at *
        generalize hAe : oA m.w i = A at *
        have hZ : oZ m.w i = zA m.w A := by unfold oZ; rw [hAe]
        rw [hZ] at r2 r3
        have hhd := h.sh.wd A (by omega)
        generalize hze : zA m.w A = z at *
        have hzz : (z : Int) = m.w A / 4 % 65536 := by rw [← hze]; unfold zA; omega
        have e := ac_1 (cfA sp) who x own (i : Int) hg sv 0 (m.steps + 1) 0 0 out (m.touch who ((7 + 2 * i : Nat) : Int))
        have eA : sv / 8 % 1048576 = (A : Int) := by omega
        simp only [slotOf_eq hsv.1 hsv.2, eA, ht.ld (who := who) (a := A) (by omega), PMem.touch_w, headOf_eq hhd.1 hhd.2] at e
        have ht2 := ht.touch (who := who) (a := (A : Int)) (by omega)
        have s2 : ((m.touch who ((7 + 2 * i : Nat) : Int)).touch who (A : Int)).steps = m.steps + 2 := by
          rw [PMem.touch_steps, ht.step_eq (by omega), s1]; omega
        generalize ((decide (m.w A / 1125899906842624 % 2 = 1)) == own) = same at e
        cases same with
        | false =>
          simp only [Bool.not_false, cond_true] at e
          exact Wp.up (Wp.t (n := 0) e (done ht2 (by omega) (by omega) (Int.le_refl _))) (fun _ _ hq => hq) (by omega)
        | true =>
          rw [← hzz] at e
          simp only [Bool.not_true, cond_false] at e
          by_cases hx0 : x.index < 0
          · have d2 : decide (x.index < 0) = true := by simpa using hx0
            rw [d2] at e
            simp only [cond_true] at e
            exact Wp.up (Wp.t (n := 0) e (done ht2 (by omega) (by omega) (by omega))) (fun _ _ hq => hq) (by omega)
          have d2 : decide (x.index < 0) = false := by simpa using hx0
          rw [d2] at e
          simp only [cond_false] at e
          by_cases hx1 : (z : Int) ≤ x.index
          · have d3 : decide ((z : Int) ≤ x.index) = true := by simpa using hx1
            rw [d3] at e
            simp only [cond_true] at e
            exact Wp.up (Wp.t (n := 0) e (done ht2 (by omega) (by omega) (by omega))) (fun _ _ hq => hq) (by omega)
          have d3 : decide ((z : Int) ≤ x.index) = false := by simpa using hx1
          rw [d3] at e
          simp only [cond_false] at e
          refine Wp.f e ?_
          obtain ⟨j, hj⟩ : ∃ j : Nat, x.index = (j : Int) := ⟨x.index.toNat, by omega⟩
          have hjz : j < z := by omega
          have eat : acAt sv x.index = ((A + 1 + j : Nat) : Int) := by
            show wrI (wrI ((slotOf sv).2.1 + 1) + x.index) = _
            rw [slotOf_eq hsv.1 hsv.2]
            simp only [eA]
            rw [wrI_id (n := (A : Int) + 1) (by omega) (by omega), wrI_id (by omega) (by omega)]; omega
          have hcel : m.w (A + 1 + j) < 9223372036854775808 := by
            have := h.sh.cel i j hi6 hst (by rw [hZ]; exact hjz)
            rw [hAe] at this
            exact this
          have hcw := h.sh.wd (A + 1 + j) (by omega)
          generalize hm2 : ((m.touch who ((7 + 2 * i : Nat) : Int)).touch who (A : Int)) = m2 at ht2 s2 ⊢
          have hw2 : m2.w = m.w := by rw [← hm2]; rfl
          have ht3 := ht2.touch (who := who) (a := ((A + 1 + j : Nat) : Int)) (by omega)
          have s3 : (m2.touch who ((A + 1 + j : Nat) : Int)).steps = m.steps + 3 := by rw [PMem.touch_steps, ht2.step_eq (by omega), s2]; omega
          have e := ac_2 (cfA sp) who x own (i : Int) hg sv 0 (m.steps + 1) 0 (z : Int) out m2 (by rw [slotOf_eq hsv.1 hsv.2]; simp; omega) (by
            rw [eat, ht2.ld (by omega), hw2]
            simp only
            rw [cellOf_eq hcw.1 hcw.2]
            simp; omega)
          rw [eat, ht2.ld (by omega), hw2] at e
          simp only at e
          rw [s3] at e
          have hpc : ∀ b1 b2 b3 : Bool, (bif b1 then (6 : Int) else bif b2 then bif !b3 then 6 else 5 else 5) = 6 ∨ (bif b1 then (6 : Int) else bif b2 then bif !b3 then 6 else 5 else 5) = 5 := by decide
          have hpc := hpc (decide (x.kind = 1)) (decide (x.kind = 3)) (decide ((cellOf (m.w (A + 1 + j))).1 = x.old))
          generalize (bif decide (x.kind = 1) then (6 : Int) else bif decide (x.kind = 3) then bif !decide ((cellOf (m.w (A + 1 + j))).1 = x.old) then 6 else 5 else 5) = pc at e hpc
          refine Wp.f e ?_
          have hw3 : (m2.touch who ((A + 1 + j : Nat) : Int)).w = m.w := hw2
          generalize m2.touch who ((A + 1 + j : Nat) : Int) = m3 at ht3 s3 hw3 ⊢
          rcases hpc with rfl | rfl
          · have e := ac_6 (cfA sp) who x own (i : Int) hg sv (m.w (A + 1 + j)) (m.steps + 1) (m.steps + 3) (z : Int) out m3
            have ht4 := ht3.touch (who := who) (a := ((7 + 2 * i : Nat) : Int)) (by omega)
            have s4 : (m3.touch who ((7 + 2 * i : Nat) : Int)).steps = m.steps + 4 := by rw [PMem.touch_steps, ht3.step_eq (by omega), s3]; omega
            rw [ea, ht3.ld (by omega), hw3, hsw, hlv] at e
            simp only [decide_true, Bool.not_true, cond_false] at e
            cases hk : decide (x.kind = 3) with
            | true =>
              rw [hk] at e
              simp only [cond_true] at e
              exact Wp.up (Wp.t (n := 0) e (done ht4 (by omega) (by omega) (by omega))) (fun _ _ hq => hq) (by omega)
            | false =>
              rw [hk] at e
              simp only [cond_false] at e
              exact Wp.up (Wp.t (n := 0) e (done ht4 (by omega) (by omega) (by omega))) (fun _ _ hq => hq) (by omega)
          · have e := ac_5 (cfA sp) who x own (i : Int) hg sv (m.w (A + 1 + j)) (m.steps + 1) (m.steps + 3) (z : Int) out m3
            rw [eat, ht3.cas (by omega) (by rw [hw3]), putCell_eq hv] at e
            simp only [cond_true] at e
            have sh : Shape 6 (upd m3.w (A + 1 + j) x.value) := by
              rw [hw3]
              refine h.sh.obj (by omega) (by omega) (fun q y hq hy hu hc => ?_) (fun q hq hpq hc => ?_) (fun q y hq hs hy hc => by omega)
              · have := h.sh.inc i hi6 hp q hq
                rw [hAe, hZ] at this
                omega
              · by_cases hqi : q = i
                · subst hqi; rw [hAe] at hc; omega
                · have := h.sh.dis q i hq hi6 hqi hpq hp
                  rw [hAe, hZ] at this
                  unfold Apt at this
                  omega
            have h4 := ht3.lay' (who := who) (by omega) sh
            have s4 : (m3.lay who ((A + 1 + j : Nat) : Int) x.value).steps = m.steps + 4 := by rw [PMem.lay_steps, ht3.step_eq (by omega), s3]; omega
            exact Wp.up (Wp.t (n := 0) e (done h4 (by omega) (by omega) (Int.le_refl _))) (fun _ _ hq => hq) (by omega)

end
end Go.FL

/-
  The contracts of the program's functions of plain words.
-/
set_option linter.unusedVariables false
set_option linter.unusedSimpArgs false
set_option maxRecDepth 100000
set_option linter.unusedSectionVars false
namespace Go.Proofs.Ytmhakaeahefmbaa
open Go Go.FL Go.Proofs
variable [Go.FL.Fz]

abbrev Hd := List LV → LH → (LV → LH → Prop) → Prop

def own0 : FuncId → Option Hd := fun _ => none

def namesOK : List Func → Bool
  | [] => true
  | fn :: r => match fn.body.isNone || !(fn.name == "runtime.NumGoroutine") with
    | true => namesOK r
    | false => false

theorem fnOK_of {P : Program} (h : namesOK P.funcs.toList = true) : FnOK P := by
  have key : ∀ (l : List Func), namesOK l = true → ∀ fn ∈ l, fn.body.isSome = true → (fn.name == "runtime.NumGoroutine") = false := by
    intro l
    induction l with
    | nil => intro _ fn hf; simp at hf
    | cons g r ih =>
      intro h fn hf hb
      simp only [namesOK] at h
      split at h
      · rename_i hg
        rcases List.mem_cons.1 hf with rfl | hf
        · cases hx : fn.body with
          | none => rw [hx] at hb; cases hb
          | some c => rw [hx] at hg; simpa using hg
        · exact ih h fn hf hb
      · cases h
  intro f fn hf hb args w
  have hn := key _ h fn (by simpa using Array.mem_of_getElem? hf) hb
  have hb' : fn.body.isNone = false := by cases hx : fn.body <;> simp_all
  unfold callFunc
  simp only [Sem.run_bind, run_program, Result.andThen_ok, hf, hn, hb', Bool.false_eq_true, if_false, Sem.run_pure]

theorem fnOK : FnOK Try.prog := fnOK_of (by kernel_rfl)
theorem mixed : Try.prog.follows .mixedOrders = true := by kernel_rfl

def HOK (f : FuncId) (h : Hd) : Prop := ∀ args H K, h args H K → (∃ fn, Try.prog.funcs[f]? = some fn ∧ fn.body.isSome = true) ∧ CSpec Try.prog f args H K

def lowV : LV → Bool
  | .un => true
  | .c x => x.low 0
  | .agg l => lowL 0 l
  | .tup l => lowPs l
where lowPs : List LP → Bool
  | [] => true
  | .c x :: r => match x.low 0 with
    | true => lowPs r
    | false => false
  | .agg l :: r => match lowL 0 l with
    | true => lowPs r
    | false => false

def lowVs : List LV → Bool
  | [] => true
  | v :: r => match lowV v with
    | true => lowVs r
    | false => false

theorem LC.ren_id : ∀ x : LC, x.ren id = x := by
  intro x
  induction x with
  | iface t x ih => simp [LC.ren, ih]
  | _ => rfl

theorem RelC.low {s s' : Mp} {x : LC} {v : Value} (hx : x.low 0 = true) (h : RelC s x v) : RelC s' x v :=
  RelC.unren (g := id) (k := 0) (fun n r hn => absurd hn (Nat.not_lt_zero n)) hx (by rw [LC.ren_id]; exact h)

theorem RelL.low {s s' : Mp} : ∀ {l : List LC} {vs : List Value}, lowL 0 l = true → RelL s l vs → RelL s' l vs
  | [], [], _, _ => trivial
  | x :: l, _ :: _, hx, h => by
    simp only [lowL] at hx
    split at hx
    · rename_i h1; exact ⟨RelC.low h1 h.1, RelL.low hx h.2⟩
    · cases hx
  | [], _ :: _, _, h => h.elim
  | _ :: _, [], _, h => h.elim

theorem RelPs.low {s s' : Mp} : ∀ {l : List LP} {vs : List Value}, lowV.lowPs l = true → RelPs s l vs → RelPs s' l vs
  | [], [], _, _ => trivial
  | .c x :: l, _ :: _, hx, h => by
    simp only [lowV.lowPs] at hx
    split at hx
    · rename_i h1; exact ⟨RelC.low h1 h.1, RelPs.low hx h.2⟩
    · cases hx
  | .agg x :: l, _ :: _, hx, h => by
    simp only [lowV.lowPs] at hx
    split at hx
    · rename_i h1
      obtain ⟨cs, hv, hr⟩ := h.1
      exact ⟨⟨cs, hv, RelL.low h1 hr⟩, RelPs.low hx h.2⟩
    · cases hx
  | [], _ :: _, _, h => h.elim
  | _ :: _, [], _, h => h.elim

theorem RelV.low {s s' : Mp} {x : LV} {v : Value} (hx : lowV x = true) (h : RelV s x v) : RelV s' x v := by
  cases x with
  | un => trivial
  | c x => exact RelC.low hx h
  | agg l => obtain ⟨cs, hv, hr⟩ := h; exact ⟨cs, hv, RelL.low hx hr⟩
  | tup l => obtain ⟨cs, hv, hr⟩ := h; exact ⟨cs, hv, RelPs.low hx hr⟩

theorem RelVs.low {s s' : Mp} : ∀ {l : List LV} {vs : List Value}, lowVs l = true → RelVs s l vs → RelVs s' l vs
  | [], [], _, _ => trivial
  | x :: l, _ :: _, hx, h => by
    simp only [lowVs] at hx
    split at hx
    · rename_i h1; exact ⟨RelV.low h1 h.1, RelVs.low hx h.2⟩
    · cases hx
  | [], _ :: _, _, h => h.elim
  | _ :: _, [], _, h => h.elim

/-- A function that touches no object. -/
theorem pure_ok {own : FuncId → Option Hd} (hown : OwnOK Try.prog own) {fuel d : Nat} {f : FuncId} {args : List LV} {H : LH} {K K₁ : LV → LH → Prop} (hlow : lowVs args = true)
    (hev : evF Try.prog own fuel d f args ⟨[], []⟩ K₁) (hK : ∀ v H₁, K₁ v H₁ → lowV v = true ∧ K v H) :
    (∃ fn, Try.prog.funcs[f]? = some fn ∧ fn.body.isSome = true) ∧ CSpec Try.prog f args H K := by
  obtain ⟨h1, h2⟩ := evF_ok fnOK mixed hown fuel d f args ⟨[], []⟩ K₁ hev
  refine ⟨h1, ?_⟩
  refine CSpec.objs (ns := []) (xs := []) rfl (by simp) List.nodup_nil (args₁ := args) (K₁ := K₁) (fun s s₁ vs _ h => RelVs.low hlow h) h2 ?_
  intro v₁ H₁ hk
  obtain ⟨h3, h4⟩ := hK v₁ H₁ hk
  refine ⟨[], [], [], [], v₁, ⟨rfl, rfl, rfl, by simp, by simp, by simp, by simp, by simp, by simp, by simp⟩, fun s₁ s' v' _ _ h => RelV.low h3 h, h4⟩

theorem own0_ok : OwnOK Try.prog own0 := fun f h hf => by cases hf

theorem fit_ev (a b : Int) (K : Int → Prop) : evF Try.prog own0 10 20 43 [.c (.int .i64 a), .c (.int .i64 b)] ⟨[], []⟩ (fun v _ => match v with | .c (.int .u64 x) => K x | _ => False) = fitK False a b K := by kernel_rfl

def h_fit : Hd := fun args H K => match args with
  | [.c (.int .i64 a), .c (.int .i64 b)] => K (.c (.int .u64 ((fit a b)))) H
  | _ => False

theorem h_fit_ok : HOK 43 h_fit := by
  intro args H K h
  unfold h_fit at h
  split at h
  · rename_i a b
    have e := fit_ev a b (fun x => K (.c (.int .u64 x)) H)
    rw [fitK_eq False a b] at e
    have e := e.mpr h
    refine pure_ok (fuel := 10) (d := 20) own0_ok rfl e ?_
    intro v H₁ hv
    split at hv
    · exact ⟨rfl, hv⟩
    · exact hv.elim
  · exact h.elim

theorem putHandle_ev (a b : Int) (K : Int → Prop) : evF Try.prog own0 10 20 75 [.agg [.int .i64 a, .int .i64 b]] ⟨[], []⟩ (fun v _ => match v with | .c (.int .u64 x) => K x | _ => False) = putHandleK False a b K := by kernel_rfl

def h_putHandle : Hd := fun args H K => match args with
  | [.agg [.int .i64 a, .int .i64 b]] => K (.c (.int .u64 ((putHandle a b)))) H
  | _ => False

theorem h_putHandle_ok : HOK 75 h_putHandle := by
  intro args H K h
  unfold h_putHandle at h
  split at h
  · rename_i a b
    have e := putHandle_ev a b (fun x => K (.c (.int .u64 x)) H)
    rw [putHandleK_eq False a b] at e
    have e := e.mpr h
    refine pure_ok (fuel := 10) (d := 20) own0_ok rfl e ?_
    intro v H₁ hv
    split at hv
    · exact ⟨rfl, hv⟩
    · exact hv.elim
  · exact h.elim

theorem handle_ev (a : Int) (K : Int → Int → Bool → Prop) : evF Try.prog own0 10 20 98 [.c (.int .u64 a)] ⟨[], []⟩ (fun v _ => match v with | .tup [.agg [.int .i64 x, .int .i64 y], .c (.bool z)] => K x y z | _ => False) = handleK False a K := by kernel_rfl

def h_handle : Hd := fun args H K => match args with
  | [.c (.int .u64 a)] => K (.tup [.agg [.int .i64 ((handle a).1), .int .i64 ((handle a).2.1)], .c (.bool ((handle a).2.2))]) H
  | _ => False

theorem h_handle_ok : HOK 98 h_handle := by
  intro args H K h
  unfold h_handle at h
  split at h
  · rename_i a
    have e := handle_ev a (fun x y z => K (.tup [.agg [.int .i64 x, .int .i64 y], .c (.bool z)]) H)
    rw [handleK_eq False a] at e
    have e := e.mpr h
    refine pure_ok (fuel := 10) (d := 20) own0_ok rfl e ?_
    intro v H₁ hv
    split at hv
    · exact ⟨rfl, hv⟩
    · exact hv.elim
  · exact h.elim

theorem putSlot_ev (a b c d : Int) (K : Int → Prop) : evF Try.prog own0 10 20 31 [.agg [.int .i64 a, .int .i64 b, .int .i64 c, .int .i64 d]] ⟨[], []⟩ (fun v _ => match v with | .c (.int .u64 x) => K x | _ => False) = putSlotK False a b c d K := by kernel_rfl

def h_putSlot : Hd := fun args H K => match args with
  | [.agg [.int .i64 a, .int .i64 b, .int .i64 c, .int .i64 d]] => K (.c (.int .u64 ((putSlot a b c d)))) H
  | _ => False

theorem h_putSlot_ok : HOK 31 h_putSlot := by
  intro args H K h
  unfold h_putSlot at h
  split at h
  · rename_i a b c d
    have e := putSlot_ev a b c d (fun x => K (.c (.int .u64 x)) H)
    rw [putSlotK_eq False a b c d] at e
    have e := e.mpr h
    refine pure_ok (fuel := 10) (d := 20) own0_ok rfl e ?_
    intro v H₁ hv
    split at hv
    · exact ⟨rfl, hv⟩
    · exact hv.elim
  · exact h.elim

theorem slotOf_ev (a : Int) (K : Int → Int → Int → Int → Prop) : evF Try.prog own0 10 20 67 [.c (.int .u64 a)] ⟨[], []⟩ (fun v _ => match v with | .agg [.int .i64 x, .int .i64 y, .int .i64 z, .int .i64 t] => K x y z t | _ => False) = slotOfK False a K := by kernel_rfl

def h_slotOf : Hd := fun args H K => match args with
  | [.c (.int .u64 a)] => K (.agg [.int .i64 ((slotOf a).1), .int .i64 ((slotOf a).2.1), .int .i64 ((slotOf a).2.2.1), .int .i64 ((slotOf a).2.2.2)]) H
  | _ => False

theorem h_slotOf_ok : HOK 67 h_slotOf := by
  intro args H K h
  unfold h_slotOf at h
  split at h
  · rename_i a
    have e := slotOf_ev a (fun x y z t => K (.agg [.int .i64 x, .int .i64 y, .int .i64 z, .int .i64 t]) H)
    rw [slotOfK_eq False a] at e
    have e := e.mpr h
    refine pure_ok (fuel := 10) (d := 20) own0_ok rfl e ?_
    intro v H₁ hv
    split at hv
    · exact ⟨rfl, hv⟩
    · exact hv.elim
  · exact h.elim

theorem putChunk_ev (a b c d : Int) (K : Int → Prop) : evF Try.prog own0 10 20 85 [.agg [.int .i64 a, .int .i64 b, .int .i64 c, .int .i64 d]] ⟨[], []⟩ (fun v _ => match v with | .c (.int .u64 x) => K x | _ => False) = putChunkK False a b c d K := by kernel_rfl

def h_putChunk : Hd := fun args H K => match args with
  | [.agg [.int .i64 a, .int .i64 b, .int .i64 c, .int .i64 d]] => K (.c (.int .u64 ((putChunk a b c d)))) H
  | _ => False

theorem h_putChunk_ok : HOK 85 h_putChunk := by
  intro args H K h
  unfold h_putChunk at h
  split at h
  · rename_i a b c d
    have e := putChunk_ev a b c d (fun x => K (.c (.int .u64 x)) H)
    rw [putChunkK_eq False a b c d] at e
    have e := e.mpr h
    refine pure_ok (fuel := 10) (d := 20) own0_ok rfl e ?_
    intro v H₁ hv
    split at hv
    · exact ⟨rfl, hv⟩
    · exact hv.elim
  · exact h.elim

theorem chunkOf_ev (a : Int) (K : Int → Int → Int → Int → Prop) : evF Try.prog own0 10 20 81 [.c (.int .u64 a)] ⟨[], []⟩ (fun v _ => match v with | .agg [.int .i64 x, .int .i64 y, .int .i64 z, .int .i64 t] => K x y z t | _ => False) = chunkOfK False a K := by kernel_rfl

def h_chunkOf : Hd := fun args H K => match args with
  | [.c (.int .u64 a)] => K (.agg [.int .i64 ((chunkOf a).1), .int .i64 ((chunkOf a).2.1), .int .i64 ((chunkOf a).2.2.1), .int .i64 ((chunkOf a).2.2.2)]) H
  | _ => False

theorem h_chunkOf_ok : HOK 81 h_chunkOf := by
  intro args H K h
  unfold h_chunkOf at h
  split at h
  · rename_i a
    have e := chunkOf_ev a (fun x y z t => K (.agg [.int .i64 x, .int .i64 y, .int .i64 z, .int .i64 t]) H)
    rw [chunkOfK_eq False a] at e
    have e := e.mpr h
    refine pure_ok (fuel := 10) (d := 20) own0_ok rfl e ?_
    intro v H₁ hv
    split at hv
    · exact ⟨rfl, hv⟩
    · exact hv.elim
  · exact h.elim

theorem putHead_ev (a b c d : Int) (o : Bool) (K : Int → Prop) : evF Try.prog own0 10 20 77 [.agg [.int .i64 a, .int .i64 b, .int .i64 c, .int .i64 d, .bool o]] ⟨[], []⟩ (fun v _ => match v with | .c (.int .u64 x) => K x | _ => False) = putHeadK False a b c d o K := by kernel_rfl

def h_putHead : Hd := fun args H K => match args with
  | [.agg [.int .i64 a, .int .i64 b, .int .i64 c, .int .i64 d, .bool o]] => K (.c (.int .u64 ((putHead a b c d o)))) H
  | _ => False

theorem h_putHead_ok : HOK 77 h_putHead := by
  intro args H K h
  unfold h_putHead at h
  split at h
  · rename_i a b c d o
    have e := putHead_ev a b c d o (fun x => K (.c (.int .u64 x)) H)
    rw [putHeadK_eq False a b c d o] at e
    have e := e.mpr h
    refine pure_ok (fuel := 10) (d := 20) own0_ok rfl e ?_
    intro v H₁ hv
    split at hv
    · exact ⟨rfl, hv⟩
    · exact hv.elim
  · exact h.elim

theorem headOf_ev (a : Int) (K : Int → Int → Int → Int → Bool → Prop) : evF Try.prog own0 10 20 91 [.c (.int .u64 a)] ⟨[], []⟩ (fun v _ => match v with | .agg [.int .i64 x, .int .i64 y, .int .i64 z, .int .i64 t, .bool s] => K x y z t s | _ => False) = headOfK False a K := by kernel_rfl

def h_headOf : Hd := fun args H K => match args with
  | [.c (.int .u64 a)] => K (.agg [.int .i64 ((headOf a).1), .int .i64 ((headOf a).2.1), .int .i64 ((headOf a).2.2.1), .int .i64 ((headOf a).2.2.2.1), .bool ((headOf a).2.2.2.2)]) H
  | _ => False

theorem h_headOf_ok : HOK 91 h_headOf := by
  intro args H K h
  unfold h_headOf at h
  split at h
  · rename_i a
    have e := headOf_ev a (fun x y z t s => K (.agg [.int .i64 x, .int .i64 y, .int .i64 z, .int .i64 t, .bool s]) H)
    rw [headOfK_eq False a] at e
    have e := e.mpr h
    refine pure_ok (fuel := 10) (d := 20) own0_ok rfl e ?_
    intro v H₁ hv
    split at hv
    · exact ⟨rfl, hv⟩
    · exact hv.elim
  · exact h.elim

theorem putCell_ev (a : Int) (o : Bool) (c : Int) (K : Int → Prop) : evF Try.prog own0 10 20 101 [.agg [.int .i64 a, .bool o, .int .i64 c]] ⟨[], []⟩ (fun v _ => match v with | .c (.int .u64 x) => K x | _ => False) = putCellK False a o c K := by kernel_rfl

def h_putCell : Hd := fun args H K => match args with
  | [.agg [.int .i64 a, .bool o, .int .i64 c]] => K (.c (.int .u64 ((putCell a o c)))) H
  | _ => False

theorem h_putCell_ok : HOK 101 h_putCell := by
  intro args H K h
  unfold h_putCell at h
  split at h
  · rename_i a o c
    have e := putCell_ev a o c (fun x => K (.c (.int .u64 x)) H)
    rw [putCellK_eq False a o c] at e
    have e := e.mpr h
    refine pure_ok (fuel := 10) (d := 20) own0_ok rfl e ?_
    intro v H₁ hv
    split at hv
    · exact ⟨rfl, hv⟩
    · exact hv.elim
  · exact h.elim

theorem cellOf_ev (a : Int) (K : Int → Bool → Int → Prop) : evF Try.prog own0 10 20 100 [.c (.int .u64 a)] ⟨[], []⟩ (fun v _ => match v with | .agg [.int .i64 x, .bool y, .int .i64 z] => K x y z | _ => False) = cellOfK False a K := by kernel_rfl

def h_cellOf : Hd := fun args H K => match args with
  | [.c (.int .u64 a)] => K (.agg [.int .i64 ((cellOf a).1), .bool ((cellOf a).2.1), .int .i64 ((cellOf a).2.2)]) H
  | _ => False

theorem h_cellOf_ok : HOK 100 h_cellOf := by
  intro args H K h
  unfold h_cellOf at h
  split at h
  · rename_i a
    have e := cellOf_ev a (fun x y z => K (.agg [.int .i64 x, .bool y, .int .i64 z]) H)
    rw [cellOfK_eq False a] at e
    have e := e.mpr h
    refine pure_ok (fuel := 10) (d := 20) own0_ok rfl e ?_
    intro v H₁ hv
    split at hv
    · exact ⟨rfl, hv⟩
    · exact hv.elim
  · exact h.elim

theorem putTop_ev (a b : Int) (K : Int → Prop) : evF Try.prog own0 10 20 32 [.c (.int .i64 a), .c (.int .i64 b)] ⟨[], []⟩ (fun v _ => match v with | .c (.int .u64 x) => K x | _ => False) = putTopK False a b K := by kernel_rfl

def h_putTop : Hd := fun args H K => match args with
  | [.c (.int .i64 a), .c (.int .i64 b)] => K (.c (.int .u64 ((putTop a b)))) H
  | _ => False

theorem h_putTop_ok : HOK 32 h_putTop := by
  intro args H K h
  unfold h_putTop at h
  split at h
  · rename_i a b
    have e := putTop_ev a b (fun x => K (.c (.int .u64 x)) H)
    rw [putTopK_eq False a b] at e
    have e := e.mpr h
    refine pure_ok (fuel := 10) (d := 20) own0_ok rfl e ?_
    intro v H₁ hv
    split at hv
    · exact ⟨rfl, hv⟩
    · exact hv.elim
  · exact h.elim

theorem topOf_ev (a : Int) (K : Int → Int → Prop) : evF Try.prog own0 10 20 78 [.c (.int .u64 a)] ⟨[], []⟩ (fun v _ => match v with | .tup [.c (.int .i64 x), .c (.int .i64 y)] => K x y | _ => False) = topOfK False a K := by kernel_rfl

def h_topOf : Hd := fun args H K => match args with
  | [.c (.int .u64 a)] => K (.tup [.c (.int .i64 ((topOf a).1)), .c (.int .i64 ((topOf a).2))]) H
  | _ => False

theorem h_topOf_ok : HOK 78 h_topOf := by
  intro args H K h
  unfold h_topOf at h
  split at h
  · rename_i a
    have e := topOf_ev a (fun x y => K (.tup [.c (.int .i64 x), .c (.int .i64 y)]) H)
    rw [topOfK_eq False a] at e
    have e := e.mpr h
    refine pure_ok (fuel := 10) (d := 20) own0_ok rfl e ?_
    intro v H₁ hv
    split at hv
    · exact ⟨rfl, hv⟩
    · exact hv.elim
  · exact h.elim

theorem lOpen_ev (a : Int) (K : Int → Prop) : evF Try.prog own0 10 20 80 [.c (.int .i64 a)] ⟨[], []⟩ (fun v _ => match v with | .c (.int .i64 x) => K x | _ => False) = lOpenK False a K := by kernel_rfl

def h_lOpen : Hd := fun args H K => match args with
  | [.c (.int .i64 a)] => K (.c (.int .i64 ((lOpen a)))) H
  | _ => False

theorem h_lOpen_ok : HOK 80 h_lOpen := by
  intro args H K h
  unfold h_lOpen at h
  split at h
  · rename_i a
    have e := lOpen_ev a (fun x => K (.c (.int .i64 x)) H)
    rw [lOpenK_eq False a] at e
    have e := e.mpr h
    refine pure_ok (fuel := 10) (d := 20) own0_ok rfl e ?_
    intro v H₁ hv
    split at hv
    · exact ⟨rfl, hv⟩
    · exact hv.elim
  · exact h.elim

theorem lPin_ev (a : Int) (K : Int → Prop) : evF Try.prog own0 10 20 16 [.c (.int .i64 a)] ⟨[], []⟩ (fun v _ => match v with | .c (.int .i64 x) => K x | _ => False) = lPinK False a K := by kernel_rfl

def h_lPin : Hd := fun args H K => match args with
  | [.c (.int .i64 a)] => K (.c (.int .i64 ((lPin a)))) H
  | _ => False

theorem h_lPin_ok : HOK 16 h_lPin := by
  intro args H K h
  unfold h_lPin at h
  split at h
  · rename_i a
    have e := lPin_ev a (fun x => K (.c (.int .i64 x)) H)
    rw [lPinK_eq False a] at e
    have e := e.mpr h
    refine pure_ok (fuel := 10) (d := 20) own0_ok rfl e ?_
    intro v H₁ hv
    split at hv
    · exact ⟨rfl, hv⟩
    · exact hv.elim
  · exact h.elim

theorem lSlot_ev (c1 c2 c3 c4 c5 c6 c7 : Int) (a : Int) (K : Int → Prop) : evF Try.prog own0 10 20 30 [.agg [.int .i64 c1, .int .i64 c2, .int .i64 c3, .int .i64 c4, .int .i64 c5, .int .i64 c6, .int .i64 c7], .c (.int .i64 a)] ⟨[], []⟩ (fun v _ => match v with | .c (.int .i64 x) => K x | _ => False) = lSlotK False c1 c2 c3 c4 c5 c6 c7 a K := by kernel_rfl

def h_lSlot : Hd := fun args H K => match args with
  | [.agg [.int .i64 c1, .int .i64 c2, .int .i64 c3, .int .i64 c4, .int .i64 c5, .int .i64 c6, .int .i64 c7], .c (.int .i64 a)] => K (.c (.int .i64 ((lSlot c1 c2 c3 c4 c5 c6 c7 a)))) H
  | _ => False

theorem h_lSlot_ok : HOK 30 h_lSlot := by
  intro args H K h
  unfold h_lSlot at h
  split at h
  · rename_i c1 c2 c3 c4 c5 c6 c7 a
    have e := lSlot_ev c1 c2 c3 c4 c5 c6 c7 a (fun x => K (.c (.int .i64 x)) H)
    rw [lSlotK_eq False c1 c2 c3 c4 c5 c6 c7 a] at e
    have e := e.mpr h
    refine pure_ok (fuel := 10) (d := 20) own0_ok rfl e ?_
    intro v H₁ hv
    split at hv
    · exact ⟨rfl, hv⟩
    · exact hv.elim
  · exact h.elim

theorem lChunk_ev (c1 c2 c3 c4 c5 c6 c7 : Int) (a : Int) (K : Int → Prop) : evF Try.prog own0 10 20 73 [.agg [.int .i64 c1, .int .i64 c2, .int .i64 c3, .int .i64 c4, .int .i64 c5, .int .i64 c6, .int .i64 c7], .c (.int .i64 a)] ⟨[], []⟩ (fun v _ => match v with | .c (.int .i64 x) => K x | _ => False) = lChunkK False c1 c2 c3 c4 c5 c6 c7 a K := by kernel_rfl

def h_lChunk : Hd := fun args H K => match args with
  | [.agg [.int .i64 c1, .int .i64 c2, .int .i64 c3, .int .i64 c4, .int .i64 c5, .int .i64 c6, .int .i64 c7], .c (.int .i64 a)] => K (.c (.int .i64 ((lChunk c1 c2 c3 c4 c5 c6 c7 a)))) H
  | _ => False

theorem h_lChunk_ok : HOK 73 h_lChunk := by
  intro args H K h
  unfold h_lChunk at h
  split at h
  · rename_i c1 c2 c3 c4 c5 c6 c7 a
    have e := lChunk_ev c1 c2 c3 c4 c5 c6 c7 a (fun x => K (.c (.int .i64 x)) H)
    rw [lChunkK_eq False c1 c2 c3 c4 c5 c6 c7 a] at e
    have e := e.mpr h
    refine pure_ok (fuel := 10) (d := 20) own0_ok rfl e ?_
    intro v H₁ hv
    split at hv
    · exact ⟨rfl, hv⟩
    · exact hv.elim
  · exact h.elim

theorem lBase_ev (c1 c2 c3 c4 c5 c6 c7 : Int) (a : Int) (K : Int → Prop) : evF Try.prog own0 10 20 40 [.agg [.int .i64 c1, .int .i64 c2, .int .i64 c3, .int .i64 c4, .int .i64 c5, .int .i64 c6, .int .i64 c7], .c (.int .i64 a)] ⟨[], []⟩ (fun v _ => match v with | .c (.int .i64 x) => K x | _ => False) = lBaseK False c1 c2 c3 c4 c5 c6 c7 a K := by kernel_rfl

def h_lBase : Hd := fun args H K => match args with
  | [.agg [.int .i64 c1, .int .i64 c2, .int .i64 c3, .int .i64 c4, .int .i64 c5, .int .i64 c6, .int .i64 c7], .c (.int .i64 a)] => K (.c (.int .i64 ((lBase c1 c2 c3 c4 c5 c6 c7 a)))) H
  | _ => False

theorem h_lBase_ok : HOK 40 h_lBase := by
  intro args H K h
  unfold h_lBase at h
  split at h
  · rename_i c1 c2 c3 c4 c5 c6 c7 a
    have e := lBase_ev c1 c2 c3 c4 c5 c6 c7 a (fun x => K (.c (.int .i64 x)) H)
    rw [lBaseK_eq False c1 c2 c3 c4 c5 c6 c7 a] at e
    have e := e.mpr h
    refine pure_ok (fuel := 10) (d := 20) own0_ok rfl e ?_
    intro v H₁ hv
    split at hv
    · exact ⟨rfl, hv⟩
    · exact hv.elim
  · exact h.elim

theorem lLen_ev (c1 c2 c3 c4 c5 c6 c7 : Int) (K : Int → Prop) : evF Try.prog own0 10 20 28 [.agg [.int .i64 c1, .int .i64 c2, .int .i64 c3, .int .i64 c4, .int .i64 c5, .int .i64 c6, .int .i64 c7]] ⟨[], []⟩ (fun v _ => match v with | .c (.int .i64 x) => K x | _ => False) = lLenK False c1 c2 c3 c4 c5 c6 c7 K := by kernel_rfl

def h_lLen : Hd := fun args H K => match args with
  | [.agg [.int .i64 c1, .int .i64 c2, .int .i64 c3, .int .i64 c4, .int .i64 c5, .int .i64 c6, .int .i64 c7]] => K (.c (.int .i64 ((lLen c1 c2 c3 c4 c5 c6 c7)))) H
  | _ => False

theorem h_lLen_ok : HOK 28 h_lLen := by
  intro args H K h
  unfold h_lLen at h
  split at h
  · rename_i c1 c2 c3 c4 c5 c6 c7
    have e := lLen_ev c1 c2 c3 c4 c5 c6 c7 (fun x => K (.c (.int .i64 x)) H)
    rw [lLenK_eq False c1 c2 c3 c4 c5 c6 c7] at e
    have e := e.mpr h
    refine pure_ok (fuel := 10) (d := 20) own0_ok rfl e ?_
    intro v H₁ hv
    split at hv
    · exact ⟨rfl, hv⟩
    · exact hv.elim
  · exact h.elim

theorem lOf_ev (c1 c2 c3 c4 c5 c6 c7 : Int) (a : Int) (K : Int → Prop) : evF Try.prog own0 10 20 97 [.agg [.int .i64 c1, .int .i64 c2, .int .i64 c3, .int .i64 c4, .int .i64 c5, .int .i64 c6, .int .i64 c7], .c (.int .i64 a)] ⟨[], []⟩ (fun v _ => match v with | .c (.int .i64 x) => K x | _ => False) = lOfK False c1 c2 c3 c4 c5 c6 c7 a K := by kernel_rfl

def h_lOf : Hd := fun args H K => match args with
  | [.agg [.int .i64 c1, .int .i64 c2, .int .i64 c3, .int .i64 c4, .int .i64 c5, .int .i64 c6, .int .i64 c7], .c (.int .i64 a)] => match decide (c4 = 0) with | true => False | false => K (.c (.int .i64 ((lOf c1 c2 c3 c4 c5 c6 c7 a)))) H
  | _ => False

theorem h_lOf_ok : HOK 97 h_lOf := by
  intro args H K h
  unfold h_lOf at h
  split at h
  · rename_i c1 c2 c3 c4 c5 c6 c7 a
    split at h
    · exact h.elim
    rename_i hc
    have hc : c4 ≠ 0 := of_decide_eq_false hc
    have e := lOf_ev c1 c2 c3 c4 c5 c6 c7 a (fun x => K (.c (.int .i64 x)) H)
    rw [lOfK_eq False c1 c2 c3 c4 c5 c6 c7 a hc] at e
    have e := e.mpr h
    refine pure_ok (fuel := 10) (d := 20) own0_ok rfl e ?_
    intro v H₁ hv
    split at hv
    · exact ⟨rfl, hv⟩
    · exact hv.elim
  · exact h.elim

theorem lClass_ev (a : Int) (K : Int → Prop) : evF Try.prog own0 10 20 13 [.c (.int .i64 a)] ⟨[], []⟩ (fun v _ => match v with | .c (.int .i64 x) => K x | _ => False) = lClassK False a K := by kernel_rfl

def h_lClass : Hd := fun args H K => match args with
  | [.c (.int .i64 a)] => K (.c (.int .i64 ((lClass a)))) H
  | _ => False

theorem h_lClass_ok : HOK 13 h_lClass := by
  intro args H K h
  unfold h_lClass at h
  split at h
  · rename_i a
    have e := lClass_ev a (fun x => K (.c (.int .i64 x)) H)
    rw [lClassK_eq False a] at e
    have e := e.mpr h
    refine pure_ok (fuel := 10) (d := 20) own0_ok rfl e ?_
    intro v H₁ hv
    split at hv
    · exact ⟨rfl, hv⟩
    · exact hv.elim
  · exact h.elim

theorem lRoom_ev (a : Int) (K : Int → Prop) : evF Try.prog own0 10 20 74 [.c (.int .i64 a)] ⟨[], []⟩ (fun v _ => match v with | .c (.int .i64 x) => K x | _ => False) = lRoomK False a K := by kernel_rfl

def h_lRoom : Hd := fun args H K => match args with
  | [.c (.int .i64 a)] => K (.c (.int .i64 ((lRoom a)))) H
  | _ => False

theorem h_lRoom_ok : HOK 74 h_lRoom := by
  intro args H K h
  unfold h_lRoom at h
  split at h
  · rename_i a
    have e := lRoom_ev a (fun x => K (.c (.int .i64 x)) H)
    rw [lRoomK_eq False a] at e
    have e := e.mpr h
    refine pure_ok (fuel := 10) (d := 20) own0_ok rfl e ?_
    intro v H₁ hv
    split at hv
    · exact ⟨rfl, hv⟩
    · exact hv.elim
  · exact h.elim

theorem live_ev (a b c d p q : Int) (K : Bool → Prop) : evF Try.prog own0 10 20 99 [.agg [.int .i64 a, .int .i64 b, .int .i64 c, .int .i64 d], .agg [.int .i64 p, .int .i64 q]] ⟨[], []⟩ (fun v _ => match v with | .c (.bool x) => K x | _ => False) = liveK False a b c d p q K := by kernel_rfl

def h_live : Hd := fun args H K => match args with
  | [.agg [.int .i64 a, .int .i64 b, .int .i64 c, .int .i64 d], .agg [.int .i64 p, .int .i64 q]] => K (.c (.bool ((live a b c d p q)))) H
  | _ => False

theorem h_live_ok : HOK 99 h_live := by
  intro args H K h
  unfold h_live at h
  split at h
  · rename_i a b c d p q
    have e := live_ev a b c d p q (fun x => K (.c (.bool x)) H)
    rw [liveK_eq False a b c d p q] at e
    have e := e.mpr h
    refine pure_ok (fuel := 10) (d := 20) own0_ok rfl e ?_
    intro v H₁ hv
    split at hv
    · exact ⟨rfl, hv⟩
    · exact hv.elim
  · exact h.elim

end Go.Proofs.Ytmhakaeahefmbaa

/-
  Contracts over objects: the frames.
-/
set_option linter.unusedVariables false
set_option linter.unusedSimpArgs false
set_option maxRecDepth 100000
set_option linter.unusedSectionVars false
namespace Go.FL

def headOK (b : Nat) : List Nat → Bool
  | m :: _ => Nat.beq m b
  | [] => false

def rangeOK (b l tot : Nat) : List Nat → Bool
  | [] => true
  | m :: r => match Nat.ble tot m || (Nat.ble b m && Nat.blt m (b + l)) with
    | true => rangeOK b l tot r
    | false => false

def chkCs : List (Bool × Ob) → Nat → Nat → List (List Nat) → Bool
  | [], _, _, [] => true
  | x :: xs, k, tot, c :: cs => match headOK k c && rangeOK k (llen (exB x)) tot c with
    | true => chkCs xs (k + llen (exB x)) tot cs
    | false => false
  | _, _, _, _ => false

def allGe (tot : Nat) : List Nat → Bool
  | [] => true
  | m :: r => match Nat.ble tot m with
    | true => allGe tot r
    | false => false

def chkDs (tot : Nat) : List (List Nat) → Bool
  | [] => true
  | [] :: _ => false
  | (m :: d) :: ds => match allGe tot (m :: d) with
    | true => chkDs tot ds
    | false => false

def memB (x : Nat) : List Nat → Bool
  | [] => false
  | y :: r => match Nat.beq x y with
    | true => true
    | false => memB x r

def nodupB : List Nat → Bool
  | [] => true
  | x :: r => match memB x r with
    | true => false
    | false => nodupB r

def chkAll (xs : List (Bool × Ob)) (cs ds : List (List Nat)) : Bool :=
  match chkCs xs 0 (llen (cat xs 0)) cs with
  | true => match chkDs (llen (cat xs 0)) ds with
    | true => nodupB (cs.flatten ++ ds.flatten)
    | false => false
  | false => false

def ClusL (H : LH) : List (List Nat) → List (Bool × Ob) → Prop
  | [], [] => True
  | c :: cs, x :: xs => Clus H c x ∧ ClusL H cs xs
  | _, _ => False

theorem memB_eq (x : Nat) : ∀ l : List Nat, memB x l = true ↔ x ∈ l
  | [] => by simp [memB]
  | y :: r => by
    simp only [memB]
    split
    · rename_i h; have := Nat.eq_of_beq_eq_true h; simp [this]
    · rename_i h
      have := Nat.ne_of_beq_eq_false h
      rw [memB_eq x r]; simp [this]

theorem nodupB_eq : ∀ l : List Nat, nodupB l = true → l.Nodup
  | [], _ => List.nodup_nil
  | x :: r, h => by
    simp only [nodupB] at h
    split at h
    · cases h
    · rename_i hm
      refine List.nodup_cons.2 ⟨fun hx => ?_, nodupB_eq r h⟩
      rw [(memB_eq x r).2 hx] at hm; cases hm

theorem rangeOK_eq {b l tot : Nat} : ∀ {c : List Nat}, rangeOK b l tot c = true → ∀ m ∈ c, m < tot → b ≤ m ∧ m < b + l
  | [], _, m, hm, _ => by simp at hm
  | x :: r, h, m, hm, ht => by
    simp only [rangeOK] at h
    split at h
    · rename_i hx
      rcases List.mem_cons.1 hm with rfl | hm
      · simp only [Bool.or_eq_true, Bool.and_eq_true] at hx
        rcases hx with hx | hx
        · have := Nat.le_of_ble_eq_true hx; omega
        · have h1 := Nat.le_of_ble_eq_true hx.1
          have h2 : m < b + l := by have := hx.2; simpa using this
          exact ⟨h1, h2⟩
      · exact rangeOK_eq h m hm ht
    · cases h

theorem allGe_eq {tot : Nat} : ∀ {d : List Nat}, allGe tot d = true → ∀ m ∈ d, tot ≤ m
  | [], _, m, hm => by simp at hm
  | x :: r, h, m, hm => by
    simp only [allGe] at h
    split at h
    · rename_i hx
      rcases List.mem_cons.1 hm with rfl | hm
      · exact Nat.le_of_ble_eq_true hx
      · exact allGe_eq h m hm
    · cases h

theorem chkCs_eq {tot : Nat} : ∀ {xs : List (Bool × Ob)} {k : Nat} {cs : List (List Nat)}, chkCs xs k tot cs = true → cs.length = xs.length ∧
    (∀ (i : Nat) (c : List Nat), cs[i]? = some c → c[0]? = some (base xs i k)) ∧
    (∀ (i : Nat) (c : List Nat) (x : Bool × Ob) (m : Nat), cs[i]? = some c → xs[i]? = some x → m ∈ c → m < tot → base xs i k ≤ m ∧ m < base xs i k + (exB x).length)
  | [], k, [], _ => ⟨rfl, by simp, by simp⟩
  | [], k, _ :: _, h => by simp [chkCs] at h
  | _ :: _, k, [], h => by simp [chkCs] at h
  | x :: xs, k, c :: cs, h => by
    simp only [chkCs] at h
    split at h
    · rename_i hx
      simp only [Bool.and_eq_true] at hx
      obtain ⟨h1, h2, h3⟩ := chkCs_eq h
      refine ⟨by simp [h1], ?_, ?_⟩
      · intro i c' hc
        cases i with
        | zero =>
          simp at hc; subst hc
          have := hx.1
          unfold headOK at this
          split at this
          · have := Nat.eq_of_beq_eq_true this; simp [base, this]
          · cases this
        | succ i =>
          have := h2 i c' (by simpa using hc)
          rw [llen_eq] at this
          simpa [base] using this
      · intro i c' x' m hc hx' hm ht
        cases i with
        | zero =>
          simp at hc hx'; subst hc; subst hx'
          have := rangeOK_eq hx.2 m hm ht
          rw [llen_eq] at this
          simpa [base] using this
        | succ i =>
          have := h3 i c' x' m (by simpa using hc) (by simpa using hx') hm ht
          rw [llen_eq] at this
          simpa [base] using this
    · cases h

theorem chkDs_eq {tot : Nat} : ∀ {ds : List (List Nat)}, chkDs tot ds = true → (∀ (j : Nat) (d : List Nat), ds[j]? = some d → ∃ m, d[0]? = some m) ∧ (∀ (j : Nat) (d : List Nat) (m : Nat), ds[j]? = some d → m ∈ d → tot ≤ m)
  | [], _ => ⟨by simp, by simp⟩
  | [] :: _, h => by simp [chkDs] at h
  | (m :: d) :: ds, h => by
    simp only [chkDs] at h
    split at h
    · rename_i hx
      obtain ⟨h1, h2⟩ := chkDs_eq h
      refine ⟨?_, ?_⟩
      · intro j d' hj
        cases j with
        | zero => simp at hj; subst hj; exact ⟨m, rfl⟩
        | succ j => exact h1 j d' (by simpa using hj)
      · intro j d' m' hj hm
        cases j with
        | zero => simp at hj; subst hj; exact allGe_eq hx m' hm
        | succ j => exact h2 j d' m' (by simpa using hj) hm
    · cases h

theorem ClusL_eq {H : LH} : ∀ {cs : List (List Nat)} {xs : List (Bool × Ob)}, ClusL H cs xs → cs.length = xs.length ∧ ∀ (i : Nat) (c : List Nat) (x : Bool × Ob), cs[i]? = some c → xs[i]? = some x → Clus H c x
  | [], [], _ => ⟨rfl, by simp⟩
  | [], _ :: _, h => h.elim
  | _ :: _, [], h => h.elim
  | c :: cs, x :: xs, h => by
    obtain ⟨h1, h2⟩ := ClusL_eq h.2
    refine ⟨by simp [h1], ?_⟩
    intro i c' x' hc hx
    cases i with
    | zero => simp at hc hx; subst hc; subst hx; exact h.1
    | succ i => exact h2 i c' x' (by simpa using hc) (by simpa using hx)

theorem closeOK_of {xs xs' ys : List (Bool × Ob)} {H : LH} {cs ds : List (List Nat)} (h : chkAll xs cs ds = true) (hc : ClusL H cs xs') (hd : ClusL H ds ys) : CloseOK xs H cs xs' ds ys := by
  unfold chkAll at h
  split at h
  · rename_i h1
    split at h
    · rename_i h2
      obtain ⟨a1, a2, a3⟩ := chkCs_eq h1
      obtain ⟨b1, b2⟩ := chkDs_eq h2
      obtain ⟨c1, c2⟩ := ClusL_eq hc
      obtain ⟨d1, d2⟩ := ClusL_eq hd
      rw [llen_eq] at a3 b2
      exact ⟨a1, by omega, d1, c2, a2, a3, d2, b1, b2, nodupB_eq _ h⟩
    · cases h
  · cases h

end Go.FL

namespace Go.Proofs.Ytmhakaeahefmbaa
open Go Go.FL Go.Proofs
variable [Go.FL.Fz]

/-- A call over objects: 'ns' are their names, 'xs' the objects, laid open or not. -/
theorem objs_of {f : FuncId} {args args₁ : List LV} {H : LH} {K K₁ : LV → LH → Prop} {ns : List Nat} {xs : List (Bool × Ob)} (hl : ns.length = xs.length)
    (hget : ∀ (i n : Nat) (x : Bool × Ob), ns[i]? = some n → xs[i]? = some x → H.bl[n]? = some (.obj x.2)) (hnd : ns.Nodup)
    (hargs : ∀ (s s₁ : Mp) (vs : List Value), (∀ (i n : Nat), ns[i]? = some n → hd s₁ (base xs i 0) = hd s n) → RelVs s args vs → RelVs s₁ args₁ vs)
    (hev : (∃ fn, Try.prog.funcs[f]? = some fn ∧ fn.body.isSome = true) ∧ CSpec Try.prog f args₁ ⟨cat xs 0, []⟩ K₁)
    (hK : ∀ v₁ H₁, K₁ v₁ H₁ → ∃ cs xs' ds ys v, chkAll xs cs ds = true ∧ ClusL H₁ cs xs' ∧ ClusL H₁ ds ys ∧
      (∀ (s₁ s' : Mp) (v' : Value), (∀ (i n : Nat), ns[i]? = some n → hd s' n = hd s₁ (base xs i 0)) → (∀ (j : Nat) (d : List Nat) (m : Nat), ds[j]? = some d → d[0]? = some m → hd s' (H.len + j) = hd s₁ m) → RelV s₁ v₁ v' → RelV s' v v') ∧
      K v (newObs (putObs H ns (xs'.map (·.2))) (ys.map (·.2)))) :
    (∃ fn, Try.prog.funcs[f]? = some fn ∧ fn.body.isSome = true) ∧ CSpec Try.prog f args H K := by
  obtain ⟨h1, h2⟩ := hev
  refine ⟨h1, CSpec.objs hl hget hnd hargs h2 ?_⟩
  intro v₁ H₁ hk
  obtain ⟨cs, xs', ds, ys, v, a, b, c, e, g⟩ := hK v₁ H₁ hk
  exact ⟨cs, xs', ds, ys, v, closeOK_of a b c, e, g⟩

/-- A call over objects: 'ns' are their names, 'xs' the objects, laid open or not. -/
theorem objs_ok {own : FuncId → Option Hd} (hown : OwnOK Try.prog own) {fuel d : Nat} {f : FuncId} {args args₁ : List LV} {H : LH} {K K₁ : LV → LH → Prop} {ns : List Nat} {xs : List (Bool × Ob)} (hl : ns.length = xs.length)
    (hget : ∀ (i n : Nat) (x : Bool × Ob), ns[i]? = some n → xs[i]? = some x → H.bl[n]? = some (.obj x.2)) (hnd : ns.Nodup)
    (hargs : ∀ (s s₁ : Mp) (vs : List Value), (∀ (i n : Nat), ns[i]? = some n → hd s₁ (base xs i 0) = hd s n) → RelVs s args vs → RelVs s₁ args₁ vs)
    (hev : evF Try.prog own fuel d f args₁ ⟨cat xs 0, []⟩ K₁)
    (hK : ∀ v₁ H₁, K₁ v₁ H₁ → ∃ cs xs' ds ys v, chkAll xs cs ds = true ∧ ClusL H₁ cs xs' ∧ ClusL H₁ ds ys ∧
      (∀ (s₁ s' : Mp) (v' : Value), (∀ (i n : Nat), ns[i]? = some n → hd s' n = hd s₁ (base xs i 0)) → (∀ (j : Nat) (d : List Nat) (m : Nat), ds[j]? = some d → d[0]? = some m → hd s' (H.len + j) = hd s₁ m) → RelV s₁ v₁ v' → RelV s' v v') ∧
      K v (newObs (putObs H ns (xs'.map (·.2))) (ys.map (·.2)))) :
    (∃ fn, Try.prog.funcs[f]? = some fn ∧ fn.body.isSome = true) ∧ CSpec Try.prog f args H K := objs_of hl hget hnd hargs (evF_ok fnOK mixed hown fuel d f args₁ _ K₁ hev) hK

theorem get_obj {H : LH} {n : Nat} {b : LB} (h : H.get n = some b) : H.bl[n]? = some b := by rw [← LH.get_eq]; exact h

/-- The arena as an argument. -/
abbrev envV (c : PCfg) (m : Nat) (who : Int) : LV := .agg [cI c.threads, cI c.slots, cI c.chunks, cI c.words, cI c.gens, cI c.sparse, cI c.tries, .ptr m 0, cI who]

theorem rel_env {s s₁ : Mp} {c : PCfg} {m m₁ : Nat} {who : Int} {v : Value} (h : hd s₁ m₁ = hd s m) (hr : RelV s (envV c m who) v) : RelV s₁ (envV c m₁ who) v := by
  obtain ⟨cs, rfl, hl⟩ := hr
  refine ⟨cs, rfl, ?_⟩
  generalize cs.toList = vs at hl ⊢
  match vs, hl with
  | [a, b, c, d, e, f, g, p, q], ⟨h1, h2, h3, h4, h5, h6, h7, ⟨r, h8, h9⟩, h10, _⟩ => exact ⟨h1, h2, h3, h4, h5, h6, h7, ⟨r, by rw [h]; exact h8, h9⟩, h10, trivial⟩

theorem rel_ptr {s s₁ : Mp} {m m₁ off : Nat} {v : Value} (h : hd s₁ m₁ = hd s m) (hr : RelV s (.c (.ptr m off)) v) : RelV s₁ (.c (.ptr m₁ off)) v := by
  obtain ⟨r, h1, h2⟩ := hr
  exact ⟨r, by rw [h]; exact h1, h2⟩

/-- One object, and the memory: a step. -/
theorem step_ok {own : FuncId → Option Hd} (hown : OwnOK Try.prog own) {fuel d : Nat} {f : FuncId} {R : Type} {mk : R → Ob} {sh : LH → Nat → (R → List Nat → Prop) → Prop}
    (hsh : ∀ H n k, sh H n k → ∃ x c, k x c ∧ Clus H c (true, mk x)) {H : LH} {K : LV → LH → Prop} {p m : Nat} {x : R} {pm : PMem} {c : PCfg} {who : Int} (hne : mk x ≠ .mem pm)
    (hp : H.get p = some (.obj (mk x))) (hm : H.get m = some (.obj (.mem pm)))
    (hev : evF Try.prog own fuel d f [.c (.ptr 0 0), envV c (llen (ex (mk x))) who] ⟨cat [(true, mk x), (false, .mem pm)] 0, []⟩ (fun v H₁ => match v with
      | .c (.bool r) => sh H₁ 0 fun x' c => shF H₁ (llen (ex (mk x))) fun o c2 => match o with
        | .mem pm' => match chkAll [(true, mk x), (false, .mem pm)] [c, c2] [] with
          | true => K (.c (.bool r)) ((H.put p (.obj (mk x'))).put m (.obj (.mem pm')))
          | false => False
        | _ => False
      | _ => False)) :
    (∃ fn, Try.prog.funcs[f]? = some fn ∧ fn.body.isSome = true) ∧ CSpec Try.prog f [.c (.ptr p 0), envV c m who] H K := by
  have hpm : p ≠ m := by
    rintro rfl
    rw [hp] at hm
    exact hne (by injection hm with hm; injection hm)
  refine objs_ok hown (ns := [p, m]) (xs := [(true, mk x), (false, .mem pm)]) rfl ?_ (by simpa using hpm) ?_ hev ?_
  · intro i n x' hi hx
    match i, hi, hx with
    | 0, hi, hx => simp at hi hx; subst hi; subst hx; exact get_obj hp
    | 1, hi, hx => simp at hi hx; subst hi; subst hx; exact get_obj hm
    | i + 2, hi, hx => simp at hi
  · intro s s₁ vs hh hr
    match vs, hr with
    | [u, v], ⟨h1, h2, _⟩ =>
      have e0 := hh 0 p rfl
      have e1 := hh 1 m rfl
      simp only [base, Nat.zero_add] at e0 e1
      refine ⟨rel_ptr e0 h1, rel_env ?_ h2, trivial⟩
      rw [llen_eq]
      exact e1
    | [], h => exact h.elim
    | [_], h => exact h.2.elim
    | _ :: _ :: _ :: _, h => exact h.2.2.elim
  · intro v₁ H₁ hk
    split at hk
    · rename_i r
      obtain ⟨x', c1, hk, hc1⟩ := hsh _ _ _ hk
      obtain ⟨o, c2, hk, hc2⟩ := shF_ok hk
      split at hk
      · rename_i pm'
        split at hk
        · rename_i hchk
          exact ⟨[c1, c2], [(true, mk x'), (false, .mem pm')], [], [], .c (.bool r), hchk, ⟨hc1, hc2, trivial⟩, trivial, fun _ _ _ _ _ h => h, hk⟩
        · exact hk.elim
      · exact hk.elim
    · exact hk.elim

end Go.Proofs.Ytmhakaeahefmbaa

/-
  The contracts of the memory's operations.
-/
set_option linter.unusedVariables false
set_option linter.unusedSimpArgs false
set_option maxRecDepth 100000
set_option linter.unusedSectionVars false
namespace Go.Proofs.Ytmhakaeahefmbaa
open Go Go.FL Go.Proofs
variable [Go.FL.Fz]

theorem rel_args1 {s s₁ : Mp} {x y : LV} {r : List LV} {vs : List Value} (hx : ∀ {v}, RelV s x v → RelV s₁ y v) (h : RelVs s (x :: r) vs) (hr : lowVs r = true := by rfl) : RelVs s₁ (y :: r) vs := by
  match vs, h with
  | v :: vs, h => exact ⟨hx h.1, RelVs.low hr h.2⟩
  | [], h => exact h.elim

theorem get_one {H : LH} {m : Nat} {pm : PMem} (hm : H.get m = some (.obj (.mem pm))) : ∀ (i n : Nat) (x : Bool × Ob), [m][i]? = some n → [(true, Ob.mem pm)][i]? = some x → H.bl[n]? = some (.obj x.2) := by
  intro i n x hi hx
  match i, hi, hx with
  | 0, hi, hx => simp at hi hx; subst hi; subst hx; exact get_obj hm
  | i + 1, hi, hx => simp at hi

theorem eLoad_ev (c : PCfg) (m : PMem) (who a b d : Int) (K : Int → PMem → Prop) : evF Try.prog own0 10 20 37 [(envV c 0 who), .c (.int .i64 a)] ⟨cat [(true, .mem m)] 0, []⟩ (fun v H => match v with | .c (.int .u64 x) => (shMem H 0 fun m' c' => match chkAll [(true, .mem m)] [c'] [] with | true => K x m' | false => False) | _ => False) = eLoadT m who a b d False K := by kernel_rfl

def h_eLoad : Hd := fun args H K => match args with
  | [.agg [.int .i64 c1, .int .i64 c2, .int .i64 c3, .int .i64 c4, .int .i64 c5, .int .i64 c6, .int .i64 c7, .ptr m 0, .int .i64 who], .c (.int .i64 a)] => match H.get m with
    | some (.obj (.mem pm)) => K (.c (.int .u64 (pm.eLoad who a).1)) (H.put m (.obj (.mem (pm.eLoad who a).2)))
    | _ => False
  | _ => False

theorem h_eLoad_ok : HOK 37 h_eLoad := by
  intro args H K h
  unfold h_eLoad at h
  split at h
  · rename_i c1 c2 c3 c4 c5 c6 c7 m who a
    split at h
    · rename_i pm hm
      have e := (eLoad_ev ⟨c1, c2, c3, c4, c5, c6, c7⟩ pm who a 0 0 (fun x m' => K (.c (.int .u64 x)) (H.put m (.obj (.mem m'))))).mpr (eLoadT_of pm who a 0 0 h)
      refine objs_ok own0_ok (ns := [m]) (xs := [(true, .mem pm)]) rfl (get_one hm) (by simp) ?_ e ?_
      · intro s s₁ vs hh hr
        have e0 := hh 0 m rfl
        simp only [base] at e0
        exact rel_args1 (rel_env (c := ⟨c1, c2, c3, c4, c5, c6, c7⟩) e0) hr
      · intro v₁ H₁ hk
        split at hk
        · obtain ⟨m', c', hk, hc⟩ := shMem_ok hk
          split at hk
          · rename_i hchk
            exact ⟨[c'], [(true, .mem m')], [], [], _, hchk, ⟨hc, trivial⟩, trivial, fun _ _ _ _ _ h => RelV.low rfl h, hk⟩
          · exact hk.elim
        · exact hk.elim
    · exact h.elim
  · exact h.elim

theorem eStore_ev (c : PCfg) (m : PMem) (who a b d : Int) (K : PMem → Prop) : evF Try.prog own0 10 20 39 [(envV c 0 who), .c (.int .i64 a), .c (.int .u64 b)] ⟨cat [(true, .mem m)] 0, []⟩ (fun v H => match v with | .tup [] => (shMem H 0 fun m' c' => match chkAll [(true, .mem m)] [c'] [] with | true => K  m' | false => False) | _ => False) = eStoreT m who a b d False K := by kernel_rfl

def h_eStore : Hd := fun args H K => match args with
  | [.agg [.int .i64 c1, .int .i64 c2, .int .i64 c3, .int .i64 c4, .int .i64 c5, .int .i64 c6, .int .i64 c7, .ptr m 0, .int .i64 who], .c (.int .i64 a), .c (.int .u64 b)] => match H.get m with
    | some (.obj (.mem pm)) => K (.tup []) (H.put m (.obj (.mem (pm.eStore who a b))))
    | _ => False
  | _ => False

theorem h_eStore_ok : HOK 39 h_eStore := by
  intro args H K h
  unfold h_eStore at h
  split at h
  · rename_i c1 c2 c3 c4 c5 c6 c7 m who a b
    split at h
    · rename_i pm hm
      have e := (eStore_ev ⟨c1, c2, c3, c4, c5, c6, c7⟩ pm who a b 0 (fun  m' => K (.tup []) (H.put m (.obj (.mem m'))))).mpr (eStoreT_of pm who a b 0 h)
      refine objs_ok own0_ok (ns := [m]) (xs := [(true, .mem pm)]) rfl (get_one hm) (by simp) ?_ e ?_
      · intro s s₁ vs hh hr
        have e0 := hh 0 m rfl
        simp only [base] at e0
        exact rel_args1 (rel_env (c := ⟨c1, c2, c3, c4, c5, c6, c7⟩) e0) hr
      · intro v₁ H₁ hk
        split at hk
        · obtain ⟨m', c', hk, hc⟩ := shMem_ok hk
          split at hk
          · rename_i hchk
            exact ⟨[c'], [(true, .mem m')], [], [], _, hchk, ⟨hc, trivial⟩, trivial, fun _ _ _ _ _ h => RelV.low rfl h, hk⟩
          · exact hk.elim
        · exact hk.elim
    · exact h.elim
  · exact h.elim

theorem eCas_ev (c : PCfg) (m : PMem) (who a b d : Int) (K : Bool → PMem → Prop) : evF Try.prog own0 10 20 79 [(envV c 0 who), .c (.int .i64 a), .c (.int .u64 b), .c (.int .u64 d)] ⟨cat [(true, .mem m)] 0, []⟩ (fun v H => match v with | .c (.bool x) => (shMem H 0 fun m' c' => match chkAll [(true, .mem m)] [c'] [] with | true => K x m' | false => False) | _ => False) = eCasT m who a b d False K := by kernel_rfl

def h_eCas : Hd := fun args H K => match args with
  | [.agg [.int .i64 c1, .int .i64 c2, .int .i64 c3, .int .i64 c4, .int .i64 c5, .int .i64 c6, .int .i64 c7, .ptr m 0, .int .i64 who], .c (.int .i64 a), .c (.int .u64 b), .c (.int .u64 d)] => match H.get m with
    | some (.obj (.mem pm)) => K (.c (.bool (pm.eCas who a b d).1)) (H.put m (.obj (.mem (pm.eCas who a b d).2)))
    | _ => False
  | _ => False

theorem h_eCas_ok : HOK 79 h_eCas := by
  intro args H K h
  unfold h_eCas at h
  split at h
  · rename_i c1 c2 c3 c4 c5 c6 c7 m who a b d
    split at h
    · rename_i pm hm
      have e := (eCas_ev ⟨c1, c2, c3, c4, c5, c6, c7⟩ pm who a b d (fun x m' => K (.c (.bool x)) (H.put m (.obj (.mem m'))))).mpr (eCasT_of pm who a b d h)
      refine objs_ok own0_ok (ns := [m]) (xs := [(true, .mem pm)]) rfl (get_one hm) (by simp) ?_ e ?_
      · intro s s₁ vs hh hr
        have e0 := hh 0 m rfl
        simp only [base] at e0
        exact rel_args1 (rel_env (c := ⟨c1, c2, c3, c4, c5, c6, c7⟩) e0) hr
      · intro v₁ H₁ hk
        split at hk
        · obtain ⟨m', c', hk, hc⟩ := shMem_ok hk
          split at hk
          · rename_i hchk
            exact ⟨[c'], [(true, .mem m')], [], [], _, hchk, ⟨hc, trivial⟩, trivial, fun _ _ _ _ _ h => RelV.low rfl h, hk⟩
          · exact hk.elim
        · exact hk.elim
    · exact h.elim
  · exact h.elim

theorem eAdd_ev (c : PCfg) (m : PMem) (who a b d : Int) (K : PMem → Prop) : evF Try.prog own0 10 20 72 [(envV c 0 who), .c (.int .i64 a), .c (.int .i64 b)] ⟨cat [(true, .mem m)] 0, []⟩ (fun v H => match v with | .tup [] => (shMem H 0 fun m' c' => match chkAll [(true, .mem m)] [c'] [] with | true => K  m' | false => False) | _ => False) = eAddT m who a b d False K := by kernel_rfl

def h_eAdd : Hd := fun args H K => match args with
  | [.agg [.int .i64 c1, .int .i64 c2, .int .i64 c3, .int .i64 c4, .int .i64 c5, .int .i64 c6, .int .i64 c7, .ptr m 0, .int .i64 who], .c (.int .i64 a), .c (.int .i64 b)] => match H.get m with
    | some (.obj (.mem pm)) => K (.tup []) (H.put m (.obj (.mem (pm.eAdd who a b))))
    | _ => False
  | _ => False

theorem h_eAdd_ok : HOK 72 h_eAdd := by
  intro args H K h
  unfold h_eAdd at h
  split at h
  · rename_i c1 c2 c3 c4 c5 c6 c7 m who a b
    split at h
    · rename_i pm hm
      have e := (eAdd_ev ⟨c1, c2, c3, c4, c5, c6, c7⟩ pm who a b 0 (fun  m' => K (.tup []) (H.put m (.obj (.mem m'))))).mpr (eAddT_of pm who a b 0 h)
      refine objs_ok own0_ok (ns := [m]) (xs := [(true, .mem pm)]) rfl (get_one hm) (by simp) ?_ e ?_
      · intro s s₁ vs hh hr
        have e0 := hh 0 m rfl
        simp only [base] at e0
        exact rel_args1 (rel_env (c := ⟨c1, c2, c3, c4, c5, c6, c7⟩) e0) hr
      · intro v₁ H₁ hk
        split at hk
        · obtain ⟨m', c', hk, hc⟩ := shMem_ok hk
          split at hk
          · rename_i hchk
            exact ⟨[c'], [(true, .mem m')], [], [], _, hchk, ⟨hc, trivial⟩, trivial, fun _ _ _ _ _ h => RelV.low rfl h, hk⟩
          · exact hk.elim
        · exact hk.elim
    · exact h.elim
  · exact h.elim

theorem eNow_ev (c : PCfg) (m : PMem) (who a b d : Int) (K : Int → PMem → Prop) : evF Try.prog own0 10 20 17 [(envV c 0 who)] ⟨cat [(true, .mem m)] 0, []⟩ (fun v H => match v with | .c (.int .i64 x) => (shMem H 0 fun m' c' => match chkAll [(true, .mem m)] [c'] [] with | true => K x m' | false => False) | _ => False) = eNowT m who a b d False K := by kernel_rfl

def h_eNow : Hd := fun args H K => match args with
  | [.agg [.int .i64 c1, .int .i64 c2, .int .i64 c3, .int .i64 c4, .int .i64 c5, .int .i64 c6, .int .i64 c7, .ptr m 0, .int .i64 who]] => match H.get m with
    | some (.obj (.mem pm)) => K (.c (.int .i64 pm.steps)) (H.put m (.obj (.mem pm)))
    | _ => False
  | _ => False

theorem h_eNow_ok : HOK 17 h_eNow := by
  intro args H K h
  unfold h_eNow at h
  split at h
  · rename_i c1 c2 c3 c4 c5 c6 c7 m who
    split at h
    · rename_i pm hm
      have e := (eNow_ev ⟨c1, c2, c3, c4, c5, c6, c7⟩ pm who 0 0 0 (fun x m' => K (.c (.int .i64 x)) (H.put m (.obj (.mem m'))))).mpr (eNowT_of pm who 0 0 0 h)
      refine objs_ok own0_ok (ns := [m]) (xs := [(true, .mem pm)]) rfl (get_one hm) (by simp) ?_ e ?_
      · intro s s₁ vs hh hr
        have e0 := hh 0 m rfl
        simp only [base] at e0
        exact rel_args1 (rel_env (c := ⟨c1, c2, c3, c4, c5, c6, c7⟩) e0) hr
      · intro v₁ H₁ hk
        split at hk
        · obtain ⟨m', c', hk, hc⟩ := shMem_ok hk
          split at hk
          · rename_i hchk
            exact ⟨[c'], [(true, .mem m')], [], [], _, hchk, ⟨hc, trivial⟩, trivial, fun _ _ _ _ _ h => RelV.low rfl h, hk⟩
          · exact hk.elim
        · exact hk.elim
    · exact h.elim
  · exact h.elim

theorem mPeek_ev (c : PCfg) (m : PMem) (who a b d : Int) (K : Int → PMem → Prop) : evF Try.prog own0 10 20 15 [.c (.ptr 0 0), .c (.int .i64 a)] ⟨cat [(true, .mem m)] 0, []⟩ (fun v H => match v with | .c (.int .u64 x) => (shMem H 0 fun m' c' => match chkAll [(true, .mem m)] [c'] [] with | true => K x m' | false => False) | _ => False) = mPeekT m who a b d False K := by kernel_rfl

def h_mPeek : Hd := fun args H K => match args with
  | [.c (.ptr m 0), .c (.int .i64 a)] => match H.get m with
    | some (.obj (.mem pm)) => K (.c (.int .u64 (pm.peek a))) (H.put m (.obj (.mem pm)))
    | _ => False
  | _ => False

theorem h_mPeek_ok : HOK 15 h_mPeek := by
  intro args H K h
  unfold h_mPeek at h
  split at h
  · rename_i m a
    split at h
    · rename_i pm hm
      have e := (mPeek_ev ⟨0, 0, 0, 0, 0, 0, 0⟩ pm 0 a 0 0 (fun x m' => K (.c (.int .u64 x)) (H.put m (.obj (.mem m'))))).mpr (mPeekT_of pm 0 a 0 0 h)
      refine objs_ok own0_ok (ns := [m]) (xs := [(true, .mem pm)]) rfl (get_one hm) (by simp) ?_ e ?_
      · intro s s₁ vs hh hr
        have e0 := hh 0 m rfl
        simp only [base] at e0
        exact rel_args1 (rel_ptr e0) hr
      · intro v₁ H₁ hk
        split at hk
        · obtain ⟨m', c', hk, hc⟩ := shMem_ok hk
          split at hk
          · rename_i hchk
            exact ⟨[c'], [(true, .mem m')], [], [], _, hchk, ⟨hc, trivial⟩, trivial, fun _ _ _ _ _ h => RelV.low rfl h, hk⟩
          · exact hk.elim
        · exact hk.elim
    · exact h.elim
  · exact h.elim

theorem mWhen_ev (c : PCfg) (m : PMem) (who a b d : Int) (K : Int → PMem → Prop) : evF Try.prog own0 10 20 96 [.c (.ptr 0 0), .c (.int .i64 a)] ⟨cat [(true, .mem m)] 0, []⟩ (fun v H => match v with | .c (.int .i64 x) => (shMem H 0 fun m' c' => match chkAll [(true, .mem m)] [c'] [] with | true => K x m' | false => False) | _ => False) = mWhenT m who a b d False K := by kernel_rfl

def h_mWhen : Hd := fun args H K => match args with
  | [.c (.ptr m 0), .c (.int .i64 a)] => match H.get m with
    | some (.obj (.mem pm)) => K (.c (.int .i64 (pm.when_ a))) (H.put m (.obj (.mem pm)))
    | _ => False
  | _ => False

theorem h_mWhen_ok : HOK 96 h_mWhen := by
  intro args H K h
  unfold h_mWhen at h
  split at h
  · rename_i m a
    split at h
    · rename_i pm hm
      have e := (mWhen_ev ⟨0, 0, 0, 0, 0, 0, 0⟩ pm 0 a 0 0 (fun x m' => K (.c (.int .i64 x)) (H.put m (.obj (.mem m'))))).mpr (mWhenT_of pm 0 a 0 0 h)
      refine objs_ok own0_ok (ns := [m]) (xs := [(true, .mem pm)]) rfl (get_one hm) (by simp) ?_ e ?_
      · intro s s₁ vs hh hr
        have e0 := hh 0 m rfl
        simp only [base] at e0
        exact rel_args1 (rel_ptr e0) hr
      · intro v₁ H₁ hk
        split at hk
        · obtain ⟨m', c', hk, hc⟩ := shMem_ok hk
          split at hk
          · rename_i hchk
            exact ⟨[c'], [(true, .mem m')], [], [], _, hchk, ⟨hc, trivial⟩, trivial, fun _ _ _ _ _ h => RelV.low rfl h, hk⟩
          · exact hk.elim
        · exact hk.elim
    · exact h.elim
  · exact h.elim

end Go.Proofs.Ytmhakaeahefmbaa

/-
  The table of contracts; frames for what makes an object and for what asks one.
-/
set_option linter.unusedVariables false
set_option linter.unusedSimpArgs false
set_option maxRecDepth 100000
set_option linter.unusedSectionVars false
namespace Go.Proofs.Ytmhakaeahefmbaa
open Go Go.FL Go.Proofs
variable [Go.FL.Fz]

def look : List (FuncId × Hd) → FuncId → Option Hd
  | [], _ => none
  | (g, h) :: r, f => match Nat.beq g f with
    | true => some h
    | false => look r f

def AllOK : List (FuncId × Hd) → Prop
  | [] => True
  | (g, h) :: r => HOK g h ∧ AllOK r

theorem look_ok : ∀ {l : List (FuncId × Hd)}, AllOK l → OwnOK Try.prog (look l)
  | [], _, f, h, hf => by simp [look] at hf
  | (g, h) :: r, hl, f, h', hf => by
    simp only [look] at hf
    split at hf
    · rename_i hb
      have := Nat.eq_of_beq_eq_true hb
      subst this
      cases hf
      exact hl.1
    · exact look_ok hl.2 f h' hf

def tab1 : List (FuncId × Hd) := [(37, h_eLoad), (39, h_eStore), (79, h_eCas), (72, h_eAdd), (17, h_eNow),
  (15, h_mPeek), (96, h_mWhen), (43, h_fit), (75, h_putHandle), (98, h_handle), (31, h_putSlot), (67, h_slotOf),
  (85, h_putChunk), (81, h_chunkOf), (77, h_putHead), (91, h_headOf), (101, h_putCell), (100, h_cellOf), (32, h_putTop), (78, h_topOf),
  (30, h_lSlot), (73, h_lChunk), (40, h_lBase), (28, h_lLen), (97, h_lOf), (13, h_lClass), (74, h_lRoom), (99, h_live)]

def own1 : FuncId → Option Hd := look tab1

theorem all1 : AllOK tab1 := ⟨h_eLoad_ok, h_eStore_ok, h_eCas_ok, h_eAdd_ok, h_eNow_ok, h_mPeek_ok, h_mWhen_ok, h_fit_ok, h_putHandle_ok, h_handle_ok, h_putSlot_ok, h_slotOf_ok,
  h_putChunk_ok, h_chunkOf_ok, h_putHead_ok, h_headOf_ok, h_putCell_ok, h_cellOf_ok, h_putTop_ok, h_topOf_ok, h_lSlot_ok, h_lChunk_ok, h_lBase_ok, h_lLen_ok, h_lOf_ok, h_lClass_ok, h_lRoom_ok, h_live_ok, trivial⟩

theorem own1_ok : OwnOK Try.prog own1 := look_ok all1

/-- A new object. -/
theorem new_ok {own : FuncId → Option Hd} (hown : OwnOK Try.prog own) {fuel d : Nat} {f : FuncId} {R : Type} {mk : R → Ob} {sh : LH → Nat → (R → List Nat → Prop) → Prop}
    (hsh : ∀ H n k, sh H n k → ∃ x c, k x c ∧ Clus H c (true, mk x)) {args : List LV} {H : LH} {K : LV → LH → Prop} (hlow : lowVs args = true)
    (hev : evF Try.prog own fuel d f args ⟨[], []⟩ (fun v H₁ => match v with
      | .c (.ptr i 0) => (sh H₁ i fun x c => match chkAll [] [] [c] && headOK i c with
        | true => K (.c (.ptr H.len 0)) (H.new (.obj (mk x)))
        | false => False)
      | _ => False)) :
    (∃ fn, Try.prog.funcs[f]? = some fn ∧ fn.body.isSome = true) ∧ CSpec Try.prog f args H K := by
  refine objs_ok hown (ns := []) (xs := []) rfl (by simp) List.nodup_nil (fun s s₁ vs _ h => RelVs.low hlow h) hev ?_
  intro v₁ H₁ hk
  split at hk
  · rename_i i
    obtain ⟨x, c, hk, hc⟩ := hsh _ _ _ hk
    split at hk
    · rename_i hchk
      simp only [Bool.and_eq_true] at hchk
      refine ⟨[], [], [c], [(true, mk x)], _, hchk.1, trivial, ⟨hc, trivial⟩, ?_, hk⟩
      intro s₁ s' v' _ hd' hr
      have hi : c[0]? = some i := by
        have := hchk.2
        unfold headOK at this
        split at this
        · have := Nat.eq_of_beq_eq_true this; simp [this]
        · cases this
      have := hd' 0 c i rfl hi
      obtain ⟨r, h1, h2⟩ := hr
      rw [Nat.add_zero] at this
      exact ⟨r, by rw [this]; exact h1, h2⟩
    · exact hk.elim
  · exact hk.elim

/-- One object, asked: a plain value. -/
theorem ask_ok {own : FuncId → Option Hd} (hown : OwnOK Try.prog own) {fuel d : Nat} {f : FuncId} {R : Type} {mk : R → Ob} {sh : LH → Nat → (R → List Nat → Prop) → Prop}
    (hsh : ∀ H n k, sh H n k → ∃ x c, k x c ∧ Clus H c (true, mk x)) {H : LH} {K : LV → LH → Prop} {p : Nat} {x : R} {rest : List LV} (hlow : lowVs rest = true)
    (hp : H.get p = some (.obj (mk x)))
    (hev : evF Try.prog own fuel d f (.c (.ptr 0 0) :: rest) ⟨cat [(true, mk x)] 0, []⟩ (fun v H₁ => match lowV v with
      | true => (sh H₁ 0 fun x' c => match chkAll [(true, mk x)] [c] [] with
          | true => K v (H.put p (.obj (mk x')))
          | false => False)
      | false => False)) :
    (∃ fn, Try.prog.funcs[f]? = some fn ∧ fn.body.isSome = true) ∧ CSpec Try.prog f (.c (.ptr p 0) :: rest) H K := by
  refine objs_ok hown (ns := [p]) (xs := [(true, mk x)]) rfl ?_ (by simp) ?_ hev ?_
  · intro i n x' hi hx
    match i, hi, hx with
    | 0, hi, hx => simp at hi hx; subst hi; subst hx; exact get_obj hp
    | i + 1, hi, hx => simp at hi
  · intro s s₁ vs hh hr
    have e0 := hh 0 p rfl
    simp only [base] at e0
    exact rel_args1 (rel_ptr e0) hr hlow
  · intro v₁ H₁ hk
    split at hk
    · rename_i hv
      obtain ⟨x', c, hk, hc⟩ := hsh _ _ _ hk
      split at hk
      · rename_i hchk
        exact ⟨[c], [(true, mk x')], [], [], v₁, hchk, ⟨hc, trivial⟩, trivial, fun _ _ _ _ _ h => RelV.low hv h, hk⟩
      · exact hk.elim
    · exact hk.elim

/-- A step of nobody. -/
def orNil (h : Hd) : Hd := fun args H K => match args with
  | [.c .nilp, .agg [.int .i64 c1, .int .i64 c2, .int .i64 c3, .int .i64 c4, .int .i64 c5, .int .i64 c6, .int .i64 c7, .ptr m 0, .int .i64 who]] => match H.get m with
    | some (.obj (.mem pm)) => K (.c (.bool false)) (H.put m (.obj (.mem pm)))
    | _ => False
  | _ => h args H K

theorem orNil_ok {own : FuncId → Option Hd} (hown : OwnOK Try.prog own) {fuel d : Nat} {f : FuncId} {h : Hd} (hh : HOK f h)
    (hn : ∀ (c : PCfg) (who : Int) (pm : PMem) (K : Bool → PMem → Prop), K false pm → evF Try.prog own fuel d f [.c .nilp, envV c 0 who] ⟨cat [(false, .mem pm)] 0, []⟩ (fun v H₁ => match v with
      | .c (.bool r) => shF H₁ 0 fun o c2 => match o with
        | .mem pm' => match chkAll [(false, .mem pm)] [c2] [] with
          | true => K r pm'
          | false => False
        | _ => False
      | _ => False)) : HOK f (orNil h) := by
  intro args H K hk
  unfold orNil at hk
  split at hk
  · rename_i c1 c2 c3 c4 c5 c6 c7 m who
    split at hk
    · rename_i pm hm
      have e := hn ⟨c1, c2, c3, c4, c5, c6, c7⟩ who pm (fun r pm' => K (.c (.bool r)) (H.put m (.obj (.mem pm')))) hk
      refine objs_ok hown (ns := [m]) (xs := [(false, .mem pm)]) rfl ?_ (by simp) ?_ e ?_
      · intro i n x' hi hx
        match i, hi, hx with
        | 0, hi, hx => simp at hi hx; subst hi; subst hx; exact get_obj hm
        | i + 1, hi, hx => simp at hi
      · intro s s₁ vs hh hr
        match vs, hr with
        | [u, v], ⟨h1, h2, _⟩ =>
          have e0 := hh 0 m rfl
          simp only [base, Nat.zero_add] at e0
          exact ⟨h1, rel_env (c := ⟨c1, c2, c3, c4, c5, c6, c7⟩) e0 h2, trivial⟩
        | [], h => exact h.elim
        | [_], h => exact h.2.elim
        | _ :: _ :: _ :: _, h => exact h.2.2.elim
      · intro v₁ H₁ hk
        split at hk
        · rename_i r
          obtain ⟨o, c2, hk, hc2⟩ := shF_ok hk
          split at hk
          · rename_i pm'
            split at hk
            · rename_i hchk
              exact ⟨[c2], [(false, .mem pm')], [], [], .c (.bool r), hchk, ⟨hc2, trivial⟩, trivial, fun _ _ _ _ _ h => h, hk⟩
            · exact hk.elim
          · exact hk.elim
        · exact hk.elim
    · exact hk.elim
  · exact hh args H K hk

end Go.Proofs.Ytmhakaeahefmbaa

/-
  The contracts of steps.
-/
set_option linter.unusedVariables false
set_option linter.unusedSimpArgs false
set_option maxRecDepth 100000
set_option linter.unusedSectionVars false
namespace Go.Proofs.Ytmhakaeahefmbaa
open Go Go.FL Go.Proofs
variable [Go.FL.Fz]

theorem giveStep_ev (c : PCfg) (who : Int) (x : PGive) (m : PMem) (K : Bool → PGive → PMem → Prop) : evF Try.prog own1 10 20 76 [.c (.ptr 0 0), envV c 1 who] ⟨cat [(true, .give x), (false, .mem m)] 0, []⟩ (fun v H₁ => match v with | .c (.bool r) => (shGive H₁ 0 fun x' c' => shF H₁ 1 fun o c2 => match o with | .mem m' => (match chkAll [(true, .give x), (false, .mem m)] [c', c2] [] with | true => K r x' m' | false => False) | _ => False) | _ => False) = giveStepK False twP c who x m K := by kernel_rfl

def h_giveStep0 : Hd := fun args H K => match args with
  | [.c (.ptr p0 0), .agg [.int .i64 c1, .int .i64 c2, .int .i64 c3, .int .i64 c4, .int .i64 c5, .int .i64 c6, .int .i64 c7, .ptr m 0, .int .i64 who]] => match H.get p0, H.get m with
    | some (.obj (.give x)), some (.obj (.mem pm)) => K (.c (.bool (giveStep ⟨c1, c2, c3, c4, c5, c6, c7⟩ who x pm).1)) ((H.put p0 (.obj (.give (giveStep ⟨c1, c2, c3, c4, c5, c6, c7⟩ who x pm).2.1))).put m (.obj (.mem (giveStep ⟨c1, c2, c3, c4, c5, c6, c7⟩ who x pm).2.2)))
    | _, _ => False
  | _ => False

theorem h_giveStep0_ok : HOK 76 h_giveStep0 := by
  intro args H K h
  unfold h_giveStep0 at h
  split at h
  · rename_i p0 c1 c2 c3 c4 c5 c6 c7 m who
    split at h
    · rename_i x pm hp hm
      have e := (giveStep_ev ⟨c1, c2, c3, c4, c5, c6, c7⟩ who x pm (fun r x' m' => K (.c (.bool r)) ((H.put p0 (.obj (.give x'))).put m (.obj (.mem m'))))).mpr (by rw [giveStepK_eq]; exact h)
      exact step_ok own1_ok (c := ⟨c1, c2, c3, c4, c5, c6, c7⟩) (mk := .give) (fun _ _ _ => shGive_ok) (by intro hh; cases hh) hp hm e
    · exact h.elim
  · exact h.elim

def h_giveStep : Hd := orNil h_giveStep0

theorem h_giveStep_ok : HOK 76 h_giveStep := orNil_ok own1_ok h_giveStep0_ok (fuel := 10) (d := 20) (fun c who pm K h => cast (by kernel_rfl) h)

theorem placeStep_ev (c : PCfg) (who : Int) (x : PPlace) (m : PMem) (K : Bool → PPlace → PMem → Prop) : evF Try.prog own1 10 20 69 [.c (.ptr 0 0), envV c 1 who] ⟨cat [(true, .place x), (false, .mem m)] 0, []⟩ (fun v H₁ => match v with | .c (.bool r) => (shPlace H₁ 0 fun x' c' => shF H₁ 1 fun o c2 => match o with | .mem m' => (match chkAll [(true, .place x), (false, .mem m)] [c', c2] [] with | true => K r x' m' | false => False) | _ => False) | _ => False) = placeStepK False twP c who x m K := by kernel_rfl

def h_placeStep0 : Hd := fun args H K => match args with
  | [.c (.ptr p0 0), .agg [.int .i64 c1, .int .i64 c2, .int .i64 c3, .int .i64 c4, .int .i64 c5, .int .i64 c6, .int .i64 c7, .ptr m 0, .int .i64 who]] => match H.get p0, H.get m with
    | some (.obj (.place x)), some (.obj (.mem pm)) => K (.c (.bool (placeStep ⟨c1, c2, c3, c4, c5, c6, c7⟩ who x pm).1)) ((H.put p0 (.obj (.place (placeStep ⟨c1, c2, c3, c4, c5, c6, c7⟩ who x pm).2.1))).put m (.obj (.mem (placeStep ⟨c1, c2, c3, c4, c5, c6, c7⟩ who x pm).2.2)))
    | _, _ => False
  | _ => False

theorem h_placeStep0_ok : HOK 69 h_placeStep0 := by
  intro args H K h
  unfold h_placeStep0 at h
  split at h
  · rename_i p0 c1 c2 c3 c4 c5 c6 c7 m who
    split at h
    · rename_i x pm hp hm
      have e := (placeStep_ev ⟨c1, c2, c3, c4, c5, c6, c7⟩ who x pm (fun r x' m' => K (.c (.bool r)) ((H.put p0 (.obj (.place x'))).put m (.obj (.mem m'))))).mpr (by rw [placeStepK_eq]; exact h)
      exact step_ok own1_ok (c := ⟨c1, c2, c3, c4, c5, c6, c7⟩) (mk := .place) (fun _ _ _ => shPlace_ok) (by intro hh; cases hh) hp hm e
    · exact h.elim
  · exact h.elim

def h_placeStep : Hd := orNil h_placeStep0

theorem h_placeStep_ok : HOK 69 h_placeStep := orNil_ok own1_ok h_placeStep0_ok (fuel := 10) (d := 20) (fun c who pm K h => cast (by kernel_rfl) h)

theorem helpStep_ev (c : PCfg) (who : Int) (x : PHelp) (m : PMem) (K : Bool → PHelp → PMem → Prop) : evF Try.prog own1 10 20 95 [.c (.ptr 0 0), envV c 1 who] ⟨cat [(true, .help x), (false, .mem m)] 0, []⟩ (fun v H₁ => match v with | .c (.bool r) => (shHelp H₁ 0 fun x' c' => shF H₁ 1 fun o c2 => match o with | .mem m' => (match chkAll [(true, .help x), (false, .mem m)] [c', c2] [] with | true => K r x' m' | false => False) | _ => False) | _ => False) = helpStepK False twP c who x m K := by kernel_rfl

def h_helpStep0 : Hd := fun args H K => match args with
  | [.c (.ptr p0 0), .agg [.int .i64 c1, .int .i64 c2, .int .i64 c3, .int .i64 c4, .int .i64 c5, .int .i64 c6, .int .i64 c7, .ptr m 0, .int .i64 who]] => match H.get p0, H.get m with
    | some (.obj (.help x)), some (.obj (.mem pm)) => K (.c (.bool (helpStep ⟨c1, c2, c3, c4, c5, c6, c7⟩ who x pm).1)) ((H.put p0 (.obj (.help (helpStep ⟨c1, c2, c3, c4, c5, c6, c7⟩ who x pm).2.1))).put m (.obj (.mem (helpStep ⟨c1, c2, c3, c4, c5, c6, c7⟩ who x pm).2.2)))
    | _, _ => False
  | _ => False

theorem h_helpStep0_ok : HOK 95 h_helpStep0 := by
  intro args H K h
  unfold h_helpStep0 at h
  split at h
  · rename_i p0 c1 c2 c3 c4 c5 c6 c7 m who
    split at h
    · rename_i x pm hp hm
      have e := (helpStep_ev ⟨c1, c2, c3, c4, c5, c6, c7⟩ who x pm (fun r x' m' => K (.c (.bool r)) ((H.put p0 (.obj (.help x'))).put m (.obj (.mem m'))))).mpr (by rw [helpStepK_eq]; exact h)
      exact step_ok own1_ok (c := ⟨c1, c2, c3, c4, c5, c6, c7⟩) (mk := .help) (fun _ _ _ => shHelp_ok) (by intro hh; cases hh) hp hm e
    · exact h.elim
  · exact h.elim

def h_helpStep : Hd := orNil h_helpStep0

theorem h_helpStep_ok : HOK 95 h_helpStep := orNil_ok own1_ok h_helpStep0_ok (fuel := 10) (d := 20) (fun c who pm K h => cast (by kernel_rfl) h)

def h_placeSpot : Hd := fun args H K => match args with
  | [.c (.ptr p0 0)] => match H.get p0 with
    | some (.obj (.place x)) => K (.tup [.agg [cI (bif x.ok then x.sa else 0), cI (bif x.ok then x.sc else 0)], .c (.bool x.ok)]) (H.put p0 (.obj (.place x)))
    | _ => False
  | _ => False

theorem h_placeSpot_ok : HOK 70 h_placeSpot := by
  intro args H K h
  unfold h_placeSpot at h
  split at h
  · rename_i p0
    split at h
    · rename_i x hp
      obtain ⟨cls, pc, opn, at_, w, sa, sc, ok⟩ := x
      cases ok with
      | true =>
        have e : evF Try.prog own1 10 20 70 [.c (.ptr 0 0)] ⟨cat [(true, .place ⟨cls, pc, opn, at_, w, sa, sc, true⟩)] 0, []⟩ (fun v H₁ => match lowV v with
            | true => (shPlace H₁ 0 fun x' c => match chkAll [(true, .place ⟨cls, pc, opn, at_, w, sa, sc, true⟩)] [c] [] with
                | true => K v (H.put p0 (.obj (.place x')))
                | false => False)
            | false => False) := cast (by kernel_rfl) h
        exact ask_ok own1_ok (mk := .place) (fun _ _ _ => shPlace_ok) (rest := []) rfl hp e
      | false =>
        have e : evF Try.prog own1 10 20 70 [.c (.ptr 0 0)] ⟨cat [(true, .place ⟨cls, pc, opn, at_, w, sa, sc, false⟩)] 0, []⟩ (fun v H₁ => match lowV v with
            | true => (shPlace H₁ 0 fun x' c => match chkAll [(true, .place ⟨cls, pc, opn, at_, w, sa, sc, false⟩)] [c] [] with
                | true => K v (H.put p0 (.obj (.place x')))
                | false => False)
            | false => False) := cast (by kernel_rfl) h
        exact ask_ok own1_ok (mk := .place) (fun _ _ _ => shPlace_ok) (rest := []) rfl hp e
    · exact h.elim
  · exact h.elim

def h_placeNew : Hd := fun args H K => match args with
  | [.c (.int .i64 a)] => K (.c (.ptr H.len 0)) (H.new (.obj (.place ⟨a, 0, 0, 0, 0, 0, 0, false⟩)))
  | _ => False

theorem h_placeNew_ok : HOK 68 h_placeNew := by
  intro args H K h
  unfold h_placeNew at h
  split at h
  · rename_i a
    have e : evF Try.prog own1 10 20 68 [.c (.int .i64 a)] ⟨[], []⟩ (fun v H₁ => match v with
        | .c (.ptr i 0) => (shPlace H₁ i fun x c => match chkAll [] [] [c] && headOK i c with
          | true => K (.c (.ptr H.len 0)) (H.new (.obj (.place x)))
          | false => False)
        | _ => False) := cast (by kernel_rfl) h
    exact new_ok own1_ok (mk := .place) (fun _ _ _ => shPlace_ok) rfl e
  · exact h.elim

def h_giveNew : Hd := fun args H K => match args with
  | [.c (.int .i64 a)] => K (.c (.ptr H.len 0)) (H.new (.obj (.give ⟨0, a, 0⟩)))
  | _ => False

theorem h_giveNew_ok : HOK 71 h_giveNew := by
  intro args H K h
  unfold h_giveNew at h
  split at h
  · rename_i a
    have e : evF Try.prog own1 10 20 71 [.c (.int .i64 a)] ⟨[], []⟩ (fun v H₁ => match v with
        | .c (.ptr i 0) => (shGive H₁ i fun x c => match chkAll [] [] [c] && headOK i c with
          | true => K (.c (.ptr H.len 0)) (H.new (.obj (.give x)))
          | false => False)
        | _ => False) := cast (by kernel_rfl) h
    exact new_ok own1_ok (mk := .give) (fun _ _ _ => shGive_ok) rfl e
  · exact h.elim

def h_helpNew : Hd := fun args H K => match args with
  | [.c (.int .i64 a), .c (.int .u64 b), .c (.int .i64 d)] => K (.c (.ptr H.len 0)) (H.new (.obj (.help ⟨a, b, d, 0, 0, false, false⟩)))
  | _ => False

theorem h_helpNew_ok : HOK 93 h_helpNew := by
  intro args H K h
  unfold h_helpNew at h
  split at h
  · rename_i a b d
    have e : evF Try.prog own1 10 20 93 [.c (.int .i64 a), .c (.int .u64 b), .c (.int .i64 d)] ⟨[], []⟩ (fun v H₁ => match v with
        | .c (.ptr i 0) => (shHelp H₁ i fun x c => match chkAll [] [] [c] && headOK i c with
          | true => K (.c (.ptr H.len 0)) (H.new (.obj (.help x)))
          | false => False)
        | _ => False) := cast (by kernel_rfl) h
    exact new_ok own1_ok (mk := .help) (fun _ _ _ => shHelp_ok) rfl e
  · exact h.elim

def tab2 : List (FuncId × Hd) := [(76, h_giveStep), (69, h_placeStep), (95, h_helpStep), (70, h_placeSpot), (68, h_placeNew), (71, h_giveNew), (93, h_helpNew)] ++ tab1

def own2 : FuncId → Option Hd := look tab2

theorem all2 : AllOK tab2 := ⟨h_giveStep_ok, h_placeStep_ok, h_helpStep_ok, h_placeSpot_ok, h_placeNew_ok, h_giveNew_ok, h_helpNew_ok, all1⟩

theorem own2_ok : OwnOK Try.prog own2 := look_ok all2

end Go.Proofs.Ytmhakaeahefmbaa

/-
  The contracts of steps.
-/
set_option linter.unusedVariables false
set_option linter.unusedSimpArgs false
set_option maxRecDepth 100000
set_option linter.unusedSectionVars false
namespace Go.Proofs.Ytmhakaeahefmbaa
open Go Go.FL Go.Proofs
variable [Go.FL.Fz]

theorem allocStep00_ev (c : PCfg) (who : Int) (x : PAlloc) (m : PMem) (K : Bool → PAlloc → PMem → Prop) : evF Try.prog own2 10 20 62 [.c (.ptr 0 0), envV c 1 who] ⟨cat [(true, .alloc ({ x with p := none, give := none })), (false, .mem m)] 0, []⟩ (fun v H₁ => match v with | .c (.bool r) => (shAlloc H₁ 0 fun x' c' => shF H₁ 1 fun o c2 => match o with | .mem m' => (match chkAll [(true, .alloc ({ x with p := none, give := none })), (false, .mem m)] [c', c2] [] with | true => K r x' m' | false => False) | _ => False) | _ => False) = allocStep00K False twP c who x m K := by kernel_rfl

theorem allocStep10_ev (c : PCfg) (who : Int) (x : PAlloc) (p : PPlace) (m : PMem) (K : Bool → PAlloc → PMem → Prop) : evF Try.prog own2 10 20 62 [.c (.ptr 0 0), envV c 2 who] ⟨cat [(true, .alloc ({ x with p := some p, give := none })), (false, .mem m)] 0, []⟩ (fun v H₁ => match v with | .c (.bool r) => (shAlloc H₁ 0 fun x' c' => shF H₁ 2 fun o c2 => match o with | .mem m' => (match chkAll [(true, .alloc ({ x with p := some p, give := none })), (false, .mem m)] [c', c2] [] with | true => K r x' m' | false => False) | _ => False) | _ => False) = allocStep10K False twP c who x p m K := by kernel_rfl

theorem allocStep01_ev (c : PCfg) (who : Int) (x : PAlloc) (give : PGive) (m : PMem) (K : Bool → PAlloc → PMem → Prop) : evF Try.prog own2 10 20 62 [.c (.ptr 0 0), envV c 2 who] ⟨cat [(true, .alloc ({ x with p := none, give := some give })), (false, .mem m)] 0, []⟩ (fun v H₁ => match v with | .c (.bool r) => (shAlloc H₁ 0 fun x' c' => shF H₁ 2 fun o c2 => match o with | .mem m' => (match chkAll [(true, .alloc ({ x with p := none, give := some give })), (false, .mem m)] [c', c2] [] with | true => K r x' m' | false => False) | _ => False) | _ => False) = allocStep01K False twP c who x give m K := by kernel_rfl

theorem allocStep11_ev (c : PCfg) (who : Int) (x : PAlloc) (p : PPlace) (give : PGive) (m : PMem) (K : Bool → PAlloc → PMem → Prop) : evF Try.prog own2 10 20 62 [.c (.ptr 0 0), envV c 3 who] ⟨cat [(true, .alloc ({ x with p := some p, give := some give })), (false, .mem m)] 0, []⟩ (fun v H₁ => match v with | .c (.bool r) => (shAlloc H₁ 0 fun x' c' => shF H₁ 3 fun o c2 => match o with | .mem m' => (match chkAll [(true, .alloc ({ x with p := some p, give := some give })), (false, .mem m)] [c', c2] [] with | true => K r x' m' | false => False) | _ => False) | _ => False) = allocStep11K False twP c who x p give m K := by kernel_rfl

def h_allocStep0 : Hd := fun args H K => match args with
  | [.c (.ptr p0 0), .agg [.int .i64 c1, .int .i64 c2, .int .i64 c3, .int .i64 c4, .int .i64 c5, .int .i64 c6, .int .i64 c7, .ptr m 0, .int .i64 who]] => match H.get p0, H.get m with
    | some (.obj (.alloc x)), some (.obj (.mem pm)) => K (.c (.bool (allocStep ⟨c1, c2, c3, c4, c5, c6, c7⟩ who x pm).1)) ((H.put p0 (.obj (.alloc (allocStep ⟨c1, c2, c3, c4, c5, c6, c7⟩ who x pm).2.1))).put m (.obj (.mem (allocStep ⟨c1, c2, c3, c4, c5, c6, c7⟩ who x pm).2.2)))
    | _, _ => False
  | _ => False

theorem h_allocStep0_ok : HOK 62 h_allocStep0 := by
  intro args H K h
  unfold h_allocStep0 at h
  split at h
  · rename_i p0 c1 c2 c3 c4 c5 c6 c7 m who
    split at h
    · rename_i x pm hp hm
      obtain ⟨size, own, pc, take, at_, gen, p, sa, sc, give, out⟩ := x
      cases p with
      | none =>
        cases give with
        | none =>
          have e := (allocStep00_ev ⟨c1, c2, c3, c4, c5, c6, c7⟩ who ⟨size, own, pc, take, at_, gen, none, sa, sc, none, out⟩ pm (fun r x' m' => K (.c (.bool r)) ((H.put p0 (.obj (.alloc x'))).put m (.obj (.mem m'))))).mpr (by rw [allocStep00K_eq]; exact h)
          exact step_ok own2_ok (c := ⟨c1, c2, c3, c4, c5, c6, c7⟩) (mk := .alloc) (fun _ _ _ => shAlloc_ok) (by intro hh; cases hh) hp hm e
        | some give =>
          have e := (allocStep01_ev ⟨c1, c2, c3, c4, c5, c6, c7⟩ who ⟨size, own, pc, take, at_, gen, none, sa, sc, (some give), out⟩ give pm (fun r x' m' => K (.c (.bool r)) ((H.put p0 (.obj (.alloc x'))).put m (.obj (.mem m'))))).mpr (by rw [allocStep01K_eq]; exact h)
          exact step_ok own2_ok (c := ⟨c1, c2, c3, c4, c5, c6, c7⟩) (mk := .alloc) (fun _ _ _ => shAlloc_ok) (by intro hh; cases hh) hp hm e
      | some p =>
        cases give with
        | none =>
          have e := (allocStep10_ev ⟨c1, c2, c3, c4, c5, c6, c7⟩ who ⟨size, own, pc, take, at_, gen, (some p), sa, sc, none, out⟩ p pm (fun r x' m' => K (.c (.bool r)) ((H.put p0 (.obj (.alloc x'))).put m (.obj (.mem m'))))).mpr (by rw [allocStep10K_eq]; exact h)
          exact step_ok own2_ok (c := ⟨c1, c2, c3, c4, c5, c6, c7⟩) (mk := .alloc) (fun _ _ _ => shAlloc_ok) (by intro hh; cases hh) hp hm e
        | some give =>
          have e := (allocStep11_ev ⟨c1, c2, c3, c4, c5, c6, c7⟩ who ⟨size, own, pc, take, at_, gen, (some p), sa, sc, (some give), out⟩ p give pm (fun r x' m' => K (.c (.bool r)) ((H.put p0 (.obj (.alloc x'))).put m (.obj (.mem m'))))).mpr (by rw [allocStep11K_eq]; exact h)
          exact step_ok own2_ok (c := ⟨c1, c2, c3, c4, c5, c6, c7⟩) (mk := .alloc) (fun _ _ _ => shAlloc_ok) (by intro hh; cases hh) hp hm e
    · exact h.elim
  · exact h.elim

def h_allocStep : Hd := orNil h_allocStep0

theorem h_allocStep_ok : HOK 62 h_allocStep := orNil_ok own2_ok h_allocStep0_ok (fuel := 10) (d := 20) (fun c who pm K h => cast (by kernel_rfl) h)

theorem dropStep00_ev (c : PCfg) (who : Int) (x : PDrop) (m : PMem) (K : Bool → PDrop → PMem → Prop) : evF Try.prog own2 10 20 89 [.c (.ptr 0 0), envV c 1 who] ⟨cat [(true, .drop ({ x with help := none, give := none })), (false, .mem m)] 0, []⟩ (fun v H₁ => match v with | .c (.bool r) => (shDrop H₁ 0 fun x' c' => shF H₁ 1 fun o c2 => match o with | .mem m' => (match chkAll [(true, .drop ({ x with help := none, give := none })), (false, .mem m)] [c', c2] [] with | true => K r x' m' | false => False) | _ => False) | _ => False) = dropStep00K False twP c who x m K := by kernel_rfl

theorem dropStep10_ev (c : PCfg) (who : Int) (x : PDrop) (help : PHelp) (m : PMem) (K : Bool → PDrop → PMem → Prop) : evF Try.prog own2 10 20 89 [.c (.ptr 0 0), envV c 2 who] ⟨cat [(true, .drop ({ x with help := some help, give := none })), (false, .mem m)] 0, []⟩ (fun v H₁ => match v with | .c (.bool r) => (shDrop H₁ 0 fun x' c' => shF H₁ 2 fun o c2 => match o with | .mem m' => (match chkAll [(true, .drop ({ x with help := some help, give := none })), (false, .mem m)] [c', c2] [] with | true => K r x' m' | false => False) | _ => False) | _ => False) = dropStep10K False twP c who x help m K := by kernel_rfl

theorem dropStep01_ev (c : PCfg) (who : Int) (x : PDrop) (give : PGive) (m : PMem) (K : Bool → PDrop → PMem → Prop) : evF Try.prog own2 10 20 89 [.c (.ptr 0 0), envV c 2 who] ⟨cat [(true, .drop ({ x with help := none, give := some give })), (false, .mem m)] 0, []⟩ (fun v H₁ => match v with | .c (.bool r) => (shDrop H₁ 0 fun x' c' => shF H₁ 2 fun o c2 => match o with | .mem m' => (match chkAll [(true, .drop ({ x with help := none, give := some give })), (false, .mem m)] [c', c2] [] with | true => K r x' m' | false => False) | _ => False) | _ => False) = dropStep01K False twP c who x give m K := by kernel_rfl

theorem dropStep11_ev (c : PCfg) (who : Int) (x : PDrop) (help : PHelp) (give : PGive) (m : PMem) (K : Bool → PDrop → PMem → Prop) : evF Try.prog own2 10 20 89 [.c (.ptr 0 0), envV c 3 who] ⟨cat [(true, .drop ({ x with help := some help, give := some give })), (false, .mem m)] 0, []⟩ (fun v H₁ => match v with | .c (.bool r) => (shDrop H₁ 0 fun x' c' => shF H₁ 3 fun o c2 => match o with | .mem m' => (match chkAll [(true, .drop ({ x with help := some help, give := some give })), (false, .mem m)] [c', c2] [] with | true => K r x' m' | false => False) | _ => False) | _ => False) = dropStep11K False twP c who x help give m K := by kernel_rfl

def h_dropStep0 : Hd := fun args H K => match args with
  | [.c (.ptr p0 0), .agg [.int .i64 c1, .int .i64 c2, .int .i64 c3, .int .i64 c4, .int .i64 c5, .int .i64 c6, .int .i64 c7, .ptr m 0, .int .i64 who]] => match H.get p0, H.get m with
    | some (.obj (.drop x)), some (.obj (.mem pm)) => match decide (c4 = 0) with | true => False | false => K (.c (.bool (dropStep ⟨c1, c2, c3, c4, c5, c6, c7⟩ who x pm).1)) ((H.put p0 (.obj (.drop (dropStep ⟨c1, c2, c3, c4, c5, c6, c7⟩ who x pm).2.1))).put m (.obj (.mem (dropStep ⟨c1, c2, c3, c4, c5, c6, c7⟩ who x pm).2.2)))
    | _, _ => False
  | _ => False

theorem h_dropStep0_ok : HOK 89 h_dropStep0 := by
  intro args H K h
  unfold h_dropStep0 at h
  split at h
  · rename_i p0 c1 c2 c3 c4 c5 c6 c7 m who
    split at h
    · rename_i x pm hp hm
      split at h
      · exact h.elim
      rename_i hc
      have hc : c4 ≠ 0 := of_decide_eq_false hc
      obtain ⟨n, own, hs, hg, pc, w, size, help, give, out⟩ := x
      cases help with
      | none =>
        cases give with
        | none =>
          have e := (dropStep00_ev ⟨c1, c2, c3, c4, c5, c6, c7⟩ who ⟨n, own, hs, hg, pc, w, size, none, none, out⟩ pm (fun r x' m' => K (.c (.bool r)) ((H.put p0 (.obj (.drop x'))).put m (.obj (.mem m'))))).mpr (by rw [dropStep00K_eq (hc := hc)]; exact h)
          exact step_ok own2_ok (c := ⟨c1, c2, c3, c4, c5, c6, c7⟩) (mk := .drop) (fun _ _ _ => shDrop_ok) (by intro hh; cases hh) hp hm e
        | some give =>
          have e := (dropStep01_ev ⟨c1, c2, c3, c4, c5, c6, c7⟩ who ⟨n, own, hs, hg, pc, w, size, none, (some give), out⟩ give pm (fun r x' m' => K (.c (.bool r)) ((H.put p0 (.obj (.drop x'))).put m (.obj (.mem m'))))).mpr (by rw [dropStep01K_eq (hc := hc)]; exact h)
          exact step_ok own2_ok (c := ⟨c1, c2, c3, c4, c5, c6, c7⟩) (mk := .drop) (fun _ _ _ => shDrop_ok) (by intro hh; cases hh) hp hm e
      | some help =>
        cases give with
        | none =>
          have e := (dropStep10_ev ⟨c1, c2, c3, c4, c5, c6, c7⟩ who ⟨n, own, hs, hg, pc, w, size, (some help), none, out⟩ help pm (fun r x' m' => K (.c (.bool r)) ((H.put p0 (.obj (.drop x'))).put m (.obj (.mem m'))))).mpr (by rw [dropStep10K_eq (hc := hc)]; exact h)
          exact step_ok own2_ok (c := ⟨c1, c2, c3, c4, c5, c6, c7⟩) (mk := .drop) (fun _ _ _ => shDrop_ok) (by intro hh; cases hh) hp hm e
        | some give =>
          have e := (dropStep11_ev ⟨c1, c2, c3, c4, c5, c6, c7⟩ who ⟨n, own, hs, hg, pc, w, size, (some help), (some give), out⟩ help give pm (fun r x' m' => K (.c (.bool r)) ((H.put p0 (.obj (.drop x'))).put m (.obj (.mem m'))))).mpr (by rw [dropStep11K_eq (hc := hc)]; exact h)
          exact step_ok own2_ok (c := ⟨c1, c2, c3, c4, c5, c6, c7⟩) (mk := .drop) (fun _ _ _ => shDrop_ok) (by intro hh; cases hh) hp hm e
    · exact h.elim
  · exact h.elim

def h_dropStep : Hd := orNil h_dropStep0

theorem h_dropStep_ok : HOK 89 h_dropStep := orNil_ok own2_ok h_dropStep0_ok (fuel := 10) (d := 20) (fun c who pm K h => cast (by kernel_rfl) h)

theorem accessStep0_ev (c : PCfg) (who : Int) (x : PAccess) (m : PMem) (K : Bool → PAccess → PMem → Prop) : evF Try.prog own2 10 20 103 [.c (.ptr 0 0), envV c 1 who] ⟨cat [(true, .access ({ x with help := none })), (false, .mem m)] 0, []⟩ (fun v H₁ => match v with | .c (.bool r) => (shAccess H₁ 0 fun x' c' => shF H₁ 1 fun o c2 => match o with | .mem m' => (match chkAll [(true, .access ({ x with help := none })), (false, .mem m)] [c', c2] [] with | true => K r x' m' | false => False) | _ => False) | _ => False) = accessStep0K False twP c who x m K := by kernel_rfl

theorem accessStep1_ev (c : PCfg) (who : Int) (x : PAccess) (help : PHelp) (m : PMem) (K : Bool → PAccess → PMem → Prop) : evF Try.prog own2 10 20 103 [.c (.ptr 0 0), envV c 2 who] ⟨cat [(true, .access ({ x with help := some help })), (false, .mem m)] 0, []⟩ (fun v H₁ => match v with | .c (.bool r) => (shAccess H₁ 0 fun x' c' => shF H₁ 2 fun o c2 => match o with | .mem m' => (match chkAll [(true, .access ({ x with help := some help })), (false, .mem m)] [c', c2] [] with | true => K r x' m' | false => False) | _ => False) | _ => False) = accessStep1K False twP c who x help m K := by kernel_rfl

def h_accessStep0 : Hd := fun args H K => match args with
  | [.c (.ptr p0 0), .agg [.int .i64 c1, .int .i64 c2, .int .i64 c3, .int .i64 c4, .int .i64 c5, .int .i64 c6, .int .i64 c7, .ptr m 0, .int .i64 who]] => match H.get p0, H.get m with
    | some (.obj (.access x)), some (.obj (.mem pm)) => K (.c (.bool (accessStep ⟨c1, c2, c3, c4, c5, c6, c7⟩ who x pm).1)) ((H.put p0 (.obj (.access (accessStep ⟨c1, c2, c3, c4, c5, c6, c7⟩ who x pm).2.1))).put m (.obj (.mem (accessStep ⟨c1, c2, c3, c4, c5, c6, c7⟩ who x pm).2.2)))
    | _, _ => False
  | _ => False

theorem h_accessStep0_ok : HOK 103 h_accessStep0 := by
  intro args H K h
  unfold h_accessStep0 at h
  split at h
  · rename_i p0 c1 c2 c3 c4 c5 c6 c7 m who
    split at h
    · rename_i x pm hp hm
      obtain ⟨x, own, hs, hg, pc, w, cell, seen, read, size, help, out⟩ := x
      cases help with
      | none =>
        have e := (accessStep0_ev ⟨c1, c2, c3, c4, c5, c6, c7⟩ who ⟨x, own, hs, hg, pc, w, cell, seen, read, size, none, out⟩ pm (fun r x' m' => K (.c (.bool r)) ((H.put p0 (.obj (.access x'))).put m (.obj (.mem m'))))).mpr (by rw [accessStep0K_eq]; exact h)
        exact step_ok own2_ok (c := ⟨c1, c2, c3, c4, c5, c6, c7⟩) (mk := .access) (fun _ _ _ => shAccess_ok) (by intro hh; cases hh) hp hm e
      | some help =>
        have e := (accessStep1_ev ⟨c1, c2, c3, c4, c5, c6, c7⟩ who ⟨x, own, hs, hg, pc, w, cell, seen, read, size, (some help), out⟩ help pm (fun r x' m' => K (.c (.bool r)) ((H.put p0 (.obj (.access x'))).put m (.obj (.mem m'))))).mpr (by rw [accessStep1K_eq]; exact h)
        exact step_ok own2_ok (c := ⟨c1, c2, c3, c4, c5, c6, c7⟩) (mk := .access) (fun _ _ _ => shAccess_ok) (by intro hh; cases hh) hp hm e
    · exact h.elim
  · exact h.elim

def h_accessStep : Hd := orNil h_accessStep0

theorem h_accessStep_ok : HOK 103 h_accessStep := orNil_ok own2_ok h_accessStep0_ok (fuel := 10) (d := 20) (fun c who pm K h => cast (by kernel_rfl) h)

def h_allocDone : Hd := fun args H K => match args with
  | [.c (.ptr p0 0)] => match H.get p0 with
    | some (.obj (.alloc x)) => K (.agg [cI x.out.e, cU x.out.h, cI x.out.v, cI x.out.st]) (H.put p0 (.obj (.alloc x)))
    | _ => False
  | _ => False

theorem h_allocDone_ok : HOK 61 h_allocDone := by
  intro args H K h
  unfold h_allocDone at h
  split at h
  · rename_i p0
    split at h
    · rename_i x hp
      obtain ⟨size, own, pc, take, at_, gen, p, sa, sc, give, out⟩ := x
      cases p with
      | none =>
        cases give with
        | none =>
          have e : evF Try.prog own2 10 20 61 [.c (.ptr 0 0)] ⟨cat [(true, .alloc ⟨size, own, pc, take, at_, gen, none, sa, sc, none, out⟩)] 0, []⟩ (fun v H₁ => match lowV v with
              | true => (shAlloc H₁ 0 fun x' c => match chkAll [(true, .alloc ⟨size, own, pc, take, at_, gen, none, sa, sc, none, out⟩)] [c] [] with
                  | true => K v (H.put p0 (.obj (.alloc x')))
                  | false => False)
              | false => False) := cast (by kernel_rfl) h
          exact ask_ok own2_ok (mk := .alloc) (fun _ _ _ => shAlloc_ok) (rest := []) rfl hp e
        | some give =>
          have e : evF Try.prog own2 10 20 61 [.c (.ptr 0 0)] ⟨cat [(true, .alloc ⟨size, own, pc, take, at_, gen, none, sa, sc, (some give), out⟩)] 0, []⟩ (fun v H₁ => match lowV v with
              | true => (shAlloc H₁ 0 fun x' c => match chkAll [(true, .alloc ⟨size, own, pc, take, at_, gen, none, sa, sc, (some give), out⟩)] [c] [] with
                  | true => K v (H.put p0 (.obj (.alloc x')))
                  | false => False)
              | false => False) := cast (by kernel_rfl) h
          exact ask_ok own2_ok (mk := .alloc) (fun _ _ _ => shAlloc_ok) (rest := []) rfl hp e
      | some p =>
        cases give with
        | none =>
          have e : evF Try.prog own2 10 20 61 [.c (.ptr 0 0)] ⟨cat [(true, .alloc ⟨size, own, pc, take, at_, gen, (some p), sa, sc, none, out⟩)] 0, []⟩ (fun v H₁ => match lowV v with
              | true => (shAlloc H₁ 0 fun x' c => match chkAll [(true, .alloc ⟨size, own, pc, take, at_, gen, (some p), sa, sc, none, out⟩)] [c] [] with
                  | true => K v (H.put p0 (.obj (.alloc x')))
                  | false => False)
              | false => False) := cast (by kernel_rfl) h
          exact ask_ok own2_ok (mk := .alloc) (fun _ _ _ => shAlloc_ok) (rest := []) rfl hp e
        | some give =>
          have e : evF Try.prog own2 10 20 61 [.c (.ptr 0 0)] ⟨cat [(true, .alloc ⟨size, own, pc, take, at_, gen, (some p), sa, sc, (some give), out⟩)] 0, []⟩ (fun v H₁ => match lowV v with
              | true => (shAlloc H₁ 0 fun x' c => match chkAll [(true, .alloc ⟨size, own, pc, take, at_, gen, (some p), sa, sc, (some give), out⟩)] [c] [] with
                  | true => K v (H.put p0 (.obj (.alloc x')))
                  | false => False)
              | false => False) := cast (by kernel_rfl) h
          exact ask_ok own2_ok (mk := .alloc) (fun _ _ _ => shAlloc_ok) (rest := []) rfl hp e
    · exact h.elim
  · exact h.elim

def h_dropDone : Hd := fun args H K => match args with
  | [.c (.ptr p0 0)] => match H.get p0 with
    | some (.obj (.drop x)) => K (.agg [cI x.out.e, cU x.out.h, cI x.out.v, cI x.out.st]) (H.put p0 (.obj (.drop x)))
    | _ => False
  | _ => False

theorem h_dropDone_ok : HOK 88 h_dropDone := by
  intro args H K h
  unfold h_dropDone at h
  split at h
  · rename_i p0
    split at h
    · rename_i x hp
      obtain ⟨n, own, hs, hg, pc, w, size, help, give, out⟩ := x
      cases help with
      | none =>
        cases give with
        | none =>
          have e : evF Try.prog own2 10 20 88 [.c (.ptr 0 0)] ⟨cat [(true, .drop ⟨n, own, hs, hg, pc, w, size, none, none, out⟩)] 0, []⟩ (fun v H₁ => match lowV v with
              | true => (shDrop H₁ 0 fun x' c => match chkAll [(true, .drop ⟨n, own, hs, hg, pc, w, size, none, none, out⟩)] [c] [] with
                  | true => K v (H.put p0 (.obj (.drop x')))
                  | false => False)
              | false => False) := cast (by kernel_rfl) h
          exact ask_ok own2_ok (mk := .drop) (fun _ _ _ => shDrop_ok) (rest := []) rfl hp e
        | some give =>
          have e : evF Try.prog own2 10 20 88 [.c (.ptr 0 0)] ⟨cat [(true, .drop ⟨n, own, hs, hg, pc, w, size, none, (some give), out⟩)] 0, []⟩ (fun v H₁ => match lowV v with
              | true => (shDrop H₁ 0 fun x' c => match chkAll [(true, .drop ⟨n, own, hs, hg, pc, w, size, none, (some give), out⟩)] [c] [] with
                  | true => K v (H.put p0 (.obj (.drop x')))
                  | false => False)
              | false => False) := cast (by kernel_rfl) h
          exact ask_ok own2_ok (mk := .drop) (fun _ _ _ => shDrop_ok) (rest := []) rfl hp e
      | some help =>
        cases give with
        | none =>
          have e : evF Try.prog own2 10 20 88 [.c (.ptr 0 0)] ⟨cat [(true, .drop ⟨n, own, hs, hg, pc, w, size, (some help), none, out⟩)] 0, []⟩ (fun v H₁ => match lowV v with
              | true => (shDrop H₁ 0 fun x' c => match chkAll [(true, .drop ⟨n, own, hs, hg, pc, w, size, (some help), none, out⟩)] [c] [] with
                  | true => K v (H.put p0 (.obj (.drop x')))
                  | false => False)
              | false => False) := cast (by kernel_rfl) h
          exact ask_ok own2_ok (mk := .drop) (fun _ _ _ => shDrop_ok) (rest := []) rfl hp e
        | some give =>
          have e : evF Try.prog own2 10 20 88 [.c (.ptr 0 0)] ⟨cat [(true, .drop ⟨n, own, hs, hg, pc, w, size, (some help), (some give), out⟩)] 0, []⟩ (fun v H₁ => match lowV v with
              | true => (shDrop H₁ 0 fun x' c => match chkAll [(true, .drop ⟨n, own, hs, hg, pc, w, size, (some help), (some give), out⟩)] [c] [] with
                  | true => K v (H.put p0 (.obj (.drop x')))
                  | false => False)
              | false => False) := cast (by kernel_rfl) h
          exact ask_ok own2_ok (mk := .drop) (fun _ _ _ => shDrop_ok) (rest := []) rfl hp e
    · exact h.elim
  · exact h.elim

def h_accessDone : Hd := fun args H K => match args with
  | [.c (.ptr p0 0)] => match H.get p0 with
    | some (.obj (.access x)) => K (.agg [cI x.out.e, cU x.out.h, cI x.out.v, cI x.out.st]) (H.put p0 (.obj (.access x)))
    | _ => False
  | _ => False

theorem h_accessDone_ok : HOK 102 h_accessDone := by
  intro args H K h
  unfold h_accessDone at h
  split at h
  · rename_i p0
    split at h
    · rename_i x hp
      obtain ⟨x, own, hs, hg, pc, w, cell, seen, read, size, help, out⟩ := x
      cases help with
      | none =>
        have e : evF Try.prog own2 10 20 102 [.c (.ptr 0 0)] ⟨cat [(true, .access ⟨x, own, hs, hg, pc, w, cell, seen, read, size, none, out⟩)] 0, []⟩ (fun v H₁ => match lowV v with
            | true => (shAccess H₁ 0 fun x' c => match chkAll [(true, .access ⟨x, own, hs, hg, pc, w, cell, seen, read, size, none, out⟩)] [c] [] with
                | true => K v (H.put p0 (.obj (.access x')))
                | false => False)
            | false => False) := cast (by kernel_rfl) h
        exact ask_ok own2_ok (mk := .access) (fun _ _ _ => shAccess_ok) (rest := []) rfl hp e
      | some help =>
        have e : evF Try.prog own2 10 20 102 [.c (.ptr 0 0)] ⟨cat [(true, .access ⟨x, own, hs, hg, pc, w, cell, seen, read, size, (some help), out⟩)] 0, []⟩ (fun v H₁ => match lowV v with
            | true => (shAccess H₁ 0 fun x' c => match chkAll [(true, .access ⟨x, own, hs, hg, pc, w, cell, seen, read, size, (some help), out⟩)] [c] [] with
                | true => K v (H.put p0 (.obj (.access x')))
                | false => False)
            | false => False) := cast (by kernel_rfl) h
        exact ask_ok own2_ok (mk := .access) (fun _ _ _ => shAccess_ok) (rest := []) rfl hp e
    · exact h.elim
  · exact h.elim

def h_allocNew : Hd := fun args H K => match args with
  | [.c (.int .i64 a), .c (.bool b)] => K (.c (.ptr H.len 0)) (H.new (.obj (.alloc ⟨a, b, 0, ⟨0, 0, 0, 0, false⟩, 0, 0, none, 0, 0, none, ⟨0, 0, 0, 0⟩⟩)))
  | _ => False

theorem h_allocNew_ok : HOK 34 h_allocNew := by
  intro args H K h
  unfold h_allocNew at h
  split at h
  · rename_i a b
    have e : evF Try.prog own2 10 20 34 [.c (.int .i64 a), .c (.bool b)] ⟨[], []⟩ (fun v H₁ => match v with
        | .c (.ptr i 0) => (shAlloc H₁ i fun x c => match chkAll [] [] [c] && headOK i c with
          | true => K (.c (.ptr H.len 0)) (H.new (.obj (.alloc x)))
          | false => False)
        | _ => False) := cast (by kernel_rfl) h
    exact new_ok own2_ok (mk := .alloc) (fun _ _ _ => shAlloc_ok) rfl e
  · exact h.elim

def h_dropNew : Hd := fun args H K => match args with
  | [.c (.int .u64 a), .c (.bool b)] => K (.c (.ptr H.len 0)) (H.new (.obj (.drop ⟨a, b, 0, 0, 0, 0, 0, none, none, ⟨0, 0, 0, 0⟩⟩)))
  | _ => False

theorem h_dropNew_ok : HOK 35 h_dropNew := by
  intro args H K h
  unfold h_dropNew at h
  split at h
  · rename_i a b
    have e : evF Try.prog own2 10 20 35 [.c (.int .u64 a), .c (.bool b)] ⟨[], []⟩ (fun v H₁ => match v with
        | .c (.ptr i 0) => (shDrop H₁ i fun x c => match chkAll [] [] [c] && headOK i c with
          | true => K (.c (.ptr H.len 0)) (H.new (.obj (.drop x)))
          | false => False)
        | _ => False) := cast (by kernel_rfl) h
    exact new_ok own2_ok (mk := .drop) (fun _ _ _ => shDrop_ok) rfl e
  · exact h.elim

def h_accessNew : Hd := fun args H K => match args with
  | [.agg [.int .i64 x1, .int .u64 x2, .int .i64 x3, .int .i64 x4, .int .i64 x5], .c (.bool b)] => K (.c (.ptr H.len 0)) (H.new (.obj (.access ⟨⟨x1, x2, x3, x4, x5⟩, b, 0, 0, 0, 0, 0, 0, 0, 0, none, ⟨0, 0, 0, 0⟩⟩)))
  | _ => False

theorem h_accessNew_ok : HOK 36 h_accessNew := by
  intro args H K h
  unfold h_accessNew at h
  split at h
  · rename_i x1 x2 x3 x4 x5 b
    have e : evF Try.prog own2 10 20 36 [.agg [.int .i64 x1, .int .u64 x2, .int .i64 x3, .int .i64 x4, .int .i64 x5], .c (.bool b)] ⟨[], []⟩ (fun v H₁ => match v with
        | .c (.ptr i 0) => (shAccess H₁ i fun x c => match chkAll [] [] [c] && headOK i c with
          | true => K (.c (.ptr H.len 0)) (H.new (.obj (.access x)))
          | false => False)
        | _ => False) := cast (by kernel_rfl) h
    exact new_ok own2_ok (mk := .access) (fun _ _ _ => shAccess_ok) rfl e
  · exact h.elim

def tab3 : List (FuncId × Hd) := [(62, h_allocStep), (89, h_dropStep), (103, h_accessStep), (61, h_allocDone), (88, h_dropDone), (102, h_accessDone), (34, h_allocNew), (35, h_dropNew), (36, h_accessNew)] ++ tab2

def own3 : FuncId → Option Hd := look tab3

theorem all3 : AllOK tab3 := ⟨h_allocStep_ok, h_dropStep_ok, h_accessStep_ok, h_allocDone_ok, h_dropDone_ok, h_accessDone_ok, h_allocNew_ok, h_dropNew_ok, h_accessNew_ok, all2⟩

theorem own3_ok : OwnOK Try.prog own3 := look_ok all3

end Go.Proofs.Ytmhakaeahefmbaa

/-
  Steps of the program's objects, as the evaluator has them.
-/
set_option linter.unusedVariables false
set_option linter.unusedSimpArgs false
set_option maxRecDepth 100000
namespace Go.FL

def actStep_allocK {R : Type} (bot : R) (tw : (Prop → Prop) → R → R) (c : PCfg) (who : Int) (x : PAct) (y : PAlloc) (m : PMem) (K : Bool → PAct → PMem → R) : R :=
  bif decide (x.pc = 0) then
   bif decide (x.in_.pc = 0) then
    K false ⟨⟨1, ((PMem.eLoad m who 0).fst)⟩, (x.pc), (.alloc (y)), ⟨(x.out.e), (x.out.h), (x.out.v), (x.out.st)⟩⟩ ((PMem.eLoad m who 0).snd)
   else
    bif decide (x.in_.pc = 1) then
     K false ⟨⟨2, (x.in_.epoch)⟩, (x.pc), (.alloc (y)), ⟨(x.out.e), (x.out.h), (x.out.v), (x.out.st)⟩⟩ (PMem.eStore m who (IntKind.wrap IntKind.i64 (6 + who)) (IntKind.wrap IntKind.u64 (x.in_.epoch + 1)))
    else
     bif decide ((PMem.eLoad m who 0).fst = x.in_.epoch) then
      K false ⟨⟨(x.in_.pc), (x.in_.epoch)⟩, 1, (.alloc (y)), ⟨(x.out.e), (x.out.h), (x.out.v), (x.out.st)⟩⟩ ((PMem.eLoad m who 0).snd)
     else
      K false ⟨⟨1, ((PMem.eLoad m who 0).fst)⟩, (x.pc), (.alloc (y)), ⟨(x.out.e), (x.out.h), (x.out.v), (x.out.st)⟩⟩ ((PMem.eLoad m who 0).snd)
  else
   bif decide (x.pc = 1) then
    bif (allocStep c who y m).fst then
     K false ⟨⟨(x.in_.pc), (x.in_.epoch)⟩, 2, (.alloc ((allocStep c who y m).snd.1)), ⟨((allocStep c who y m).snd.fst.out.e), ((allocStep c who y m).snd.fst.out.h), ((allocStep c who y m).snd.fst.out.v), ((allocStep c who y m).snd.fst.out.st)⟩⟩ ((allocStep c who y m).snd.snd)
    else
     K false ⟨⟨(x.in_.pc), (x.in_.epoch)⟩, (x.pc), (.alloc ((allocStep c who y m).snd.1)), ⟨(x.out.e), (x.out.h), (x.out.v), (x.out.st)⟩⟩ ((allocStep c who y m).snd.snd)
   else
    K true ⟨⟨(x.in_.pc), (x.in_.epoch)⟩, (x.pc), (.alloc (y)), ⟨(x.out.e), (x.out.h), (x.out.v), (x.out.st)⟩⟩ (PMem.eStore m who (IntKind.wrap IntKind.i64 (6 + who)) 0)

def actStep_alloc (c : PCfg) (who : Int) (x : PAct) (y : PAlloc) (m : PMem) : Bool × PAct × PMem := actStep_allocK (false, x, m) twV c who x y m fun r x m => (r, x, m)

theorem actStep_allocK_eq (c : PCfg) (who : Int) (x : PAct) (y : PAlloc) (m : PMem) (hc : c.words ≠ 0) (K : Bool → PAct → PMem → Prop) : actStep_allocK False twP c who x y m K = K (actStep_alloc c who x y m).1 (actStep_alloc c who x y m).2.1 (actStep_alloc c who x y m).2.2 := by
  show _ = app3 K (actStep_allocK (false, x, m) twV c who x y m fun r x m => (r, x, m))
  unfold actStep_allocK
  repeat' first
    | refine condH (decide_eq_false hc) ?_
    | refine cond3 ?_ ?_
    | refine tw3 (fun p => by simp only [and_self]) ?_
    | exact rfl

def actStep_dropK {R : Type} (bot : R) (tw : (Prop → Prop) → R → R) (c : PCfg) (who : Int) (x : PAct) (y : PDrop) (m : PMem) (K : Bool → PAct → PMem → R) : R :=
  bif decide (x.pc = 0) then
   bif decide (x.in_.pc = 0) then
    K false ⟨⟨1, ((PMem.eLoad m who 0).fst)⟩, (x.pc), (.drop (y)), ⟨(x.out.e), (x.out.h), (x.out.v), (x.out.st)⟩⟩ ((PMem.eLoad m who 0).snd)
   else
    bif decide (x.in_.pc = 1) then
     K false ⟨⟨2, (x.in_.epoch)⟩, (x.pc), (.drop (y)), ⟨(x.out.e), (x.out.h), (x.out.v), (x.out.st)⟩⟩ (PMem.eStore m who (IntKind.wrap IntKind.i64 (6 + who)) (IntKind.wrap IntKind.u64 (x.in_.epoch + 1)))
    else
     bif decide ((PMem.eLoad m who 0).fst = x.in_.epoch) then
      K false ⟨⟨(x.in_.pc), (x.in_.epoch)⟩, 1, (.drop (y)), ⟨(x.out.e), (x.out.h), (x.out.v), (x.out.st)⟩⟩ ((PMem.eLoad m who 0).snd)
     else
      K false ⟨⟨1, ((PMem.eLoad m who 0).fst)⟩, (x.pc), (.drop (y)), ⟨(x.out.e), (x.out.h), (x.out.v), (x.out.st)⟩⟩ ((PMem.eLoad m who 0).snd)
  else
   bif decide (x.pc = 1) then
    bif decide (c.words = 0) then
     bot
    else
     bif (dropStep c who y m).fst then
      K false ⟨⟨(x.in_.pc), (x.in_.epoch)⟩, 2, (.drop ((dropStep c who y m).snd.1)), ⟨((dropStep c who y m).snd.fst.out.e), ((dropStep c who y m).snd.fst.out.h), ((dropStep c who y m).snd.fst.out.v), ((dropStep c who y m).snd.fst.out.st)⟩⟩ ((dropStep c who y m).snd.snd)
     else
      K false ⟨⟨(x.in_.pc), (x.in_.epoch)⟩, (x.pc), (.drop ((dropStep c who y m).snd.1)), ⟨(x.out.e), (x.out.h), (x.out.v), (x.out.st)⟩⟩ ((dropStep c who y m).snd.snd)
   else
    K true ⟨⟨(x.in_.pc), (x.in_.epoch)⟩, (x.pc), (.drop (y)), ⟨(x.out.e), (x.out.h), (x.out.v), (x.out.st)⟩⟩ (PMem.eStore m who (IntKind.wrap IntKind.i64 (6 + who)) 0)

def actStep_drop (c : PCfg) (who : Int) (x : PAct) (y : PDrop) (m : PMem) : Bool × PAct × PMem := actStep_dropK (false, x, m) twV c who x y m fun r x m => (r, x, m)

theorem actStep_dropK_eq (c : PCfg) (who : Int) (x : PAct) (y : PDrop) (m : PMem) (hc : c.words ≠ 0) (K : Bool → PAct → PMem → Prop) : actStep_dropK False twP c who x y m K = K (actStep_drop c who x y m).1 (actStep_drop c who x y m).2.1 (actStep_drop c who x y m).2.2 := by
  show _ = app3 K (actStep_dropK (false, x, m) twV c who x y m fun r x m => (r, x, m))
  unfold actStep_dropK
  repeat' first
    | refine condH (decide_eq_false hc) ?_
    | refine cond3 ?_ ?_
    | refine tw3 (fun p => by simp only [and_self]) ?_
    | exact rfl

def actStep_accessK {R : Type} (bot : R) (tw : (Prop → Prop) → R → R) (c : PCfg) (who : Int) (x : PAct) (y : PAccess) (m : PMem) (K : Bool → PAct → PMem → R) : R :=
  bif decide (x.pc = 0) then
   bif decide (x.in_.pc = 0) then
    K false ⟨⟨1, ((PMem.eLoad m who 0).fst)⟩, (x.pc), (.access (y)), ⟨(x.out.e), (x.out.h), (x.out.v), (x.out.st)⟩⟩ ((PMem.eLoad m who 0).snd)
   else
    bif decide (x.in_.pc = 1) then
     K false ⟨⟨2, (x.in_.epoch)⟩, (x.pc), (.access (y)), ⟨(x.out.e), (x.out.h), (x.out.v), (x.out.st)⟩⟩ (PMem.eStore m who (IntKind.wrap IntKind.i64 (6 + who)) (IntKind.wrap IntKind.u64 (x.in_.epoch + 1)))
    else
     bif decide ((PMem.eLoad m who 0).fst = x.in_.epoch) then
      K false ⟨⟨(x.in_.pc), (x.in_.epoch)⟩, 1, (.access (y)), ⟨(x.out.e), (x.out.h), (x.out.v), (x.out.st)⟩⟩ ((PMem.eLoad m who 0).snd)
     else
      K false ⟨⟨1, ((PMem.eLoad m who 0).fst)⟩, (x.pc), (.access (y)), ⟨(x.out.e), (x.out.h), (x.out.v), (x.out.st)⟩⟩ ((PMem.eLoad m who 0).snd)
  else
   bif decide (x.pc = 1) then
    bif (accessStep c who y m).fst then
     K false ⟨⟨(x.in_.pc), (x.in_.epoch)⟩, 2, (.access ((accessStep c who y m).snd.1)), ⟨((accessStep c who y m).snd.fst.out.e), ((accessStep c who y m).snd.fst.out.h), ((accessStep c who y m).snd.fst.out.v), ((accessStep c who y m).snd.fst.out.st)⟩⟩ ((accessStep c who y m).snd.snd)
    else
     K false ⟨⟨(x.in_.pc), (x.in_.epoch)⟩, (x.pc), (.access ((accessStep c who y m).snd.1)), ⟨(x.out.e), (x.out.h), (x.out.v), (x.out.st)⟩⟩ ((accessStep c who y m).snd.snd)
   else
    K true ⟨⟨(x.in_.pc), (x.in_.epoch)⟩, (x.pc), (.access (y)), ⟨(x.out.e), (x.out.h), (x.out.v), (x.out.st)⟩⟩ (PMem.eStore m who (IntKind.wrap IntKind.i64 (6 + who)) 0)

def actStep_access (c : PCfg) (who : Int) (x : PAct) (y : PAccess) (m : PMem) : Bool × PAct × PMem := actStep_accessK (false, x, m) twV c who x y m fun r x m => (r, x, m)

theorem actStep_accessK_eq (c : PCfg) (who : Int) (x : PAct) (y : PAccess) (m : PMem) (hc : c.words ≠ 0) (K : Bool → PAct → PMem → Prop) : actStep_accessK False twP c who x y m K = K (actStep_access c who x y m).1 (actStep_access c who x y m).2.1 (actStep_access c who x y m).2.2 := by
  show _ = app3 K (actStep_accessK (false, x, m) twV c who x y m fun r x m => (r, x, m))
  unfold actStep_accessK
  repeat' first
    | refine condH (decide_eq_false hc) ?_
    | refine cond3 ?_ ?_
    | refine tw3 (fun p => by simp only [and_self]) ?_
    | exact rfl

def actStep (c : PCfg) (who : Int) (x : PAct) (m : PMem) : Bool × PAct × PMem := match x.work with
  | .alloc y => actStep_alloc c who x y m
  | .drop y => actStep_drop c who x y m
  | .access y => actStep_access c who x y m

end Go.FL

/-
  The contracts of steps.
-/
set_option linter.unusedVariables false
set_option linter.unusedSimpArgs false
set_option maxRecDepth 100000
set_option linter.unusedSectionVars false
namespace Go.Proofs.Ytmhakaeahefmbaa
open Go Go.FL Go.Proofs
variable [Go.FL.Fz]

theorem actStep_alloc_ev (c : PCfg) (who : Int) (x : PAct) (y : PAlloc) (m : PMem) (K : Bool → PAct → PMem → Prop) : evF Try.prog own3 10 20 18 [.c (.ptr 0 0), envV c 2 who] ⟨cat [(true, .act ({ x with work := .alloc y })), (false, .mem m)] 0, []⟩ (fun v H₁ => match v with | .c (.bool r) => (shAct H₁ 0 fun x' c' => shF H₁ 2 fun o c2 => match o with | .mem m' => (match chkAll [(true, .act ({ x with work := .alloc y })), (false, .mem m)] [c', c2] [] with | true => K r x' m' | false => False) | _ => False) | _ => False) = actStep_allocK False twP c who x y m K := by kernel_rfl

theorem actStep_drop_ev (c : PCfg) (who : Int) (x : PAct) (y : PDrop) (m : PMem) (K : Bool → PAct → PMem → Prop) : evF Try.prog own3 10 20 18 [.c (.ptr 0 0), envV c 2 who] ⟨cat [(true, .act ({ x with work := .drop y })), (false, .mem m)] 0, []⟩ (fun v H₁ => match v with | .c (.bool r) => (shAct H₁ 0 fun x' c' => shF H₁ 2 fun o c2 => match o with | .mem m' => (match chkAll [(true, .act ({ x with work := .drop y })), (false, .mem m)] [c', c2] [] with | true => K r x' m' | false => False) | _ => False) | _ => False) = actStep_dropK False twP c who x y m K := by kernel_rfl

theorem actStep_access_ev (c : PCfg) (who : Int) (x : PAct) (y : PAccess) (m : PMem) (K : Bool → PAct → PMem → Prop) : evF Try.prog own3 10 20 18 [.c (.ptr 0 0), envV c 2 who] ⟨cat [(true, .act ({ x with work := .access y })), (false, .mem m)] 0, []⟩ (fun v H₁ => match v with | .c (.bool r) => (shAct H₁ 0 fun x' c' => shF H₁ 2 fun o c2 => match o with | .mem m' => (match chkAll [(true, .act ({ x with work := .access y })), (false, .mem m)] [c', c2] [] with | true => K r x' m' | false => False) | _ => False) | _ => False) = actStep_accessK False twP c who x y m K := by kernel_rfl

def h_actStep : Hd := fun args H K => match args with
  | [.c (.ptr p0 0), .agg [.int .i64 c1, .int .i64 c2, .int .i64 c3, .int .i64 c4, .int .i64 c5, .int .i64 c6, .int .i64 c7, .ptr m 0, .int .i64 who]] => match H.get p0, H.get m with
    | some (.obj (.act x)), some (.obj (.mem pm)) => match decide (c4 = 0) with | true => False | false => K (.c (.bool (actStep ⟨c1, c2, c3, c4, c5, c6, c7⟩ who x pm).1)) ((H.put p0 (.obj (.act (actStep ⟨c1, c2, c3, c4, c5, c6, c7⟩ who x pm).2.1))).put m (.obj (.mem (actStep ⟨c1, c2, c3, c4, c5, c6, c7⟩ who x pm).2.2)))
    | _, _ => False
  | _ => False

theorem h_actStep_ok : HOK 18 h_actStep := by
  intro args H K h
  unfold h_actStep at h
  split at h
  · rename_i p0 c1 c2 c3 c4 c5 c6 c7 m who
    split at h
    · rename_i x pm hp hm
      split at h
      · exact h.elim
      rename_i hc
      have hc : c4 ≠ 0 := of_decide_eq_false hc
      obtain ⟨in_, pc, work, out⟩ := x
      cases work with
      | alloc y =>
        have e := (actStep_alloc_ev ⟨c1, c2, c3, c4, c5, c6, c7⟩ who ⟨in_, pc, (.alloc y), out⟩ y pm (fun r x' m' => K (.c (.bool r)) ((H.put p0 (.obj (.act x'))).put m (.obj (.mem m'))))).mpr (by rw [actStep_allocK_eq (hc := hc)]; exact h)
        exact step_ok own3_ok (c := ⟨c1, c2, c3, c4, c5, c6, c7⟩) (mk := .act) (fun _ _ _ => shAct_ok) (by intro hh; cases hh) hp hm e
      | drop y =>
        have e := (actStep_drop_ev ⟨c1, c2, c3, c4, c5, c6, c7⟩ who ⟨in_, pc, (.drop y), out⟩ y pm (fun r x' m' => K (.c (.bool r)) ((H.put p0 (.obj (.act x'))).put m (.obj (.mem m'))))).mpr (by rw [actStep_dropK_eq (hc := hc)]; exact h)
        exact step_ok own3_ok (c := ⟨c1, c2, c3, c4, c5, c6, c7⟩) (mk := .act) (fun _ _ _ => shAct_ok) (by intro hh; cases hh) hp hm e
      | access y =>
        have e := (actStep_access_ev ⟨c1, c2, c3, c4, c5, c6, c7⟩ who ⟨in_, pc, (.access y), out⟩ y pm (fun r x' m' => K (.c (.bool r)) ((H.put p0 (.obj (.act x'))).put m (.obj (.mem m'))))).mpr (by rw [actStep_accessK_eq (hc := hc)]; exact h)
        exact step_ok own3_ok (c := ⟨c1, c2, c3, c4, c5, c6, c7⟩) (mk := .act) (fun _ _ _ => shAct_ok) (by intro hh; cases hh) hp hm e
    · exact h.elim
  · exact h.elim

def h_actDone : Hd := fun args H K => match args with
  | [.c (.ptr p0 0)] => match H.get p0 with
    | some (.obj (.act x)) => K (.agg [cI x.out.e, cU x.out.h, cI x.out.v, cI x.out.st]) (H.put p0 (.obj (.act x)))
    | _ => False
  | _ => False

theorem h_actDone_ok : HOK 20 h_actDone := by
  intro args H K h
  unfold h_actDone at h
  split at h
  · rename_i p0
    split at h
    · rename_i x hp
      obtain ⟨in_, pc, work, out⟩ := x
      cases work with
      | alloc y =>
        have e : evF Try.prog own3 10 20 20 [.c (.ptr 0 0)] ⟨cat [(true, .act ⟨in_, pc, (.alloc y), out⟩)] 0, []⟩ (fun v H₁ => match lowV v with
            | true => (shAct H₁ 0 fun x' c => match chkAll [(true, .act ⟨in_, pc, (.alloc y), out⟩)] [c] [] with
                | true => K v (H.put p0 (.obj (.act x')))
                | false => False)
            | false => False) := cast (by kernel_rfl) h
        exact ask_ok own3_ok (mk := .act) (fun _ _ _ => shAct_ok) (rest := []) rfl hp e
      | drop y =>
        have e : evF Try.prog own3 10 20 20 [.c (.ptr 0 0)] ⟨cat [(true, .act ⟨in_, pc, (.drop y), out⟩)] 0, []⟩ (fun v H₁ => match lowV v with
            | true => (shAct H₁ 0 fun x' c => match chkAll [(true, .act ⟨in_, pc, (.drop y), out⟩)] [c] [] with
                | true => K v (H.put p0 (.obj (.act x')))
                | false => False)
            | false => False) := cast (by kernel_rfl) h
        exact ask_ok own3_ok (mk := .act) (fun _ _ _ => shAct_ok) (rest := []) rfl hp e
      | access y =>
        have e : evF Try.prog own3 10 20 20 [.c (.ptr 0 0)] ⟨cat [(true, .act ⟨in_, pc, (.access y), out⟩)] 0, []⟩ (fun v H₁ => match lowV v with
            | true => (shAct H₁ 0 fun x' c => match chkAll [(true, .act ⟨in_, pc, (.access y), out⟩)] [c] [] with
                | true => K v (H.put p0 (.obj (.act x')))
                | false => False)
            | false => False) := cast (by kernel_rfl) h
        exact ask_ok own3_ok (mk := .act) (fun _ _ _ => shAct_ok) (rest := []) rfl hp e
    · exact h.elim
  · exact h.elim

def tab4 : List (FuncId × Hd) := [(18, h_actStep), (20, h_actDone)] ++ tab3

def own4 : FuncId → Option Hd := look tab4

theorem all4 : AllOK tab4 := ⟨h_actStep_ok, h_actDone_ok, all3⟩

theorem own4_ok : OwnOK Try.prog own4 := look_ok all4

end Go.Proofs.Ytmhakaeahefmbaa

/-
  An act is made.
-/
set_option linter.unusedVariables false
set_option linter.unusedSimpArgs false
set_option maxRecDepth 100000
set_option linter.unusedSectionVars false
namespace Go.FL

def actNewK (x1 x2 x3 x4 x5 x6 : Int) (x7 : Bool) (K : Option PAct → Int → Prop) : Prop :=
  bif decide (0 ≤ x5) then
   bif decide (x5 ≤ 1099511627775) then
    bif decide (0 ≤ x6) then
     bif decide (1 ≤ x1) then
      bif decide (x1 ≤ 5) then
       bif !decide (x6 ≤ 1099511627775) then
        K none 1
       else
        bif decide (x1 = 1) then
         K (some ⟨⟨0, 0⟩, 0, (.alloc ⟨(x2), (x7), 0, ⟨0, 0, 0, 0, false⟩, 0, 0, none, 0, 0, none, ⟨0, 0, 0, 0⟩⟩), ⟨0, 0, 0, 0⟩⟩) 0
        else
         bif decide (x1 = 2) then
          K (some ⟨⟨0, 0⟩, 0, (.drop ⟨(x3), (x7), 0, 0, 0, 0, 0, none, none, ⟨0, 0, 0, 0⟩⟩), ⟨0, 0, 0, 0⟩⟩) 0
         else
          K (some ⟨⟨0, 0⟩, 0, (.access ⟨⟨(IntKind.wrap IntKind.i64 (IntKind.wrap IntKind.i64 (x1 - 3) + 1)), (x3), (x4), (x5), (x6)⟩, (x7), 0, 0, 0, 0, 0, 0, 0, 0, none, ⟨0, 0, 0, 0⟩⟩), ⟨0, 0, 0, 0⟩⟩) 0
      else
       K none 1
     else
      K none 1
    else
     bif decide (1 ≤ x1) then
      bif decide (x1 ≤ 5) then
       K none 1
      else
       K none 1
     else
      K none 1
   else
    bif decide (1 ≤ x1) then
     bif decide (x1 ≤ 5) then
      K none 1
     else
      K none 1
    else
     K none 1
  else
   bif decide (1 ≤ x1) then
    bif decide (x1 ≤ 5) then
     K none 1
    else
     K none 1
   else
    K none 1

/-- Which acts may be. -/
def actOk (x1 x5 x6 : Int) : Bool := decide (0 ≤ x5) && (decide (x5 ≤ 1099511627775) && (decide (0 ≤ x6) && (decide (1 ≤ x1) && (decide (x1 ≤ 5) && decide (x6 ≤ 1099511627775)))))

def workMk (x1 x2 x3 x4 x5 x6 : Int) (x7 : Bool) : PWork :=
  bif decide (x1 = 1) then .alloc ⟨x2, x7, 0, ⟨0, 0, 0, 0, false⟩, 0, 0, none, 0, 0, none, ⟨0, 0, 0, 0⟩⟩
  else bif decide (x1 = 2) then .drop ⟨x3, x7, 0, 0, 0, 0, 0, none, none, ⟨0, 0, 0, 0⟩⟩
  else .access ⟨⟨IntKind.wrap IntKind.i64 (IntKind.wrap IntKind.i64 (x1 - 3) + 1), x3, x4, x5, x6⟩, x7, 0, 0, 0, 0, 0, 0, 0, 0, none, ⟨0, 0, 0, 0⟩⟩

/-- An act that is begun. -/
def actMk (x1 x2 x3 x4 x5 x6 : Int) (x7 : Bool) : PAct := ⟨⟨0, 0⟩, 0, workMk x1 x2 x3 x4 x5 x6 x7, ⟨0, 0, 0, 0⟩⟩

theorem actNewK_eq (x1 x2 x3 x4 x5 x6 : Int) (x7 : Bool) (K : Option PAct → Int → Prop) : actNewK x1 x2 x3 x4 x5 x6 x7 K =
    (match actOk x1 x5 x6 with | true => K (some (actMk x1 x2 x3 x4 x5 x6 x7)) 0 | false => K none 1) := by
  unfold actNewK actOk actMk workMk
  generalize decide (0 ≤ x5) = b1
  generalize decide (x5 ≤ 1099511627775) = b2
  generalize decide (0 ≤ x6) = b3
  generalize decide (1 ≤ x1) = b4
  generalize decide (x1 ≤ 5) = b5
  generalize decide (x6 ≤ 1099511627775) = b6
  generalize decide (x1 = 1) = b7
  generalize decide (x1 = 2) = b8
  cases b1 <;> cases b2 <;> cases b3 <;> cases b4 <;> cases b5 <;> cases b6 <;> cases b7 <;> cases b8 <;> rfl

end Go.FL

namespace Go.Proofs.Ytmhakaeahefmbaa
open Go Go.FL Go.Proofs
variable [Go.FL.Fz]

theorem actNew_ev (x1 x2 x3 x4 x5 x6 : Int) (x7 : Bool) (K : Option PAct → Int → Prop) : evF Try.prog own4 10 20 14 [.agg [.int .i64 x1, .int .i64 x2, .int .u64 x3, .int .i64 x4, .int .i64 x5, .int .i64 x6, .bool x7]] ⟨[], []⟩ (fun v H₁ => match v with
    | .tup [.c .nilp, .c (.int .i64 e)] => K none e
    | .tup [.c (.ptr i 0), .c (.int .i64 e)] => (shAct H₁ i fun x c => match chkAll [] [] [c] && headOK i c with
      | true => K (some x) e
      | false => False)
    | _ => False) = actNewK x1 x2 x3 x4 x5 x6 x7 K := by kernel_rfl

def h_actNew : Hd := fun args H K => match args with
  | [.agg [.int .i64 x1, .int .i64 x2, .int .u64 x3, .int .i64 x4, .int .i64 x5, .int .i64 x6, .bool x7]] => match actOk x1 x5 x6 with
    | true => K (.tup [.c (.ptr H.len 0), .c (cI 0)]) (H.new (.obj (.act (actMk x1 x2 x3 x4 x5 x6 x7))))
    | false => K (.tup [.c .nilp, .c (cI 1)]) H
  | _ => False

theorem h_actNew_ok : HOK 14 h_actNew := by
  intro args H K h
  unfold h_actNew at h
  split at h
  · rename_i x1 x2 x3 x4 x5 x6 x7
    have e := (actNew_ev x1 x2 x3 x4 x5 x6 x7 (fun o e => match o with
      | some x => K (.tup [.c (.ptr H.len 0), .c (cI e)]) (H.new (.obj (.act x)))
      | none => K (.tup [.c .nilp, .c (cI e)]) H)).mpr (by
        rw [actNewK_eq]
        split at h <;> rename_i hb <;> simp only [hb] <;> exact h)
    refine objs_ok own4_ok (ns := []) (xs := []) rfl (by simp) List.nodup_nil (fun s s₁ vs _ h => RelVs.low rfl h) e ?_
    intro v₁ H₁ hk
    split at hk
    · rename_i e'
      exact ⟨[], [], [], [], .tup [.c .nilp, .c (cI e')], rfl, trivial, trivial, fun s₁ s' v' _ _ hr => RelV.low rfl hr, hk⟩
    · rename_i i e'
      obtain ⟨x, c, hk, hc⟩ := shAct_ok hk
      split at hk
      · rename_i hchk
        simp only [Bool.and_eq_true] at hchk
        obtain ⟨h1, h2⟩ := hchk
        refine ⟨[], [], [c], [(true, .act x)], .tup [.c (.ptr H.len 0), .c (cI e')], h1, trivial, ⟨hc, trivial⟩, ?_, hk⟩
        intro s₁ s' v' _ hd' hr
        have h0 : c[0]? = some i := by
          unfold headOK at h2
          split at h2
          · have := Nat.eq_of_beq_eq_true h2; simp [this]
          · cases h2
        have := hd' 0 c i rfl h0
        simp only [Nat.add_zero] at this
        obtain ⟨vs, rfl, hr⟩ := hr
        refine ⟨vs, rfl, ?_⟩
        generalize vs.toList = us at hr ⊢
        match us, hr with
        | [u, v], ⟨h3, h4, _⟩ =>
          refine ⟨?_, h4, trivial⟩
          obtain ⟨r, h5, h6⟩ := h3
          exact ⟨r, by rw [this]; exact h5, h6⟩
      · exact hk.elim
    · exact hk.elim
  · exact h.elim

def tab5 : List (FuncId × Hd) := (14, h_actNew) :: tab4

def own5 : FuncId → Option Hd := look tab5

theorem all5 : AllOK tab5 := ⟨h_actNew_ok, all4⟩

theorem own5_ok : OwnOK Try.prog own5 := look_ok all5

end Go.Proofs.Ytmhakaeahefmbaa

/-
  An act that is done alone.
-/
set_option linter.unusedVariables false
set_option linter.unusedSimpArgs false
set_option maxRecDepth 100000
set_option linter.unusedSectionVars false
namespace Go.FL

/-- So many steps at most. -/
def actRun (c : PCfg) (who : Int) : Nat → PAct → PMem → PAct × PMem
  | 0, a, m => (a, m)
  | n + 1, a, m => match (actStep c who a m).1 with
    | true => ((actStep c who a m).2.1, (actStep c who a m).2.2)
    | false => actRun c who n (actStep c who a m).2.1 (actStep c who a m).2.2

theorem actRun_zero (c : PCfg) (who : Int) (a : PAct) (m : PMem) : actRun c who 0 a m = (a, m) := rfl

theorem actRun_succ (c : PCfg) (who : Int) (n : Nat) (a : PAct) (m : PMem) : actRun c who (n + 1) a m = (match (actStep c who a m).1 with
    | true => ((actStep c who a m).2.1, (actStep c who a m).2.2)
    | false => actRun c who n (actStep c who a m).2.1 (actStep c who a m).2.2) := rfl

attribute [irreducible] actRun

end Go.FL

namespace Go.Proofs.Ytmhakaeahefmbaa
open Go Go.FL Go.Proofs
variable [Go.FL.Fz]

abbrev doF : FuncId := 12

abbrev doT (i : Int) : Tm := [(2, .c (.ptr 1 0)), (4, .c (.ptr 3 0)), (5, .c (.ptr 4 0)), (7, .c (cI i))]

abbrev envB (c : PCfg) (who : Int) : LB := .cells 27 [cI c.threads, cI c.slots, cI c.chunks, cI c.words, cI c.gens, cI c.sparse, cI c.tries, .ptr 0 0, cI who]

abbrev doH (c : PCfg) (who : Int) (bx br : LB) (a : PAct) (m : PMem) : List LB := [.obj (.mem m), envB c who, bx, br, .obj (.act a)]

theorem doBody_ev (c : PCfg) (who : Int) (bx br : LB) (a : PAct) (m : PMem) (wr : List Nat) (i : Int) (k : X → Tm → LH → Prop) :
    evC Try.prog (evF Try.prog own5 10 20) (tmpsF Try.prog doF) noLo 10 (loopF Try.prog doF 0) (doT i) ⟨doH c who bx br a m, wr⟩ (fun x T H => k x (Tm.norm [2, 4, 5, 7] T) H) =
    (bif decide (i < 500) then bif decide (c.words = 0) then False else
      bif (actStep c who a m).1 then k (.exit 0) (doT i) ⟨doH c who bx br (actStep c who a m).2.1 (actStep c who a m).2.2, 0 :: 4 :: wr⟩
      else k .normal (doT (IntKind.wrap .i64 (i + 1))) ⟨doH c who bx br (actStep c who a m).2.1 (actStep c who a m).2.2, 0 :: 4 :: wr⟩
    else k (.exit 0) (doT i) ⟨doH c who bx br a m, wr⟩) := by kernel_rfl

/-- The loop's law. -/
def lhDo : LHd := fun T H K => match Tm.norm [2, 4, 5, 7] T with
  | [(2, .c (.ptr 1 0)), (4, .c (.ptr 3 0)), (5, .c (.ptr 4 0)), (7, .c (.int .i64 i))] => match H.bl with
    | [.obj (.mem m), .cells t [.int .i64 c1, .int .i64 c2, .int .i64 c3, .int .i64 c4, .int .i64 c5, .int .i64 c6, .int .i64 c7, .ptr 0 0, .int .i64 who], bx, br, .obj (.act a)] =>
      match Nat.beq t 27 && decide (i = 0) with
      | false => False
      | true => match decide (c4 = 0) with
      | true => False
      | false => K (.exit 0) [(2, .c (.ptr 1 0)), (4, .c (.ptr 3 0)), (5, .c (.ptr 4 0))]
          ⟨doH ⟨c1, c2, c3, c4, c5, c6, c7⟩ who bx br (actRun ⟨c1, c2, c3, c4, c5, c6, c7⟩ who 500 a m).1 (actRun ⟨c1, c2, c3, c4, c5, c6, c7⟩ who 500 a m).2, 0 :: 4 :: H.wr⟩
    | _ => False
  | _ => False

theorem lhDo_ok : BodyOK Try.prog (tmpsF Try.prog doF) (.loop (loopF Try.prog doF 0)) lhDo := by
  refine loopN_ok (evC_ok fnOK mixed (evF_ok fnOK mixed own5_ok 10 20) _ (lo := noLo) 10 _ LoOK.no) ?_
  intro T H K h
  unfold lhDo at h
  split at h
  case h_2 => exact h.elim
  rename_i x i hT
  split at h
  case h_2 => exact h.elim
  rename_i x' m t c1 c2 c3 c4 c5 c6 c7 who bx br a hH
  split at h
  · exact h.elim
  rename_i hti
  split at h
  · exact h.elim
  rename_i hc
  simp only [Bool.and_eq_true] at hti
  have ht := Nat.eq_of_beq_eq_true hti.1
  have hi : i = 0 := of_decide_eq_true hti.2
  have hc : c4 ≠ 0 := of_decide_eq_false hc
  subst ht
  subst hi
  generalize hr : actRun ⟨c1, c2, c3, c4, c5, c6, c7⟩ who 500 a m = r at h
  refine ⟨[2, 4, 5, 7], [2, 4, 5], fun n T' H' => ∃ (j : Nat) (a' : PAct) (m' : PMem), j ≤ 500 ∧ n = 500 - j ∧ T' = doT (j : Int) ∧ H'.bl = doH ⟨c1, c2, c3, c4, c5, c6, c7⟩ who bx br a' m' ∧ (∀ n ∈ H'.wr, n ∈ 0 :: 4 :: H.wr) ∧
    actRun ⟨c1, c2, c3, c4, c5, c6, c7⟩ who (500 - j) a' m' = r, ⟨500, 0, a, m, by omega, rfl, hT, hH, fun n hn => by simp [hn], hr⟩, ?_⟩
  rintro n T' ⟨bl, wr⟩ ⟨j, a', m', hj, rfl, rfl, hbl, hwr, hrun⟩
  simp only at hbl hwr
  subst hbl
  rw [doBody_ev]
  have hcd : decide (c4 = 0) = false := by simp [hc]
  by_cases hlt : j < 500
  · have h1 : decide ((j : Int) < 500) = true := by simp; omega
    obtain ⟨q, hq⟩ : ∃ q, 500 - j = q + 1 := ⟨500 - (j + 1), by omega⟩
    have hq' : q = 500 - (j + 1) := by omega
    rw [hq, actRun_succ] at hrun
    rw [h1]
    simp only [cond_true, hcd, cond_false]
    have hw2 : ∀ n ∈ 0 :: 4 :: wr, n ∈ 0 :: 4 :: H.wr := by
      intro n hn
      simp only [List.mem_cons] at hn ⊢
      rcases hn with h | h | h
      · exact .inl h
      · exact .inr (.inl h)
      · simpa using hwr n h
    cases hst : (actStep ⟨c1, c2, c3, c4, c5, c6, c7⟩ who a' m').1 with
    | true =>
      rw [hst] at hrun
      simp only [cond_true] at hrun ⊢
      subst hrun
      exact ⟨0 :: 4 :: H.wr, hw2, h⟩
    | false =>
      rw [hst] at hrun
      simp only [cond_false] at hrun ⊢
      refine ⟨500 - (j + 1), by omega, j + 1, _, _, hlt, rfl, ?_, rfl, hw2, by rw [← hq']; exact hrun⟩
      have hi : IntKind.i64.wrap ((j : Int) + 1) = ((j + 1 : Nat) : Int) := by rw [IntKind.wrap_i64]; omega
      rw [hi]
  · have h1 : decide ((j : Int) < 500) = false := by simp; omega
    rw [h1]
    simp only [cond_false]
    have hz : 500 - j = 0 := by omega
    rw [hz, actRun_zero] at hrun
    subst hrun
    exact ⟨0 :: 4 :: H.wr, hwr, h⟩

end Go.Proofs.Ytmhakaeahefmbaa

/-
  What an act that is done alone comes to.
-/
set_option linter.unusedVariables false
set_option linter.unusedSimpArgs false
set_option maxRecDepth 100000
set_option linter.unusedSectionVars false
namespace Go.FL

/-- An act that is done alone: what it comes to, and the memory. -/
def doM (c : PCfg) (who : Int) (m : PMem) (x1 x2 x3 x4 x5 x6 : Int) (x7 : Bool) : PDone × PMem := match actOk x1 x5 x6 with
  | true => ((actRun c who 500 (actMk x1 x2 x3 x4 x5 x6 x7) m).1.out, (actRun c who 500 (actMk x1 x2 x3 x4 x5 x6 x7) m).2)
  | false => (⟨1, 0, 0, 0⟩, m)

end Go.FL

namespace Go.Proofs.Ytmhakaeahefmbaa
open Go Go.FL Go.Proofs
variable [Go.FL.Fz]

theorem doLo : LoOK Try.prog (tmpsF Try.prog doF) (fun _ => some lhDo) (loopsF Try.prog doF) := by
  have h : loopsF Try.prog doF = [loopF Try.prog doF 0] := by kernel_rfl
  rw [h]
  intro c hc hd he
  have hc : c = loopF Try.prog doF 0 := by simpa using hc
  subst hc
  cases he
  exact lhDo_ok

theorem do_ev (c : PCfg) (who : Int) (m : PMem) (x1 x2 x3 x4 x5 x6 : Int) (x7 : Bool) (K : PDone → PMem → Prop) :
    evL Try.prog own5 (fun _ => some lhDo) 10 20 doF [envV c 0 who, .agg [.int .i64 x1, .int .i64 x2, .int .u64 x3, .int .i64 x4, .int .i64 x5, .int .i64 x6, .bool x7]] ⟨cat [(false, .mem m)] 0, []⟩ (fun v H₁ => match v with
      | .agg [.int .i64 e, .int .u64 h, .int .i64 v, .int .i64 st] => shF H₁ 0 fun o c2 => match o with
        | .mem m' => match chkAll [(false, .mem m)] [c2] [] with
          | true => K ⟨e, h, v, st⟩ m'
          | false => False
        | _ => False
      | _ => False) =
    (bif actOk x1 x5 x6 then bif decide (c.words = 0) then False else K ⟨(actRun c who 500 (actMk x1 x2 x3 x4 x5 x6 x7) m).1.out.e, (actRun c who 500 (actMk x1 x2 x3 x4 x5 x6 x7) m).1.out.h, (actRun c who 500 (actMk x1 x2 x3 x4 x5 x6 x7) m).1.out.v, (actRun c who 500 (actMk x1 x2 x3 x4 x5 x6 x7) m).1.out.st⟩ (actRun c who 500 (actMk x1 x2 x3 x4 x5 x6 x7) m).2 else K ⟨1, 0, 0, 0⟩ m) := by kernel_rfl

def h_do : Hd := fun args H K => match args with
  | [.agg [.int .i64 c1, .int .i64 c2, .int .i64 c3, .int .i64 c4, .int .i64 c5, .int .i64 c6, .int .i64 c7, .ptr m 0, .int .i64 who], .agg [.int .i64 x1, .int .i64 x2, .int .u64 x3, .int .i64 x4, .int .i64 x5, .int .i64 x6, .bool x7]] =>
    match H.get m with
    | some (.obj (.mem pm)) => match decide (c4 = 0) with
      | true => False
      | false => K (.agg [cI (doM ⟨c1, c2, c3, c4, c5, c6, c7⟩ who pm x1 x2 x3 x4 x5 x6 x7).1.e, cU (doM ⟨c1, c2, c3, c4, c5, c6, c7⟩ who pm x1 x2 x3 x4 x5 x6 x7).1.h,
          cI (doM ⟨c1, c2, c3, c4, c5, c6, c7⟩ who pm x1 x2 x3 x4 x5 x6 x7).1.v, cI (doM ⟨c1, c2, c3, c4, c5, c6, c7⟩ who pm x1 x2 x3 x4 x5 x6 x7).1.st])
          (H.put m (.obj (.mem (doM ⟨c1, c2, c3, c4, c5, c6, c7⟩ who pm x1 x2 x3 x4 x5 x6 x7).2)))
    | _ => False
  | _ => False

theorem h_do_ok : HOK doF h_do := by
  intro args H K h
  unfold h_do at h
  split at h
  case h_2 => exact h.elim
  rename_i c1 c2 c3 c4 c5 c6 c7 m who x1 x2 x3 x4 x5 x6 x7
  split at h
  case h_2 => exact h.elim
  rename_i pm hm
  split at h
  · exact h.elim
  rename_i hc
  have e := (do_ev ⟨c1, c2, c3, c4, c5, c6, c7⟩ who pm x1 x2 x3 x4 x5 x6 x7 (fun d m' => K (.agg [cI d.e, cU d.h, cI d.v, cI d.st]) (H.put m (.obj (.mem m'))))).mpr (by
    unfold doM at h
    cases hb : actOk x1 x5 x6 with
    | true => simp only [hb] at h ⊢; rw [hc]; exact h
    | false => simp only [hb] at h ⊢; exact h)
  refine objs_of (ns := [m]) (xs := [(false, .mem pm)]) rfl ?_ (by simp) ?_ (evL_ok fnOK mixed own5_ok doLo e) ?_
  · intro i n x' hi hx
    match i, hi, hx with
    | 0, hi, hx => simp at hi hx; subst hi; subst hx; exact get_obj hm
    | i + 1, hi, hx => simp at hi
  · intro s s₁ vs hh hr
    match vs, hr with
    | [u, v], ⟨h1, h2, _⟩ =>
      have e0 := hh 0 m rfl
      simp only [base, Nat.zero_add] at e0
      exact ⟨rel_env (c := ⟨c1, c2, c3, c4, c5, c6, c7⟩) e0 h1, RelV.low rfl h2, trivial⟩
    | [], h => exact h.elim
    | [_], h => exact h.2.elim
    | _ :: _ :: _ :: _, h => exact h.2.2.elim
  · intro v₁ H₁ hk
    split at hk
    · rename_i e1 h1 v1 st1
      obtain ⟨o, c2, hk, hc2⟩ := shF_ok hk
      split at hk
      · rename_i pm'
        split at hk
        · rename_i hchk
          exact ⟨[c2], [(false, .mem pm')], [], [], .agg [.int .i64 e1, .int .u64 h1, .int .i64 v1, .int .i64 st1], hchk, ⟨hc2, trivial⟩, trivial, fun _ _ _ _ _ h => RelV.low rfl h, hk⟩
        · exact hk.elim
      · exact hk.elim
    · exact hk.elim

def tab6 : List (FuncId × Hd) := (doF, h_do) :: tab5

def own6 : FuncId → Option Hd := look tab6

theorem all6 : AllOK tab6 := ⟨h_do_ok, all5⟩

theorem own6_ok : OwnOK Try.prog own6 := look_ok all6

end Go.Proofs.Ytmhakaeahefmbaa

/-
  An act is done alone.
-/
set_option linter.unusedVariables false
set_option linter.unusedSimpArgs false
set_option maxRecDepth 20000
namespace Go.FL
open Go

section
variable (c : PCfg) (who ep : Int) (wk : PWork) (ya : PAlloc) (yd : PDrop) (yc : PAccess) (out : PDone) (m : PMem)

theorem at_0 : actStep c who ⟨⟨0, ep⟩, 0, wk, out⟩ m = (false, ⟨⟨1, (m.eLoad who 0).1⟩, 0, wk, out⟩, (m.eLoad who 0).2) := by cases wk <;> kernel_rfl
theorem at_1 : actStep c who ⟨⟨1, ep⟩, 0, wk, out⟩ m = (false, ⟨⟨2, ep⟩, 0, wk, out⟩, m.eStore who (wrI (6 + who)) (wrU (ep + 1))) := by cases wk <;> kernel_rfl
theorem at_2 : actStep c who ⟨⟨2, ep⟩, 0, wk, out⟩ m = bif decide ((m.eLoad who 0).1 = ep) then (false, ⟨⟨2, ep⟩, 1, wk, out⟩, (m.eLoad who 0).2) else (false, ⟨⟨1, (m.eLoad who 0).1⟩, 0, wk, out⟩, (m.eLoad who 0).2) := by cases wk <;> kernel_rfl
theorem at_al (pi : PIn) : actStep c who ⟨pi, 1, .alloc ya, out⟩ m = bif (allocStep c who ya m).1 then (false, ⟨pi, 2, .alloc (allocStep c who ya m).2.1, (allocStep c who ya m).2.1.out⟩, (allocStep c who ya m).2.2)
    else (false, ⟨pi, 1, .alloc (allocStep c who ya m).2.1, out⟩, (allocStep c who ya m).2.2) := by kernel_rfl
theorem at_dr (pi : PIn) : actStep c who ⟨pi, 1, .drop yd, out⟩ m = bif decide (c.words = 0) then (false, ⟨pi, 1, .drop yd, out⟩, m) else bif (dropStep c who yd m).1 then (false, ⟨pi, 2, .drop (dropStep c who yd m).2.1, (dropStep c who yd m).2.1.out⟩, (dropStep c who yd m).2.2)
    else (false, ⟨pi, 1, .drop (dropStep c who yd m).2.1, out⟩, (dropStep c who yd m).2.2) := by kernel_rfl
theorem at_ac (pi : PIn) : actStep c who ⟨pi, 1, .access yc, out⟩ m = bif (accessStep c who yc m).1 then (false, ⟨pi, 2, .access (accessStep c who yc m).2.1, (accessStep c who yc m).2.1.out⟩, (accessStep c who yc m).2.2)
    else (false, ⟨pi, 1, .access (accessStep c who yc m).2.1, out⟩, (accessStep c who yc m).2.2) := by kernel_rfl
theorem at_3 (pi : PIn) : actStep c who ⟨pi, 2, wk, out⟩ m = (true, ⟨pi, 2, wk, out⟩, m.eStore who (wrI (6 + who)) 0) := by cases wk <;> kernel_rfl
end

section
variable {L B : Int} {m : PMem} {sp : Int}

/-- What an act that is alone comes to. -/
def ActQ (L B : Int) (a : PAct) (m : PMem) : Prop := Inv 6 L B m ∧ L ≤ a.out.st ∧ a.out.st ≤ m.steps ∧ 0 ≤ a.out.h ∧ a.out.h < 18446744073709551616

theorem out_wp (h : Inv 6 L B m) (hB : B ≤ 900000000000) {pi : PIn} {wk : PWork} {out : PDone} (h1 : L ≤ out.st) (h2 : out.st ≤ m.steps) (h3 : 0 ≤ out.h ∧ out.h < 18446744073709551616) :
    Wp (actStep (cfA sp) 0) 1 ⟨pi, 2, wk, out⟩ m fun a m' => ActQ L (B + 1) a m' := by
  have e := at_3 (cfA sp) 0 wk out m pi
  rw [show wrI (6 + 0) = ((6 : Nat) : Int) by decide, h.stq (by omega)] at e
  have h4 := h.lay' (who := 0) (a := 6) (v := 0) (by omega) (h.sh.ctl (by omega) (by omega) (by omega) (fun q hq => by omega) (fun q hq => by omega) (.inl ⟨by omega, fun q hq => by omega⟩) (.inl (by omega)))
  refine Wp.t e ⟨h4, h1, ?_, h3⟩
  rw [PMem.lay_steps, h.step_eq (by omega)]
  show out.st ≤ m.steps + 1
  omega

theorem alloc_in {n : Nat} {pi : PIn} {out : PDone} {y : PAlloc} (hB : B ≤ 900000000000) (h : Wp (allocStep (cfA sp) 0) n y m fun a m' => StQ 6 L B a.out m') :
    Wp (actStep (cfA sp) 0) (n + 1) ⟨pi, 1, .alloc y, out⟩ m fun a m' => ActQ L (B + 1) a m' := by
  induction n generalizing y m with
  | zero => exact h.elim
  | succ n ih =>
    have e := at_al (cfA sp) 0 y out m pi
    rcases h.inv with ⟨p1, m1, ep, h⟩ | ⟨p1, m1, ep, h⟩
    · rw [ep] at e
      simp only [cond_true] at e
      exact Wp.f e (Wp.up (out_wp h.1 hB h.2.1 h.2.2.1 h.2.2.2) (fun _ _ hq => hq) (by omega))
    · rw [ep] at e
      simp only [cond_false] at e
      exact Wp.f e (ih h)

theorem drop_in {n : Nat} {pi : PIn} {out : PDone} {y : PDrop} (hB : B ≤ 900000000000) (h : Wp (dropStep (cfA sp) 0) n y m fun a m' => StQ 6 L B a.out m') :
    Wp (actStep (cfA sp) 0) (n + 1) ⟨pi, 1, .drop y, out⟩ m fun a m' => ActQ L (B + 1) a m' := by
  induction n generalizing y m with
  | zero => exact h.elim
  | succ n ih =>
    have e := at_dr (cfA sp) 0 y out m pi
    rw [show decide ((cfA sp).words = 0) = false from rfl] at e
    simp only [cond_false] at e
    rcases h.inv with ⟨p1, m1, ep, h⟩ | ⟨p1, m1, ep, h⟩
    · rw [ep] at e
      simp only [cond_true] at e
      exact Wp.f e (Wp.up (out_wp h.1 hB h.2.1 h.2.2.1 h.2.2.2) (fun _ _ hq => hq) (by omega))
    · rw [ep] at e
      simp only [cond_false] at e
      exact Wp.f e (ih h)

theorem acc_in {n : Nat} {pi : PIn} {out : PDone} {y : PAccess} (hB : B ≤ 900000000000) (h : Wp (accessStep (cfA sp) 0) n y m fun a m' => StQ 6 L B a.out m') :
    Wp (actStep (cfA sp) 0) (n + 1) ⟨pi, 1, .access y, out⟩ m fun a m' => ActQ L (B + 1) a m' := by
  induction n generalizing y m with
  | zero => exact h.elim
  | succ n ih =>
    have e := at_ac (cfA sp) 0 y out m pi
    rcases h.inv with ⟨p1, m1, ep, h⟩ | ⟨p1, m1, ep, h⟩
    · rw [ep] at e
      simp only [cond_true] at e
      exact Wp.f e (Wp.up (out_wp h.1 hB h.2.1 h.2.2.1 h.2.2.2) (fun _ _ hq => hq) (by omega))
    · rw [ep] at e
      simp only [cond_false] at e
      exact Wp.f e (ih h)

theorem bad_wp (h : Inv 6 L B m) {size : Int} (hz : lClass size < 0) {own : Bool} {out : PDone} :
    Wp (allocStep (cfA sp) 0) 1 ⟨size, own, 0, ⟨0, 0, 0, 0, false⟩, 0, 0, none, 0, 0, none, out⟩ m fun a m' => StQ 6 L (B + 60) a.out m' := by
  have e := al_0 (cfA sp) 0 size own false 0 0 0 0 0 0 0 out m
  have d : decide (lClass size < 0) = true := by simpa using hz
  rw [d] at e
  simp only [cond_true] at e
  exact Wp.t e ⟨h.le ⟨h.lo.1, Int.le_refl _⟩ (by omega), h.lo.2, Int.le_refl _, Int.le_refl _, (by show (0 : Int) < 18446744073709551616; omega)⟩

/-- An act, done alone. -/
theorem act_wp (h : Inv 6 L B m) (hB : B ≤ 100000000000) (x1 x2 x3 x4 x5 x6 : Int) (x7 : Bool) (h3 : 0 ≤ x3 ∧ x3 < 18446744073709551616) (h5 : 0 ≤ x5 ∧ x5 ≤ 1099511627775) :
    Wp (actStep (cfA sp) 0) 70 (actMk x1 x2 x3 x4 x5 x6 x7) m fun a m' => ActQ (m.steps + 3) (B + 70) a m' := by
  have hlo := h.lo
  have hhi := h.hi
  unfold actMk
  generalize hwk : workMk x1 x2 x3 x4 x5 x6 x7 = wk
  have e := at_0 (cfA sp) 0 0 wk ⟨0, 0, 0, 0⟩ m
  have l0 := h.ld (who := 0) (a := 0) (by omega)
  rw [show ((0 : Nat) : Int) = 0 from rfl, h.sh.ep] at l0
  rw [l0] at e
  refine Wp.f e ?_
  have t1 := h.touch (who := 0) (a := 0) (by omega)
  have s1 : (m.touch 0 0).steps = m.steps + 1 := by rw [PMem.touch_steps, h.step_eq (by omega)]
  have e := at_1 (cfA sp) 0 0 wk ⟨0, 0, 0, 0⟩ (m.touch 0 0)
  rw [show wrI (6 + 0) = ((6 : Nat) : Int) by decide, show wrU (0 + 1) = 1 by decide, t1.stq (by omega)] at e
  refine Wp.f e ?_
  have t2 := t1.lay' (who := 0) (a := 6) (v := 1) (by omega) (t1.sh.ctl (by omega) (by omega) (by omega) (fun q hq => by omega) (fun q hq => by omega) (.inl ⟨by omega, fun q hq => by omega⟩) (.inl (by omega)))
  have s2 : ((m.touch 0 0).lay 0 ((6 : Nat) : Int) 1).steps = m.steps + 2 := by rw [PMem.lay_steps, t1.step_eq (by omega), s1]; omega
  generalize (m.touch 0 0).lay 0 ((6 : Nat) : Int) 1 = m2 at t2 s2
  have e := at_2 (cfA sp) 0 0 wk ⟨0, 0, 0, 0⟩ m2
  have l2 := t2.ld (who := 0) (a := 0) (by omega)
  rw [show ((0 : Nat) : Int) = 0 from rfl, t2.sh.ep] at l2
  rw [l2] at e
  simp only [decide_true, cond_true] at e
  refine Wp.f e ?_
  have t3 := (t2.touch (who := 0) (a := 0) (by omega)).here
  have s3 : (m2.touch 0 0).steps = m.steps + 3 := by rw [PMem.touch_steps, t2.step_eq (by omega), s2]; omega
  rw [s3] at t3
  generalize m2.touch 0 0 = m3 at t3 s3
  have t3 : Inv 6 (m.steps + 3) (B + 5) m3 := t3.le ⟨by omega, Int.le_refl _⟩ (by omega)
  have up : ∀ {a : PAct} {m' : PMem} {B' : Int}, B' ≤ B + 70 → ActQ (m.steps + 3) B' a m' → ActQ (m.steps + 3) (B + 70) a m' := fun hb hq => ⟨hq.1.le ⟨by omega, Int.le_refl _⟩ hb, hq.2⟩
  subst hwk
  unfold workMk
  by_cases k1 : x1 = 1
  · have d : decide (x1 = 1) = true := by simpa using k1
    rw [d]
    simp only [cond_true]
    by_cases hz : 1 ≤ x2 ∧ x2 ≤ 16
    · exact Wp.up (alloc_in (by omega) (make_wp t3 (by omega) hz)) (fun _ _ hq => up (by omega) hq) (by omega)
    · exact Wp.up (alloc_in (by omega) (bad_wp t3 (by rw [lClass_neg x2 (by omega)]; decide))) (fun _ _ hq => up (by omega) hq) (by omega)
  have d : decide (x1 = 1) = false := by simpa using k1
  rw [d]
  simp only [cond_false]
  by_cases k2 : x1 = 2
  · have d : decide (x1 = 2) = true := by simpa using k2
    rw [d]
    simp only [cond_true]
    exact Wp.up (drop_in (by omega) (drop_wp t3 (by omega) h3)) (fun _ _ hq => up (by omega) hq) (by omega)
  have d : decide (x1 = 2) = false := by simpa using k2
  rw [d]
  simp only [cond_false]
  exact Wp.up (acc_in (by omega) (acc_wp t3 (by omega) h3 h5)) (fun _ _ hq => up (by omega) hq) (by omega)

theorem do_ok (h : Inv 6 L B m) (hB : B ≤ 100000000000) (x1 x2 x3 x4 x5 x6 : Int) (x7 : Bool) (h1 : 1 ≤ x1 ∧ x1 ≤ 5) (h3 : 0 ≤ x3 ∧ x3 < 18446744073709551616) (h5 : 0 ≤ x5 ∧ x5 ≤ 1099511627775) (h6 : 0 ≤ x6 ∧ x6 ≤ 1099511627775) :
    Inv 6 L (B + 70) (doM (cfA sp) 0 m x1 x2 x3 x4 x5 x6 x7).2 ∧ m.steps + 3 ≤ (doM (cfA sp) 0 m x1 x2 x3 x4 x5 x6 x7).1.st ∧ (doM (cfA sp) 0 m x1 x2 x3 x4 x5 x6 x7).1.st ≤ (doM (cfA sp) 0 m x1 x2 x3 x4 x5 x6 x7).2.steps ∧ 0 ≤ (doM (cfA sp) 0 m x1 x2 x3 x4 x5 x6 x7).1.h ∧ (doM (cfA sp) 0 m x1 x2 x3 x4 x5 x6 x7).1.h < 18446744073709551616 := by
  have hok : actOk x1 x5 x6 = true := by unfold actOk; simp; omega
  unfold doM
  rw [hok]
  have := Wp.run (run := actRun (cfA sp) 0) (actRun_succ (cfA sp) 0) (act_wp (sp := sp) h hB x1 x2 x3 x4 x5 x6 x7 h3 h5) (by omega : 70 ≤ 500)
  exact ⟨this.1.le ⟨h.lo.1, by have := h.lo; omega⟩ (Int.le_refl _), this.2⟩

end
end Go.FL

/-
  Memory is made.
-/
set_option linter.unusedVariables false
set_option linter.unusedSimpArgs false
set_option maxRecDepth 100000
set_option linter.unusedSectionVars false
namespace Go.FL

def PMem.store (m : PMem) (a b : Int) : Int × PMem :=
  if a < 0 then (2, m) else if (m.n : Int) ≤ a then (2, m) else (0, m.lay m.who a b)

def mStoreT (m : PMem) (a b : Int) (bot : Prop) (K : Int → PMem → Prop) : Prop :=
  bif decide (a < 0) then
   (m.n = m.n ∧ m.n = m.n ∧ m.n = m.n ∧ m.n = m.n ∧ m.n = m.n) ∧
   K 2 ⟨(m.n), (m.w), (m.t), (m.steps), (m.who), (m.la), (m.lw), (m.lc)⟩
  else
   bif decide (↑m.n ≤ a) then
    (m.n = m.n ∧ m.n = m.n ∧ m.n = m.n ∧ m.n = m.n ∧ m.n = m.n) ∧
    K 2 ⟨(m.n), (m.w), (m.t), (m.steps), (m.who), (m.la), (m.lw), (m.lc)⟩
   else
    bif decide (0 ≤ a ∧ a < ↑m.n) then
     (Int.toNat a < m.n) ∧
     bif !decide (m.w (Int.toNat a) = b) then
      bif decide (0 ≤ a ∧ a < ↑m.n) then
       (Int.toNat a < m.n) ∧
       bif decide (0 ≤ a ∧ a < ↑m.n) then
        (Int.toNat a < m.n) ∧
        (m.n = m.n ∧ m.n = m.n ∧ m.n = m.n ∧ m.n = m.n ∧ m.n = m.n) ∧
        K 0 ⟨(m.n), (fun j => bif Nat.beq j (Int.toNat a) then b else m.w j), (fun j => bif Nat.beq j (Int.toNat a) then IntKind.wrap IntKind.i64 (m.steps + 1) else m.t j), (IntKind.wrap IntKind.i64 (m.steps + 1)), (m.who), (a), (m.who), (!decide (m.w (Int.toNat a) = b))⟩
       else
        bot
      else
       bot
     else
      bif decide (0 ≤ a ∧ a < ↑m.n) then
       (Int.toNat a < m.n) ∧
       (m.n = m.n ∧ m.n = m.n ∧ m.n = m.n ∧ m.n = m.n ∧ m.n = m.n) ∧
       K 0 ⟨(m.n), (fun j => bif Nat.beq j (Int.toNat a) then b else m.w j), (m.t), (IntKind.wrap IntKind.i64 (m.steps + 1)), (m.who), (a), (m.who), (!decide (m.w (Int.toNat a) = b))⟩
      else
       bot
    else
     bot

theorem mStoreT_of (m : PMem) (a b : Int) {K : Int → PMem → Prop} (h : K (m.store a b).1 (m.store a b).2) : mStoreT m a b False K := by
  unfold mStoreT
  by_cases h1 : a < 0
  · simp [PMem.store, h1] at h ⊢
    exact h
  · by_cases h2 : (m.n : Int) ≤ a
    · simp [PMem.store, h1, h2] at h ⊢
      exact h
    · have h3 : 0 ≤ a ∧ a < (m.n : Int) := by omega
      have h4 : a.toNat < m.n := by omega
      by_cases h5 : m.w a.toNat = b
      · simp [PMem.store, PMem.lay, upd, h1, h2, h3, h4, h5] at h ⊢
        exact h
      · simp [PMem.store, PMem.lay, upd, h1, h2, h3, h4, h5] at h ⊢
        exact h

def lCheckK (c1 c2 c3 c4 c5 c6 c7 : Int) (K : Bool → Prop) : Prop :=
  bif decide (1 ≤ c1) then
   bif decide (c1 ≤ 8) then
    bif decide (1 ≤ c2) then
     bif decide (1 ≤ c3) then
      bif decide (c3 ≤ 64) then
       bif decide (17 ≤ c4) then
        bif decide (1 ≤ c5) then
         bif decide (c5 ≤ 65535) then
          bif decide (0 ≤ c6) then
           bif decide (c6 ≤ 1000) then
            bif decide (1 ≤ c7) then
             bif decide (c2 ≤ 65536) then
              bif decide (c4 ≤ 256) then
               K (decide (c7 ≤ 16))
              else
               K false
             else
              K false
            else
             bif decide (c2 ≤ 65536) then
              bif decide (c4 ≤ 256) then
               K false
              else
               K false
             else
              K false
           else
            bif decide (c2 ≤ 65536) then
             bif decide (c4 ≤ 256) then
              K false
             else
              K false
            else
             K false
          else
           bif decide (c2 ≤ 65536) then
            bif decide (c4 ≤ 256) then
             K false
            else
             K false
           else
            K false
         else
          bif decide (c2 ≤ 65536) then
           bif decide (c4 ≤ 256) then
            K false
           else
            K false
          else
           K false
        else
         bif decide (c2 ≤ 65536) then
          bif decide (c4 ≤ 256) then
           K false
          else
           K false
         else
          K false
       else
        bif decide (1 ≤ c5) then
         bif decide (c5 ≤ 65535) then
          bif decide (0 ≤ c6) then
           bif decide (c6 ≤ 1000) then
            bif decide (1 ≤ c7) then
             bif decide (c2 ≤ 65536) then
              K false
             else
              K false
            else
             bif decide (c2 ≤ 65536) then
              K false
             else
              K false
           else
            bif decide (c2 ≤ 65536) then
             K false
            else
             K false
          else
           bif decide (c2 ≤ 65536) then
            K false
           else
            K false
         else
          bif decide (c2 ≤ 65536) then
           K false
          else
           K false
        else
         bif decide (c2 ≤ 65536) then
          K false
         else
          K false
      else
       bif decide (1 ≤ c5) then
        bif decide (c5 ≤ 65535) then
         bif decide (0 ≤ c6) then
          bif decide (c6 ≤ 1000) then
           bif decide (1 ≤ c7) then
            bif decide (c2 ≤ 65536) then
             K false
            else
             K false
           else
            bif decide (c2 ≤ 65536) then
             K false
            else
             K false
          else
           bif decide (c2 ≤ 65536) then
            K false
           else
            K false
         else
          bif decide (c2 ≤ 65536) then
           K false
          else
           K false
        else
         bif decide (c2 ≤ 65536) then
          K false
         else
          K false
       else
        bif decide (c2 ≤ 65536) then
         K false
        else
         K false
     else
      bif decide (1 ≤ c5) then
       bif decide (c5 ≤ 65535) then
        bif decide (0 ≤ c6) then
         bif decide (c6 ≤ 1000) then
          bif decide (1 ≤ c7) then
           bif decide (c2 ≤ 65536) then
            K false
           else
            K false
          else
           bif decide (c2 ≤ 65536) then
            K false
           else
            K false
         else
          bif decide (c2 ≤ 65536) then
           K false
          else
           K false
        else
         bif decide (c2 ≤ 65536) then
          K false
         else
          K false
       else
        bif decide (c2 ≤ 65536) then
         K false
        else
         K false
      else
       bif decide (c2 ≤ 65536) then
        K false
       else
        K false
    else
     bif decide (1 ≤ c3) then
      bif decide (c3 ≤ 64) then
       bif decide (17 ≤ c4) then
        bif decide (1 ≤ c5) then
         bif decide (c5 ≤ 65535) then
          bif decide (0 ≤ c6) then
           bif decide (c6 ≤ 1000) then
            bif decide (1 ≤ c7) then
             K false
            else
             K false
           else
            K false
          else
           K false
         else
          K false
        else
         K false
       else
        bif decide (1 ≤ c5) then
         bif decide (c5 ≤ 65535) then
          bif decide (0 ≤ c6) then
           bif decide (c6 ≤ 1000) then
            bif decide (1 ≤ c7) then
             K false
            else
             K false
           else
            K false
          else
           K false
         else
          K false
        else
         K false
      else
       bif decide (1 ≤ c5) then
        bif decide (c5 ≤ 65535) then
         bif decide (0 ≤ c6) then
          bif decide (c6 ≤ 1000) then
           bif decide (1 ≤ c7) then
            K false
           else
            K false
          else
           K false
         else
          K false
        else
         K false
       else
        K false
     else
      bif decide (1 ≤ c5) then
       bif decide (c5 ≤ 65535) then
        bif decide (0 ≤ c6) then
         bif decide (c6 ≤ 1000) then
          bif decide (1 ≤ c7) then
           K false
          else
           K false
         else
          K false
        else
         K false
       else
        K false
      else
       K false
   else
    bif decide (1 ≤ c3) then
     bif decide (c3 ≤ 64) then
      bif decide (17 ≤ c4) then
       bif decide (1 ≤ c5) then
        bif decide (c5 ≤ 65535) then
         bif decide (0 ≤ c6) then
          bif decide (c6 ≤ 1000) then
           bif decide (1 ≤ c7) then
            K false
           else
            K false
          else
           K false
         else
          K false
        else
         K false
       else
        K false
      else
       bif decide (1 ≤ c5) then
        bif decide (c5 ≤ 65535) then
         bif decide (0 ≤ c6) then
          bif decide (c6 ≤ 1000) then
           bif decide (1 ≤ c7) then
            K false
           else
            K false
          else
           K false
         else
          K false
        else
         K false
       else
        K false
     else
      bif decide (1 ≤ c5) then
       bif decide (c5 ≤ 65535) then
        bif decide (0 ≤ c6) then
         bif decide (c6 ≤ 1000) then
          bif decide (1 ≤ c7) then
           K false
          else
           K false
         else
          K false
        else
         K false
       else
        K false
      else
       K false
    else
     bif decide (1 ≤ c5) then
      bif decide (c5 ≤ 65535) then
       bif decide (0 ≤ c6) then
        bif decide (c6 ≤ 1000) then
         bif decide (1 ≤ c7) then
          K false
         else
          K false
        else
         K false
       else
        K false
      else
       K false
     else
      K false
  else
   bif decide (1 ≤ c3) then
    bif decide (c3 ≤ 64) then
     bif decide (17 ≤ c4) then
      bif decide (1 ≤ c5) then
       bif decide (c5 ≤ 65535) then
        bif decide (0 ≤ c6) then
         bif decide (c6 ≤ 1000) then
          bif decide (1 ≤ c7) then
           K false
          else
           K false
         else
          K false
        else
         K false
       else
        K false
      else
       K false
     else
      bif decide (1 ≤ c5) then
       bif decide (c5 ≤ 65535) then
        bif decide (0 ≤ c6) then
         bif decide (c6 ≤ 1000) then
          bif decide (1 ≤ c7) then
           K false
          else
           K false
         else
          K false
        else
         K false
       else
        K false
      else
       K false
    else
     bif decide (1 ≤ c5) then
      bif decide (c5 ≤ 65535) then
       bif decide (0 ≤ c6) then
        bif decide (c6 ≤ 1000) then
         bif decide (1 ≤ c7) then
          K false
         else
          K false
        else
         K false
       else
        K false
      else
       K false
     else
      K false
   else
    bif decide (1 ≤ c5) then
     bif decide (c5 ≤ 65535) then
      bif decide (0 ≤ c6) then
       bif decide (c6 ≤ 1000) then
        bif decide (1 ≤ c7) then
         K false
        else
         K false
       else
        K false
      else
       K false
     else
      K false
    else
     K false

/-- Which arenas may be. -/
def lCheck (c1 c2 c3 c4 c5 c6 c7 : Int) : Bool := decide (1 ≤ c1) && (decide (c1 ≤ 8) && (decide (1 ≤ c2) && (decide (1 ≤ c3) && (decide (c3 ≤ 64) && (decide (17 ≤ c4) && (decide (1 ≤ c5) && (decide (c5 ≤ 65535) && (decide (0 ≤ c6) && (decide (c6 ≤ 1000) &&
  (decide (1 ≤ c7) && (decide (c2 ≤ 65536) && (decide (c4 ≤ 256) && decide (c7 ≤ 16)))))))))))))

theorem cond_and {K : Bool → Prop} {b x : Bool} : (bif b then K x else K false) = K (b && x) := by cases b <;> rfl

theorem cond_same {p : Prop} {b : Bool} : (bif b then p else p) = p := by cases b <;> rfl

theorem lCheckK_eq (c1 c2 c3 c4 c5 c6 c7 : Int) (K : Bool → Prop) : lCheckK c1 c2 c3 c4 c5 c6 c7 K = K (lCheck c1 c2 c3 c4 c5 c6 c7) := by
  unfold lCheckK lCheck
  simp only [cond_same, cond_and]

def newMem (n : Int) : PMem := ⟨n.toNat, fun _ => 0, fun _ => 0, 0, 0, 0, 0, false⟩

end Go.FL

namespace Go.Proofs.Ytmhakaeahefmbaa
open Go Go.FL Go.Proofs
variable [Go.FL.Fz]

theorem lCheck_ev (c1 c2 c3 c4 c5 c6 c7 : Int) (K : Bool → Prop) : evF Try.prog own6 10 20 26 [.agg [.int .i64 c1, .int .i64 c2, .int .i64 c3, .int .i64 c4, .int .i64 c5, .int .i64 c6, .int .i64 c7]] ⟨[], []⟩ (fun v _ => match v with
    | .c (.bool x) => K x
    | _ => False) = lCheckK c1 c2 c3 c4 c5 c6 c7 K := by kernel_rfl

def h_lCheck : Hd := fun args H K => match args with
  | [.agg [.int .i64 c1, .int .i64 c2, .int .i64 c3, .int .i64 c4, .int .i64 c5, .int .i64 c6, .int .i64 c7]] => K (.c (.bool (lCheck c1 c2 c3 c4 c5 c6 c7))) H
  | _ => False

theorem h_lCheck_ok : HOK 26 h_lCheck := by
  intro args H K h
  unfold h_lCheck at h
  split at h
  · rename_i c1 c2 c3 c4 c5 c6 c7
    have e := lCheck_ev c1 c2 c3 c4 c5 c6 c7 (fun x => K (.c (.bool x)) H)
    rw [lCheckK_eq] at e
    have e := e.mpr h
    refine pure_ok (fuel := 10) (d := 20) own6_ok rfl e ?_
    intro v H₁ hv
    split at hv
    · exact ⟨rfl, hv⟩
    · exact hv.elim
  · exact h.elim

theorem mStore_ev (m : PMem) (a b : Int) (K : Int → PMem → Prop) : evF Try.prog own6 10 20 29 [.c (.ptr 0 0), .c (.int .i64 a), .c (.int .u64 b)] ⟨cat [(true, .mem m)] 0, []⟩ (fun v H => match v with
    | .c (.int .i64 e) => (shMem H 0 fun m' c' => match chkAll [(true, .mem m)] [c'] [] with | true => K e m' | false => False)
    | _ => False) = mStoreT m a b False K := by kernel_rfl

def h_mStore : Hd := fun args H K => match args with
  | [.c (.ptr m 0), .c (.int .i64 a), .c (.int .u64 b)] => match H.get m with
    | some (.obj (.mem pm)) => K (.c (.int .i64 (pm.store a b).1)) (H.put m (.obj (.mem (pm.store a b).2)))
    | _ => False
  | _ => False

theorem h_mStore_ok : HOK 29 h_mStore := by
  intro args H K h
  unfold h_mStore at h
  split at h
  · rename_i m a b
    split at h
    · rename_i pm hm
      have e := (mStore_ev pm a b (fun e m' => K (.c (.int .i64 e)) (H.put m (.obj (.mem m'))))).mpr (mStoreT_of pm a b h)
      refine objs_ok own6_ok (ns := [m]) (xs := [(true, .mem pm)]) rfl (get_one hm) (by simp) ?_ e ?_
      · intro s s₁ vs hh hr
        have e0 := hh 0 m rfl
        simp only [base] at e0
        exact rel_args1 (rel_ptr e0) hr
      · intro v₁ H₁ hk
        split at hk
        · obtain ⟨m', c', hk, hc⟩ := shMem_ok hk
          split at hk
          · rename_i hchk
            exact ⟨[c'], [(true, .mem m')], [], [], _, hchk, ⟨hc, trivial⟩, trivial, fun _ _ _ _ _ h => RelV.low rfl h, hk⟩
          · exact hk.elim
        · exact hk.elim
    · exact h.elim
  · exact h.elim

theorem memNew_ev (n : Int) (K : Option PMem → Int → Prop) : evF Try.prog own6 10 20 27 [.c (.int .i64 n)] ⟨[], []⟩ (fun v H₁ => match v with
    | .tup [.c .nilp, .c (.int .i64 e)] => K none e
    | .tup [.c (.ptr i 0), .c (.int .i64 e)] => (shMem H₁ i fun x c => match chkAll [] [] [c] && headOK i c with
      | true => K (some x) e
      | false => False)
    | _ => False) = (bif decide (n < 1) then K none 1 else bif decide (1048576 < n) then K none 1 else
      (((IntKind.u64 = IntKind.u64 ∧ 1 = 1 ∧ 8 ≤ 8) ∧ n = n ∧ 0 ≤ n ∧ n ≤ 1048576) ∧ ((IntKind.i64 = IntKind.i64 ∧ 1 = 1 ∧ 8 ≤ 8) ∧ n = n ∧ 0 ≤ n ∧ n ≤ 1048576) ∧
        (n.toNat = n.toNat ∧ n.toNat = n.toNat ∧ n.toNat = n.toNat ∧ n.toNat = n.toNat ∧ n.toNat = n.toNat) ∧ K (some (newMem n)) 0) ∧
      (((IntKind.i64 = IntKind.i64 ∧ 1 = 1 ∧ 8 ≤ 8) ∧ n = n ∧ 0 ≤ n ∧ n ≤ 1048576) ∧ ((IntKind.u64 = IntKind.u64 ∧ 1 = 1 ∧ 8 ≤ 8) ∧ n = n ∧ 0 ≤ n ∧ n ≤ 1048576) ∧
        (n.toNat = n.toNat ∧ n.toNat = n.toNat ∧ n.toNat = n.toNat ∧ n.toNat = n.toNat ∧ n.toNat = n.toNat) ∧ K (some (newMem n)) 0)) := by kernel_rfl

def h_memNew : Hd := fun args H K => match args with
  | [.c (.int .i64 n)] => match decide (n < 1) || decide (1048576 < n) with
    | true => K (.tup [.c .nilp, .c (cI 1)]) H
    | false => K (.tup [.c (.ptr H.len 0), .c (cI 0)]) (H.new (.obj (.mem (newMem n))))
  | _ => False

/-- Something that makes an object, or says why not. -/
theorem new2_ok {own : FuncId → Option Hd} {b : Bool} {f : FuncId} {R : Type} {mk : R → Ob} {sh : LH → Nat → (R → List Nat → Prop) → Prop}
    (hsh : ∀ H n k, sh H n k → ∃ x c, k x c ∧ Clus H c (b, mk x)) {args : List LV} {H : LH} {K : LV → LH → Prop} (hlow : lowVs args = true)
    (hev : (∃ fn, Try.prog.funcs[f]? = some fn ∧ fn.body.isSome = true) ∧ CSpec Try.prog f args ⟨[], []⟩ (fun v H₁ => match v with
      | .tup [.c .nilp, .c (.int .i64 e)] => K (.tup [.c .nilp, .c (cI e)]) H
      | .tup [.c (.ptr i 0), .c (.int .i64 e)] => (sh H₁ i fun x c => match chkAll [] [] [c] && headOK i c with
        | true => K (.tup [.c (.ptr H.len 0), .c (cI e)]) (H.new (.obj (mk x)))
        | false => False)
      | _ => False)) :
    (∃ fn, Try.prog.funcs[f]? = some fn ∧ fn.body.isSome = true) ∧ CSpec Try.prog f args H K := by
  refine objs_of (ns := []) (xs := []) rfl (by simp) List.nodup_nil (fun s s₁ vs _ h => RelVs.low hlow h) hev ?_
  intro v₁ H₁ hk
  split at hk
  · rename_i e'
    exact ⟨[], [], [], [], .tup [.c .nilp, .c (cI e')], rfl, trivial, trivial, fun s₁ s' v' _ _ hr => RelV.low rfl hr, hk⟩
  · rename_i i e'
    obtain ⟨x, c, hk, hc⟩ := hsh _ _ _ hk
    split at hk
    · rename_i hchk
      simp only [Bool.and_eq_true] at hchk
      obtain ⟨h1, h2⟩ := hchk
      refine ⟨[], [], [c], [(b, mk x)], .tup [.c (.ptr H.len 0), .c (cI e')], h1, trivial, ⟨hc, trivial⟩, ?_, hk⟩
      intro s₁ s' v' _ hd' hr
      have h0 : c[0]? = some i := by
        unfold headOK at h2
        split at h2
        · have := Nat.eq_of_beq_eq_true h2; simp [this]
        · cases h2
      have := hd' 0 c i rfl h0
      simp only [Nat.add_zero] at this
      obtain ⟨vs, rfl, hr⟩ := hr
      refine ⟨vs, rfl, ?_⟩
      generalize vs.toList = us at hr ⊢
      match us, hr with
      | [u, v], ⟨h3, h4, _⟩ =>
        refine ⟨?_, h4, trivial⟩
        obtain ⟨r, h5, h6⟩ := h3
        exact ⟨r, by rw [this]; exact h5, h6⟩
    · exact hk.elim
  · exact hk.elim

theorem h_memNew_ok : HOK 27 h_memNew := by
  intro args H K h
  unfold h_memNew at h
  split at h
  · rename_i n
    refine new2_ok (own := own6) (mk := .mem) (fun _ _ _ => shMem_ok) rfl (evF_ok fnOK mixed own6_ok 10 20 _ _ _ _ ((memNew_ev n (fun o e => match o with
      | some x => K (.tup [.c (.ptr H.len 0), .c (cI e)]) (H.new (.obj (.mem x)))
      | none => K (.tup [.c .nilp, .c (cI e)]) H)).mpr ?_))
    by_cases h1 : n < 1
    · simp only [h1, decide_true, Bool.true_or, cond_true] at h ⊢
      exact h
    · by_cases h2 : 1048576 < n
      · simp only [h1, h2, decide_true, decide_false, Bool.or_true, cond_true, cond_false] at h ⊢
        exact h
      · simp only [h1, h2, decide_false, Bool.or_false, cond_false, true_and, and_self, Nat.le_refl] at h ⊢
        have h3 : 0 ≤ n := by omega
        have h4 : n ≤ 1048576 := by omega
        exact ⟨⟨h3, h4⟩, ⟨h3, h4⟩, h⟩
  · exact h.elim

def tab7 : List (FuncId × Hd) := (26, h_lCheck) :: (29, h_mStore) :: (27, h_memNew) :: tab6

def own7 : FuncId → Option Hd := look tab7

theorem all7 : AllOK tab7 := ⟨h_lCheck_ok, h_mStore_ok, h_memNew_ok, all6⟩

theorem own7_ok : OwnOK Try.prog own7 := look_ok all7

end Go.Proofs.Ytmhakaeahefmbaa
