/- What the abstract run says of the model: a region in any order: what is known at a place. -/
import Derived.Test.YtpbjdbdlfobpmaaGreatEngZd
namespace Go.Eng
open Go Go.RowKit
section
variable {Q : Tab} {cf : CallF} {nt : Nat} {ops : Array Oper} {bs : T Nat} {tr : List It} {fr0 fr' : Fr} {h0 h' : Hp}
/-- all that is known of an operation at its place -/
structure ItF (Q : Tab) (cf : CallF) (nt : Nat) (ops : Array Oper) (bs : T Nat) (tr : List It) (fr0 : Fr) (h0 : Hp) (j : Nat) (it : It) : Prop where
  op : ops[j]? = some it.o
  mask : bs.get j = some it.b
  h : it.h = hAt tr h0 j
  step : (it.wt = false ∧ wantA ops it.fr it.o = some false ∧ it.kd = 0 ∧ it.x = unit ∧ it.h2 = it.h) ∨
   (it.wt = true ∧ wantA ops it.fr it.o = some true ∧
     ((it.kd = 0 ∧ quietO it.fr it.o = true ∧ (∃ h1, opA Q cf it.fr it.o it.hb = some (it.x, h1)) ∧ nbA it.h.nx it.x = true ∧ it.h2 = it.h) ∨
      (it.kd = 1 ∧ birthK it.o.op = true ∧ opA Q cf it.fr it.o it.h = some (it.x, it.h2) ∧ nbA it.h2.nx it.x = true) ∨
      (it.kd = 2 ∧ (∀ p q, p < j → tr[p]? = some q → q.kd ≠ 0 → it.b.testBit p = true) ∧ opA Q cf it.fr it.o it.h = some (it.x, it.h2) ∧ nbA it.h2.nx it.x = true ∧ it.h.nx ≤ it.h2.nx)))
  frame : ∀ t v, it.fr.get t = some v → (∃ p q, p < j ∧ tr[p]? = some q ∧ q.o.dst = some t ∧ v = q.x) ∨ ((∀ p q, p < j → tr[p]? = some q → q.o.dst ≠ some t) ∧ fr0.get t = some v)
  hb : ∀ c, c ≤ j → (c = 0 ∨ ∃ q, tr[c - 1]? = some q ∧ q.kd = 2) → (∀ p q, c ≤ p → p < j → tr[p]? = some q → q.kd ≠ 2) → it.hb = hAt tr h0 c
  lt : ∀ d, it.o.dst = some d → d < nt
theorem item_ok (H : TrOk Q cf nt ops bs tr 0 0 fr0 h0 h0 fr' h') {j : Nat} {it : It} (hj : tr[j]? = some it) : ItF Q cf nt ops bs tr fr0 h0 j it := by
  have hlt : j < tr.length := (List.getElem?_eq_some_iff.1 hj).1
  obtain ⟨mc, frc, hbc, k1, _, k3, k4, k5, _⟩ := H.from j (Nat.le_of_lt hlt)
  have hdrop : tr.drop j = it :: tr.drop (j + 1) := by
    rw [List.drop_eq_getElem_cons hlt]
    congr 1
    rw [List.getElem?_eq_getElem hlt] at hj
    exact Option.some.inj hj
  rw [hdrop, Nat.zero_add] at k1
  obtain ⟨g1, g2, ⟨e1, e2, e3, g3⟩, fr1, g4, _⟩ := k1
  subst e1
  refine ⟨g1, g2, e3, ?_, k4, fun c hc hcut hno => ?_, fun d hd => ?_⟩
  · rw [← e2, ← e3] at g3
    rcases g3 with g3 | ⟨w1, w2, g3 | g3 | ⟨a1, a2, a3⟩⟩
    · exact .inl g3
    · exact .inr ⟨w1, w2, .inl g3⟩
    · exact .inr ⟨w1, w2, .inr (.inl g3)⟩
    · refine .inr ⟨w1, w2, .inr (.inr ⟨a1, fun p q hp hq hk => ?_, a3⟩)⟩
      have := k3 p q hp hq hk
      rw [Nat.zero_add] at this
      rw [← a2, Nat.testBit_and] at this
      simp only [Bool.and_eq_true] at this
      exact this.2
  · rw [e2]
    rcases hcut with rfl | ⟨q, hq, hk⟩
    · exact (k5 0 (Nat.zero_le _)).1 ⟨rfl, fun p q hp hq => hno p q (Nat.zero_le _) hp hq⟩
    · cases c with
      | zero => exact (k5 0 (Nat.zero_le _)).1 ⟨rfl, fun p q hp hq => hno p q (Nat.zero_le _) hp hq⟩
      | succ c =>
        have hq' : tr[c]? = some q := by simpa using hq
        rw [(k5 c (by omega)).2 q hq' (by omega) hk (fun p q' hp hp' hq' => hno p q' (by omega) hp' hq')]
        simp only [hAt, hq']
  · rw [hd] at g4
    exact putA_lt g4
theorem hAt_succ {j : Nat} {it : It} (hj : tr[j]? = some it) : hAt tr h0 (j + 1) = it.h2 := by simp only [hAt, hj]
theorem ItF.nx {j : Nat} {it : It} (F : ItF Q cf nt ops bs tr fr0 h0 j it) : it.h.nx ≤ it.h2.nx := by
  rcases F.step with ⟨_, _, _, _, e⟩ | ⟨_, _, ⟨_, _, _, _, e⟩ | ⟨_, hb, hop, _⟩ | ⟨_, _, _, _, e⟩⟩
  · rw [e]; exact Nat.le_refl _
  · rw [e]; exact Nat.le_refl _
  · obtain ⟨r0, obj, hn, _⟩ := birth_new hb hop
    have := (newA_get hn).2.1
    omega
  · exact e
theorem ItF.nb {j : Nat} {it : It} (F : ItF Q cf nt ops bs tr fr0 h0 j it) : nbA it.h2.nx it.x = true := by
  rcases F.step with ⟨_, _, _, e, _⟩ | ⟨_, _, ⟨_, _, _, e, e2⟩ | ⟨_, hb, hop, e⟩ | ⟨_, _, _, e, _⟩⟩
  · rw [e]; rfl
  · rw [e2]; exact e
  · exact e
  · exact e
theorem nx_mono (H : TrOk Q cf nt ops bs tr 0 0 fr0 h0 h0 fr' h') (c : Nat) : ∀ d, c + d ≤ tr.length → (hAt tr h0 c).nx ≤ (hAt tr h0 (c + d)).nx
  | 0, _ => Nat.le_refl _
  | d + 1, hd => by
    have hlt : c + d < tr.length := by omega
    have hj : tr[c + d]? = some tr[c + d] := List.getElem?_eq_getElem hlt
    have F := item_ok H hj
    have := nx_mono H c d (by omega)
    rw [show c + (d + 1) = c + d + 1 by omega, hAt_succ hj]
    have h2 := F.nx
    rw [F.h] at h2
    omega
theorem nx_le (H : TrOk Q cf nt ops bs tr 0 0 fr0 h0 h0 fr' h') {c d : Nat} (h : c ≤ d) (hd : d ≤ tr.length) : (hAt tr h0 c).nx ≤ (hAt tr h0 d).nx := by
  obtain ⟨k, rfl⟩ := Nat.exists_eq_add_of_le h
  exact nx_mono H c k hd

/-! ### the heaps at which a reading may come -/
def headOf (l : List (Nat × It)) : Option Nat := l.head?.map (·.1)
theorem phOk_at {q : It} {iq : Nat} : ∀ {tr : List It} {i : Nat} {pb : Option (Nat × Nat)} {H : Hp}, phOk Q cf q iq pb H (effs tr i) = true →
    oneOk Q cf q iq pb H (headOf (effs tr i)) = true ∧ ∀ p it, tr[p]? = some it → it.kd = 2 → oneOk Q cf q iq (some (i + p, it.b)) it.h2 (headOf (effs (tr.drop (p + 1)) (i + p + 1))) = true
  | [], i, pb, H, e => ⟨by simpa [effs, phOk, headOf] using e, fun p it h => by simp at h⟩
  | it :: r, i, pb, H, e => by
    simp only [effs] at e ⊢
    split at e
    · rename_i hk
      simp only [phOk] at e
      split at e
      · rename_i h1
        obtain ⟨g1, g2⟩ := phOk_at e
        refine ⟨h1, fun p it' hp hk' => ?_⟩
        cases p with
        | zero => simp at hp; subst hp; exact g1
        | succ p =>
          have := g2 p it' (by simpa using hp) hk'
          rw [show i + (p + 1) = i + 1 + p by omega]
          simpa using this
      · cases e
    · rename_i hk
      obtain ⟨g1, g2⟩ := phOk_at e
      refine ⟨g1, fun p it' hp hk' => ?_⟩
      cases p with
      | zero => simp at hp; subst hp; rw [hk'] at hk; cases hk
      | succ p =>
        have := g2 p it' (by simpa using hp) hk'
        rw [show i + (p + 1) = i + 1 + p by omega]
        simpa using this
theorem headOf_some : ∀ {tr : List It} {i e : Nat}, headOf (effs tr i) = some e → ∃ p it, e = i + p ∧ tr[p]? = some it ∧ it.kd = 2 ∧ ∀ p' it', p' < p → tr[p']? = some it' → it'.kd ≠ 2
  | [], i, e, h => by simp [effs, headOf] at h
  | it :: r, i, e, h => by
    simp only [effs] at h
    split at h
    · rename_i hk
      have : e = i := by simpa [headOf] using h.symm
      exact ⟨0, it, by omega, rfl, Nat.eq_of_beq_eq_true hk, fun p' it' hp => by omega⟩
    · rename_i hk
      obtain ⟨p, it', h1, h2, h3, h4⟩ := headOf_some h
      refine ⟨p + 1, it', by omega, by simpa using h2, h3, fun p' q hp hq => ?_⟩
      cases p' with
      | zero => simp at hq; subst hq; intro e; rw [e] at hk; cases hk
      | succ p' => exact h4 p' q (by omega) (by simpa using hq)
theorem headOf_none : ∀ {tr : List It} {i : Nat}, headOf (effs tr i) = none → ∀ (p : Nat) (it : It), tr[p]? = some it → it.kd ≠ 2
  | [], i, _, p, it, h => by simp at h
  | x :: r, i, h, p, it, hp => by
    simp only [effs] at h
    split at h
    · simp [headOf] at h
    · rename_i hk
      cases p with
      | zero => simp at hp; subst hp; intro e; rw [e] at hk; cases hk
      | succ p => exact headOf_none h p it (by simpa using hp)
theorem chkAll_at {h0 : Hp} {es : List (Nat × It)} : ∀ {tr : List It} {i : Nat}, chkAll Q cf h0 es tr i = true → ∀ p q, tr[p]? = some q → lookK q = true → phOk Q cf q (i + p) none h0 es = true
  | x :: r, i, e, p, q, hp, hk => by
    simp only [chkAll] at e
    cases p with
    | zero =>
      simp at hp; subst hp
      rw [hk] at e
      simp only at e
      split at e
      · rename_i h; exact h
      · cases e
    | succ p =>
      have hr : chkAll Q cf h0 es r (i + 1) = true := by
        split at e
        · split at e
          · exact e
          · cases e
        · exact e
      rw [show i + (p + 1) = i + 1 + p by omega]
      exact chkAll_at hr p q (by simpa using hp) hk
  | [], i, e, p, q, hp, hk => by simp at hp
/-- what a quiet operation gives at the heap of a cut -/
theorem quiet_at (H : TrOk Q cf nt ops bs tr 0 0 fr0 h0 h0 fr' h') (hch : chkAll Q cf h0 (effs tr 0) tr 0 = true) {j c : Nat} {it : It} (hj : tr[j]? = some it) (hk : it.kd = 0) (hw : it.wt = true) (hcut : c = 0 ∨ ∃ q, tr[c - 1]? = some q ∧ q.kd = 2)
    (hprev : ∀ q, 0 < c → tr[c - 1]? = some q → q.kd = 2 → q.b.testBit j = false) (hnext : ∀ p q, c ≤ p → tr[p]? = some q → q.kd = 2 → it.b.testBit p = false) :
    ∃ h1, opA Q cf it.fr it.o (hAt tr h0 c) = some (it.x, h1) := by
  have F := item_ok H hj
  have hq : ∃ h1, opA Q cf it.fr it.o it.hb = some (it.x, h1) := by
    rcases F.step with ⟨e, _⟩ | ⟨_, _, ⟨_, _, e, _⟩ | ⟨e, _⟩ | ⟨e, _⟩⟩
    · rw [hw] at e; cases e
    · exact e
    · rw [hk] at e; cases e
    · rw [hk] at e; cases e
  obtain ⟨h1, hq⟩ := hq
  cases hfree : freeO it.fr it.o with
  | true => exact ⟨_, free_at hfree hq⟩
  | false =>
    have hlook : lookK it = true := by unfold lookK; rw [hk, hw, hfree]; rfl
    have hph := chkAll_at hch j it hj hlook
    rw [Nat.zero_add] at hph
    obtain ⟨g1, g2⟩ := phOk_at hph
    -- the phase of the cut
    have hone : oneOk Q cf it j (if c = 0 then none else (tr[c - 1]?).map fun q => (c - 1, q.b)) (hAt tr h0 c) (headOf (effs (tr.drop c) c)) = true := by
      rcases hcut with rfl | ⟨q, hq1, hq2⟩
      · exact g1
      · cases c with
        | zero => exact g1
        | succ c =>
          have hq1' : tr[c]? = some q := by simpa using hq1
          have := g2 c q hq1' hq2
          rw [if_neg (by omega), hAt_succ hq1']
          simpa [hq1'] using this
    unfold oneOk at hone
    split at hone
    · rename_i hor
      simp only [Bool.or_eq_true, Bool.and_eq_true] at hor
      rcases hor with (hor | hor) | ⟨ha, hbh⟩
      · exfalso
        rcases hcut with rfl | ⟨q, hq1, hq2⟩
        · cases hor
        · cases c with
          | zero => cases hor
          | succ c =>
            have hq1' : tr[c]? = some q := by simpa using hq1
            rw [if_neg (by omega)] at hor
            have := hprev q (by omega) hq1 hq2
            simp only [Nat.add_sub_cancel, hq1', Option.map_some, prevHas] at hor
            rw [hor] at this; cases this
      · exfalso
        cases hh : headOf (effs (tr.drop c) c) with
        | none => rw [hh] at hor; cases hor
        | some e =>
          rw [hh] at hor
          obtain ⟨p, q, rfl, h2, h3, _⟩ := headOf_some hh
          rw [List.getElem?_drop] at h2
          have := hnext (c + p) q (by omega) h2 h3
          simp only [nextIn] at hor
          rw [hor] at this; cases this
      · refine ⟨h1, ?_⟩
        have hcj : c ≤ j := by
          rcases hcut with rfl | ⟨q, hq1, hq2⟩
          · omega
          · cases c with
            | zero => omega
            | succ c =>
              have hq1' : tr[c]? = some q := by simpa using hq1
              rw [if_neg (by omega)] at ha
              simp only [Nat.add_sub_cancel, hq1', Option.map_some, aheadOf, Nat.blt_eq] at ha
              omega
        rw [← F.hb c hcj hcut (fun p q hp hp' hq1 hq2 => ?_)]
        · exact hq
        · cases hh : headOf (effs (tr.drop c) c) with
          | none =>
            have := headOf_none hh (p - c) q (by rw [List.getElem?_drop, show c + (p - c) = p by omega]; exact hq1)
            exact this hq2
          | some e =>
            rw [hh] at hbh
            obtain ⟨p2, q2, rfl, h2, h3, h4⟩ := headOf_some hh
            simp only [behindOf, Nat.blt_eq] at hbh
            exact h4 (p - c) q (by omega) (by rw [List.getElem?_drop, show c + (p - c) = p by omega]; exact hq1) hq2
    · unfold sameAt at hone
      split at hone
      · rename_i x h2 hop
        rw [eqAV_eq hone] at hop
        exact ⟨h2, hop⟩
      · cases hone
end
end Go.Eng
