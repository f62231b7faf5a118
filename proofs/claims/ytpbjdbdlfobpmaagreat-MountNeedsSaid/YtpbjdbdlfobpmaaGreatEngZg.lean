/- What the abstract run says of the model: a region in any order. -/
import Derived.Test.YtpbjdbdlfobpmaaGreatEngZf
namespace Go.Eng
open Go Go.RowKit
section
variable {Q : Tab} {cf : CallF} {nt : Nat} {ops : Array Oper} {bs : T Nat} {tr : List It} {fr0 fr' : Fr} {h0 h' : Hp} {B : Nat → Prop} {ρ0 E : Env} {w0 w : World} {listed : Array Bool} {a : Act} {c : Nat}
theorem HR.weaken {B S : Nat → Prop} {ρ : Env} {h : Hp} {w : World} (H : HR S ρ h w) (hs : ∀ k, B k → S k) : HR B ρ h w :=
  ⟨fun r o e a => let ⟨x, k1, k2, k3⟩ := H.live r o e a; ⟨x, k1, fun hb => k2 (hs _ hb), k3⟩, H.apart, H.fresh, fun j hj => H.base j (hs j hj)⟩
theorem birth_item {j : Nat} {it : It} (F : ItF Q cf nt ops bs tr fr0 h0 j it) (hk : it.kd = 1) : it.h2.nx = it.h.nx + 1 := by
  rcases F.step with ⟨_, _, e, _⟩ | ⟨_, _, ⟨e, _⟩ | ⟨_, hb, hop, _⟩ | ⟨e, _⟩⟩
  · omega
  · omega
  · obtain ⟨r0, o0, hn0, _⟩ := birth_new hb hop; exact (newA_get hn0).2.1
  · omega
theorem still_item {j : Nat} {it : It} (F : ItF Q cf nt ops bs tr fr0 h0 j it) (hk : it.kd = 0) : it.h2 = it.h := by
  rcases F.step with ⟨_, _, _, _, e⟩ | ⟨_, _, ⟨_, _, _, _, e⟩ | ⟨e, _⟩ | ⟨e, _⟩⟩
  · exact e
  · exact e
  · omega
  · omega
variable (H : TrOk Q cf nt ops bs tr 0 0 fr0 h0 h0 fr' h')
include H
theorem kd_cases {j : Nat} {it : It} (hj : tr[j]? = some it) : it.kd = 0 ∨ it.kd = 1 ∨ it.kd = 2 := by
  rcases (item_ok H hj).step with ⟨_, _, e, _⟩ | ⟨_, _, ⟨e, _⟩ | ⟨e, _⟩ | ⟨e, _⟩⟩
  · exact .inl e
  · exact .inl e
  · exact .inr (.inl e)
  · exact .inr (.inr e)
/-- the blocks that were made get their names -/
theorem name_all (D : DI Q cf nt ops tr fr0 h0 B ρ0 w0 listed a w E c) : ∀ d, c + d ≤ tr.length → (∀ i it, c ≤ i → i < c + d → tr[i]? = some it → it.kd ≠ 0 → Lst listed i) →
    HR B (E.upto (hAt tr h0 (c + d)).nx) (hAt tr h0 (c + d)) w ∧ ∀ r o, (hAt tr h0 (c + d)).t.get r = some o → alive o = true → (∃ o', (hAt tr h0 c).t.get r = some o' ∧ alive o' = true) ∨ ∃ i it, c ≤ i ∧ i < c + d ∧ tr[i]? = some it ∧ it.kd = 1 ∧ r = it.h.nx
  | 0, _, _ => ⟨D.hr, fun r o hg ha => .inl ⟨o, hg, ha⟩⟩
  | d + 1, hd, hall => by
    obtain ⟨ih1, ih2⟩ := name_all D d (by omega) (fun i it hi hi' => hall i it hi (by omega))
    have hlt : c + d < tr.length := by omega
    have hj : tr[c + d]? = some tr[c + d] := List.getElem?_eq_getElem hlt
    generalize tr[c + d] = it at hj
    have F := item_ok H hj
    rw [show c + (d + 1) = c + d + 1 by omega, hAt_succ hj]
    rcases kd_cases H hj with hk | hk | hk
    · rw [still_item F hk, F.h]
      exact ⟨ih1, fun r o hg ha => (ih2 r o hg ha).imp id fun ⟨i, it, k1, k2, k3⟩ => ⟨i, it, k1, by omega, k3⟩⟩
    · have hL := hall (c + d) it (by omega) (by omega) hj (by omega)
      obtain ⟨x, obj, hn, hal, hE, hB, hxw, hor, hnamed⟩ := D.pend (c + d) it (by omega) hj hk hL
      have hnx := birth_item F hk
      rw [← F.h] at ih1 ih2
      have hset : (E.upto it.h.nx).set it.h.nx x = E.upto it.h2.nx := by
        funext r
        unfold Env.set Env.upto
        by_cases h : r = it.h.nx
        · subst h; rw [if_pos rfl, if_pos (by omega)]; exact hE.symm
        · rw [if_neg h]
          by_cases h2 : r < it.h.nx
          · rw [if_pos h2, if_pos (by omega)]
          · rw [if_neg h2, if_neg (by omega)]
      have key := ih1.new (x := x) (w' := w) hn hB (fun q p y hg ha hy => ⟨?_, rfl⟩) (Nat.le_refl _) (by rw [hset]; exact hor)
      · rw [hset] at key
        refine ⟨key.1, fun r o hg ha => ?_⟩
        rw [(newA_get hn).2.2] at hg
        by_cases h : r = it.h.nx
        · exact .inr ⟨c + d, it, by omega, by omega, hj, hk, h⟩
        · rw [if_neg h] at hg
          exact (ih2 r o hg ha).imp id fun ⟨i, it, k1, k2, k3⟩ => ⟨i, it, k1, by omega, k3⟩
      · have hqlt : q < it.h.nx := by
          rcases Nat.lt_or_ge q it.h.nx with h | h
          · exact h
          · rw [(ih1.fresh q h).2] at hg; cases hg
        rw [upto_at hqlt] at hy
        rcases ih2 q p hg ha with ⟨o', g1, g2⟩ | ⟨i, it', g1, g2, g3, g4, rfl⟩
        · exact hnamed q o' y g1 g2 hy
        · intro hyx
          have := D.pdis i it' (c + d) it y x g1 g3 g4 (hall i it' g1 (by omega) g3 (by omega)) (by omega) hj hk hL hy hE hyx
          omega
    · exact absurd (hall (c + d) it (by omega) (by omega) hj (by omega)) (D.rest (c + d) it (by omega) hj hk)
variable (hst : ∀ j o, ops[j]? = some o → StatAt ops bs j o)
include hst
/-- behind an effect -/
theorem effect_step (D : DI Q cf nt ops tr fr0 h0 B ρ0 w0 listed a w E c) {j : Nat} {it : It} (hj : tr[j]? = some it) (hjs : j < listed.size) (hun : ¬ Lst listed j) (hdep : ∀ e ∈ it.o.after, Region.binds .any e = true → Lst listed e.on) (hk : it.kd = 2) {K : Act → World → Prop} {Qx : Exit → Act → World → Prop}
    (run : ∀ S : Nat → Prop, (∀ k, B k → S k) → HR S (E.upto it.h.nx) it.h w → (∀ (ρ' : Env) c0 w', (E.upto it.h.nx).le ρ' → cv ρ' it.x = some c0 → HR S ρ' it.h2 w' → Below S w w' → K (a.put it.o.dst c0) w') → it.o.wp Q.P a w K Qx)
    (next : ∀ a' w' E' c', DI Q cf nt ops tr fr0 h0 B ρ0 w0 (listed.setIfInBounds j true) a' w' E' c' → K a' w') : it.o.wp Q.P a w K Qx := by
  have hjl : j < tr.length := (List.getElem?_eq_some_iff.1 hj).1
  have F := item_ok H hj
  have hcj : c ≤ j := by
    rcases Nat.lt_or_ge j c with h | h
    · exact absurd (D.done j it h hj (by omega)) hun
    · exact h
  have hml := mask_listed hst D.closed j it.o it.b F.op F.mask hdep
  have hst' : (∀ p q, p < j → tr[p]? = some q → q.kd ≠ 0 → Lst listed p) ∧ it.h.nx ≤ it.h2.nx := by
    rcases F.step with ⟨_, _, e, _⟩ | ⟨_, _, ⟨e, _⟩ | ⟨e, _⟩ | ⟨_, hb, _, _, hx⟩⟩
    · omega
    · omega
    · omega
    · exact ⟨fun p q hp hq hk' => hml p (hb p q hp hq hk'), hx⟩
  obtain ⟨hall, hnx⟩ := hst'
  obtain ⟨n1, n2⟩ := name_all H D (j - c) (by omega) (fun i q hi hi' hq hk' => hall i q (by omega) hq hk')
  rw [show c + (j - c) = j by omega, ← F.h] at n1 n2
  have hcn : (hAt tr h0 c).nx ≤ it.h.nx := by rw [F.h]; exact nx_le H hcj (by omega)
  -- the later births, which stay
  have hlater : ∀ i q, tr[i]? = some q → j < i → it.h2.nx ≤ q.h.nx := fun i q hq hi => by
    have hil : i < tr.length := (List.getElem?_eq_some_iff.1 hq).1
    have h2 := nx_le H (show j + 1 ≤ i by omega) (by omega)
    rw [hAt_succ hj, ← (item_ok H hq).h] at h2
    exact h2
  have hearly : ∀ i q, tr[i]? = some q → i < j → q.kd = 1 → q.h.nx < it.h.nx := fun i q hq hi hk' => by
    have h2 := nx_le H (show i + 1 ≤ j by omega) (by omega)
    rw [hAt_succ hq, ← F.h] at h2
    have := birth_item (item_ok H hq) hk'
    omega
  let S : Nat → Prop := fun k => B k ∨ ∃ i q x, j < i ∧ tr[i]? = some q ∧ q.kd = 1 ∧ Lst listed i ∧ E q.h.nx = some x ∧ k = x.b
  have hS : HR S (E.upto it.h.nx) it.h w := by
    refine ⟨fun r o hg ha => ?_, n1.apart, n1.fresh, fun k hk' => ?_⟩
    · obtain ⟨x, k1, k2, k3⟩ := n1.live r o hg ha
      refine ⟨x, k1, fun hs => ?_, k3⟩
      rcases hs with hs | ⟨i, q, y, g1, g2, g3, g4, g5, g6⟩
      · exact k2 hs
      · have hrlt : r < it.h.nx := by
          rcases Nat.lt_or_ge r it.h.nx with h | h
          · exact h
          · rw [(n1.fresh r h).2] at hg; cases hg
        rw [upto_at hrlt] at k1
        rcases n2 r o hg ha with ⟨o', p1, p2⟩ | ⟨i', q', p1, p2, p3, p4, rfl⟩
        · obtain ⟨y2, _, _, _, m3, _, _, _, m7⟩ := D.pend i q (by omega) g2 g3 g4
          rw [g5] at m3; cases m3
          exact m7 r o' x p1 p2 k1 g6
        · have := D.pdis i' q' i q x y p1 p3 p4 (hall i' q' (by omega) p3 (by omega)) (by omega) g2 g3 g4 k1 g5 g6
          omega
    · rcases hk' with hk' | ⟨i, q, y, g1, g2, g3, g4, g5, rfl⟩
      · exact n1.base k hk'
      · obtain ⟨y2, _, _, _, m3, _, m5, _⟩ := D.pend i q (by omega) g2 g3 g4
        rw [g5] at m3; cases m3
        exact m5
  refine run S (fun k hk' => .inl hk') hS fun ρ2 c0 w' hle hc hHR hbel => ?_
  let E' : Env := fun r => if r < it.h2.nx then ρ2 r else E r
  have hE'lt : ∀ r, r < it.h2.nx → E' r = ρ2 r := fun r hr => if_pos hr
  have hE'ge : ∀ r, it.h2.nx ≤ r → E' r = E r := fun r hr => if_neg (by omega)
  have hEE' : E.le E' := fun r x hr => by
    rcases Nat.lt_or_ge r it.h2.nx with h | h
    · rw [hE'lt r h]
      rcases Nat.lt_or_ge r it.h.nx with h2 | h2
      · exact hle r x (by rw [upto_at h2]; exact hr)
      · rcases D.dom r x hr with g | ⟨i, q, g1, g2, g3, g4, rfl⟩
        · omega
        · rcases Nat.lt_trichotomy i j with g | g | g
          · have := hearly i q g2 g g3; omega
          · subst g; rw [hj] at g2; cases g2; omega
          · have := hlater i q g2 g; omega
    · rw [hE'ge r h]; exact hr
  have hupto : E'.upto it.h2.nx = ρ2 := by
    funext r
    unfold Env.upto
    by_cases h : r < it.h2.nx
    · rw [if_pos h, hE'lt r h]
    · rw [if_neg h, (hHR.fresh r (by omega)).1]
  have hρE' : ρ2.le E' := fun r x hr => by
    have h : r < it.h2.nx := by
      rcases Nat.lt_or_ge r it.h2.nx with h | h
      · exact h
      · rw [(hHR.fresh r h).1] at hr; cases hr
    rw [hE'lt r h]; exact hr
  obtain ⟨t1, t2, t3, t4⟩ := tmps_set hst H D hj hjs hEE' (cv_mono hρE' _ _ hc)
  have old1 : ∀ i q, tr[i]? = some q → q.kd = 1 → Lst (listed.setIfInBounds j true) i → Lst listed i := fun i q hq hk' hL => by
    rw [lst_set hjs] at hL
    rcases hL with hL | rfl
    · exact hL
    · rw [hj] at hq; cases hq; omega
  refine next _ w' E' (j + 1) ⟨by simpa using D.len, closed_set H D hj hjs hdep, by omega, .inr ⟨it, by simpa using hj, hk⟩, fun i q hi hq hk' => ?_, fun i q hi hq hk' hL => ?_, ?_, fun i q hi hq hk' hL => ?_, fun i q i' q' x y hi hq hk' hL hi' hq' hk'' hL' hx hy hxy => ?_, fun r x hr => ?_, t3, t4, t1, t2, Env.le_trans D.le hEE', D.ext, D.below.trans (hbel.mono fun k hk' => .inl hk')⟩
  · rw [lst_set hjs]
    by_cases h : i = j
    · exact .inr h
    · exact .inl (hall i q (by omega) hq hk')
  · rw [lst_set hjs] at hL
    rcases hL with hL | rfl
    · exact D.rest i q (by omega) hq hk' hL
    · omega
  · rw [hAt_succ hj, hupto]
    exact hHR.weaken fun k hk' => .inl hk'
  · have hL0 := old1 i q hq hk' hL
    obtain ⟨x, obj, g1, g2, g3, g4, g5, g6, g7⟩ := D.pend i q (by omega) hq hk' hL0
    have hSx : S x.b := .inr ⟨i, q, x, by omega, hq, hk', hL0, g3, rfl⟩
    refine ⟨x, obj, g1, g2, hEE' _ _ g3, g4, Nat.lt_of_lt_of_le g5 hbel.size, ?_, fun r o y hg ha hy => ?_⟩
    · exact (g6.world (hbel.block x.b hSx)).env (fun r y hr => by
        unfold Env.upto at hr ⊢
        split at hr
        · rename_i h
          rw [if_pos h]; exact hEE' r y hr
        · cases hr)
    · rw [hAt_succ hj] at hg
      have hr : r < it.h2.nx := by
        rcases Nat.lt_or_ge r it.h2.nx with h | h
        · exact h
        · rw [(hHR.fresh r h).2] at hg; cases hg
      rw [hE'lt r hr] at hy
      obtain ⟨z, m1, m2, _⟩ := hHR.live r o hg ha
      rw [hy] at m1; cases m1
      exact fun e => m2 (e ▸ hSx)
  · have e1 := hlater i q hq (by omega)
    have e2 := hlater i' q' hq' (by omega)
    rw [hE'ge _ e1] at hx
    rw [hE'ge _ e2] at hy
    exact D.pdis i q i' q' x y (by omega) hq hk' (old1 i q hq hk' hL) (by omega) hq' hk'' (old1 i' q' hq' hk'' hL') hx hy hxy
  · rw [hAt_succ hj]
    rcases Nat.lt_or_ge r it.h2.nx with h | h
    · exact .inl h
    · rw [hE'ge r h] at hr
      rcases D.dom r x hr with g | ⟨i, q, g1, g2, g3, g4, rfl⟩
      · omega
      · rcases Nat.lt_trichotomy i j with g | g | g
        · have := hearly i q g2 g g3; omega
        · subst g; rw [hj] at g2; cases g2; omega
        · exact .inr ⟨i, q, by omega, g2, g3, (lst_set hjs i).2 (.inl g4), rfl⟩
end
end Go.Eng
