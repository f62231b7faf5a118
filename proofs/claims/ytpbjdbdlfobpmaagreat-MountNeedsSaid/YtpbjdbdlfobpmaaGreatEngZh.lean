/- What the abstract run says of the model: regions that draw their order. -/
import Derived.Test.YtpbjdbdlfobpmaaGreatEngZg
namespace Go.Eng
open Go Go.RowKit
def cntL (listed : Array Bool) : Nat → Nat
  | 0 => 0
  | k + 1 => cntL listed k + (if listed.getD k false = true then 1 else 0)
theorem cntL_le (listed : Array Bool) : ∀ k, cntL listed k ≤ k
  | 0 => Nat.le_refl _
  | k + 1 => by
    have := cntL_le listed k
    unfold cntL
    split <;> omega
theorem cntL_all {listed : Array Bool} : ∀ {k : Nat}, cntL listed k = k → ∀ i, i < k → Lst listed i
  | k + 1, h, i, hi => by
    have h1 := cntL_le listed k
    unfold cntL at h
    split at h
    · rename_i hl
      by_cases hik : i = k
      · subst hik; exact hl
      · exact cntL_all (k := k) (by omega) i (by omega)
    · omega
theorem cntL_set {listed : Array Bool} {j : Nat} (hjs : j < listed.size) (hun : ¬ Lst listed j) : ∀ k, cntL (listed.setIfInBounds j true) k = cntL listed k + (if j < k then 1 else 0)
  | 0 => by simp [cntL]
  | k + 1 => by
    have ih := cntL_set hjs hun k
    unfold cntL
    rw [ih]
    have h1 := lst_set hjs k
    unfold Lst at h1 hun
    by_cases hk : k = j
    · subst hk
      rw [if_pos (h1.2 (.inr rfl)), if_neg hun, if_neg (by omega), if_pos (by omega)]
    · have h2 : ((listed.setIfInBounds j true).getD k false = true) ↔ listed.getD k false = true := by
        rw [h1]; exact ⟨fun h => h.resolve_right hk, .inl⟩
      by_cases h3 : listed.getD k false = true
      · rw [if_pos h3, if_pos (h2.2 h3)]
        by_cases h4 : j < k
        · rw [if_pos h4, if_pos (by omega)]
        · rw [if_neg h4, if_neg (by omega)]
      · rw [if_neg h3, if_neg (fun h => h3 (h2.1 h))]
        by_cases h4 : j < k
        · rw [if_pos h4, if_pos (by omega)]
        · rw [if_neg h4, if_neg (by omega)]
theorem looks_operand {ops : Array Oper} {o : Oper} {t : Tmp} (h : Operand.tmp t ∈ o.op.operands) : t ∈ o.looksAt ops := by
  unfold Oper.looksAt
  apply List.mem_append_left
  rw [List.mem_filterMap]
  exact ⟨.tmp t, by simpa using h, rfl⟩
theorem looks_guard {ops : Array Oper} {o : Oper} {g : Nat} {want : Bool} {t : Tmp} (hg : o.guard = some (g, want)) (ht : (ops[g]?).bind (·.dst) = some t) : t ∈ o.looksAt ops := by
  unfold Oper.looksAt
  apply List.mem_append_right
  rw [hg]
  simp [ht]
theorem eval_looks {ops : Array Oper} {o : Oper} {fr G : Fr} (hG : ∀ t, t ∈ o.looksAt ops → G.get t = fr.get t) : ∀ x ∈ o.op.operands, evalA x G = evalA x fr := by
  intro x hx
  cases x with
  | tmp t => exact hG t (looks_operand hx)
  | const v => rfl
  | global g => rfl
  | func f => rfl
theorem want_looks {ops : Array Oper} {o : Oper} {fr G : Fr} (hG : ∀ t, t ∈ o.looksAt ops → G.get t = fr.get t) : wantA ops G o = wantA ops fr o := by
  unfold wantA
  split
  · rfl
  · rename_i j want hg
    unfold yieldA
    cases ht : (ops[j]?).bind (·.dst) with
    | none => rfl
    | some t => simp only; rw [hG t (looks_guard hg ht)]
section
variable {Q : Tab} {cf : CallF} {nt : Nat} {ops : Array Oper} {bs : T Nat} {tr : List It} {fr0 fr' : Fr} {h0 h' : Hp} {B : Nat → Prop} {ρ0 : Env} {w0 : World} (hQ : Q.Ok) (hC : CallSound Q cf) (hH : CallHas Q cf)
  (hst : ∀ j o, ops[j]? = some o → StatAt ops bs j o) (H : TrOk Q cf nt ops bs tr 0 0 fr0 h0 h0 fr' h') (hch : chkAll Q cf h0 (effs tr 0) tr 0 = true) {Qx : Exit → Act → World → Prop}
  (hfin : ∀ ρ' a' w', ρ0.le ρ' → SR B ρ' nt fr' h' a' w' → Below B w0 w' → Qx .normal a' w')
include H hfin
theorem region_end {listed : Array Bool} {a : Act} {w : World} {E : Env} {c : Nat} (D : DI Q cf nt ops tr fr0 h0 B ρ0 w0 listed a w E c) (hall : ∀ i, i < ops.size → Lst listed i) : Qx .normal a w := by
  have hlen := tr_len H
  have hcle := D.cle
  obtain ⟨n1, _⟩ := name_all H D (tr.length - c) (by omega) (fun i it _ hi _ _ => hall i (by omega))
  rw [show c + (tr.length - c) = tr.length by omega] at n1
  obtain ⟨mc, frc, hbc, k1, _, _, k4, _, k6⟩ := H.from tr.length (Nat.le_refl _)
  rw [List.drop_length] at k1
  obtain ⟨_, e1, e2⟩ := k1
  subst e1
  rw [← e2] at n1 k6
  refine hfin (E.upto h'.nx) a w (fun r x hr => ?_) ⟨fun t v hv => ?_, D.nt, D.df, n1⟩ D.below
  · have := D.ext r x hr
    rw [upto_at (by omega)]
    exact D.le r x hr
  · rcases k4 t v hv with ⟨p, q, hp, hq, hd, rfl⟩ | ⟨hno, hf⟩
    · have Fp := item_ok H hq
      obtain ⟨c0, g1, g2⟩ := D.vals p q t (hall p (by omega)) hq hd
      refine ⟨c0, g1, ?_⟩
      have hle : q.h2.nx ≤ h'.nx := by
        have := nx_le H (show p + 1 ≤ tr.length by omega) (Nat.le_refl _)
        rw [hAt_succ hq, ← e2] at this
        exact this
      refine cv_mono (E.upto_mono hle) _ _ ?_
      rw [nbA_cv Fp.nb]; exact g2
    · obtain ⟨c0, g1, g2⟩ := D.init t v (fun i q _ hq => hno i q (List.getElem?_eq_some_iff.1 hq).1 hq) hf
      refine ⟨c0, g1, cv_mono (fun r x hr => ?_) _ _ g2⟩
      have := D.ext r x hr
      rw [upto_at (by omega)]
      exact D.le r x hr
include hQ hC hH hst hch
theorem region_any : ∀ (fuel : Nat) (listed : Array Bool) (a : Act) (w : World) (E : Env) (c : Nat), DI Q cf nt ops tr fr0 h0 B ρ0 w0 listed a w E c → cntL listed ops.size + fuel = ops.size → wpAny Q.P .any ops Qx fuel listed a w
  | 0, listed, a, w, E, c, D, hn => by
    have hall := cntL_all (listed := listed) (k := ops.size) (by omega)
    refine wpAny_done ?_ (region_end H hfin D hall) 0
    cases hr : Region.ready .any ops listed with
    | nil => rfl
    | cons j r =>
      exfalso
      have hj : j ∈ Region.ready .any ops listed := by rw [hr]; exact List.mem_cons_self ..
      obtain ⟨h1, o, h2, _⟩ := mem_ready.1 hj
      have hlt := (Array.getElem?_eq_some_iff.1 h2).1
      have := hall j hlt
      unfold Lst at this
      have hsz : j < listed.size := by rw [D.len]; exact hlt
      simp [Array.getD_eq_getD_getElem?, hsz] at this h1
      rw [this] at h1; cases h1
  | fuel + 1, listed, a, w, E, c, D, hn => by
    have hlen := tr_len H
    refine ⟨fun hr => region_end H hfin D fun i hi => ?_, fun j hj => ?_⟩
    · induction i using Nat.strongRecOn with
      | _ i ih =>
        have ho : ops[i]? = some ops[i] := Array.getElem?_eq_getElem hi
        obtain ⟨b, _, h2, _⟩ := hst i _ ho
        cases hl : listed.getD i false with
        | true => exact hl
        | false =>
          exfalso
          have : i ∈ Region.ready .any ops listed := by
            rw [mem_ready]
            refine ⟨?_, _, ho, fun e he hb => ih e.on (h2 e he hb) (by have := h2 e he hb; omega)⟩
            have hsz : i < listed.size := by rw [D.len]; exact hi
            simp [Array.getD_eq_getD_getElem?, hsz] at hl ⊢
            exact hl
          rw [hr] at this
          cases this
    · obtain ⟨h1, o, ho, hdep⟩ := mem_ready.1 hj
      have hlt := (Array.getElem?_eq_some_iff.1 ho).1
      have hjs : j < listed.size := by rw [D.len]; exact hlt
      have hun : ¬ Lst listed j := by
        unfold Lst
        simp [Array.getD_eq_getD_getElem?, hjs] at h1 ⊢
        exact h1
      have hjt : tr[j]? = some tr[j] := List.getElem?_eq_getElem (by omega)
      generalize tr[j] = it at hjt
      have F := item_ok H hjt
      have heq := F.op
      rw [ho] at heq
      have heq := Option.some.inj heq
      subst heq
      have hcnt : cntL (listed.setIfInBounds j true) ops.size + fuel = ops.size := by
        rw [cntL_set hjs hun, if_pos hlt]; omega
      have next : ∀ a' w' E' c', DI Q cf nt ops tr fr0 h0 B ρ0 w0 (listed.setIfInBounds j true) a' w' E' c' → wpAny Q.P .any ops Qx fuel (listed.setIfInBounds j true) a' w' :=
        fun a' w' E' c' D' => region_any fuel _ a' w' E' c' D' hcnt
      obtain ⟨G, hG⟩ := only_frame it.fr (it.o.looksAt ops)
      have hGl : ∀ t, t ∈ it.o.looksAt ops → G.get t = it.fr.get t := fun t ht => by rw [hG, if_pos ht]
      have hFR : FR (E.upto it.h.nx) G a.tmps := fun t v hv => by
        rw [hG] at hv
        split at hv
        · rename_i ht
          exact look_ok hst H D hjt hun hdep t v ht hv
        · cases hv
      have hev := eval_looks hGl
      have hwant := want_looks hGl
      have hml := mask_listed hst D.closed
      unfold wpOp
      rw [ho]
      simp only
      rcases F.step with ⟨_, e2, e3, e4, _⟩ | ⟨e1, e2, hcase⟩
      · have hw := wantA_ok (ops := ops) hFR (by rw [hwant]; exact e2)
        rw [if_neg (by rw [hw]; decide)]
        exact next _ _ _ _ (quiet_step hst H D hjt hjs hdep e3 (by rw [e4]; rfl))
      · have hw := wantA_ok (ops := ops) hFR (by rw [hwant]; exact e2)
        rw [if_pos hw]
        refine .inl ?_
        rcases hcase with ⟨hk, hq, _⟩ | ⟨hk, hb, hop, _⟩ | ⟨hk, _, hop, _⟩
        · obtain ⟨hx, hop⟩ := quiet_at H hch hjt hk e1 D.cut (fun q hc hq' hk' => by
            cases hbit : q.b.testBit j with
            | false => rfl
            | true =>
              have hL := D.done (c - 1) q (by omega) hq' (by omega)
              have Fq := item_ok H hq'
              exact absurd (hml (c - 1) q.o q.b Fq.op Fq.mask (D.closed (c - 1) q.o Fq.op hL) j hbit) hun) (fun p q hp hq' hk' => by
            cases hbit : it.b.testBit p with
            | false => rfl
            | true => exact absurd (hml j it.o it.b F.op F.mask hdep p hbit) (D.rest p q hp hq' hk'))
          rw [← opA_congr it.o hev] at hop
          have hHL : HL E (hAt tr h0 c) w := fun r o hg ha => by
            obtain ⟨x, k1, _, k3⟩ := D.hr.live r o hg ha
            exact ⟨x, E.upto_le _ r x k1, k3.env (E.upto_le _)⟩
          obtain ⟨_, c0, r1, r2⟩ := quiet_ok hQ hHL (hFR.env (E.upto_le _)) (by rw [quietO_congr it.o hev]; exact hq) hop
          unfold Oper.wp
          rw [r1]
          exact next _ _ _ _ (quiet_step hst H D hjt hjs hdep hk r2)
        · rw [← opA_congr it.o hev] at hop
          obtain ⟨r, obj, ob, k, c0, hn, hal, r1, r2⟩ := birth_ok hQ hFR hb hop (w := w)
          have hr := (newA_get hn).1
          subst hr
          unfold Oper.wp
          rw [r1]
          exact next _ _ _ _ (birth_step hst H D hjt hjs hun hdep hk hn hal r2)
        · rw [← opA_congr it.o hev] at hop
          exact effect_step H hst D hjt hjs hun hdep hk (fun S _ hS hK => opSound hQ hC hH S (E.upto it.h.nx) G a w it.h it.o it.x it.h2 hS hFR hop _ Qx hK) next
end
theorem drawSound {Q : Tab} {cf : CallF} (hQ : Q.Ok) (hC : CallSound Q cf) (hH : CallHas Q cf) : DrawSound Q (drA Q cf) := by
  intro B ρ nt ops fr fr' h h' a w id S e Qx hfin
  unfold drA at e
  split at e
  · rename_i bs hbs
    split at e
    · rename_i s tr hgo
      split at e
      · rename_i hch
        cases e
        have H := drGo_ok ops.toList [] 0 0 fr h h fr' h' tr (by simp) rfl hgo
        have hst := statA_ok hbs
        refine wp_region_any hQ.mix ?_
        have hup : ρ.upto h.nx = ρ := by
          funext r
          unfold Env.upto
          by_cases hr : r < h.nx
          · rw [if_pos hr]
          · rw [if_neg hr, (S.hp.fresh r (by omega)).1]
        have hno : ∀ i, ¬ Lst (Array.replicate ops.size false) i := fun i hi => by
          unfold Lst at hi
          simp [Array.getD_eq_getD_getElem?, Array.getElem?_replicate] at hi
          split at hi <;> simp at hi
        have hcnt : ∀ k, cntL (Array.replicate ops.size false) k = 0 := fun k => by
          induction k with
          | zero => rfl
          | succ k ih =>
            unfold cntL
            have := hno k
            unfold Lst at this
            rw [ih, if_neg this]
        refine region_any hQ hC hH hst H hch (fun ρ' a' w' k1 k2 k3 => hfin ρ' a' w' k1 k2 ⟨k3.os, k3.tape, k3.output, k3.size, k3.block⟩) ops.size _ a _ ρ 0 (w0 := w) ⟨by simp, fun j o ho hL => absurd hL (hno j), Nat.zero_le _, .inl rfl, fun i it hi => by omega, fun i it _ _ _ => hno i, ?_, fun i it _ _ _ hL => absurd hL (hno i), fun i it i' it' x y _ _ _ hL => absurd hL (hno i), fun r x hr => .inl ?_, S.nt, S.df, fun i it d hL => absurd hL (hno i), fun t v _ hv => S.fr t v hv, Env.le_refl ρ, fun r x hr => ?_, ⟨rfl, rfl, rfl, Nat.le_refl _, fun _ _ => rfl⟩⟩ (by rw [hcnt]; omega)
        · show HR B (ρ.upto h.nx) h _
          rw [hup]
          exact S.hp.world (fun _ _ => rfl) (Nat.le_refl _)
        · rcases Nat.lt_or_ge r h.nx with g | g
          · exact g
          · rw [(S.hp.fresh r g).1] at hr; cases hr
        · rcases Nat.lt_or_ge r h.nx with g | g
          · exact g
          · rw [(S.hp.fresh r g).1] at hr; cases hr
      · cases e
    · cases e
  · cases e
end Go.Eng
