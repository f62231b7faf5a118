/- What the abstract run says of the model: a region in any order: what holds at each moment. -/
import Derived.Test.YtpbjdbdlfobpmaaGreatEngZe
namespace Go.Eng
open Go Go.RowKit
def Lst (listed : Array Bool) (i : Nat) : Prop := listed.getD i false = true
theorem lst_set {listed : Array Bool} {j : Nat} (hj : j < listed.size) (i : Nat) : Lst (listed.setIfInBounds j true) i ↔ Lst listed i ∨ i = j := by
  unfold Lst
  simp only [Array.getD_eq_getD_getElem?, Array.getElem?_setIfInBounds]
  by_cases h : j = i
  · subst h; simp [hj]
  · simp [h, Ne.symm h]
/-- what holds at each moment: of what is known by now, the operations that were listed, and where the last effect was -/
structure DI (Q : Tab) (cf : CallF) (nt : Nat) (ops : Array Oper) (tr : List It) (fr0 : Fr) (h0 : Hp) (B : Nat → Prop) (ρ0 : Env) (w0 : World) (listed : Array Bool) (a : Act) (w : World) (E : Env) (c : Nat) : Prop where
  len : listed.size = ops.size
  closed : ∀ j o, ops[j]? = some o → Lst listed j → ∀ e ∈ o.after, Region.binds .any e = true → Lst listed e.on
  cle : c ≤ tr.length
  cut : c = 0 ∨ ∃ q, tr[c - 1]? = some q ∧ q.kd = 2
  done : ∀ i it, i < c → tr[i]? = some it → it.kd ≠ 0 → Lst listed i
  rest : ∀ i it, c ≤ i → tr[i]? = some it → it.kd = 2 → ¬ Lst listed i
  hr : HR B (E.upto (hAt tr h0 c).nx) (hAt tr h0 c) w
  pend : ∀ i it, c ≤ i → tr[i]? = some it → it.kd = 1 → Lst listed i → ∃ x obj, newA it.h obj = some (it.h.nx, it.h2) ∧ alive obj = true ∧ E it.h.nx = some x ∧ ¬ B x.b ∧ x.b < w.heap.size ∧ OR (E.upto it.h2.nx) w x obj ∧
    ∀ r o y, (hAt tr h0 c).t.get r = some o → alive o = true → E r = some y → y.b ≠ x.b
  pdis : ∀ i it j jt x y, c ≤ i → tr[i]? = some it → it.kd = 1 → Lst listed i → c ≤ j → tr[j]? = some jt → jt.kd = 1 → Lst listed j → E it.h.nx = some x → E jt.h.nx = some y → x.b = y.b → i = j
  dom : ∀ r x, E r = some x → r < (hAt tr h0 c).nx ∨ ∃ i it, c ≤ i ∧ tr[i]? = some it ∧ it.kd = 1 ∧ Lst listed i ∧ r = it.h.nx
  nt : a.tmps.size = nt
  df : a.defers = []
  vals : ∀ i it d, Lst listed i → tr[i]? = some it → it.o.dst = some d → ∃ c0, a.tmps[d]? = some c0 ∧ cv E it.x = some c0
  init : ∀ t v, (∀ i it, Lst listed i → tr[i]? = some it → it.o.dst ≠ some t) → fr0.get t = some v → ∃ c0, a.tmps[t]? = some c0 ∧ cv ρ0 v = some c0
  le : ρ0.le E
  ext : ∀ r x, ρ0 r = some x → r < h0.nx
  below : Below B w0 w
section
variable {Q : Tab} {cf : CallF} {nt : Nat} {ops : Array Oper} {bs : T Nat} {tr : List It} {fr0 fr' : Fr} {h0 h' : Hp} {B : Nat → Prop} {ρ0 E : Env} {w0 w : World} {listed : Array Bool} {a : Act} {c : Nat}
theorem mask_listed (hst : ∀ j o, ops[j]? = some o → StatAt ops bs j o) (hcl : ∀ j o, ops[j]? = some o → Lst listed j → ∀ e ∈ o.after, Region.binds .any e = true → Lst listed e.on) :
    ∀ (j : Nat) (o : Oper) (b : Nat), ops[j]? = some o → bs.get j = some b → (∀ e ∈ o.after, Region.binds .any e = true → Lst listed e.on) → ∀ p, b.testBit p = true → Lst listed p := by
  intro j
  induction j using Nat.strongRecOn with
  | _ j ih =>
    intro o b ho hb hd p hp
    obtain ⟨b', h1, h2, h3, _⟩ := hst j o ho
    rw [hb] at h1; cases h1
    obtain ⟨e, he, hbe, h4⟩ := h3 p hp
    have hle := hd e he hbe
    rcases h4 with rfl | ⟨b2, h5, h6⟩
    · exact hle
    · have hlt := h2 e he hbe
      have hex : e.on < ops.size := Nat.lt_trans hlt (Array.getElem?_eq_some_iff.1 ho).1
      have ho' : ops[e.on]? = some ops[e.on] := Array.getElem?_eq_getElem hex
      exact ih e.on hlt ops[e.on] b2 ho' h5 (hcl e.on _ ho' hle) p h6
variable (hst : ∀ j o, ops[j]? = some o → StatAt ops bs j o) (H : TrOk Q cf nt ops bs tr 0 0 fr0 h0 h0 fr' h')
include hst H
omit hst in
theorem tr_len : tr.length = ops.size := by have := H.len; omega
/-- what an operation looks at, as it stands now -/
theorem look_ok (D : DI Q cf nt ops tr fr0 h0 B ρ0 w0 listed a w E c) {j : Nat} {it : It} (hj : tr[j]? = some it) (hun : ¬ Lst listed j) (hdep : ∀ e ∈ it.o.after, Region.binds .any e = true → Lst listed e.on) :
    ∀ t v, t ∈ it.o.looksAt ops → it.fr.get t = some v → ∃ c0, a.tmps[t]? = some c0 ∧ cv (E.upto it.h.nx) v = some c0 := by
  intro t v ht hv
  have F := item_ok H hj
  have hml := mask_listed hst D.closed
  have hlen := tr_len H
  have hjl : j < tr.length := (List.getElem?_eq_some_iff.1 hj).1
  rcases F.frame t v hv with ⟨p, q, hp, hq, hd, rfl⟩ | ⟨hno, hf0⟩
  · have Fp := item_ok H hq
    obtain ⟨b, h1, _, _, h4⟩ := hst j it.o F.op
    rw [F.mask] at h1; cases h1
    have hap := (h4 p q.o hp Fp.op).1
    have hbit : it.b.testBit p = true := by
      rcases hap with hap | hap
      · exact absurd ht ((Oper.apart_spec hap).1 t hd)
      · exact hap
    have hL := hml j it.o it.b F.op F.mask hdep p hbit
    obtain ⟨c0, k1, k2⟩ := D.vals p q t hL hq hd
    refine ⟨c0, k1, ?_⟩
    have hle : q.h2.nx ≤ it.h.nx := by
      have := nx_le H (show p + 1 ≤ j by omega) (by omega)
      rw [hAt_succ hq, ← F.h] at this
      exact this
    refine cv_mono (E.upto_mono hle) _ _ ?_
    rw [nbA_cv Fp.nb]; exact k2
  · have hno2 : ∀ i q, Lst listed i → tr[i]? = some q → q.o.dst ≠ some t := fun i q hL hq hd => by
      by_cases hij : i < j
      · exact hno i q hij hq hd
      · have hne : i ≠ j := fun e => hun (e ▸ hL)
        have hji : j < i := by omega
        have Fi := item_ok H hq
        obtain ⟨b, h1, _, _, h4⟩ := hst i q.o Fi.op
        rw [Fi.mask] at h1; cases h1
        have hap := (h4 j it.o hji F.op).1
        rcases hap with hap | hap
        · exact absurd ht ((Oper.apart_spec hap).2.2 t hd)
        · exact hun (hml i q.o q.b Fi.op Fi.mask (D.closed i q.o Fi.op hL) j hap)
    obtain ⟨c0, k1, k2⟩ := D.init t v hno2 hf0
    refine ⟨c0, k1, cv_mono (fun r x hr => ?_) _ _ k2⟩
    have h1 := D.ext r x hr
    have h2 := nx_le H (Nat.zero_le j) (by omega)
    rw [← F.h] at h2
    rw [upto_at (by have : (hAt tr h0 0).nx = h0.nx := rfl; omega)]
    exact D.le r x hr
theorem dst_ne {i j : Nat} {q it : It} (hi : tr[i]? = some q) (hj : tr[j]? = some it) (hne : i ≠ j) {d : Tmp} (hd : q.o.dst = some d) : it.o.dst ≠ some d := by
  intro hd'
  have key : ∀ {i j : Nat} {q it : It}, tr[i]? = some q → tr[j]? = some it → i < j → q.o.dst = some d → it.o.dst = some d → False := fun {i j q it} hi hj hlt hd hd' => by
    have Fi := item_ok H hi
    have Fj := item_ok H hj
    obtain ⟨b, _, _, _, h4⟩ := hst j it.o Fj.op
    have := (h4 i q.o hlt Fi.op).2
    rw [hd, hd'] at this
    simp [dstNe] at this
  rcases Nat.lt_or_gt_of_ne hne with h | h
  · exact key hi hj h hd hd'
  · exact key hj hi h hd' hd
omit hst in
theorem closed_set (D : DI Q cf nt ops tr fr0 h0 B ρ0 w0 listed a w E c) {j : Nat} {it : It} (hj : tr[j]? = some it) (hjs : j < listed.size) (hdep : ∀ e ∈ it.o.after, Region.binds .any e = true → Lst listed e.on) :
    ∀ i o, ops[i]? = some o → Lst (listed.setIfInBounds j true) i → ∀ e ∈ o.after, Region.binds .any e = true → Lst (listed.setIfInBounds j true) e.on := by
  intro i o ho hL e he hb
  rw [lst_set hjs] at hL ⊢
  rcases hL with hL | rfl
  · exact .inl (D.closed i o ho hL e he hb)
  · have F := item_ok H hj
    rw [F.op] at ho; cases ho
    exact .inl (hdep e he hb)
/-- behind an operation whose value is at hand: the temporaries -/
theorem tmps_set (D : DI Q cf nt ops tr fr0 h0 B ρ0 w0 listed a w E c) {j : Nat} {it : It} (hj : tr[j]? = some it) (hjs : j < listed.size) {E' : Env} (hE : E.le E') {c0 : Value} (hc : cv E' it.x = some c0) :
    (∀ i q d, Lst (listed.setIfInBounds j true) i → tr[i]? = some q → q.o.dst = some d → ∃ c1, (a.put it.o.dst c0).tmps[d]? = some c1 ∧ cv E' q.x = some c1) ∧
    (∀ t v, (∀ i q, Lst (listed.setIfInBounds j true) i → tr[i]? = some q → q.o.dst ≠ some t) → fr0.get t = some v → ∃ c1, (a.put it.o.dst c0).tmps[t]? = some c1 ∧ cv ρ0 v = some c1) ∧
    (a.put it.o.dst c0).tmps.size = nt ∧ (a.put it.o.dst c0).defers = [] := by
  have F := item_ok H hj
  have hput : ∀ t, (a.put it.o.dst c0).tmps[t]? = if it.o.dst = some t then (if t < nt then some c0 else none) else a.tmps[t]? := fun t => by
    cases hd : it.o.dst with
    | none => simp [Act.put]
    | some d =>
      simp only [Act.put, Array.getElem?_setIfInBounds, Option.some.injEq]
      by_cases h : d = t
      · subst h; simp [D.nt]
      · simp [h]
  refine ⟨fun i q d hL hq hd => ?_, fun t v hno hf => ?_, ?_, ?_⟩
  · by_cases hij : i = j
    · subst hij
      rw [hj] at hq; cases hq
      exact ⟨c0, by rw [hput, if_pos hd, if_pos (F.lt d hd)], hc⟩
    · rw [lst_set hjs] at hL
      obtain ⟨c1, k1, k2⟩ := D.vals i q d (hL.resolve_right hij) hq hd
      exact ⟨c1, by rw [hput, if_neg (dst_ne hst H hq hj hij hd)]; exact k1, cv_mono hE _ _ k2⟩
  · obtain ⟨c1, k1, k2⟩ := D.init t v (fun i q hL hq => hno i q ((lst_set hjs i).2 (.inl hL)) hq) hf
    refine ⟨c1, ?_, k2⟩
    rw [hput, if_neg (hno j it ((lst_set hjs j).2 (.inr rfl)) hj)]
    exact k1
  · cases hd : it.o.dst with
    | none => exact D.nt
    | some d => simp [Act.put, D.nt]
  · cases hd : it.o.dst with
    | none => exact D.df
    | some d => simp [Act.put, D.df]
/-- behind a quiet operation -/
theorem quiet_step (D : DI Q cf nt ops tr fr0 h0 B ρ0 w0 listed a w E c) {j : Nat} {it : It} (hj : tr[j]? = some it) (hjs : j < listed.size) (hdep : ∀ e ∈ it.o.after, Region.binds .any e = true → Lst listed e.on) (hk : it.kd = 0) {c0 : Value} (hc : cv E it.x = some c0) :
    DI Q cf nt ops tr fr0 h0 B ρ0 w0 (listed.setIfInBounds j true) (a.put it.o.dst c0) w E c := by
  obtain ⟨t1, t2, t3, t4⟩ := tmps_set hst H D hj hjs (Env.le_refl E) hc
  have old : ∀ i q, tr[i]? = some q → q.kd ≠ 0 → Lst (listed.setIfInBounds j true) i → Lst listed i := fun i q hq hk' hL => by
    rw [lst_set hjs] at hL
    rcases hL with hL | rfl
    · exact hL
    · rw [hj] at hq; cases hq; exact absurd hk hk'
  have h1 : ∀ i q, tr[i]? = some q → q.kd = 1 → Lst (listed.setIfInBounds j true) i → Lst listed i := fun i q hq hk' hL => old i q hq (by omega) hL
  exact ⟨by simpa using D.len, closed_set H D hj hjs hdep, D.cle, D.cut, fun i q hi hq hk' => (lst_set hjs i).2 (.inl (D.done i q hi hq hk')), fun i q hi hq hk' hL => D.rest i q hi hq hk' (old i q hq (by omega) hL), D.hr,
    fun i q hi hq hk' hL => D.pend i q hi hq hk' (h1 i q hq hk' hL), fun i q i' q' x y hi hq hk' hL hi' hq' hk'' hL' => D.pdis i q i' q' x y hi hq hk' (h1 i q hq hk' hL) hi' hq' hk'' (h1 i' q' hq' hk'' hL'),
    fun r x hr => (D.dom r x hr).imp id fun ⟨i, q, k1, k2, k3, k4, k5⟩ => ⟨i, q, k1, k2, k3, (lst_set hjs i).2 (.inl k4), k5⟩, t3, t4, t1, t2, D.le, D.ext, D.below⟩
/-- behind a birth -/
theorem birth_step (D : DI Q cf nt ops tr fr0 h0 B ρ0 w0 listed a w E c) {j : Nat} {it : It} (hj : tr[j]? = some it) (hjs : j < listed.size) (hun : ¬ Lst listed j) (hdep : ∀ e ∈ it.o.after, Region.binds .any e = true → Lst listed e.on) (hk : it.kd = 1) {obj : AO} {ob : Obj} {k : Nat} {c0 : Value}
    (hn : newA it.h obj = some (it.h.nx, it.h2)) (hal : alive obj = true) (hc : ∀ ρ' : Env, (E.upto it.h.nx).le ρ' → ρ' it.h.nx = some ⟨w.heap.size, k⟩ → cv ρ' it.x = some c0 ∧ OR ρ' (w.alloc ob) ⟨w.heap.size, k⟩ obj) :
    DI Q cf nt ops tr fr0 h0 B ρ0 w0 (listed.setIfInBounds j true) (a.put it.o.dst c0) (w.alloc ob) (E.set it.h.nx ⟨w.heap.size, k⟩) c := by
  have hjl : j < tr.length := (List.getElem?_eq_some_iff.1 hj).1
  have F := item_ok H hj
  have hcj : c ≤ j := by
    rcases Nat.lt_or_ge j c with h | h
    · exact absurd (D.done j it h hj (by omega)) hun
    · exact h
  have hnx2 := (newA_get hn).2.1
  have hcn : (hAt tr h0 c).nx ≤ it.h.nx := by rw [F.h]; exact nx_le H hcj (by omega)
  have hother : ∀ i q, tr[i]? = some q → q.kd = 1 → i ≠ j → q.h.nx ≠ it.h.nx := fun i q hq hk' hne => by
    have Fi := item_ok H hq
    have hil : i < tr.length := (List.getElem?_eq_some_iff.1 hq).1
    rcases Nat.lt_or_gt_of_ne hne with h | h
    · have h2 := nx_le H (show i + 1 ≤ j by omega) (by omega)
      rw [hAt_succ hq, ← F.h] at h2
      have : q.h2.nx = q.h.nx + 1 := by
        rcases Fi.step with ⟨_, _, e, _⟩ | ⟨_, _, ⟨e, _⟩ | ⟨_, hb, hop, _⟩ | ⟨e, _⟩⟩
        · omega
        · omega
        · obtain ⟨r0, o0, hn0, _⟩ := birth_new hb hop; exact (newA_get hn0).2.1
        · omega
      omega
    · have h2 := nx_le H (show j + 1 ≤ i by omega) (by omega)
      rw [hAt_succ hj, ← Fi.h] at h2
      omega
  have hEnone : E it.h.nx = none := by
    cases hE : E it.h.nx with
    | none => rfl
    | some x =>
      rcases D.dom _ _ hE with h | ⟨i, q, k1, k2, k3, k4, k5⟩
      · omega
      · by_cases hij : i = j
        · subst hij; exact absurd k4 hun
        · exact absurd k5.symm (hother i q k2 k3 hij)
  have hle : E.le (E.set it.h.nx ⟨w.heap.size, k⟩) := Env.set_le hEnone
  have hupto : ∀ m, m ≤ it.h.nx → (E.set it.h.nx ⟨w.heap.size, k⟩).upto m = E.upto m := fun m hm => by
    funext r
    unfold Env.upto Env.set
    by_cases h : r < m
    · rw [if_pos h, if_pos h, if_neg (by omega)]
    · rw [if_neg h, if_neg h]
  have hself : (E.set it.h.nx ⟨w.heap.size, k⟩) it.h.nx = some ⟨w.heap.size, k⟩ := Env.set_at _ _ _
  have hset : ∀ r, r ≠ it.h.nx → (E.set it.h.nx ⟨w.heap.size, k⟩) r = E r := fun r hr => by unfold Env.set; rw [if_neg hr]
  obtain ⟨hcx, _⟩ := hc (E.set it.h.nx ⟨w.heap.size, k⟩) (Env.le_trans (Env.upto_le _ _) hle) hself
  obtain ⟨t1, t2, t3, t4⟩ := tmps_set hst H D hj hjs hle hcx
  have old2 : ∀ i q, tr[i]? = some q → q.kd = 2 → Lst (listed.setIfInBounds j true) i → Lst listed i := fun i q hq hk' hL => by
    rw [lst_set hjs] at hL
    rcases hL with hL | rfl
    · exact hL
    · rw [hj] at hq; cases hq; omega
  have old1 : ∀ i q, tr[i]? = some q → i ≠ j → Lst (listed.setIfInBounds j true) i → Lst listed i := fun i q hq hne hL => by
    rw [lst_set hjs] at hL
    exact hL.resolve_right hne
  have hHR : HR B (E.upto (hAt tr h0 c).nx) (hAt tr h0 c) (w.alloc ob) := D.hr.world (fun i hi => heap_alloc_old w ob i hi) (by simp)
  have hlive : ∀ r o y, (hAt tr h0 c).t.get r = some o → alive o = true → (E.set it.h.nx ⟨w.heap.size, k⟩) r = some y → E r = some y ∧ y.b < w.heap.size := fun r o y hg ha hy => by
    have hr : r < (hAt tr h0 c).nx := by
      rcases Nat.lt_or_ge r (hAt tr h0 c).nx with h | h
      · exact h
      · rw [(D.hr.fresh r h).2] at hg; cases hg
    rw [hset r (by omega)] at hy
    obtain ⟨z, g1, _, g3⟩ := D.hr.live r o hg ha
    rw [upto_at hr, hy] at g1; cases g1
    exact ⟨hy, g3.lt ha⟩
  refine ⟨by simpa using D.len, closed_set H D hj hjs hdep, D.cle, D.cut, fun i q hi hq hk' => (lst_set hjs i).2 (.inl (D.done i q hi hq hk')), fun i q hi hq hk' hL => D.rest i q hi hq hk' (old2 i q hq hk' hL), by rw [hupto _ hcn]; exact hHR, ?_, ?_, ?_, t3, t4, t1, t2, Env.le_trans D.le hle, D.ext,
    D.below.trans ⟨rfl, rfl, rfl, by simp, fun q hq => heap_alloc_old w ob q (D.hr.base q hq)⟩⟩
  · intro i q hi hq hk' hL
    by_cases hij : i = j
    · subst hij
      rw [hj] at hq; cases hq
      refine ⟨⟨w.heap.size, k⟩, obj, hn, hal, hself, fun hB => Nat.lt_irrefl _ (D.hr.base _ hB), by simp, ?_, fun r o y hg ha hy => ?_⟩
      · refine (hc _ (fun r x hr => ?_) ?_).2
        · unfold Env.upto at hr ⊢
          split at hr
          · rename_i h
            rw [if_pos (by omega), hset r (by omega)]; exact hr
          · cases hr
        · rw [upto_at (by omega)]; exact hself
      · have := (hlive r o y hg ha hy).2
        exact Nat.ne_of_lt this
    · obtain ⟨x, ob2, g1, g2, g3, g4, g5, g6, g7⟩ := D.pend i q hi hq hk' (old1 i q hq hij hL)
      refine ⟨x, ob2, g1, g2, by rw [hset _ (hother i q hq hk' hij)]; exact g3, g4, by simp; omega, ?_, fun r o y hg ha hy => g7 r o y hg ha (hlive r o y hg ha hy).1⟩
      exact (g6.world (heap_alloc_old w ob x.b g5)).env (fun r y hr => by
        unfold Env.upto at hr ⊢
        split at hr
        · rename_i h
          rw [if_pos h]; exact hle r y hr
        · cases hr)
  · intro i q i' q' x y hi hq hk' hL hi' hq' hk'' hL' hx hy hxy
    by_cases hij : i = j
    · by_cases hij' : i' = j
      · rw [hij, hij']
      · subst hij
        rw [hj] at hq; cases hq
        rw [hself] at hx; cases hx
        rw [hset _ (hother i' q' hq' hk'' hij')] at hy
        obtain ⟨x2, _, _, _, g3, _, g5, _⟩ := D.pend i' q' hi' hq' hk'' (old1 i' q' hq' hij' hL')
        rw [hy] at g3; cases g3
        simp only at hxy
        omega
    · by_cases hij' : i' = j
      · subst hij'
        rw [hj] at hq'; cases hq'
        rw [hself] at hy; cases hy
        rw [hset _ (hother i q hq hk' hij)] at hx
        obtain ⟨x2, _, _, _, g3, _, g5, _⟩ := D.pend i q hi hq hk' (old1 i q hq hij hL)
        rw [hx] at g3; cases g3
        simp only at hxy
        omega
      · rw [hset _ (hother i q hq hk' hij)] at hx
        rw [hset _ (hother i' q' hq' hk'' hij')] at hy
        exact D.pdis i q i' q' x y hi hq hk' (old1 i q hq hij hL) hi' hq' hk'' (old1 i' q' hq' hij' hL') hx hy hxy
  · intro r x hr
    by_cases h : r = it.h.nx
    · exact .inr ⟨j, it, hcj, hj, hk, (lst_set hjs j).2 (.inr rfl), h⟩
    · rw [hset r h] at hr
      exact (D.dom r x hr).imp id fun ⟨i, q, k1, k2, k3, k4, k5⟩ => ⟨i, q, k1, k2, k3, (lst_set hjs i).2 (.inl k4), k5⟩
end
end Go.Eng
