/- What the abstract run says of the model: a region in any order: what the check tells. -/
import Derived.Test.YtpbjdbdlfobpmaaGreatEngZc
import Derived.Orders
namespace Go.Eng
open Go Go.RowKit

/-! ### what comes ahead -/
theorem maskA_bit {bs : T Nat} {p : Nat} : ∀ (l : List Edge) (m : Nat), (maskA bs l m).testBit p = true → m.testBit p = true ∨ ∃ e ∈ l, Region.binds .any e = true ∧ (p = e.on ∨ ∃ b, bs.get e.on = some b ∧ b.testBit p = true)
  | [], m, h => .inl h
  | e :: r, m, h => by
    simp only [maskA] at h
    split at h
    · rename_i hb
      split at h
      · rename_i b hbs
        rcases maskA_bit r _ h with h1 | ⟨e', h1, h2, h3⟩
        · rw [Nat.testBit_or, Nat.testBit_or, Nat.testBit_two_pow, Bool.or_eq_true, Bool.or_eq_true, decide_eq_true_eq] at h1
          rcases h1 with (h1 | h1) | h1
          · exact .inl h1
          · exact .inr ⟨e, List.mem_cons_self .., hb, .inl h1.symm⟩
          · exact .inr ⟨e, List.mem_cons_self .., hb, .inr ⟨b, hbs, h1⟩⟩
        · exact .inr ⟨e', List.mem_cons_of_mem _ h1, h2, h3⟩
      · rcases maskA_bit r _ h with h1 | ⟨e', h1, h2, h3⟩
        · rw [Nat.testBit_or, Nat.testBit_two_pow, Bool.or_eq_true, decide_eq_true_eq] at h1
          rcases h1 with h1 | h1
          · exact .inl h1
          · exact .inr ⟨e, List.mem_cons_self .., hb, .inl h1.symm⟩
        · exact .inr ⟨e', List.mem_cons_of_mem _ h1, h2, h3⟩
    · rcases maskA_bit r _ h with h1 | ⟨e', h1, h2, h3⟩
      · exact .inl h1
      · exact .inr ⟨e', List.mem_cons_of_mem _ h1, h2, h3⟩
theorem edgesOk_all {i : Nat} : ∀ {l : List Edge}, edgesOk i l = true → ∀ e ∈ l, Region.binds .any e = true → e.on < i
  | x :: r, h, e, he, hb => by
    simp only [edgesOk, Bool.and_eq_true] at h
    rcases List.mem_cons.1 he with rfl | he
    · have := h.1
      unfold edgeOk at this
      rw [hb] at this
      simpa using this
    · exact edgesOk_all h.2 e he hb
theorem pairOk_all {ops : Array Oper} {o : Oper} {b : Nat} : ∀ {l : List Oper} {k : Nat}, pairOk ops o b l k = true → ∀ q x, l[q]? = some x → (x.apart ops o = true ∨ b.testBit (k + q) = true) ∧ dstNe x.dst o.dst = true
  | [], k, h, q, x, hx => by simp at hx
  | y :: r, k, h, q, x, hx => by
    simp only [pairOk, Bool.and_eq_true, Bool.or_eq_true] at h
    cases q with
    | zero => simp at hx; subst hx; exact ⟨h.1.1, h.1.2⟩
    | succ q =>
      have := pairOk_all h.2 q x (by simpa using hx)
      rw [show k + (q + 1) = k + 1 + q by omega]; exact this
/-- what is known of an operation and its place -/
def StatAt (ops : Array Oper) (bs : T Nat) (j : Nat) (o : Oper) : Prop := ∃ b, bs.get j = some b ∧ (∀ e ∈ o.after, Region.binds .any e = true → e.on < j) ∧
  (∀ p, b.testBit p = true → ∃ e ∈ o.after, Region.binds .any e = true ∧ (p = e.on ∨ ∃ b', bs.get e.on = some b' ∧ b'.testBit p = true)) ∧
  (∀ i o', i < j → ops[i]? = some o' → (o'.apart ops o = true ∨ b.testBit i = true) ∧ dstNe o'.dst o.dst = true)
theorem stat_ok {ops : Array Oper} : ∀ (l es : List Oper) (i : Nat) (bs bs' : T Nat), ops.toList = es ++ l → es.length = i → statGo ops l es i bs = some bs' → (∀ j, j < i → bs'.get j = bs.get j) ∧ ∀ j o, i ≤ j → ops[j]? = some o → StatAt ops bs' j o
  | [], es, i, bs, bs', hl, hi, e => by
    simp only [statGo] at e; cases e
    refine ⟨fun _ _ => rfl, fun j o hj ho => ?_⟩
    have h1 := (Array.getElem?_eq_some_iff.1 ho).1
    rw [← Array.length_toList, hl] at h1
    simp at h1; omega
  | o :: r, es, i, bs, bs', hl, hi, e => by
    simp only [statGo, natF_eq] at e
    split at e
    · rename_i hed
      split at e
      · rename_i hpair
        split at e
        · rename_i bs1 hput
          obtain ⟨k1, k2⟩ := stat_ok r (es ++ [o]) (i + 1) bs1 bs' (by rw [hl]; simp) (by simp [hi]) e
          have hget := fun j => T.get_put hput j
          have hold : ∀ j, j < i → bs'.get j = bs.get j := fun j hj => by rw [k1 j (by omega), hget, if_neg (by omega)]
          refine ⟨hold, fun j o' hj ho' => ?_⟩
          by_cases hji : j = i
          · subst hji
            have ho : ops[j]? = some o := by
              rw [← Array.getElem?_toList, hl, List.getElem?_append_right (by omega), hi]; simp
            rw [ho] at ho'; cases ho'
            have hed' := edgesOk_all hed
            refine ⟨_, by rw [k1 j (by omega), hget, if_pos rfl], fun e he => hed' e (by simpa using he), fun p hp => ?_, fun q x hq hx => ?_⟩
            · rcases maskA_bit _ _ hp with h1 | ⟨e0, h1, h2, h3⟩
              · simp at h1
              · refine ⟨e0, by simpa using h1, h2, ?_⟩
                rcases h3 with h3 | ⟨b, h3, h4⟩
                · exact .inl h3
                · exact .inr ⟨b, by rw [hold _ (hed' e0 h1 h2)]; exact h3, h4⟩
            · have hx' : es[q]? = some x := by
                rw [← Array.getElem?_toList, hl, List.getElem?_append_left (by omega)] at hx; exact hx
              have := pairOk_all hpair q x hx'
              rwa [Nat.zero_add] at this
          · exact k2 j o' (by omega) ho'
        · cases e
      · cases e
    · cases e
theorem statA_ok {ops : Array Oper} {bs : T Nat} (e : statA ops = some bs) : ∀ j o, ops[j]? = some o → StatAt ops bs j o :=
  fun j o ho => (stat_ok ops.toList [] 0 .leaf bs (by simp) rfl e).2 j o (Nat.zero_le _) ho

/-! ### the run in the text's order -/
section
variable {Q : Tab} {cf : CallF} {nt : Nat} {ops : Array Oper} {bs : T Nat}
theorem newRowA_new {h h' : Hp} {e : TypeId} {es : Nat} {cells : List AV} {r : Nat} (hn : newRowA h e es cells = some (r, h')) : ∃ obj, newA h obj = some (r, h') ∧ alive obj = true := by
  unfold newRowA at hn
  rw [natF_eq] at hn
  split at hn
  · exact ⟨_, hn, rfl⟩
  · cases hn
theorem birth_new {fr : Fr} {o : Oper} {h h' : Hp} {x : AV} (hq : birthK o.op = true) (e : opA Q cf fr o h = some (x, h')) : ∃ r obj, newA h obj = some (r, h') ∧ alive obj = true := by
  unfold opA at e
  cases ho : o.op <;> rw [ho] at hq <;> simp only [birthK, Bool.false_eq_true] at hq <;> rw [ho] at e <;> simp only [opSel] at e
  case alloc t =>
    unfold oAlloc at e
    split at e
    · split at e
      · unfold asPtr at e
        split at e
        · rename_i hn; cases e; exact ⟨_, _, hn, rfl⟩
        · cases e
      · cases e
    · cases e
  case box t y =>
    unfold oBox at e
    split at e
    · split at e
      · split at e
        · unfold asPtr at e
          split at e
          · rename_i hn; cases e; exact ⟨_, newRowA_new hn⟩
          · cases e
        · cases e
      · cases e
    · cases e
  case buildSlice t n parts =>
    unfold oBuildSlice at e
    split at e
    · split at e
      · split at e
        · split at e
          · unfold asSl at e
            split at e
            · rename_i hn; cases e; exact ⟨_, newRowA_new hn⟩
            · cases e
          · cases e
        · unfold buildNone at e
          split at e
          · split at e
            · unfold asSl at e
              split at e
              · rename_i hn; cases e; exact ⟨_, newRowA_new hn⟩
              · cases e
            · cases e
          · cases e
      · cases e
    · cases e
  case makeMap t r =>
    unfold oMakeMap at e
    split at e
    · unfold asMap at e
      split at e
      · rename_i hn; cases e; exact ⟨_, _, hn, rfl⟩
      · cases e
    · cases e
  case makeSlice t y z =>
    unfold oMakeSlice at e
    split at e
    · unfold makeS at e
      split at e
      · split at e
        · rw [natF_eq] at e
          unfold asSl at e
          split at e
          · rename_i hn; cases e; exact ⟨_, _, hn, rfl⟩
          · cases e
        · cases e
      · cases e
    · cases e
def StepOk (Q : Tab) (cf : CallF) (ops : Array Oper) (m : Nat) (it : It) (fr : Fr) (hb h : Hp) : Prop := it.fr = fr ∧ it.hb = hb ∧ it.h = h ∧
  ((it.wt = false ∧ wantA ops fr it.o = some false ∧ it.kd = 0 ∧ it.x = unit ∧ it.h2 = h) ∨
   (it.wt = true ∧ wantA ops fr it.o = some true ∧
     ((it.kd = 0 ∧ quietO fr it.o = true ∧ (∃ h1, opA Q cf fr it.o hb = some (it.x, h1)) ∧ nbA h.nx it.x = true ∧ it.h2 = h) ∨
      (it.kd = 1 ∧ birthK it.o.op = true ∧ opA Q cf fr it.o h = some (it.x, it.h2) ∧ nbA it.h2.nx it.x = true) ∨
      (it.kd = 2 ∧ m &&& it.b = m ∧ opA Q cf fr it.o h = some (it.x, it.h2) ∧ nbA it.h2.nx it.x = true ∧ h.nx ≤ it.h2.nx))))
theorem stepA_ok {b m : Nat} {o : Oper} {fr : Fr} {hb h : Hp} {it : It} (e : stepA Q cf ops b m o fr hb h = some it) : it.o = o ∧ it.b = b ∧ StepOk Q cf ops m it fr hb h := by
  unfold stepA at e
  split at e
  · cases e
  · rename_i hw
    cases e
    exact ⟨rfl, rfl, rfl, rfl, rfl, .inl ⟨rfl, hw, rfl, rfl, rfl⟩⟩
  · rename_i hw
    split at e
    · rename_i hq
      split at e
      · rename_i x h1 hop
        rw [AV.seq_eq] at e
        split at e
        · rename_i hnb
          cases e
          exact ⟨rfl, rfl, rfl, rfl, rfl, .inr ⟨rfl, hw, .inl ⟨rfl, hq, ⟨h1, hop⟩, hnb, rfl⟩⟩⟩
        · cases e
      · cases e
    · split at e
      · rename_i hbk
        split at e
        · rename_i x h1 hop
          rw [AV.seq_eq] at e
          split at e
          · rename_i hnb
            cases e
            exact ⟨rfl, rfl, rfl, rfl, rfl, .inr ⟨rfl, hw, .inr (.inl ⟨rfl, hbk, hop, hnb⟩)⟩⟩
          · cases e
        · cases e
      · split at e
        · rename_i hm
          split at e
          · rename_i x h1 hop
            rw [AV.seq_eq] at e
            split at e
            · rename_i hnb
              cases e
              simp only [Bool.and_eq_true, Nat.ble_eq] at hnb
              exact ⟨rfl, rfl, rfl, rfl, rfl, .inr ⟨rfl, hw, .inr (.inr ⟨rfl, Nat.eq_of_beq_eq_true hm, hop, hnb.1, hnb.2⟩)⟩⟩
            · cases e
          · cases e
        · cases e
def TrOk (Q : Tab) (cf : CallF) (nt : Nat) (ops : Array Oper) (bs : T Nat) : List It → Nat → Nat → Fr → Hp → Hp → Fr → Hp → Prop
  | [], i, _, fr, _, h, fr', h' => i = ops.size ∧ fr' = fr ∧ h' = h
  | it :: r, i, m, fr, hb, h, fr', h' => ops[i]? = some it.o ∧ bs.get i = some it.b ∧ StepOk Q cf ops m it fr hb h ∧ ∃ fr1, putA nt fr it.x it.o.dst = some fr1 ∧ TrOk Q cf nt ops bs r (i + 1) (nextM it.kd i m) fr1 (nextHb it.kd hb it.h2) it.h2 fr' h'
theorem drGo_ok : ∀ (l es : List Oper) (i m : Nat) (fr : Fr) (hb h : Hp) (fr' : Fr) (h' : Hp) (tr : List It), ops.toList = es ++ l → es.length = i → drGo Q cf nt ops bs l i m fr hb h = some (⟨fr', h'⟩, tr) → TrOk Q cf nt ops bs tr i m fr hb h fr' h'
  | [], es, i, m, fr, hb, h, fr', h', tr, hl, hi, e => by
    simp only [drGo] at e; cases e
    refine ⟨?_, rfl, rfl⟩
    rw [← Array.length_toList, hl]; simp [hi]
  | o :: r, es, i, m, fr, hb, h, fr', h', tr, hl, hi, e => by
    simp only [drGo] at e
    split at e
    · rename_i b hb1
      split at e
      · rename_i it hst
        obtain ⟨e1, e2, e3⟩ := stepA_ok hst
        split at e
        · rename_i fr1 hput
          rw [natF_eq, natF_eq] at e
          split at e
          · rename_i s tr' hrec
            cases e
            refine ⟨?_, by rw [e2]; exact hb1, e3, fr1, by rw [e1]; exact hput, drGo_ok r (es ++ [o]) (i + 1) _ _ _ _ _ _ _ (by rw [hl]; simp) (by simp [hi]) hrec⟩
            rw [e1, ← Array.getElem?_toList, hl, List.getElem?_append_right (by omega), hi]; simp
          · cases e
        · cases e
      · cases e
    · cases e

/-- the heap ahead of a place -/
def hAt (tr : List It) (h0 : Hp) : Nat → Hp
  | 0 => h0
  | c + 1 => match tr[c]? with | some it => it.h2 | none => h0
theorem putA_get {fr fr1 : Fr} {x : AV} {dst : Option Tmp} (e : putA nt fr x dst = some fr1) (t : Tmp) : fr1.get t = if dst = some t then some x else fr.get t := by
  unfold putA at e
  split at e
  · cases e; simp
  · rename_i d
    split at e
    · rw [T.get_put e]
      by_cases h : t = d
      · subst h; simp
      · rw [if_neg h, if_neg (fun e => h (Option.some.inj e).symm)]
    · cases e
theorem putA_lt {fr fr1 : Fr} {x : AV} {d : Tmp} (e : putA nt fr x (some d) = some fr1) : d < nt := by
  unfold putA at e
  simp only at e
  split at e
  · rename_i h; simpa using h
  · cases e
theorem TrOk.len : ∀ {tr : List It} {i m : Nat} {fr : Fr} {hb h : Hp} {fr' : Fr} {h' : Hp}, TrOk Q cf nt ops bs tr i m fr hb h fr' h' → i + tr.length = ops.size
  | [], _, _, _, _, _, _, _, H => by obtain ⟨h1, _⟩ := H; simpa using h1
  | _ :: _, _, _, _, _, _, _, _, H => by
    obtain ⟨_, _, _, fr1, _, H⟩ := H
    have := H.len
    simp only [List.length_cons]; omega
/-- the run from a place on -/
theorem TrOk.from : ∀ {tr : List It} {i m : Nat} {fr : Fr} {hb h : Hp} {fr' : Fr} {h' : Hp}, TrOk Q cf nt ops bs tr i m fr hb h fr' h' → ∀ c, c ≤ tr.length → ∃ mc frc hbc, TrOk Q cf nt ops bs (tr.drop c) (i + c) mc frc hbc (hAt tr h c) fr' h' ∧
    (∀ p, m.testBit p = true → mc.testBit p = true) ∧ (∀ p it, p < c → tr[p]? = some it → it.kd ≠ 0 → mc.testBit (i + p) = true) ∧
    (∀ t v, frc.get t = some v → (∃ p it, p < c ∧ tr[p]? = some it ∧ it.o.dst = some t ∧ v = it.x) ∨ ((∀ p it, p < c → tr[p]? = some it → it.o.dst ≠ some t) ∧ fr.get t = some v)) ∧
    (∀ b, b ≤ c → (b = 0 ∧ (∀ p it, p < c → tr[p]? = some it → it.kd ≠ 2) → hbc = hb) ∧ (∀ it, tr[b]? = some it → b < c → it.kd = 2 → (∀ p it', b < p → p < c → tr[p]? = some it' → it'.kd ≠ 2) → hbc = it.h2)) ∧ h.nx ≤ (hAt tr h c).nx
  | tr, i, m, fr, hb, h, fr', h', H, 0, _ => ⟨m, fr, hb, H, fun _ h => h, (fun p it hp => by omega), (fun t v e => .inr ⟨fun p it hp => by omega, e⟩), (fun b hb' => ⟨fun _ => rfl, fun it _ hlt => by omega⟩), Nat.le_refl _⟩
  | [], _, _, _, _, _, _, _, _, c + 1, hc => by simp at hc
  | it :: r, i, m, fr, hb, h, fr', h', H, c + 1, hc => by
    obtain ⟨h1, h2, h3, fr1, h4, h5⟩ := H
    obtain ⟨mc, frc, hbc, k1, k2, k3, k4, k5, k6⟩ := TrOk.from h5 c (by simpa using hc)
    have hat : hAt (it :: r) h (c + 1) = hAt r it.h2 c := by
      cases c with
      | zero => rfl
      | succ c =>
        have : c < r.length := by simp at hc; omega
        simp only [hAt, List.getElem?_cons_succ, List.getElem?_eq_getElem this]
    have hm1 : ∀ p, m.testBit p = true → (nextM it.kd i m).testBit p = true := fun p hp => by
      unfold nextM
      split
      · exact hp
      · rw [Nat.testBit_or, hp]; rfl
    refine ⟨mc, frc, hbc, ?_, fun p hp => k2 p (hm1 p hp), fun p q hp hq hk => ?_, fun t v e => ?_, fun b hbc' => ⟨fun ⟨hb0, hno⟩ => ?_, fun q hq hlt hk hno => ?_⟩, ?_⟩
    · rw [hat, show i + (c + 1) = i + 1 + c by omega]; exact k1
    · cases p with
      | zero =>
        simp at hq; subst hq
        apply k2
        unfold nextM
        split
        · rename_i h0; exact absurd h0 hk
        · rw [Nat.testBit_or, Nat.testBit_two_pow]; simp
      | succ p => rw [show i + (p + 1) = i + 1 + p by omega]; exact k3 p q (by omega) (by simpa using hq) hk
    · rcases k4 t v e with ⟨p, q, g1, g2, g3, g4⟩ | ⟨g1, g2⟩
      · exact .inl ⟨p + 1, q, by omega, by simpa using g2, g3, g4⟩
      · rw [putA_get h4] at g2
        by_cases hd : it.o.dst = some t
        · rw [if_pos hd] at g2; cases g2
          exact .inl ⟨0, it, by omega, rfl, hd, rfl⟩
        · rw [if_neg hd] at g2
          refine .inr ⟨fun p q hp hq => ?_, g2⟩
          cases p with
          | zero => simp at hq; subst hq; exact hd
          | succ p => exact g1 p q (by omega) (by simpa using hq)
    · have hne : it.kd ≠ 2 := hno 0 it (by omega) rfl
      rw [(k5 0 (Nat.zero_le _)).1 ⟨rfl, fun p q hp hq => hno (p + 1) q (by omega) (by simpa using hq)⟩]
      rcases h3 with ⟨_, _, _, ⟨_, _, hk, _⟩ | ⟨_, _, ⟨hk, _⟩ | ⟨hk, _⟩ | ⟨hk, _⟩⟩⟩
      · rw [hk]; rfl
      · rw [hk]; rfl
      · rw [hk]; rfl
      · exact absurd hk hne
    · cases b with
      | zero =>
        simp at hq; subst hq
        rw [(k5 0 (Nat.zero_le _)).1 ⟨rfl, fun p q hp hq => hno (p + 1) q (by omega) (by omega) (by simpa using hq)⟩, hk]; rfl
      | succ b => exact (k5 b (by omega)).2 q (by simpa using hq) (by omega) hk (fun p q' hp hp' hq' => hno (p + 1) q' (by omega) (by omega) (by simpa using hq'))
    · rw [hat]
      refine Nat.le_trans ?_ k6
      rcases h3 with ⟨_, _, _, ⟨_, _, _, _, hk⟩ | ⟨_, _, ⟨_, _, _, _, hk⟩ | ⟨_, hbk, hop, _⟩ | ⟨_, _, _, _, hk⟩⟩⟩
      · rw [hk]; exact Nat.le_refl _
      · rw [hk]; exact Nat.le_refl _
      · obtain ⟨r0, obj, hn, _⟩ := birth_new hbk hop
        have := (newA_get hn).2.1
        omega
      · exact hk
end
end Go.Eng
