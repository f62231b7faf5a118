/- What the abstract run says of the model: maps. -/
import Derived.Test.YtpbjdbdlfobpmaaGreatEngVe
namespace Go.Eng
open Go Go.RowKit
theorem run_forIn_units {α : Type} {P : Program} (f : α → Sem (ForInStep PUnit)) (w : World) : ∀ (l : List α), (∀ x ∈ l, (f x).run P w = .ok (.yield ⟨⟩) w) → (forIn l PUnit.unit (fun x _ => f x)).run P w = .ok ⟨⟩ w
  | [], _ => rfl
  | x :: r, h => by
    rw [List.forIn_cons, Sem.run_bind, h x (List.mem_cons_self ..), Result.andThen_ok]
    exact run_forIn_units f w r fun y hy => h y (List.mem_cons_of_mem _ hy)
section
variable {Q : Tab} (hQ : Q.Ok)
include hQ
def CheckFlat (Q : Tab) (d : Nat) : Prop := ∀ (t : TypeId) (ks : List Nat), flatT Q d t = some ks → ∀ D, d ≤ D → ∀ (c : Value) (cs : List Value), asVal Q t c cs → cs.length = ks.length → ∀ b w, (Instr.checkKey b D t c).run Q.P w = .ok () w
theorem check_fields {d : Nat} (IH : CheckFlat Q d) {D : Nat} (hD : d ≤ D) (xs : Array Value) (b : Bool) (w : World) : ∀ (fs : List Field) (o : Nat) (ks : List Nat), flatF Q (flatT Q d) fs o = some ks → ks.length = xs.size - o →
    ∀ f ∈ fs, ∃ c, (part f.type xs f.offset).run Q.P w = .ok c w ∧ (Instr.checkKey b D f.type c).run Q.P w = .ok () w
  | [], _, _, _, _ => fun f hf => by cases hf
  | f :: fs, o, ks, e, hl => by
    simp only [flatF] at e
    split at e
    · rename_i s n hs hn
      split at e
      · rename_i hcond
        simp only [Bool.and_eq_true, Nat.beq_eq, decide_eq_true_eq] at hcond
        obtain ⟨⟨c1, c2⟩, c3⟩ := hcond
        rw [natF_eq] at e
        split at e
        · rename_i l hl'
          cases e
          rw [List.length_append] at hl
          obtain ⟨bb, g1, g2⟩ := flatT_agg hs
          subst c1
          intro f' hf'
          rcases List.mem_cons.1 hf' with rfl | hf'
          · obtain ⟨ca, pa, va⟩ := run_part_flat hQ (off := f'.offset) (xs := xs) hn g1 (by omega) (fun hb => by rw [← c2]; exact g2 hb) w
            exact ⟨ca, pa, IH f'.type s hs D hD ca _ va (by simp; omega) b w⟩
          · exact check_fields IH hD xs b w fs (f.offset + n) l hl' (by omega) f' hf'
        · cases e
      · cases e
    · cases e
theorem check_flat : ∀ d, CheckFlat Q d
  | 0 => fun t ks e => by cases e
  | d + 1 => fun t ks e D hD c cs hc hl b w => by
    obtain ⟨D, rfl⟩ : ∃ D', D = D' + 1 := ⟨D - 1, by omega⟩
    have hD : d ≤ D := by omega
    have IH := check_flat d
    unfold flatT at e
    unfold Instr.checkKey
    split at e
    · rename_i k hd
      rw [Sem.run_bind, run_underlying (hQ.und t _ hd) w, Result.andThen_ok]
      rfl
    · rename_i hd
      rw [Sem.run_bind, run_underlying (hQ.und t _ hd) w, Result.andThen_ok]
      rfl
    · rename_i hd
      rw [Sem.run_bind, run_underlying (hQ.und t _ hd) w, Result.andThen_ok]
      rfl
    · rename_i n el hd
      split at e
      · rename_i s s' hs hs'
        split at e
        · rename_i hl2
          cases e
          have hl2 : s.length = s' := by simpa using hl2
          subst hl2
          have ha : isAggA Q t = some true := by unfold isAggA; rw [hd]; rfl
          have q1 := asVal_agg hc ha
          subst q1
          rw [Sem.run_bind, run_underlying (hQ.und t _ hd) w, Result.andThen_ok]
          obtain ⟨bb, g1, g2⟩ := flatT_agg hs
          rw [repF_len] at hl
          simp only [Std.Legacy.Range.forIn_eq_forIn_range', Std.Legacy.Range.size, Nat.sub_zero, Nat.add_one_sub_one, Nat.div_one]
          rw [Sem.run_bind]
          refine Eq.trans (congrArg (fun r => Result.andThen r _) (run_forIn_units _ w _ fun i hi => ?_)) rfl
          have hi : i < n := by
            have := List.mem_range'.1 hi
            obtain ⟨j, h1, h2⟩ := this
            omega
          have hin : i * s.length + s.length ≤ n * s.length := by
            rw [← Nat.succ_mul]; exact Nat.mul_le_mul_right _ hi
          obtain ⟨ca, pa, va⟩ := run_part_flat hQ (off := i * s.length) (xs := (⟨cs⟩ : Array Value)) hs' g1 (by simp; omega) g2 w
          have hk := IH el s hs D hD ca _ va (by simp; omega) b w
          simp only [Sem.run_bind, run_sizeOf hQ hs', Result.andThen_ok, pa, hk]
          rfl
        · cases e
      · cases e
    · rename_i fs hd
      split at e
      · rename_i hown
        have ha : isAggA Q t = some true := by unfold isAggA; rw [hd]; rfl
        have q1 := asVal_agg hc ha
        subst q1
        rw [Sem.run_bind, run_underlying (hQ.und t _ hd) w, Result.andThen_ok]
        have hch := check_fields hQ IH hD ⟨cs⟩ b w fs.toList 0 ks e (by simpa using hl.symm)
        simp only
        rw [← Array.forIn_toList]
        rw [Sem.run_bind]
        refine Eq.trans (congrArg (fun r => Result.andThen r _) (run_forIn_units _ w _ fun f hf => ?_)) rfl
        obtain ⟨c, h1, h2⟩ := hch f hf
        split
        · simp only [Sem.run_bind, h1, Result.andThen_ok, h2]; rfl
        · rfl
      · cases e
    · cases e
theorem keyFine_ok {kt : TypeId} {k : Value} (e : keyFine Q kt k = true) (b : Bool) (w : World) : (Instr.checkKey b 10000 kt k).run Q.P w = .ok () w := by
  unfold keyFine at e
  split at e
  · rename_i r hr
    unfold flatEq at hr
    split at hr
    · rename_i ks xs ys hk hx hy
      exact check_flat hQ 8 kt ks hk 10000 (by omega) k xs (rowV_ok hx) (cellsEq_len hr).1 b w
    · cases hr
  · cases e
theorem sameNow_flat {kt : TypeId} {d : TypeDesc} (hd : Q.P.underlying kt = some d) {x y : Value} {r : Bool} (e : flatEq Q kt x y = some r) {s : Bool} (hs : Instr.sameNow d x y = some s) : s = r := by
  have h1 := flatEq_ok hQ e default
  have : (Op.equal kt x y).run Q.P default = .ok s default := by
    unfold Instr.sameNow at hs
    split at hs
    · rename_i k0 k a k' b
      split at hs
      · rename_i hk
        subst hk
        cases hs
        exact run_equalIn_int default 9999 kt k k0 a b hd
      · cases hs
    · rename_i a b
      cases hs
      have := run_equalIn_string (P := Q.P) default 9999 kt a b hd
      rw [← beq_toListBytes] at this
      exact this
    · rename_i a b
      cases hs
      exact run_equalIn_bool' default 9999 kt a b hd
    · cases hs
  rw [h1] at this
  cases this; rfl
/-- where a key is -/
def FoundAt (kt : TypeId) (Q : Tab) (k : Value) (es : List (Value × AV × Nat)) : Option Nat → Prop
  | some i => (∀ j, j < i → ∃ e, es[j]? = some e ∧ flatEq Q kt k e.1 = some false) ∧ ∃ e, es[i]? = some e ∧ flatEq Q kt k e.1 = some true
  | none => ∀ e ∈ es, flatEq Q kt k e.1 = some false
theorem findNow_flat {ρ : Env} {kt : TypeId} {d : TypeDesc} (hd : Q.P.underlying kt = some d) {k : Value} : ∀ {es : List (Value × AV × Nat)} {m : List MapEntry} {at_ : Option Nat} (i : Nat) {r : Option (Nat × Value)}, MapR ρ es m → FoundAt kt Q k es at_ → Instr.findNow d k m i = some r →
    r = at_.bind fun j => m[j]?.map fun e => (i + j, e.val)
  | [], [], at_, i, r, _, hf, e => by
    simp only [Instr.findNow] at e; cases e
    cases at_ with
    | none => rfl
    | some j => obtain ⟨_, e, h1, _⟩ := hf; simp at h1
  | (k', v, b) :: es, e0 :: m, at_, i, r, ⟨m1, m2, m3, m4⟩, hf, e => by
    simp only [Instr.findNow] at e
    cases at_ with
    | none =>
      have h0 := hf (k', v, b) (List.mem_cons_self ..)
      simp only at h0
      rw [← m1] at h0
      split at e
      · rename_i hs; have := sameNow_flat hQ hd h0 hs; cases this
      · have := findNow_flat hd (i + 1) (at_ := none) m4 (fun e he => hf e (List.mem_cons_of_mem _ he)) e
        exact this
      · cases e
    | some j =>
      obtain ⟨f1, e1, f2, f3⟩ := hf
      cases j with
      | zero =>
        simp only [List.getElem?_cons_zero, Option.some.injEq] at f2
        subst f2
        simp only at f3
        rw [← m1] at f3
        split at e
        · cases e; simp
        · rename_i hs; have := sameNow_flat hQ hd f3 hs; cases this
        · cases e
      | succ j =>
        obtain ⟨e2, g1, g2⟩ := f1 0 (by omega)
        simp only [List.getElem?_cons_zero, Option.some.injEq] at g1
        subst g1
        simp only at g2
        rw [← m1] at g2
        split at e
        · rename_i hs; have := sameNow_flat hQ hd g2 hs; cases this
        · have := findNow_flat hd (i + 1) (at_ := some j) m4 ⟨fun q hq => by have := f1 (q + 1) (by omega); simpa using this, e1, by simpa using f2, f3⟩ e
          rw [this]
          simp only [Option.bind_some, List.getElem?_cons_succ]
          rw [show i + 1 + j = i + (j + 1) by omega]
        · cases e
theorem findAsking_flat {ρ : Env} {kt : TypeId} {k : Value} (w : World) : ∀ {es : List (Value × AV × Nat)} {m : List MapEntry} {at_ : Option Nat} (i : Nat), MapR ρ es m → FoundAt kt Q k es at_ →
    (Instr.findAsking kt k m i).run Q.P w = .ok (at_.bind fun j => m[j]?.map fun e => (i + j, e.val)) w
  | [], [], at_, i, _, hf => by
    cases at_ with
    | none => rfl
    | some j => obtain ⟨_, e, h1, _⟩ := hf; simp at h1
  | (k', v, b) :: es, e0 :: m, at_, i, ⟨m1, m2, m3, m4⟩, hf => by
    unfold Instr.findAsking
    cases at_ with
    | none =>
      have h0 := hf (k', v, b) (List.mem_cons_self ..)
      simp only at h0
      rw [← m1] at h0
      rw [Sem.run_bind, flatEq_ok hQ h0 w, Result.andThen_ok]
      exact findAsking_flat w (i + 1) (at_ := none) m4 (fun e he => hf e (List.mem_cons_of_mem _ he))
    | some j =>
      obtain ⟨f1, e1, f2, f3⟩ := hf
      cases j with
      | zero =>
        simp only [List.getElem?_cons_zero, Option.some.injEq] at f2
        subst f2
        simp only at f3
        rw [← m1] at f3
        rw [Sem.run_bind, flatEq_ok hQ f3 w, Result.andThen_ok]
        simp
      | succ j =>
        obtain ⟨e2, g1, g2⟩ := f1 0 (by omega)
        simp only [List.getElem?_cons_zero, Option.some.injEq] at g1
        subst g1
        simp only at g2
        rw [← m1] at g2
        rw [Sem.run_bind, flatEq_ok hQ g2 w, Result.andThen_ok]
        have := findAsking_flat w (i + 1) (at_ := some j) m4 ⟨fun q hq => by have := f1 (q + 1) (by omega); simpa using this, e1, by simpa using f2, f3⟩
        simp only [Bool.false_eq_true, if_false]
        rw [this]
        simp only [Option.bind_some, List.getElem?_cons_succ]
        rw [show i + 1 + j = i + (j + 1) by omega]
theorem findKey_flat {ρ : Env} {kt : TypeId} {d : TypeDesc} (hd : Q.P.underlying kt = some d) {k : Value} (w : World) {es : List (Value × AV × Nat)} {m : List MapEntry} {at_ : Option Nat} (hm : MapR ρ es m) (hf : FoundAt kt Q k es at_) :
    (Instr.findKey kt k m).run Q.P w = .ok (at_.bind fun j => m[j]?.map fun e => (j, e.val)) w := by
  unfold Instr.findKey
  rw [Sem.run_bind, run_underlying hd w, Result.andThen_ok]
  have h2 := findAsking_flat hQ w 0 hm hf
  split
  · rename_i r hr
    have := findNow_flat hQ hd 0 hm hf hr
    rw [this]
    simp
  · simpa using h2
omit hQ in
theorem findA_ok {kt : TypeId} {k : Value} : ∀ {es : List (Value × AV × Nat)} {r : Option AV}, findA Q kt k es = some r → ∃ at_, FoundAt kt Q k es at_ ∧ r = at_.bind fun j => es[j]?.map (·.2.1)
  | [], r, e => by simp only [findA] at e; cases e; exact ⟨none, (fun e h => by cases h), rfl⟩
  | (k', v, b) :: es, r, e => by
    simp only [findA, sameKey] at e
    split at e
    · rename_i hk
      cases e
      exact ⟨some 0, ⟨fun j hj => by omega, (k', v, b), rfl, hk⟩, rfl⟩
    · rename_i hk
      obtain ⟨at_, h1, h2⟩ := findA_ok e
      cases at_ with
      | none => exact ⟨none, fun e he => by
          rcases List.mem_cons.1 he with rfl | he
          · exact hk
          · exact h1 e he, h2⟩
      | some j =>
        obtain ⟨f1, e1, f2, f3⟩ := h1
        refine ⟨some (j + 1), ⟨fun q hq => ?_, e1, by simpa using f2, f3⟩, by simpa using h2⟩
        cases q with
        | zero => exact ⟨(k', v, b), rfl, hk⟩
        | succ q => simpa using f1 q (by omega)
    · cases e
omit hQ in
theorem MapR_at {ρ : Env} : ∀ {es : List (Value × AV × Nat)} {m : List MapEntry} (_ : MapR ρ es m) (i : Nat) {e : Value × AV × Nat}, es[i]? = some e → ∃ q, m[i]? = some q ∧ q.key = e.1 ∧ cv ρ e.2.1 = some q.val ∧ q.born = e.2.2
  | (k, v, b) :: es, e0 :: m, ⟨m1, m2, m3, m4⟩, i, e, h => by
    cases i with
    | zero => simp at h; subst h; exact ⟨e0, rfl, m1, m3, m2⟩
    | succ i => simpa using MapR_at m4 i (by simpa using h)
theorem mapOf_ok {t kt et : TypeId} (e : mapOf? (Q.und t) = some (kt, et)) : Q.P.underlying t = some (.map kt et) := by
  unfold mapOf? at e
  split at e
  · rename_i hd; cases e; exact hQ.und t _ hd
  · cases e
theorem keyFine_und {kt : TypeId} {k : Value} (e : keyFine Q kt k = true) : ∃ d, Q.P.underlying kt = some d := by
  unfold keyFine at e
  split at e
  · rename_i r hr
    unfold flatEq at hr
    split at hr
    · rename_i ks xs ys hk hx hy
      obtain ⟨b, h1, _⟩ := flatT_agg hk
      obtain ⟨d, h2, _⟩ := isAggA_ok hQ h1
      exact ⟨d, h2⟩
    · cases hr
  · cases e
theorem lookupA_ok {ρ : Env} {h : Hp} {w : World} (H : HL ρ h w) {t : TypeId} {u v : AV} {x y : Value} (hx : cv ρ u = some x) (hy : cv ρ v = some y) {ok : Bool} {z : AV} (e : lookupA Q h t u v ok = some z) :
    ∃ c, (Instr.lookup t x y ok).run Q.P w = .ok c w ∧ cv ρ z = some c := by
  unfold lookupA at e
  split at e
  · rename_i kt et k es hm hk hes
    split at e
    · rename_i hfine
      have hkv := plain_cv (ρ := ρ) hk
      rw [hy] at hkv; cases hkv
      have hmt := mapOf_ok hQ hm
      obtain ⟨d, hd⟩ := keyFine_und hQ hfine
      -- the entries
      have hent : ∃ m : Array MapEntry, MapR ρ es m.toList ∧ ∀ {β : Type} (f : Array MapEntry → Sem β) (g : Sem β), (match x with | .map none => f #[] | .map (some r) => getObj r >>= fun o => (match o with | .map es _ => f es | _ => g) | _ => g).run Q.P w = (f m).run Q.P w := by
        unfold entriesA at hes
        split at hes
        · rename_i xv
          split at hes
          · rename_i hn
            cases hes
            simp only [cv] at hx; cases hx
            unfold isNilMap at hn
            split at hn
            · exact ⟨#[], trivial, fun f g => rfl⟩
            · cases hn
          · cases hes
        · rename_i r
          split at hes
          · rename_i es' ck hmo
            cases hes
            unfold mapOf at hmo
            split at hmo
            · rename_i es2 ck2 hget
              cases hmo
              obtain ⟨xb, q1, ents, q2, q3⟩ := H r _ hget rfl
              simp only [cv, q1] at hx; cases hx
              refine ⟨ents, q3, fun f g => ?_⟩
              simp only [getObj, Sem.run_bind]
              simp only [Sem.run, q2]
              rfl
            · cases hmo
          · cases hes
        · cases hes
      obtain ⟨m, hmr, hrun⟩ := hent
      have hchk := fun b => keyFine_ok hQ hfine b w
      have shape : ∀ {c : Value}, ((do
          Instr.checkKey m.isEmpty 10000 kt y
          let (v, ok') ← match ← Instr.findKey kt y m.toList with
            | some (_, v) => pure (v, true)
            | none => pure (← zeroValue et, false)
          pure (if ok then .tuple #[v, .bool ok'] else v) : Sem Value).run Q.P w = .ok c w) → (Instr.lookup t x y ok).run Q.P w = .ok c w := fun {c} hc => by
        rw [← hc]
        unfold Instr.lookup
        rw [Sem.run_bind, run_underlying hmt w, Result.andThen_ok]
        rw [← hrun (fun es => (do
          Instr.checkKey es.isEmpty 10000 kt y
          let (v, ok') ← match ← Instr.findKey kt y es.toList with
            | some (_, v) => pure (v, true)
            | none => pure (← zeroValue et, false)
          pure (if ok then .tuple #[v, .bool ok'] else v) : Sem Value)) (stuck "Lookup: map expected")]
        cases x with
        | map r => cases r with
          | none => rfl
          | some r =>
            simp only [Sem.run_bind]
            generalize (getObj r).run Q.P w = q
            cases q with
            | ok o w1 => cases o <;> rfl
            | halt hh w1 => rfl
        | _ => rfl
      split at e
      · rename_i v' hfa
        cases e
        obtain ⟨at_, g1, g2⟩ := findA_ok hfa
        cases at_ with
        | none => cases g2
        | some j =>
          obtain ⟨f1, e1, f2, f3⟩ := g1
          rw [Option.bind_some, f2, Option.map_some] at g2
          have hv' := Option.some.inj g2
          obtain ⟨q, k1, _, k3, _⟩ := MapR_at hmr j f2
          rw [← hv'] at k3
          have hfk := findKey_flat hQ hd w hmr (at_ := some j) (k := y) ⟨f1, e1, f2, f3⟩
          rw [Option.bind_some, k1, Option.map_some] at hfk
          cases ok with
          | true =>
            refine ⟨.tuple #[q.val, .bool true], shape ?_, mkTup_cv (cvs_mk k3 (cvs_mk rfl rfl))⟩
            simp only [Sem.run_bind, hchk, Result.andThen_ok, hfk, Sem.run_pure, if_true]
          | false =>
            refine ⟨q.val, shape ?_, k3⟩
            simp only [Sem.run_bind, hchk, Result.andThen_ok, hfk, Sem.run_pure, Bool.false_eq_true, if_false]
      · rename_i hfa
        obtain ⟨at_, g1, g2⟩ := findA_ok hfa
        have hnone : at_ = none := by
          cases at_ with
          | none => rfl
          | some j =>
            obtain ⟨f1, e1, f2, f3⟩ := g1
            rw [Option.bind_some, f2] at g2
            cases g2
        subst hnone
        have hfk := findKey_flat hQ hd w hmr (at_ := none) (k := y) g1
        rw [Option.bind_none] at hfk
        split at e
        · rename_i i hi
          split at e
          · rename_i zv hz
            cases e
            have hzr : (zeroValue et).run Q.P w = .ok zv w := by
              simp [zeroValue, typeInfo, hQ.inf _ _ hi, hz]
            cases ok with
            | true =>
              refine ⟨.tuple #[zv, .bool false], shape ?_, mkTup_cv (cvs_mk (ofV_cv ρ zv) (cvs_mk rfl rfl))⟩
              simp only [Sem.run_bind, hchk, Result.andThen_ok, hfk, Sem.run_pure, if_true, hzr]
            | false =>
              refine ⟨zv, shape ?_, ofV_cv ρ zv⟩
              simp only [Sem.run_bind, hchk, Result.andThen_ok, hfk, Sem.run_pure, Bool.false_eq_true, if_false, hzr]
          · cases e
        · cases e
      · cases e
    · cases e
  · cases e
theorem lookup_runs {ρ : Env} {h : Hp} {w : World} {fr : Fr} {a : Act} {o : Oper} (H : HL ρ h w) (hf : FR ρ fr a.tmps) {t : TypeId} {y z : Operand} {ok : Bool} (ho : o.op = .lookup t y z ok) {x : AV} {h' : Hp} (e : oLookup Q h t (evalA z fr) ok (evalA y fr) = some (x, h')) : RunsQ Q.P ρ h w (execOp a.eval o) x h' := by
  unfold oLookup at e
  split at e
  · rename_i u hu
    split at e
    · rename_i v hv
      obtain ⟨e1, rfl⟩ := okv_some e
      obtain ⟨c, h1, h2⟩ := lookupA_ok hQ H (evalA_cv hf hu) (evalA_cv hf hv) e1
      refine RunsQ.same (c := c) ?_ h2
      unfold execOp
      simp only [ho]
      rw [Sem.run_bind, h1]; rfl
    · cases e
  · cases e
end
end Go.Eng
