/- What the abstract run says of the model: maps written. -/
import Derived.Test.YtpbjdbdlfobpmaaGreatEngVf
namespace Go.Eng
open Go Go.RowKit
theorem upA_ok {Q : Tab} {kt : TypeId} {k : Value} {x : AV} : ∀ {es : List (Value × AV × Nat)} {r : Option (List (Value × AV × Nat))}, upA Q kt k x es = some r →
    (r = none ∧ FoundAt kt Q k es none) ∨ ∃ j e, FoundAt kt Q k es (some j) ∧ es[j]? = some e ∧ Instr.sameBits 10000 e.1 k = true ∧ r = some (es.set j (k, x, e.2.2))
  | [], r, e => by simp only [upA] at e; cases e; exact .inl ⟨rfl, fun e h => by cases h⟩
  | (k', v, b) :: es, r, e => by
    simp only [upA, sameKey] at e
    split at e
    · rename_i hk
      split at e
      · rename_i hs
        cases e
        exact .inr ⟨0, (k', v, b), ⟨fun j hj => by omega, (k', v, b), rfl, hk⟩, rfl, hs, rfl⟩
      · cases e
    · rename_i hk
      split at e
      · rename_i r' hr
        cases e
        rcases upA_ok hr with ⟨h1, _⟩ | ⟨j, e0, h1, h2, h3, h4⟩
        · cases h1
        · obtain ⟨f1, e1, f2, f3⟩ := h1
          refine .inr ⟨j + 1, e0, ⟨fun q hq => ?_, e1, by simpa using f2, f3⟩, by simpa using h2, h3, ?_⟩
          · cases q with
            | zero => exact ⟨(k', v, b), rfl, hk⟩
            | succ q => simpa using f1 q (by omega)
          · cases h4; rfl
      · rename_i hr
        cases e
        rcases upA_ok hr with ⟨_, h1⟩ | ⟨j, e0, h1, h2, h3, h4⟩
        · refine .inl ⟨rfl, fun e he => ?_⟩
          rcases List.mem_cons.1 he with rfl | he
          · exact hk
          · exact h1 e he
        · cases h4
      · cases e
    · cases e
theorem MapR_set {ρ : Env} {k : Value} {x : AV} {c : Value} (hx : cv ρ x = some c) : ∀ {es : List (Value × AV × Nat)} {m : List MapEntry} (_ : MapR ρ es m) (j : Nat) {e : Value × AV × Nat}, es[j]? = some e → MapR ρ (es.set j (k, x, e.2.2)) (m.modify j fun q => { q with key := k, val := c })
  | (k', v, b) :: es, e0 :: m, ⟨m1, m2, m3, m4⟩, j, e, h => by
    cases j with
    | zero => simp at h; subst h; exact ⟨rfl, m2, hx, m4⟩
    | succ j => exact ⟨m1, m2, m3, MapR_set hx m4 j (by simpa using h)⟩
theorem MapR_app {ρ : Env} : ∀ {es fs : List (Value × AV × Nat)} {m n : List MapEntry}, MapR ρ es m → MapR ρ fs n → MapR ρ (es ++ fs) (m ++ n)
  | [], _, [], _, _, h => h
  | (_, _, _) :: _, _, _ :: _, _, ⟨m1, m2, m3, m4⟩, h => ⟨m1, m2, m3, MapR_app m4 h⟩
theorem run_setMap {P : Program} {w : World} {r : Nat} {es : Array MapEntry} {ck : Nat} (o : Obj) (hg : w.heap[r]? = some (.map es ck)) : (setObj r o).run P w = .ok () { w with heap := w.heap.setIfInBounds r o } := by
  unfold setObj
  simp only [Sem.run, hg]
section
variable {Q : Tab} (hQ : Q.Ok)
include hQ
theorem updateA_ok {B : Nat → Prop} {ρ : Env} {h h' : Hp} {w : World} (H : HR B ρ h w) {t : TypeId} {u v z : AV} {x y c : Value} (hx : cv ρ u = some x) (hy : cv ρ v = some y) (hc : cv ρ z = some c) (e : updateA Q h t v z u = some h') :
    ∃ w', (Instr.mapUpdate t x y c).run Q.P w = .ok () w' ∧ HR B ρ h' w' ∧ Below B w w' := by
  unfold updateA at e
  split at e
  · rename_i r
    split at e
    · rename_i kt et k es clock hm hk hmo
      have hkv := plain_cv (ρ := ρ) hk
      rw [hy] at hkv; cases hkv
      have hmt := mapOf_ok hQ hm
      unfold mapOf at hmo
      split at hmo
      · rename_i es2 ck2 hget
        cases hmo
        obtain ⟨xb, q1, q0, ents, q2, q3⟩ := H.live r _ hget rfl
        simp only [cv, q1] at hx; cases hx
        unfold updM at e
        split at e
        · rename_i hfine
          obtain ⟨d, hd⟩ := keyFine_und hQ hfine
          have hchk := keyFine_ok hQ hfine false w
          have hbelow : ∀ o, Below B w { w with heap := w.heap.setIfInBounds xb.b o } := fun o => ⟨rfl, rfl, rfl, by simp, fun j hj => by
            have : xb.b ≠ j := fun e => q0 (e ▸ hj)
            simp [Array.getElem?_setIfInBounds_ne this]⟩
          have hput : ∀ {o' : AO} {h' : Hp} {o : Obj}, putRow h r o' = some h' → OR ρ { w with heap := w.heap.setIfInBounds xb.b o } xb o' → HR B ρ h' { w with heap := w.heap.setIfInBounds xb.b o } := fun hp ho =>
            H.put hp hget rfl q1 (fun j hj _ => by
              have : xb.b ≠ j := fun e => hj e.symm
              simp [Array.getElem?_setIfInBounds_ne this]) (by simp) ho
          have hlt : xb.b < w.heap.size := (Array.getElem?_eq_some_iff.1 q2).1
          have hself : ∀ o : Obj, (w.heap.setIfInBounds xb.b o)[xb.b]? = some o := fun o => by simp [hlt]
          split at e
          · rename_i es' hup
            rcases upA_ok hup with ⟨h1, _⟩ | ⟨j, e0, f, f2, f3, f4⟩
            · cases h1
            · cases f4
              have hfk := findKey_flat hQ hd w q3 (at_ := some j) (k := y) f
              obtain ⟨q, k1, k2, k3, k4⟩ := MapR_at q3 j f2
              rw [Option.bind_some, k1, Option.map_some] at hfk
              have k1' : ents[j]? = some q := by simpa using k1
              refine ⟨_, ?_, hput e ⟨ents.modify j fun q => { q with key := y, val := c }, hself _, ?_⟩, hbelow _⟩
              · unfold Instr.mapUpdate
                simp only [Sem.run_bind, run_underlying hmt w, Result.andThen_ok]
                have hgo : (getObj xb.b).run Q.P w = .ok (.map ents clock) w := by simp only [getObj, Sem.run, q2]
                simp only [Sem.run_bind, hgo, Result.andThen_ok, hchk, hfk, k1', Option.map_some, Option.getD_some]
                have hst : Instr.keyThatStays q.key y = pure y := by
                  unfold Instr.keyThatStays
                  rw [k2, f3]; rfl
                simp only [hst, Sem.run_pure, Result.andThen_ok]
                exact run_setMap _ q2
              · have := MapR_set (k := y) hc q3 j f2
                simpa [Array.toList_modify] using this
          · rename_i hup
            rcases upA_ok hup with ⟨_, f⟩ | ⟨j, e0, f, f2, f3, f4⟩
            · have hfk := findKey_flat hQ hd w q3 (at_ := none) (k := y) f
              rw [Option.bind_none] at hfk
              refine ⟨_, ?_, hput e ⟨ents.push { key := y, val := c, born := clock }, hself _, ?_⟩, hbelow _⟩
              · unfold Instr.mapUpdate
                simp only [Sem.run_bind, run_underlying hmt w, Result.andThen_ok]
                have hgo : (getObj xb.b).run Q.P w = .ok (.map ents clock) w := by simp only [getObj, Sem.run, q2]
                simp only [Sem.run_bind, hgo, Result.andThen_ok, hchk, hfk]
                exact run_setMap _ q2
              · rw [Array.toList_push]
                exact MapR_app q3 ⟨rfl, rfl, hc, trivial⟩
            · cases f4
          · cases e
        · cases e
      · cases hmo
    · cases e
  · cases e
theorem update_runs {B : Nat → Prop} {ρ : Env} {h : Hp} {w : World} {fr : Fr} {a : Act} {o : Oper} (H : HR B ρ h w) (hf : FR ρ fr a.tmps) {t : TypeId} {m y z : Operand} (ho : o.op = .mapUpdate t m y z) {x : AV} {h' : Hp} (e : oUpdate Q h t (evalA y fr) (evalA z fr) (evalA m fr) = some (x, h')) : Runs Q.P B ρ w (execOp a.eval o) x h' := by
  unfold oUpdate at e
  split at e
  · rename_i u hu
    split at e
    · rename_i v c hv hc
      unfold asUnit at e
      split at e
      · rename_i h1 hup
        cases e
        obtain ⟨w', k1, k2, k3⟩ := updateA_ok hQ H (evalA_cv hf hu) (evalA_cv hf hv) (evalA_cv hf hc) hup
        refine ⟨ρ, undef, w', .inr ⟨rfl, ?_⟩, Env.le_refl ρ, rfl, k2, k3⟩
        unfold execOp
        simp only [ho]
        rw [Sem.run_bind, k1]; rfl
      · cases e
    · cases e
  · cases e
end
end Go.Eng
