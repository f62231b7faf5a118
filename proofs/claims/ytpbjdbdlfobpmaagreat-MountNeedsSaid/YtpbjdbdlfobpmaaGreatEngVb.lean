/- What the abstract run says of the model: the builtins append, copy, len, cap. -/
import Derived.Test.YtpbjdbdlfobpmaaGreatEngVa
namespace Go.Eng
open Go Go.RowKit
theorem exec_builtin {o : Oper} {c : Call} {b : Builtin} (ho : o.op = .call c) (hb : c.callee = .builtin b) (f : Operand → Value) :
    execOp f o = builtin b c.argTypes o.type (c.args.map fun | .const _ => true | _ => false) (c.args.map f) := by
  unfold execOp
  simp only [ho, resolve, hb]
  rfl
section
variable {Q : Tab} {B : Nat → Prop} {ρ : Env} {fr : Fr} {a : Act} {w : World} {h : Hp} {o : Oper}
theorem args_arr (hf : FR ρ fr a.tmps) {c : Call} {vs : List AV} (e : evals fr c.args.toList = some vs) : ∃ cs, c.args.map a.eval = ⟨cs⟩ ∧ cvs ρ vs = some cs := by
  refine ⟨c.args.toList.map a.eval, ?_, evals_cv hf e⟩
  cases c.args; simp
theorem cvs_two {x y : AV} {cs : List Value} (h : cvs ρ [x, y] = some cs) : ∃ cx cy, cs = [cx, cy] ∧ cv ρ x = some cx ∧ cv ρ y = some cy := by
  obtain ⟨cx, r, rfl, h1, h2⟩ := cvs_cons h
  obtain ⟨cy, r', rfl, h3, h4⟩ := cvs_cons h2
  rw [cvs_nil h4]
  exact ⟨cx, cy, rfl, h1, h3⟩
theorem cvs_one {x : AV} {cs : List Value} (h : cvs ρ [x] = some cs) : ∃ cx, cs = [cx] ∧ cv ρ x = some cx := by
  obtain ⟨cx, r, rfl, h1, h2⟩ := cvs_cons h
  rw [cvs_nil h2]
  exact ⟨cx, rfl, h1⟩
theorem MapR_len {ρ : Env} : ∀ {l : List (Value × AV × Nat)} {m : List MapEntry}, MapR ρ l m → m.length = l.length
  | [], [], _ => rfl
  | (_, _, _) :: _, _ :: _, ⟨_, _, _, d⟩ => by simp [MapR_len d]
variable (hQ : Q.Ok)
include hQ
theorem append_runs (H : HR B ρ h w) (hf : FR ρ fr a.tmps) {c : Call} (ho : o.op = .call c) (hb : c.callee = .builtin .append) {x : AV} {h' : Hp} (e : oAppend Q c h (evals fr c.args.toList) = some (x, h')) : Runs Q.P B ρ w (execOp a.eval o) x h' := by
  unfold oAppend at e
  split at e
  · rename_i u v hv
    split at e
    · rename_i t1 t2 h1 h2
      split at e
      · rename_i hu
        obtain ⟨cs, k1, k2⟩ := args_arr hf hv
        obtain ⟨cx, cy, rfl, k3, k4⟩ := cvs_two k2
        obtain ⟨ρ', c', w', r1, r2, r3, r4, r5⟩ := appendA_ok hQ H (ty := o.type) k3 k4 hu e
        refine ⟨ρ', c', w', .inl ?_, r2, r3, r4, r5⟩
        rw [exec_builtin ho hb, k1]
        simp only [builtin, Sem.run_bind]
        rw [append_two h1 h2, r1]
        rfl
      · cases e
    · cases e
  · cases e
theorem copyA_ok (H : HR B ρ h w) {t ty : TypeId} {ats : Array TypeId} (h0 : ats[0]? = some t) {cx cy : Value} {x y : AV} (hx : cv ρ x = some cx) (hy : cv ρ y = some cy) {v : AV} {h' : Hp} (e : copyA Q h t x y = some (v, h')) :
    Ends Q.P B ρ w (Builtin.copy_ ats ty #[cx, cy]) v h' := by
  unfold copyA at e
  split at e
  · rename_i el dn n0 hel hdn hn0
    split at e
    · rename_i size hs
      rw [natF_eq] at e
      split at e
      · rename_i new hnew
        obtain ⟨cs, k1, k2⟩ := firstA_ok (P := Q.P) H hy hnew
        have hl := lenA_ok (P := Q.P) (w := w) hy hn0
        unfold copyTo at e
        split at e
        · rename_i r off m c d
          obtain ⟨xb, hxb, rfl⟩ := cv_sl hx
          have : dn = m := by simpa [lenA] using hdn.symm
          subst this
          split at e
          · rename_i row hrow
            split at e
            · rename_i h1 hl1
              cases e
              obtain ⟨xb2, q1, q2, q3, q4⟩ := layR_ok (P := Q.P) H hrow hl1 k1
              rw [hxb] at q1; cases q1
              refine ⟨ρ, .int .i64 (Nat.min n0 dn : Nat), _, ?_, Env.le_refl ρ, rfl, q3, q4⟩
              simp only [Builtin.copy_, h0, List.getElem?_toArray, List.getElem?_cons_zero, List.getElem?_cons_succ, Sem.run_bind, run_underlying (elemOf_ok hQ hel) w, Result.andThen_ok, hl, run_sizeOf hQ hs, k2, q2]
              rfl
            · cases e
          · cases e
        · rename_i xv
          split at e
          · rename_i hnil
            unfold isNilSl at hnil
            split at hnil
            · simp only [cv] at hx; cases hx
              cases e
              have : dn = 0 := by simpa [lenA, lenV] using hdn.symm
              subst this
              refine ⟨ρ, .int .i64 (Nat.min n0 0 : Nat), w, ?_, Env.le_refl ρ, rfl, H, Below.refl _ _⟩
              simp only [Builtin.copy_, h0, List.getElem?_toArray, List.getElem?_cons_zero, List.getElem?_cons_succ, Sem.run_bind, run_underlying (elemOf_ok hQ hel) w, Result.andThen_ok, hl, run_sizeOf hQ hs, k2]
              rfl
            · cases hnil
          · cases e
        · cases e
      · cases e
    · cases e
  · cases e
theorem copy_runs (H : HR B ρ h w) (hf : FR ρ fr a.tmps) {c : Call} (ho : o.op = .call c) (hb : c.callee = .builtin .copy) {x : AV} {h' : Hp} (e : oCopy Q c h (evals fr c.args.toList) = some (x, h')) : Runs Q.P B ρ w (execOp a.eval o) x h' := by
  unfold oCopy at e
  split at e
  · rename_i u v hv
    split at e
    · rename_i t1 h1
      obtain ⟨cs, k1, k2⟩ := args_arr hf hv
      obtain ⟨cx, cy, rfl, k3, k4⟩ := cvs_two k2
      obtain ⟨ρ', c', w', r1, r2, r3, r4, r5⟩ := copyA_ok hQ H (ty := o.type) h1 k3 k4 e
      refine ⟨ρ', c', w', .inl ?_, r2, r3, r4, r5⟩
      rw [exec_builtin ho hb, k1]
      simp only [builtin, Sem.run_bind]
      rw [r1]
      rfl
    · cases e
  · cases e
theorem undAt_ok {c : Call} {d : TypeDesc} (e : undAt Q c = some d) : ∃ t, c.argTypes[0]? = some t ∧ Q.P.underlying t = some d := by
  unfold undAt at e
  split at e
  · rename_i t ht; exact ⟨t, ht, hQ.und t _ e⟩
  · cases e
theorem len_runs (H : HL ρ h w) (hf : FR ρ fr a.tmps) {c : Call} (ho : o.op = .call c) (hb : c.callee = .builtin .len) {x : AV} {h' : Hp} (e : oLen Q c h (okv h (pureOp Q fr o)) (evals fr c.args.toList) = some (x, h')) : RunsQ Q.P ρ h w (execOp a.eval o) x h' := by
  have hpure : ∀ {x h'}, okv h (pureOp Q fr o) = some (x, h') → RunsQ Q.P ρ h w (execOp a.eval o) x h' := fun e => pure_runs hf (fun cs b => by rw [ho]; intro h; cases h) e
  unfold oLen at e
  split at e
  · rename_i u hu
    obtain ⟨cs, k1, k2⟩ := args_arr hf hu
    obtain ⟨cx, rfl, k3⟩ := cvs_one k2
    have hex : execOp a.eval o = (Builtin.len_ c.argTypes o.type #[cx] >>= fun r => pure (.value r)) := by
      rw [exec_builtin ho hb, k1]; rfl
    unfold oLen1 at e
    split at e
    · rename_i v
      unfold oLenV at e
      split at e
      · rename_i s
        split at e
        · rename_i hst
          cases e
          simp only [cv] at k3; cases k3
          unfold isStr at hst
          split at hst
          · rename_i hd
            obtain ⟨t, g1, g2⟩ := undAt_ok hQ hd
            refine RunsQ.same (c := .int .i64 s.data.toList.length) ?_ rfl
            rw [hex]
            simp only [Builtin.len_, g1, List.getElem?_toArray, List.getElem?_cons_zero, Sem.run_bind, run_underlying g2 w, Result.andThen_ok, Sem.run_pure, goInt]
            simp
          · cases hst
        · cases e
      · exact hpure e
    · rename_i r off n cc d
      split at e
      · rename_i hst
        cases e
        obtain ⟨xb, hxb, rfl⟩ := cv_sl k3
        unfold isSlT at hst
        split at hst
        · rename_i el hd
          obtain ⟨t, g1, g2⟩ := undAt_ok hQ hd
          refine RunsQ.same (c := .int .i64 n) ?_ rfl
          rw [hex]
          simp only [Builtin.len_, g1, List.getElem?_toArray, List.getElem?_cons_zero, Sem.run_bind, run_underlying g2 w, Result.andThen_ok, Sem.run_pure, goInt]
        · cases hst
      · cases e
    · rename_i r
      split at e
      · rename_i es ck hmt hm
        cases e
        simp only [cv] at k3
        split at k3
        · rename_i xb hxb
          cases k3
          unfold isMapT at hmt
          split at hmt
          · rename_i kt et hd
            obtain ⟨t, g1, g2⟩ := undAt_ok hQ hd
            unfold mapOf at hm
            split at hm
            · rename_i es' ck' hget
              cases hm
              obtain ⟨x2, q1, ents, q2, q3⟩ := H r _ hget rfl
              rw [hxb] at q1; cases q1
              refine RunsQ.same (c := .int .i64 es.length) ?_ rfl
              rw [hex]
              have hlen := MapR_len q3
              simp only [Builtin.len_, g1, List.getElem?_toArray, List.getElem?_cons_zero, Sem.run_bind, run_underlying g2 w, Result.andThen_ok, Sem.run_pure, goInt, getObj]
              simp only [Sem.run, q2]
              simp at hlen
              simp [hlen]
            · cases hm
          · cases hmt
        · cases k3
      · cases e
    · exact hpure e
  · cases e
theorem cap_runs (hf : FR ρ fr a.tmps) {c : Call} (ho : o.op = .call c) (hb : c.callee = .builtin .cap) {x : AV} {h' : Hp} (e : oCap Q c h (okv h (pureOp Q fr o)) (evals fr c.args.toList) = some (x, h')) : RunsQ Q.P ρ h w (execOp a.eval o) x h' := by
  have hpure : ∀ {x h'}, okv h (pureOp Q fr o) = some (x, h') → RunsQ Q.P ρ h w (execOp a.eval o) x h' := fun e => pure_runs hf (fun cs b => by rw [ho]; intro h; cases h) e
  unfold oCap at e
  split at e
  · rename_i u hu
    obtain ⟨cs, k1, k2⟩ := args_arr hf hu
    obtain ⟨cx, rfl, k3⟩ := cvs_one k2
    have hex : execOp a.eval o = (Builtin.cap_ c.argTypes o.type #[cx] >>= fun r => pure (.value r)) := by
      rw [exec_builtin ho hb, k1]; rfl
    unfold oCap1 at e
    split at e
    · rename_i r off n cc d
      split at e
      · rename_i n' hst
        cases e
        obtain ⟨xb, hxb, rfl⟩ := cv_sl k3
        unfold isSlT at hst
        split at hst
        · rename_i el hd
          obtain ⟨t, g1, g2⟩ := undAt_ok hQ hd
          refine RunsQ.same (c := .int .i64 n') ?_ rfl
          rw [hex]
          simp only [Builtin.cap_, g1, List.getElem?_toArray, List.getElem?_cons_zero, Sem.run_bind, run_underlying g2 w, Result.andThen_ok, Sem.run_pure, goInt, capOf]
        · cases hst
      · cases e
    · exact hpure e
  · cases e
end
end Go.Eng
