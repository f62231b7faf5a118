/- What the abstract run says of the model: two operands. -/
import Derived.Test.YtpbjdbdlfobpmaaGreatEngVd
namespace Go.Eng
open Go Go.RowKit
section
variable {Q : Tab} {B : Nat → Prop} {ρ : Env} {fr : Fr} {a : Act} {w : World} {h : Hp} {o : Oper}
theorem vOf_cv {y : AV} {x : Value} (e : vOf y = some x) : cv ρ y = some x := by
  unfold vOf at e
  split at e
  · cases e; rfl
  · cases e
theorem flatEq_kinds {t : TypeId} {x y : Value} {r : Bool} (e : flatEq Q t x y = some r) :
    (∃ k a b, x = .int k a ∧ y = .int k b ∧ r = (a == b)) ∨ (∃ a b, x = .bool a ∧ y = .bool b ∧ r = (a == b)) ∨ (∃ a b : ByteArray, x = .string a ∧ y = .string b ∧ r = (a.toList == b.toList)) ∨ (∃ xs ys, x = .agg xs ∧ y = .agg ys) := by
  unfold flatEq at e
  split at e
  · rename_i ks xs ys hk hx hy
    have vx := rowV_ok hx
    have vy := rowV_ok hy
    obtain ⟨b, hb, h1⟩ := flatT_agg hk
    cases b with
    | true => exact .inr (.inr (.inr ⟨_, _, asVal_agg vx hb, asVal_agg vy hb⟩))
    | false =>
      have q1 := asVal_one vx hb
      have q2 := asVal_one vy hb
      subst q1; subst q2
      unfold flatT at hk
      split at hk
      · cases hk; exact .inl (cellEq_0 (cellsEq_one e))
      · cases hk; exact .inr (.inl (cellEq_1 (cellsEq_one e)))
      · cases hk; exact .inr (.inr (.inl (cellEq_2 (cellsEq_one e))))
      · rename_i hd; unfold isAggA at hb; rw [hd] at hb; cases hb
      · rename_i hd; unfold isAggA at hb; rw [hd] at hb; cases hb
      · cases hk
  · cases e
variable (hQ : Q.Ok)
include hQ
theorem binOp_flat {t : TypeId} {x y : Value} {r : Bool} (e : flatEq Q t x y = some r) (hown : Q.own t = true) (y' z' : Operand) (w : World) :
    ((do eqGuard .eql t y' z' x y; binOp .eql t x y : Sem Value).run Q.P w = .ok (.bool r) w) ∧ ((do eqGuard .neq t y' z' x y; binOp .neq t x y : Sem Value).run Q.P w = .ok (.bool (!r)) w) := by
  have heq := flatEq_ok hQ e w
  rcases flatEq_kinds e with ⟨k, p, q, rfl, rfl, rfl⟩ | ⟨p, q, rfl, rfl, rfl⟩ | ⟨p, q, rfl, rfl, rfl⟩ | ⟨p, q, rfl, rfl⟩
  · constructor
    · simp [eqGuard, binOp, Op.intCmp]
    · simp [eqGuard, binOp, Op.intCmp, bne]
  · constructor
    · simp only [Sem.run_bind]
      simp [eqGuard, binOp, heq]
    · simp only [Sem.run_bind]
      simp [eqGuard, binOp, heq]
  · constructor
    · simp [eqGuard, binOp, Op.stringOp]
    · simp [eqGuard, binOp, Op.stringOp]
  · constructor
    · rw [Sem.run_bind, run_eqGuard_agg w .eql t y' z' p q (hQ.guard t hown)]
      simp [binOp, heq]
    · rw [Sem.run_bind, run_eqGuard_agg w .neq t y' z' p q (hQ.guard t hown)]
      simp [binOp, heq]
omit hQ in
theorem eq_false {P : Program} {t : TypeId} {x y : Value} {w : World} (he : (Op.equal t x y).run P w = .ok false w) (h1 : binOp .eql t x y = (Op.equal t x y >>= fun r => pure (.bool r))) (h2 : binOp .neq t x y = (Op.equal t x y >>= fun r => pure (.bool (!r)))) (y' z' : Operand)
    (hg : ∀ op, (eqGuard op t y' z' x y).run P w = .ok () w) :
    ((do eqGuard .eql t y' z' x y; binOp .eql t x y : Sem Value).run P w = .ok (.bool false) w) ∧ ((do eqGuard .neq t y' z' x y; binOp .neq t x y : Sem Value).run P w = .ok (.bool (!false)) w) := by
  constructor
  · rw [Sem.run_bind, hg, Result.andThen_ok, h1, Sem.run_bind, he]; rfl
  · rw [Sem.run_bind, hg, Result.andThen_ok, h2, Sem.run_bind, he]; rfl
omit hQ in
theorem eq_deep {P : Program} {t : TypeId} {x y : Value} {w : World} {r : Bool} (h : ∀ d, (Op.equalIn (d + 1) t x y).run P w = .ok r w) : (Op.equal t x y).run P w = .ok r w := h 9999
theorem eqA_ok {t : TypeId} {u v : AV} {x y : Value} (hx : cv ρ u = some x) (hy : cv ρ v = some y) {r : Bool} (e : eqA Q t u v = some r) (y' z' : Operand) (w : World) :
    ((do eqGuard .eql t y' z' x y; binOp .eql t x y : Sem Value).run Q.P w = .ok (.bool r) w) ∧ ((do eqGuard .neq t y' z' x y; binOp .neq t x y : Sem Value).run Q.P w = .ok (.bool (!r)) w) := by
  unfold eqA at e
  split at e
  · cases e
  · rename_i k hk
    split at e
    · rename_i hcond
      cases e
      simp only [Bool.or_eq_true, Bool.and_eq_true, Nat.beq_eq] at hcond
      unfold kindOf at hk
      split at hk
      · rename_i el hd
        have hu := hQ.und t _ hd
        have : k = 0 := by omega
        subst this
        rcases hcond with ⟨n1, n2⟩ | ⟨n1, n2⟩
        · unfold namedKind at n1; split at n1 <;> simp at n1
          unfold nilKind at n2; split at n2 <;> simp at n2
          obtain ⟨xb, _, rfl⟩ := cv_ptr hx
          simp only [cv] at hy; cases hy
          refine eq_false ?_ rfl rfl y' z' (fun op => by cases op <;> rfl)
          exact eq_deep (fun d => by
            simp only [Op.equalIn, Sem.run_bind, run_underlying hu, Result.andThen_ok]
            rfl)
        · unfold namedKind at n2; split at n2 <;> simp at n2
          unfold nilKind at n1; split at n1 <;> simp at n1
          obtain ⟨xb, _, rfl⟩ := cv_ptr hy
          simp only [cv] at hx; cases hx
          refine eq_false ?_ rfl rfl y' z' (fun op => by cases op <;> rfl)
          exact eq_deep (fun d => by
            simp only [Op.equalIn, Sem.run_bind, run_underlying hu, Result.andThen_ok]
            rfl)
      · rename_i el hd
        have hu := hQ.und t _ hd
        have : k = 1 := by omega
        subst this
        rcases hcond with ⟨n1, n2⟩ | ⟨n1, n2⟩
        · unfold namedKind at n1; split at n1 <;> simp at n1
          unfold nilKind at n2; split at n2 <;> simp at n2
          obtain ⟨xb, _, rfl⟩ := cv_sl hx
          simp only [cv] at hy; cases hy
          refine eq_false ?_ rfl rfl y' z' (fun op => by cases op <;> rfl)
          exact eq_deep (fun d => by
            simp only [Op.equalIn, Sem.run_bind, run_underlying hu, Result.andThen_ok]
            rfl)
        · unfold namedKind at n2; split at n2 <;> simp at n2
          unfold nilKind at n1; split at n1 <;> simp at n1
          obtain ⟨xb, _, rfl⟩ := cv_sl hy
          simp only [cv] at hx; cases hx
          refine eq_false ?_ rfl rfl y' z' (fun op => by cases op <;> rfl)
          exact eq_deep (fun d => by
            simp only [Op.equalIn, Sem.run_bind, run_underlying hu, Result.andThen_ok]
            rfl)
      · rename_i kt et hd
        have hu := hQ.und t _ hd
        have : k = 2 := by omega
        subst this
        rcases hcond with ⟨n1, n2⟩ | ⟨n1, n2⟩
        · unfold namedKind at n1; split at n1 <;> simp at n1
          unfold nilKind at n2; split at n2 <;> simp at n2
          simp only [cv] at hx hy
          split at hx <;> cases hx
          cases hy
          refine eq_false ?_ rfl rfl y' z' (fun op => by cases op <;> rfl)
          exact eq_deep (fun d => by
            simp only [Op.equalIn, Sem.run_bind, run_underlying hu, Result.andThen_ok]
            rfl)
        · unfold namedKind at n2; split at n2 <;> simp at n2
          unfold nilKind at n1; split at n1 <;> simp at n1
          simp only [cv] at hy hx
          split at hy <;> cases hy
          cases hx
          refine eq_false ?_ rfl rfl y' z' (fun op => by cases op <;> rfl)
          exact eq_deep (fun d => by
            simp only [Op.equalIn, Sem.run_bind, run_underlying hu, Result.andThen_ok]
            rfl)
      · rename_i p q v hd
        have hu := hQ.und t _ hd
        have : k = 3 := by omega
        subst this
        rcases hcond with ⟨n1, n2⟩ | ⟨n1, n2⟩
        · unfold namedKind at n1; split at n1 <;> simp at n1
          unfold nilKind at n2; split at n2 <;> simp at n2
          simp only [cv] at hx hy
          split at hx <;> cases hx
          cases hy
          refine eq_false ?_ rfl rfl y' z' (fun op => by cases op <;> rfl)
          exact eq_deep (fun d => by
            simp only [Op.equalIn, Sem.run_bind, run_underlying hu, Result.andThen_ok]
            rfl)
        · unfold namedKind at n2; split at n2 <;> simp at n2
          unfold nilKind at n1; split at n1 <;> simp at n1
          simp only [cv] at hy hx
          split at hy <;> cases hy
          cases hx
          refine eq_false ?_ rfl rfl y' z' (fun op => by cases op <;> rfl)
          exact eq_deep (fun d => by
            simp only [Op.equalIn, Sem.run_bind, run_underlying hu, Result.andThen_ok]
            rfl)
      · cases hk
    · cases e
theorem binOp_runs (hf : FR ρ fr a.tmps) {op : BinOp} {t t' : TypeId} {y z : Operand} (ho : o.op = .binOp op t y z t') {x : AV} {h' : Hp} (e : oBin Q fr o h op t (evalA y fr) (evalA z fr) = some (x, h')) : RunsQ Q.P ρ h w (execOp a.eval o) x h' := by
  have hpure : ∀ {x h'}, okv h (pureOp Q fr o) = some (x, h') → RunsQ Q.P ρ h w (execOp a.eval o) x h' := fun e => pure_runs hf (fun cs b => by rw [ho]; intro h; cases h) e
  unfold oBin at e
  split at e
  · rename_i u hu
    split at e
    · rename_i v hv
      have hx : ∀ {x h'}, oBinX Q fr o h op t u v = some (x, h') → RunsQ Q.P ρ h w (execOp a.eval o) x h' := fun {x h'} e => by
        have cu := evalA_cv hf hu
        have cv' := evalA_cv hf hv
        have fin : ∀ {r : Value} {x' : AV}, ((do eqGuard op t y z (a.eval y) (a.eval z); binOp op t (a.eval y) (a.eval z) : Sem Value).run Q.P w = .ok r w) → cv ρ x' = some r → RunsQ Q.P ρ h w (execOp a.eval o) x' h := fun {r x'} hr hc => by
          refine RunsQ.same (c := r) ?_ hc
          unfold execOp
          simp only [ho]
          rw [Sem.run_bind, hr]
          rfl
        unfold oBinX at e
        split at e
        · unfold oBinP at e
          split at e
          · unfold oEqV at e
            split at e
            · rename_i p q hp hq
              split at e
              · rename_i hown
                split at e
                · rename_i r hr
                  cases e
                  have e1 := vOf_cv (ρ := ρ) hp
                  have e2 := vOf_cv (ρ := ρ) hq
                  rw [cu] at e1; rw [cv'] at e2
                  cases e1; cases e2
                  refine fin (binOp_flat hQ hr hown y z w).1 ?_
                  cases r <;> rfl
                · exact hpure e
              · exact hpure e
            · exact hpure e
          · unfold oEqV at e
            split at e
            · rename_i p q hp hq
              split at e
              · rename_i hown
                split at e
                · rename_i r hr
                  cases e
                  have e1 := vOf_cv (ρ := ρ) hp
                  have e2 := vOf_cv (ρ := ρ) hq
                  rw [cu] at e1; rw [cv'] at e2
                  cases e1; cases e2
                  refine fin (binOp_flat hQ hr hown y z w).2 ?_
                  cases r <;> rfl
                · exact hpure e
              · exact hpure e
            · exact hpure e
          · split at e
            · rename_i l m hl hm
              split at e
              · rename_i hle
                have hle : l.length + m.length ≤ 1000000 := by simpa using hle
                cases e
                obtain ⟨s1, h1, rfl⟩ := strV_cv hl cu
                obtain ⟨s2, h2, rfl⟩ := strV_cv hm cv'
                refine fin (r := .string (s1 ++ s2)) ?_ ?_
                · rw [h1, h2]
                  have hs : ¬ (((s1.size + s2.size : Nat) : Int) > IntKind.i64.max) := by
                    rw [Lib.size_eq, Lib.size_eq]
                    have : IntKind.i64.max = 9223372036854775807 := by decide
                    rw [this]; omega
                  simp only [eqGuard, binOp, Op.stringOp, hs, if_false]
                  rfl
                · unfold mkStr
                  simp only [cv]
                  congr 1
              · cases e
            · exact hpure e
          · exact hpure e
        · unfold oEq at e
          split at e
          · split at e
            · rename_i r hr
              cases e
              exact fin (eqA_ok hQ cu cv' hr y z w).1 rfl
            · cases e
          · split at e
            · rename_i r hr
              cases e
              exact fin (eqA_ok hQ cu cv' hr y z w).2 rfl
            · cases e
          · cases e
      unfold oBin2 at e
      split at e
      · rename_i k m hm
        split at e
        · rename_i k' n hn
          exact num_runs hf ho hu hv hm hn e
        · exact hx e
      · exact hx e
    · cases e
  · cases e
omit hQ in
theorem unOp_runs (hf : FR ρ fr a.tmps) {op : UnOp} {t : TypeId} {y : Operand} (ho : o.op = .unOp op t y) {x : AV} {h' : Hp} (e : okv h (pureOp Q fr o) = some (x, h')) : RunsQ Q.P ρ h w (execOp a.eval o) x h' :=
  pure_runs hf (fun cs b => by rw [ho]; intro h; cases h) e
end
end Go.Eng
