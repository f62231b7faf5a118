/- What the abstract run says of the model: len, calls. -/
import Derived.Test.YtpbjdbdlfobpmaaGreatEngX
namespace Go.Eng
open Go Go.RowKit
section
variable {Q : Tab} {B : Nat → Prop} {ρ : Env} {fr : Fr} {a : Act} {w : World} {h : Hp} {o : Oper}
/-- a call of a function value -/
theorem fun_wp {cf : CallF} (hC : CallSound Q cf) (H : HR B ρ h w) (hf : FR ρ fr a.tmps) {c : Call} (ho : o.op = .call c) {f : Operand} (hcal : c.callee = .value f) {x : AV} {h' : Hp}
    (e : oFun cf h (evalA f fr) (evals fr c.args.toList) = some (x, h')) (hfn : ∀ g args r, cf g args h = some r → ∀ args', (callFunc g args').run Q.P w = .ok (.enter g args') w)
    (K : Act → World → Prop) (Qx : Exit → Act → World → Prop) (hK : ∀ ρ' c w', ρ.le ρ' → cv ρ' x = some c → HR B ρ' h' w' → Below B w w' → K (a.put o.dst c) w') : o.wp Q.P a w K Qx := by
  unfold oFun at e
  split at e
  · rename_i args hargs
    have hca := evals_cv hf hargs
    have harr : c.args.map a.eval = ⟨c.args.toList.map a.eval⟩ := by cases c.args; simp
    have go : ∀ (g : FuncId) (first cap : Array Value) (fa ca : List AV), a.eval f = .func (.func g) first cap → cvs ρ fa = some first.toList → cvs ρ ca = some cap.toList → cf g (fa ++ args ++ ca) h = some (x, h') → o.wp Q.P a w K Qx := by
      intro g first cap fa ca hv h1 h2 hcf
      have hall := cvs_app (cvs_app h1 hca) h2
      have hcall := hC B ρ w h g _ _ x h' H hall hcf
      have hrun : (execOp a.eval o).run Q.P w = .ok (.enter g ⟨first.toList ++ c.args.toList.map a.eval ++ cap.toList⟩) w := by
        unfold execOp
        simp only [ho, resolve, hcal, Deferred.ofValue, hv, Sem.run_bind, Sem.run_pure, Result.andThen_ok, invoke]
        have : (first ++ c.args.map a.eval ++ cap) = ⟨first.toList ++ c.args.toList.map a.eval ++ cap.toList⟩ := by
          rw [harr]; apply Array.ext'; simp
        rw [this]
        exact hfn g _ _ hcf _
      unfold Oper.wp
      rw [hrun, Oper.upon_enter]
      exact hcall.mono fun e w' ⟨ρ', c', he, hl, hc, H', hb⟩ => by
        subst he
        exact hK ρ' c' w' hl hc H' hb
    split at e
    · rename_i u hu
      have hcu := evalA_cv hf hu
      unfold oFun1 at e
      split at e
      · rename_i v
        simp only [cv] at hcu
        unfold oFunV at e
        split at e
        · rename_i g fa ca
          exact go g fa ca _ _ (Option.some.inj hcu).symm (ofVs_cv ρ _) (ofVs_cv ρ _) e
        · cases e
      · rename_i g fa ca
        simp only [cv] at hcu
        split at hcu
        · rename_i p q hp hq
          exact go g ⟨p⟩ ⟨q⟩ fa ca (Option.some.inj hcu).symm hp hq e
        · cases hcu
      · cases e
    · cases e
  · cases e
end
end Go.Eng
