/- What the abstract run says of the model: two operands; slice literals; fields; conversions of numbers. -/
import Derived.Test.YtpbjdbdlfobpmaaGreatEngM
namespace Go.Eng
open Go Go.RowKit
section
variable {Q : Tab} {B : Nat → Prop} {ρ : Env} {fr : Fr} {a : Act} {w : World} {h : Hp} {o : Oper}
theorem run_guard_int {P : Program} (op : BinOp) (t : TypeId) (x y : Operand) (k k' : IntKind) (m n : Int) (w : World) : (eqGuard op t x y (.int k m) (.int k' n)).run P w = .ok () w := by
  cases op <;> rfl
theorem plainI_cv {v : AV} {k : IntKind} {n : Int} {c : Value} (e : plainI v = some (k, n)) (hc : cv ρ v = some c) : c = .int k n := by
  unfold plainI at e
  split at e
  · cases e; simp only [cv] at hc; cases hc; rfl
  · cases e
theorem num_runs (hf : FR ρ fr a.tmps) {op : BinOp} {t t' : TypeId} {y z : Operand} (ho : o.op = .binOp op t y z t') {u v : AV} (hy : evalA y fr = some u) (hz : evalA z fr = some v) {k k' : IntKind} {m n : Int} (hu : plainI u = some (k, m)) (hv : plainI v = some (k', n)) {x : AV} {h' : Hp} (e : oNum Q fr o h (intA op k k' m n) = some (x, h')) : RunsQ Q.P ρ h w (execOp a.eval o) x h' := by
  unfold oNum at e
  split at e
  · rename_i r hr
    cases e
    obtain ⟨c, h1, h2⟩ := intA_ok (P := Q.P) (ρ := ρ) (t := t) hr
    refine RunsQ.same (c := c) ?_ h2
    unfold execOp
    simp only [ho, plainI_cv hu (evalA_cv hf hy), plainI_cv hv (evalA_cv hf hz)]
    simp only [Sem.run_bind, run_guard_int, Result.andThen_ok, h1 w]
    rfl
  · exact pure_runs hf (fun cs b => by rw [ho]; intro h; cases h) e
variable (hQ : Q.Ok)
include hQ
theorem intKind_ok {t : TypeId} {k : IntKind} (e : intKind? (Q.und t) = some k) : Q.P.underlying t = some (.int k) := by
  unfold intKind? at e
  split at e
  · rename_i k' hd; cases e; exact hQ.und t _ hd
  · cases e
theorem conv_num_runs (hf : FR ρ fr a.tmps) {s d : TypeId} {y : Operand} (ho : o.op = .convert s d y) {k : IntKind} {n : Int} (hy : evalA y fr = some (.i k n)) {x : AV} {h' : Hp} (e : oNum Q fr o h (convA Q s d n) = some (x, h')) : RunsQ Q.P ρ h w (execOp a.eval o) x h' := by
  unfold oNum at e
  split at e
  · rename_i r hr
    cases e
    unfold convA at hr
    split at hr
    · rename_i k1 k2 h1 h2
      cases hr
      have hc := evalA_cv hf hy
      simp only [cv] at hc
      refine RunsQ.same (c := .int k2 (k2.wrap n)) ?_ (by simp only [cv, wrapF_eq])
      unfold execOp
      simp only [ho, ← Option.some.inj hc, convert, Sem.run_bind, run_underlying (intKind_ok hQ h1) w, run_underlying (intKind_ok hQ h2) w, Result.andThen_ok, Conv.intToInt]
      rfl
    · cases hr
  · exact pure_runs hf (fun cs b => by rw [ho]; intro h; cases h) e
theorem field_runs (hf : FR ρ fr a.tmps) {t : TypeId} {y : Operand} {f : Nat} (ho : o.op = .field t y f) {x : AV} {h' : Hp} (e : oField Q fr o h t f (evalA y fr) = some (x, h')) : RunsQ Q.P ρ h w (execOp a.eval o) x h' := by
  unfold oField at e
  split at e
  · rename_i u hy
    unfold oField1 at e
    split at e
    · exact pure_runs hf (fun cs b => by rw [ho]; intro h; cases h) e
    · rename_i l
      unfold fieldOf at e
      split at e
      · rename_i k ft hk
        obtain ⟨fs, fx, h2, h3, rfl, rfl⟩ := fieldA_ok hQ hk
        have hc := evalA_cv hf hy
        simp only [cv] at hc
        split at hc
        · rename_i cs hcs
          have hl := cvs_len hcs
          split at e
          · rename_i s hag hs
            split at e
            · rename_i hle
              have hle : fx.offset + s ≤ l.length := by simpa using hle
              cases e
              have hsub := cvs_take s (cvs_drop fx.offset hcs)
              refine RunsQ.same (c := .agg ⟨(cs.drop fx.offset).take s⟩) ?_ (mkAgg_cv hsub)
              unfold execOp
              simp only [ho, ← Option.some.inj hc, Instr.field, asAgg, part, Sem.run_bind, Sem.run_pure, run_underlying h2 w, Result.andThen_ok, h3, run_isAgg hQ hag, run_sizeOf hQ hs, if_true]
              congr 4
              simp
            · cases e
          · rename_i s hag hs
            obtain ⟨e1, rfl⟩ := okv_some e
            rw [nth_eq] at e1
            obtain ⟨c, h4, h5⟩ := cvs_at hcs fx.offset e1
            refine RunsQ.same (c := c) ?_ h5
            unfold execOp
            simp only [ho, ← Option.some.inj hc, Instr.field, asAgg, part, Sem.run_bind, Sem.run_pure, run_underlying h2 w, Result.andThen_ok, h3, run_isAgg hQ hag]
            simp [h4]
          · cases e
        · cases hc
      · cases e
    · cases e
  · cases e
end
end Go.Eng
