/- What the abstract run says of the model: places, slices, parts. -/
import Derived.Test.YtpbjdbdlfobpmaaGreatEngH
namespace Go.Eng
open Go Go.RowKit
section
variable {Q : Tab} {B : Nat → Prop} {ρ : Env} {fr : Fr} {a : Act} {w : World} {h : Hp} {o : Oper}
theorem cv_ptr {r off : Nat} {p : Value} (e : cv ρ (.ptr r off) = some p) : ∃ x, ρ r = some x ∧ p = .pointer (some ⟨x.b, off, none⟩) := by
  simp only [cv] at e
  split at e
  · rename_i x hx; cases e; exact ⟨x, hx, rfl⟩
  · cases e
theorem cv_ptr_mk {r off : Nat} {x : Blk} (hx : ρ r = some x) : cv ρ (.ptr r off) = some (.pointer (some ⟨x.b, off, none⟩)) := by simp only [cv, hx]
def capOf (x : Blk) (c : Option Nat) (d : Nat) : Nat := match c with | some c => c | none => x.k - d
theorem cv_sl {r off n : Nat} {c : Option Nat} {d : Nat} {p : Value} (e : cv ρ (.sl r off n c d) = some p) : ∃ x, ρ r = some x ∧ p = .slice (some ⟨x.b, off, none⟩) n (capOf x c d) := by
  simp only [cv] at e
  split at e
  · rename_i x hx; cases e; exact ⟨x, hx, rfl⟩
  · cases e
theorem cv_sl_mk {r off n : Nat} {c : Option Nat} {d : Nat} {x : Blk} (hx : ρ r = some x) : cv ρ (.sl r off n c d) = some (.slice (some ⟨x.b, off, none⟩) n (capOf x c d)) := by simp only [cv, hx]; rfl
theorem add_at (b o n : Nat) : (⟨b, o, none⟩ : Addr).add n = ⟨b, o + n, none⟩ := Addr.add_mid b o n
theorem nil_runs (hf : FR ρ fr a.tmps) {y : Operand} (ho : o.op = .nilCheck y) {x : AV} {h' : Hp} (e : oNil Q fr o h (evalA y fr) = some (x, h')) : RunsQ Q.P ρ h w (execOp a.eval o) x h' := by
  unfold oNil at e
  split at e
  · rename_i r p hy
    cases e
    have hc := evalA_cv hf hy
    obtain ⟨xb, _, hp⟩ := cv_ptr hc
    refine RunsQ.same (c := a.eval y) ?_ hc
    unfold execOp
    simp only [ho, hp]
    rfl
  · exact pure_runs hf (fun cs b => by rw [ho]; intro h; cases h) e
theorem extract_runs (hf : FR ρ fr a.tmps) {y : Operand} {i : Nat} (ho : o.op = .extract y i) {x : AV} {h' : Hp} (e : oExtract h i (evalA y fr) = some (x, h')) : RunsQ Q.P ρ h w (execOp a.eval o) x h' := by
  unfold oExtract at e
  split at e
  · rename_i l hy
    obtain ⟨e1, rfl⟩ := okv_some e
    rw [nth_eq] at e1
    have hc := evalA_cv hf hy
    simp only [cv] at hc
    split at hc
    · rename_i cs hcs
      obtain ⟨c, h1, h2⟩ := cvs_at hcs i e1
      refine RunsQ.same (c := c) ?_ h2
      unfold execOp
      simp only [ho, ← Option.some.inj hc, Instr.extract]
      simp [h1]
    · cases hc
  · rename_i v hy
    unfold extV at e
    split at e
    · rename_i vs
      split at e
      · rename_i c hcs
        cases e
        rw [nth_eq] at hcs
        have hc := evalA_cv hf hy
        simp only [cv] at hc
        refine RunsQ.same (c := c) ?_ (ofV_cv ρ c)
        unfold execOp
        have : vs[i]? = some c := by simpa using hcs
        simp only [ho, ← Option.some.inj hc, Instr.extract, this]
        rfl
      · cases e
    · cases e
  · cases e
theorem makeFunc_runs (hf : FR ρ fr a.tmps) {f : Fn} {y z : Array Operand} (ho : o.op = .makeFunc f y z) {x : AV} {h' : Hp} (e : oMakeFunc h f (evals fr y.toList) (evals fr z.toList) = some (x, h')) : RunsQ Q.P ρ h w (execOp a.eval o) x h' := by
  unfold oMakeFunc at e
  split at e
  · rename_i u v hu hv
    have h1 := evals_cv hf hu
    have h2 := evals_cv hf hv
    have hrun : (execOp a.eval o).run Q.P w = .ok (.value (.func f ⟨y.toList.map a.eval⟩ ⟨z.toList.map a.eval⟩)) w := by
      unfold execOp
      simp only [ho, Instr.makeFunc]
      have e1 : y.map a.eval = ⟨y.toList.map a.eval⟩ := by cases y; simp
      have e2 : z.map a.eval = ⟨z.toList.map a.eval⟩ := by cases z; simp
      rw [e1, e2]; rfl
    split at e
    · rename_i p q hp hq
      cases e
      have k1 := plains_cv (ρ := ρ) hp
      have k2 := plains_cv (ρ := ρ) hq
      rw [h1] at k1; rw [h2] at k2
      cases k1; cases k2
      exact RunsQ.same hrun rfl
    · cases e
      exact RunsQ.same hrun (by simp only [cv, h1, h2])
  · cases e
theorem newMap_ok (H : HR B ρ h w) {r : Nat} {h' : Hp} (hn : newA h (.map [] 0) = some (r, h')) :
    HR B (ρ.set r ⟨w.heap.size, 0⟩) h' (w.alloc (.map #[] 0)) ∧ ρ.le (ρ.set r ⟨w.heap.size, 0⟩) ∧ (ρ.set r ⟨w.heap.size, 0⟩) r = some ⟨w.heap.size, 0⟩ ∧ Below B w (w.alloc (.map #[] 0)) :=
  H.alloc _ hn ⟨#[], heap_alloc_new w _, trivial⟩
theorem makeMap_runs {t : TypeId} {r : Option Operand} (ho : o.op = .makeMap t r) {x : AV} {h' : Hp} (e : oMakeMap h r = some (x, h')) : RunsB Q.P ρ h w (execOp a.eval o) x h' := by
  unfold oMakeMap at e
  split at e
  · unfold asMap at e
    split at e
    · rename_i r h1 hn
      cases e
      refine ⟨r, _, .map #[] 0, 0, .map (some w.heap.size), hn, rfl, ?_, fun ρ' hle hr => ⟨?_, #[], heap_alloc_new w _, trivial⟩⟩
      · unfold execOp
        simp only [ho, Option.map_none, Instr.makeMap]
        rfl
      · simp only [cv, hr]
    · cases e
  · cases e
theorem idx_runs {r off i n : Nat} {e' : TypeId} {x : AV} {h' : Hp} (e : idxA Q h e' r off i n = some (x, h')) : ∃ s, i < n ∧ sizeA Q e' = some s ∧ x = .ptr r (off + i * s) ∧ h' = h := by
  unfold idxA at e
  split at e
  · rename_i s hlt hs
    cases e
    exact ⟨s, by simpa using hlt, hs, rfl, rfl⟩
  · cases e
theorem numOf_cv {v : AV} {n : Nat} {c : Value} (e : numOf v = some n) (hc : cv ρ v = some c) : ∃ k, c = .int k (n : Int) := by
  unfold numOf at e
  split at e
  · rename_i k m; cases e; simp only [cv] at hc; cases hc; exact ⟨k, rfl⟩
  · cases e
variable (hQ : Q.Ok)
include hQ
theorem elemOf_ok {t e : TypeId} (he : elemOf? (Q.und t) = some e) : Q.P.underlying t = some (.slice e) := by
  unfold elemOf? at he
  split at he
  · rename_i d hd; cases he; exact hQ.und t _ hd
  · cases he
theorem arrOf_ok {t e : TypeId} {n : Nat} (he : arrOf? (Q.und t) = some (n, e)) : Q.P.underlying t = some (.array n e) := by
  unfold arrOf? at he
  split at he
  · rename_i d1 d2 hd; cases he; exact hQ.und t _ hd
  · cases he
theorem arr_runs (hf : FR ρ fr a.tmps) {t : TypeId} {y : Operand} (ho : o.op = .sliceToArrayPointer t y) {x : AV} {h' : Hp} (e : oArr Q h t (evalA y fr) = some (x, h')) : RunsQ Q.P ρ h w (execOp a.eval o) x h' := by
  unfold oArr at e
  split at e
  · rename_i r off n c d hy
    split at e
    · rename_i k el hk
      split at e
      · rename_i hle
        cases e
        obtain ⟨xb, h1, hp⟩ := cv_sl (evalA_cv hf hy)
        refine RunsQ.same (c := .pointer (some ⟨xb.b, off, none⟩)) ?_ (cv_ptr_mk h1)
        have hle' : ¬ n < k := Nat.not_lt.2 (by simpa using hle)
        unfold execOp
        simp only [ho, hp, Instr.arrayAt, Sem.run_bind, run_underlying (arrOf_ok hQ hk) w, Result.andThen_ok, hle', if_false]
        rfl
      · cases e
    · cases e
  · cases e
theorem fieldA_ok {t : TypeId} {f k : Nat} {ft : TypeId} (e : fieldA Q t f = some (k, ft)) : ∃ fs x, Q.P.underlying t = some (.struct fs) ∧ fs[f]? = some x ∧ x.offset = k ∧ x.type = ft := by
  unfold fieldA at e
  split at e
  · rename_i fs hd
    split at e
    · rename_i x hx; cases e; exact ⟨fs, x, hQ.und t _ hd, hx, rfl, rfl⟩
    · cases e
  · cases e
theorem fieldAddr_runs (hf : FR ρ fr a.tmps) {t : TypeId} {y : Operand} {f : Nat} (ho : o.op = .fieldAddr t y f) {x : AV} {h' : Hp} (e : oFieldAddr Q h (fieldA Q t f) (evalA y fr) = some (x, h')) : RunsQ Q.P ρ h w (execOp a.eval o) x h' := by
  unfold oFieldAddr at e
  split at e
  · rename_i r off hy
    split at e
    · rename_i k ft hk
      split at e
      · rename_i s hs
        cases e
        obtain ⟨xb, h1, hp⟩ := cv_ptr (evalA_cv hf hy)
        obtain ⟨fs, fx, h2, h3, rfl, rfl⟩ := fieldA_ok hQ hk
        refine RunsQ.same (c := .pointer (some ⟨xb.b, off + fx.offset, none⟩)) ?_ (cv_ptr_mk h1)
        unfold execOp
        simp only [ho, hp, Instr.fieldAt, Instr.sureAddr, fieldPlace, Sem.run_bind, Sem.run_pure, run_underlying h2 w, Result.andThen_ok, h3, run_sizeOf hQ hs]
        simp [add_at]
      · cases e
    · cases e
  · cases e
theorem indexAddr_runs (hf : FR ρ fr a.tmps) {t : TypeId} {y z : Operand} (ho : o.op = .indexAddr t y z) {x : AV} {h' : Hp} (e : oIndexAddr Q h t ((evalA z fr).bind numOf) (evalA y fr) = some (x, h')) : RunsQ Q.P ρ h w (execOp a.eval o) x h' := by
  unfold oIndexAddr at e
  split at e
  · rename_i r off hy
    split at e
    · rename_i k el i hk hi
      obtain ⟨s, h1, h2, rfl, rfl⟩ := idx_runs e
      obtain ⟨v, hv, hn⟩ := Option.bind_eq_some_iff.1 hi
      obtain ⟨ki, hz⟩ := numOf_cv hn (evalA_cv hf hv)
      obtain ⟨xb, h3, hp⟩ := cv_ptr (evalA_cv hf hy)
      refine RunsQ.same (c := .pointer (some ⟨xb.b, off + i * s, none⟩)) ?_ (cv_ptr_mk h3)
      unfold execOp
      have hb : 0 ≤ (i : Int) ∧ (i : Int) < (k : Int) := by omega
      simp only [ho, hp, hz, Instr.indexAt, asIntOf, Instr.sureAddr, Sem.run_bind, Sem.run_pure, run_underlying (arrOf_ok hQ hk) w, Result.andThen_ok]
      simp [hb, run_sizeOf hQ h2, add_at]
    · cases e
  · rename_i r off n c d hy
    split at e
    · rename_i el i hk hi
      obtain ⟨s, h1, h2, rfl, rfl⟩ := idx_runs e
      obtain ⟨v, hv, hn⟩ := Option.bind_eq_some_iff.1 hi
      obtain ⟨ki, hz⟩ := numOf_cv hn (evalA_cv hf hv)
      obtain ⟨xb, h3, hp⟩ := cv_sl (evalA_cv hf hy)
      refine RunsQ.same (c := .pointer (some ⟨xb.b, off + i * s, none⟩)) ?_ (cv_ptr_mk h3)
      unfold execOp
      have hb : 0 ≤ (i : Int) ∧ (i : Int) < (n : Int) := by omega
      simp only [ho, hp, hz, Instr.indexAt, asIntOf, Instr.sureAddr, Sem.run_bind, Sem.run_pure, run_underlying (elemOf_ok hQ hk) w, Result.andThen_ok]
      simp [hb, run_sizeOf hQ h2, add_at]
    · cases e
  · cases e
end
end Go.Eng
