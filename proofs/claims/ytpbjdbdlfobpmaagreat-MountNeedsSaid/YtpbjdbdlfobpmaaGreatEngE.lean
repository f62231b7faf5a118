/- What the abstract run says of the model: operations. -/
import Derived.Test.YtpbjdbdlfobpmaaGreatEngD
namespace Go.Eng
open Go Go.RowKit
def FR (ρ : Env) (fr : Fr) (tmps : Array Value) : Prop := ∀ i v, fr.get i = some v → ∃ c, tmps[i]? = some c ∧ cv ρ v = some c
theorem FR.env {ρ ρ' : Env} {fr : Fr} {tmps : Array Value} (h : FR ρ fr tmps) (hl : ρ.le ρ') : FR ρ' fr tmps := fun i v e => let ⟨c, a, b⟩ := h i v e; ⟨c, a, cv_mono hl v c b⟩
theorem evalA_cv {ρ : Env} {fr : Fr} {a : Act} (h : FR ρ fr a.tmps) {x : Operand} {v : AV} (e : evalA x fr = some v) : cv ρ v = some (a.eval x) := by
  cases x with
  | tmp t =>
    obtain ⟨c, h1, h2⟩ := h t v e
    rw [h2]; simp [Act.eval, Array.getD_eq_getD_getElem?, h1]
  | const y => simp only [evalA] at e; cases e; exact ofV_cv ρ y
  | global g => cases e
  | func f => simp only [evalA] at e; cases e; rfl
theorem evals_cv {ρ : Env} {fr : Fr} {a : Act} (h : FR ρ fr a.tmps) : ∀ {l : List Operand} {vs : List AV}, evals fr l = some vs → cvs ρ vs = some (l.map a.eval)
  | [], vs, e => by simp only [evals] at e; cases e; rfl
  | x :: r, vs, e => by
    simp only [evals] at e
    split at e
    · rename_i v hv
      split at e
      · rename_i l hl
        cases e
        exact cvs_mk (evalA_cv h hv) (evals_cv h hl)
      · cases e
    · cases e
theorem prun_ok {α : Type} {P : Program} : ∀ {s : Sem α} {x : α}, prun P s = some x → ∀ w, s.run P w = .ok x w := by
  intro s
  induction s with
  | pure a => intro x h w; simp only [prun] at h; cases h; rfl
  | program k ih => intro x h w; exact ih _ h w
  | mark m k ih => intro x h w; exact ih h w
  | choose q k ih =>
    intro x h w
    simp only [prun] at h
    split at h
    · rename_i hq
      simp only [Sem.run, hq, if_true]
      exact ih _ h w
    · cases h
  | _ => intro x h w; cases h
def Runs (P : Program) (B : Nat → Prop) (ρ : Env) (w : World) (s : Sem Next) (x : AV) (h' : Hp) : Prop :=
  ∃ ρ' c w', (s.run P w = .ok (.value c) w' ∨ c = undef ∧ s.run P w = .ok .skip w') ∧ ρ.le ρ' ∧ cv ρ' x = some c ∧ HR B ρ' h' w' ∧ Below B w w'
theorem Runs.same {P : Program} {B : Nat → Prop} {ρ : Env} {w : World} {s : Sem Next} {x : AV} {h : Hp} {c : Value} (H : HR B ρ h w) (hr : s.run P w = .ok (.value c) w) (hc : cv ρ x = some c) : Runs P B ρ w s x h :=
  ⟨ρ, c, w, .inl hr, Env.le_refl ρ, hc, H, Below.refl _ _⟩
/-- an operation that leaves the world as it is -/
def RunsQ (P : Program) (ρ : Env) (h : Hp) (w : World) (s : Sem Next) (x : AV) (h' : Hp) : Prop := h' = h ∧ ∃ c, s.run P w = .ok (.value c) w ∧ cv ρ x = some c
theorem RunsQ.same {P : Program} {ρ : Env} {h : Hp} {w : World} {s : Sem Next} {x : AV} {c : Value} (hr : s.run P w = .ok (.value c) w) (hc : cv ρ x = some c) : RunsQ P ρ h w s x h := ⟨rfl, c, hr, hc⟩
theorem RunsQ.runs {P : Program} {B : Nat → Prop} {ρ : Env} {h : Hp} {w : World} {s : Sem Next} {x : AV} {h' : Hp} (R : RunsQ P ρ h w s x h') (H : HR B ρ h w) : Runs P B ρ w s x h' := by
  obtain ⟨rfl, c, hr, hc⟩ := R
  exact Runs.same H hr hc
/-- an operation that makes a block, and does nothing else -/
def RunsB (P : Program) (ρ : Env) (h : Hp) (w : World) (s : Sem Next) (x : AV) (h' : Hp) : Prop :=
  ∃ r obj ob k c, newA h obj = some (r, h') ∧ alive obj = true ∧ s.run P w = .ok (.value c) (w.alloc ob) ∧ ∀ ρ' : Env, ρ.le ρ' → ρ' r = some ⟨w.heap.size, k⟩ → cv ρ' x = some c ∧ OR ρ' (w.alloc ob) ⟨w.heap.size, k⟩ obj
theorem RunsB.runs {P : Program} {B : Nat → Prop} {ρ : Env} {h : Hp} {w : World} {s : Sem Next} {x : AV} {h' : Hp} (R : RunsB P ρ h w s x h') (H : HR B ρ h w) : Runs P B ρ w s x h' := by
  obtain ⟨r, obj, ob, k, c, hn, _, hr, hc⟩ := R
  have hle := Env.set_le (x := ⟨w.heap.size, k⟩) (H.fresh r (by rw [(newA_get hn).1]; exact Nat.le_refl _)).1
  obtain ⟨h1, h2⟩ := hc _ hle (Env.set_at ρ r _)
  have key := H.alloc ob hn h2
  exact ⟨_, c, _, .inl hr, key.2.1, h1, key.1, key.2.2.2⟩
theorem allPlain_eval {ρ : Env} {fr : Fr} {a : Act} (h : FR ρ fr a.tmps) : ∀ {l : List Operand}, allPlain fr l = true → ∀ x ∈ l, a.eval x = plainVal fr x
  | y :: r, e, x, hx => by
    simp only [allPlain, Bool.and_eq_true] at e
    rcases List.mem_cons.1 hx with rfl | hx
    · unfold plainVal
      cases hv : evalA x fr with
      | none => rw [hv] at e; cases e.1
      | some v =>
        rw [hv] at e
        simp only [Option.bind_some] at e ⊢
        cases hp : plain v with
        | none => rw [hp] at e; cases e.1
        | some c =>
          have h1 := evalA_cv h hv
          rw [plain_cv hp] at h1
          cases h1; rfl
    · exact allPlain_eval h e.2 x hx
section
variable {Q : Tab} {B : Nat → Prop} {ρ : Env} {fr : Fr} {a : Act} {w : World} {h : Hp} {o : Oper}
theorem pureOp_ok (hf : FR ρ fr a.tmps) (hs : ∀ cs b, o.op ≠ .select cs b) {v : AV} (e : pureOp Q fr o = some v) : ∃ c, (∀ w, (execOp a.eval o).run Q.P w = .ok (.value c) w) ∧ cv ρ v = some c := by
  unfold pureOp at e
  split at e
  · rename_i ha
    have he : execOp a.eval o = execOp (plainVal fr) o := execOp_congr o hs fun x hx => allPlain_eval hf ha x (by simpa using hx)
    split at e
    · unfold keepV at e
      split at e
      · rename_i c hc
        cases e
        exact ⟨c, fun w => by rw [he]; exact prun_ok hc w, rfl⟩
      · cases e
    · unfold asValue at e
      split at e
      · rename_i c hc
        cases e
        exact ⟨c, fun w => by rw [he]; exact prun_ok hc w, ofV_cv ρ c⟩
      · cases e
  · cases e
theorem pure_runs (hf : FR ρ fr a.tmps) (hs : ∀ cs b, o.op ≠ .select cs b) {x : AV} {h' : Hp} (e : okv h (pureOp Q fr o) = some (x, h')) : RunsQ Q.P ρ h w (execOp a.eval o) x h' := by
  unfold okv at e
  split at e
  · rename_i v hv
    cases e
    obtain ⟨c, h1, h2⟩ := pureOp_ok hf hs hv
    exact RunsQ.same (h1 w) h2
  · cases e
theorem okv_some {h : Hp} {y : Option AV} {x : AV} {h' : Hp} (e : okv h y = some (x, h')) : y = some x ∧ h' = h := by
  unfold okv at e
  split at e
  · cases e; exact ⟨rfl, rfl⟩
  · cases e

/-! ### moves -/
theorem move_runs (hf : FR ρ fr a.tmps) {y : Operand} (ho : o.op = .move y ∨ o.op = .assign y) {x : AV} {h' : Hp} (e : okv h (evalA y fr) = some (x, h')) : RunsQ Q.P ρ h w (execOp a.eval o) x h' := by
  obtain ⟨e1, rfl⟩ := okv_some e
  refine RunsQ.same ?_ (evalA_cv hf e1)
  rcases ho with ho | ho <;> (unfold execOp; simp only [ho]; rfl)
theorem pick_runs (hf : FR ρ fr a.tmps) {c y z : Operand} (ho : o.op = .pick c y z) {x : AV} {h' : Hp} (e : oPick h fr y z (evalA c fr) = some (x, h')) : RunsQ Q.P ρ h w (execOp a.eval o) x h' := by
  unfold oPick at e
  split at e
  · rename_i hc
    have k := evalA_cv hf hc
    simp only [cv] at k
    obtain ⟨e1, rfl⟩ := okv_some e
    refine RunsQ.same ?_ (evalA_cv hf e1)
    unfold execOp; simp only [ho, ← Option.some.inj k]; rfl
  · rename_i hc
    have k := evalA_cv hf hc
    simp only [cv] at k
    obtain ⟨e1, rfl⟩ := okv_some e
    refine RunsQ.same ?_ (evalA_cv hf e1)
    unfold execOp; simp only [ho, ← Option.some.inj k]; rfl
  · cases e

/-! ### the types -/
variable (hQ : Q.Ok)
include hQ
theorem sizeA_ok {t : TypeId} {s : Nat} (e : sizeA Q t = some s) : ∃ i, Q.P.info? t = some i ∧ i.size = s := by
  unfold sizeA at e
  split at e
  · rename_i i hi; cases e; exact ⟨i, hQ.inf t i hi, rfl⟩
  · cases e
theorem run_sizeOf {t : TypeId} {s : Nat} (e : sizeA Q t = some s) (w : World) : (sizeOf t).run Q.P w = .ok s w := by
  obtain ⟨i, h1, h2⟩ := sizeA_ok hQ e
  simp [sizeOf, typeInfo, h1, h2]
theorem isAggA_ok {t : TypeId} {b : Bool} (e : isAggA Q t = some b) : ∃ d, Q.P.underlying t = some d ∧ isRow d = b := by
  unfold isAggA at e
  split at e
  · rename_i d hd; cases e; exact ⟨d, hQ.und t d hd, rfl⟩
  · cases e
theorem run_isAgg {t : TypeId} {b : Bool} (e : isAggA Q t = some b) (w : World) : (isAgg t).run Q.P w = .ok b w := by
  obtain ⟨d, h1, h2⟩ := isAggA_ok hQ e
  unfold isAgg
  rw [Sem.run_bind, run_underlying h1 w]
  subst h2
  cases d <;> rfl
/-- a variable that is read -/
theorem loadR_ok {t : TypeId} {r : Row} {x : Blk} {off : Nat} {v : AV} (hr : RowR ρ w x r) (e : loadR Q t off r = some v) : ∃ c, (loadVar t ⟨x.b, off, none⟩).run Q.P w = .ok c w ∧ cv ρ v = some c := by
  obtain ⟨e0, es, n, z, tr⟩ := r
  simp only [loadR] at e
  split at e
  · rename_i s ha hs
    split at e
    · rename_i l hl
      cases e
      obtain ⟨cs, h1, h2, h3⟩ := hr.cells s off l hl
      obtain ⟨i, h4, h5⟩ := sizeA_ok hQ hs
      obtain ⟨d, h6, h7⟩ := isAggA_ok hQ ha
      exact ⟨_, run_loadVar_mid (P := Q.P) w x.b off t cs d h3 h6 (by cases d <;> first | rfl | cases h7) (by rw [h4, h2]; simp [h5]), mkAgg_cv h1⟩
    · cases e
  · rename_i s ha hs
    obtain ⟨c, h1, h2⟩ := hr.cell e
    refine ⟨c, ?_, h1⟩
    unfold loadVar
    rw [Sem.run_bind, run_isAgg hQ ha w]
    simp [load, Sem.run, h2]
  · cases e
theorem loadA_ok (H : HL ρ h w) {t : TypeId} {r off : Nat} {v : AV} {p : Value} (hp : cv ρ (.ptr r off) = some p) (e : loadA Q h t r off = some v) : ∃ b c, p = .pointer (some ⟨b, off, none⟩) ∧ (loadVar t ⟨b, off, none⟩).run Q.P w = .ok c w ∧ cv ρ v = some c := by
  unfold loadA at e
  split at e
  · rename_i row hrow
    unfold rowOf at hrow
    split at hrow
    · rename_i e0 es n z tr hget
      cases hrow
      obtain ⟨x, k1, k3⟩ := H r _ hget rfl
      simp only [cv, k1] at hp
      cases hp
      obtain ⟨c, h1, h2⟩ := loadR_ok hQ (r := ⟨e0, es, n, z, tr⟩) k3 e
      exact ⟨x.b, c, rfl, h1, h2⟩
    · cases hrow
  · cases e
theorem load_runs (H : HL ρ h w) (hf : FR ρ fr a.tmps) {t : TypeId} {y : Operand} (ho : o.op = .load t y) {x : AV} {h' : Hp} (e : oLoad Q h t (evalA y fr) = some (x, h')) : RunsQ Q.P ρ h w (execOp a.eval o) x h' := by
  unfold oLoad at e
  split at e
  · rename_i r off hy
    obtain ⟨e1, rfl⟩ := okv_some e
    obtain ⟨b, c, h1, h2, h3⟩ := loadA_ok hQ H (evalA_cv hf hy) e1
    refine RunsQ.same ?_ h3
    unfold execOp
    simp only [ho, h1, Instr.loadAt, Instr.sureAddr, Sem.run_bind, Sem.run_pure, Result.andThen_ok, h2]
  · cases e
end
end Go.Eng
