/- What the abstract run says of the model: memory that is made and written. -/
import Derived.Test.YtpbjdbdlfobpmaaGreatEngE
namespace Go.Eng
open Go Go.RowKit
theorem nth_eq {α : Type} : ∀ (l : List α) (k : Nat), nth l k = l[k]?
  | [], k => by simp [nth]
  | x :: r, 0 => by simp [nth]
  | x :: r, k + 1 => by simp only [nth, List.getElem?_cons_succ]; exact nth_eq r k
theorem uniI_all : ∀ {l : List AV}, uniI l = true → ∀ x ∈ l, x = .i .u8 0
  | .i k n :: r, h, x, hx => by
    cases n with
    | ofNat m =>
      cases m with
      | zero =>
        simp only [uniI] at h
        split at h
        · rename_i hk
          rcases List.mem_cons.1 hx with rfl | hx
          · have : kIx k = 4 := by simpa using hk
            cases k <;> first | rfl | cases this
          · exact uniI_all h x hx
        · cases h
      | succ m => cases h
    | negSucc m => cases h
theorem zeroC_at (z : List AV) (i : Nat) (hz : z.length ≠ 0) : cellZ (zeroC z) i = z[i % z.length]? := by
  unfold zeroC
  split
  · rename_i x y r
    split
    · rename_i hu
      have hlt : i % (x :: y :: r).length < (x :: y :: r).length := Nat.mod_lt _ (by simp)
      rw [List.getElem?_eq_getElem hlt]
      have := uniI_all hu _ (List.getElem_mem hlt)
      rw [this]; rfl
    · unfold cellZ; exact nth_eq _ _
  · rename_i hne
    cases z with
    | nil => simp at hz
    | cons x r => cases r with
      | nil => simp [cellZ, Nat.mod_one]
      | cons y r => exact absurd rfl (hne x y r)
theorem cellAt_zero {n : Nat} {z : List AV} {i : Nat} (hi : i < n) (hz : z.length ≠ 0) : cellAt n (zeroC z) .leaf i = z[i % z.length]? := by
  unfold cellAt
  rw [show Nat.blt i n = true by simpa using hi]
  exact zeroC_at z i hz
theorem below_setCells {B : Nat → Prop} {w : World} {b o : Nat} {cs : List Value} {cur : Array Value} {e : TypeId} {fz : Nat × Nat} (hg : w.heap[b]? = some (.cells cur e fz)) (hB : ¬ B b) : Below B w (w.setCells b o cs) := by
  obtain ⟨_, a2, a3, a4, a5, a6⟩ := heap_setCells cs o w b cur e fz hg
  exact ⟨a4, a5, a6, by omega, fun i hi => a2 i (fun e => hB (e ▸ hi))⟩
section
variable {P : Program} {B : Nat → Prop} {ρ : Env} {w : World} {h : Hp}
theorem rowOf_some {o : Option AO} {row : Row} (e : rowOf o = some row) : o = some (.row row.e row.es row.n row.z row.t) := by
  unfold rowOf at e
  split at e
  · cases e; rfl
  · cases e
/-- cells are laid in a row that has a name -/
theorem layR_ok (H : HR B ρ h w) {r off : Nat} {row : Row} {l : List AV} {cs : List Value} {h' : Hp} (hrow : rowOf (h.t.get r) = some row) (e : layR h r off l row = some h') (hc : cvs ρ l = some cs) :
    ∃ x, ρ r = some x ∧ (storeCells ⟨x.b, off, none⟩ cs).run P w = .ok () (w.setCells x.b off cs) ∧ HR B ρ h' (w.setCells x.b off cs) ∧ Below B w (w.setCells x.b off cs) := by
  have hget := rowOf_some hrow
  obtain ⟨x, k1, k2, k3⟩ := H.live r _ hget rfl
  obtain ⟨e0, es, n, z, tr⟩ := row
  simp only [layR] at e
  split at e
  · rename_i tr' htr
    have R : RowR ρ w x ⟨e0, es, n, z, tr⟩ := k3
    have R' := R.lay htr hc
    obtain ⟨cur, fz, hg, _⟩ := R
    obtain ⟨a1, a2, a3, _⟩ := heap_setCells cs off w x.b cur e0 fz hg
    exact ⟨x, k1, run_lay (P := P) k3 htr hc, H.put e hget rfl k1 (fun j hj _ => a2 j hj) (by omega) R', below_setCells hg k2⟩
  · cases e
theorem run_newRow (e : TypeId) (cells : Array Value) (w : World) : (newRow e cells).run P w = .ok ⟨w.heap.size, 0, none⟩ (w.alloc (.cells cells e)) := rfl
/-- a new row whose first cells are laid one by one, whatever else there is -/
theorem newRowB {h : Hp} {ρ : Env} {e : TypeId} {es : Nat} {cells : List AV} {r : Nat} {h' : Hp} (hn : newRowA h e es cells = some (r, h')) {cs : List Value} (hc : cvs ρ cells = some cs)
    (cur : Array Value) (k : Nat) (hk : cur.size = k * es) (hm : k ≤ maxLen) (hcur : ∀ i, i < cs.length → cur[i]? = cs[i]?) (hle : cs.length ≤ cur.size) (w : World) :
    ∃ obj, newA h obj = some (r, h') ∧ alive obj = true ∧ ∀ ρ' : Env, ρ.le ρ' → OR ρ' (w.alloc (.cells cur e)) ⟨w.heap.size, k⟩ obj := by
  unfold newRowA at hn
  rw [natF_eq] at hn
  split at hn
  · rename_i tr htr
    refine ⟨_, hn, rfl, fun ρ' hle' => ?_⟩
    have hlen := cvs_len hc
    refine ⟨cur, (0, 0), heap_alloc_new w _, fun i _ => by omega, by simp only; omega, hk, hm, fun i hi => ?_⟩
    simp only at hi
    obtain ⟨c, h1, h2⟩ := cvs_at hc i (List.getElem?_eq_getElem hi)
    refine ⟨cells[i], c, ?_, cv_mono hle' _ _ h2, by rw [hcur i (by omega)]; exact h1⟩
    simp only
    rw [layR_cell htr i hi, if_pos (by omega), Nat.sub_zero, List.getElem?_eq_getElem hi]
  · cases hn
/-- a new row whose first cells are laid one by one -/
theorem newRowA_ok (H : HR B ρ h w) {e : TypeId} {es : Nat} {cells : List AV} {r : Nat} {h' : Hp} (hn : newRowA h e es cells = some (r, h')) {cs : List Value} (hc : cvs ρ cells = some cs)
    (cur : Array Value) (k : Nat) (hk : cur.size = k * es) (hm : k ≤ maxLen) (hcur : ∀ i, i < cs.length → cur[i]? = cs[i]?) (hle : cs.length ≤ cur.size) :
    HR B (ρ.set r ⟨w.heap.size, k⟩) h' (w.alloc (.cells cur e)) ∧ ρ.le (ρ.set r ⟨w.heap.size, k⟩) ∧ (ρ.set r ⟨w.heap.size, k⟩) r = some ⟨w.heap.size, k⟩ ∧ Below B w (w.alloc (.cells cur e)) := by
  unfold newRowA at hn
  rw [natF_eq] at hn
  split at hn
  · rename_i tr htr
    have hr := (newA_get hn).1
    have hle' := Env.set_le (x := ⟨w.heap.size, k⟩) (H.fresh r (by omega)).1
    have hlen := cvs_len hc
    refine H.alloc _ hn ⟨cur, (0, 0), heap_alloc_new w _, fun i _ => by omega, by simp only; omega, hk, hm, fun i hi => ?_⟩
    simp only at hi
    obtain ⟨c, h1, h2⟩ := cvs_at hc i (List.getElem?_eq_getElem hi)
    refine ⟨cells[i], c, ?_, cv_mono hle' _ _ h2, by rw [hcur i (by omega)]; exact h1⟩
    simp only
    rw [layR_cell htr i hi, if_pos (by omega), Nat.sub_zero, List.getElem?_eq_getElem hi]
  · cases hn
end
section
variable {Q : Tab} {B : Nat → Prop} {ρ : Env} {fr : Fr} {a : Act} {w : World} {h : Hp} {o : Oper}
theorem box_runs (hf : FR ρ fr a.tmps) {t : TypeId} {y : Operand} (ho : o.op = .box t y) {x : AV} {h' : Hp} (e : oBox Q h t (evalA y fr) = some (x, h')) : RunsB Q.P ρ h w (execOp a.eval o) x h' := by
  unfold oBox at e
  split at e
  · rename_i v hv
    split at e
    · rename_i s hs
      split at e
      · rename_i hlen
        have hlen' : v.cells.length = s := by simpa using hlen
        unfold asPtr at e
        split at e
        · rename_i r h1 hn
          cases e
          have hcs := cells_cv (evalA_cv hf hv)
          have hl := cvs_len hcs
          obtain ⟨obj, k1, k2, k3⟩ := newRowB hn hcs (a.eval y).cells 1 (by simp at hl; omega) (by decide) (fun i _ => by simp) (by simp) w
          refine ⟨r, obj, _, 1, .pointer (some ⟨w.heap.size, 0, none⟩), k1, k2, ?_, fun ρ' hle hr => ⟨?_, k3 ρ' hle⟩⟩
          · unfold execOp
            simp only [ho, Instr.box, newVar, Sem.run_bind, Sem.run_pure, Result.andThen_ok, run_newRow]
          · simp only [cv, hr]
        · cases e
      · cases e
    · cases e
  · cases e
end
section
variable {Q : Tab} {B : Nat → Prop} {ρ : Env} {fr : Fr} {a : Act} {w : World} {h : Hp} {o : Oper} (hQ : Q.Ok)
include hQ
theorem zeroA_ok {t : TypeId} {z : List AV} (e : zeroA Q t = some z) : ∃ i zv, Q.P.info? t = some i ∧ i.zero = some zv ∧ ∀ ρ, cvs ρ z = some zv.cells.toList := by
  unfold zeroA at e
  split at e
  · rename_i i hi
    split at e
    · rename_i zv hz
      cases e
      exact ⟨i, zv, hQ.inf t i hi, hz, fun ρ => cells_cv (ofV_cv ρ zv)⟩
    · cases e
  · cases e
theorem store_runs (H : HR B ρ h w) (hf : FR ρ fr a.tmps) {t : TypeId} {y z : Operand} (ho : o.op = .store t y z) {x : AV} {h' : Hp} (e : oStore Q h t (evalA z fr) (evalA y fr) = some (x, h')) : Runs Q.P B ρ w (execOp a.eval o) x h' := by
  unfold oStore at e
  split at e
  · rename_i r off hy
    split at e
    · rename_i v hz
      unfold asUnit at e
      split at e
      · rename_i h1 hst
        cases e
        unfold storeA at hst
        split at hst
        · rename_i row s hrow hs
          split at hst
          · rename_i hlen
            have hlen' : v.cells.length = s := by simpa using hlen
            have hv := evalA_cv hf hz
            have hcs := cells_cv hv
            obtain ⟨xb, k1, k2, k3, k4⟩ := layR_ok (P := Q.P) H hrow hst hcs
            have hp := evalA_cv hf hy
            simp only [cv, k1] at hp
            refine ⟨ρ, undef, _, .inr ⟨rfl, ?_⟩, Env.le_refl ρ, rfl, k3, k4⟩
            have hl2 := cvs_len hcs
            have hsz : (a.eval z).cells.size = s := by rw [← hlen', ← hl2]; simp
            unfold execOp
            simp only [ho, ← Option.some.inj hp, Instr.storeAt, Instr.sureAddr, storeVar, Sem.run_bind, Sem.run_pure, Result.andThen_ok, run_sizeOf hQ hs, hsz]
            simp [k2]
          · cases hst
        · cases hst
      · cases e
    · cases e
  · cases e
theorem alloc_runs {t : TypeId} (ho : o.op = .alloc t) {x : AV} {h' : Hp} (e : oAlloc Q h t = some (x, h')) : RunsB Q.P ρ h w (execOp a.eval o) x h' := by
  unfold oAlloc at e
  split at e
  · rename_i z s hz hs
    split at e
    · rename_i hlen
      have hlen' : z.length = s := by simpa using hlen
      unfold asPtr at e
      split at e
      · rename_i r h1 hn
        cases e
        obtain ⟨i, zv, h2, h3, h4⟩ := zeroA_ok hQ hz
        have hl := cvs_len (h4 ρ)
        refine ⟨r, _, .cells zv.cells t, 1, .pointer (some ⟨w.heap.size, 0, none⟩), hn, rfl, ?_, fun ρ' hle hr => ⟨?_, zv.cells, (0, 0), heap_alloc_new w _, fun i _ => by omega, by simp only; simp at hl; omega, by simp only; simp at hl; omega, by simp only; decide, fun i hi => ?_⟩⟩
        · unfold execOp
          simp only [ho, Instr.alloc, zeroValue, typeInfo, newVar, program, Sem.run_bind, Sem.run_pure]
          simp [h2, h3, Sem.run, run_newRow]
        · simp only [cv, hr]
        · simp only at hi
          obtain ⟨c, h5, h6⟩ := cvs_at (h4 ρ') i (List.getElem?_eq_getElem (by omega))
          refine ⟨z[i]'(by omega), c, ?_, h6, by simpa using h5⟩
          simp only
          rw [cellAt_zero hi (by omega), Nat.mod_eq_of_lt (by omega), List.getElem?_eq_getElem (by omega)]
      · cases e
    · cases e
  · cases e
end
end Go.Eng
