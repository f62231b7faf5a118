/- What the abstract run says of the model: the heap. -/
import Derived.Test.YtpbjdbdlfobpmaaGreatEngB
import Derived.Deep.MidRow
import Derived.Laws.IdiomCopy
namespace Go.Eng
open Go

/-! ### a row in the world -/
def RowR (ρ : Env) (w : World) (x : Blk) (r : Row) : Prop :=
  ∃ cur fz, w.heap[x.b]? = some (.cells cur r.e fz) ∧ (∀ i, i < cur.size → ¬ (fz.1 ≤ i ∧ i < fz.2)) ∧ r.n ≤ cur.size ∧ cur.size = x.k * r.es ∧ x.k ≤ maxLen ∧
    ∀ i, i < r.n → ∃ v c, cellAt r.n r.z r.t i = some v ∧ cv ρ v = some c ∧ cur[i]? = some c
theorem RowR.cell {ρ : Env} {w : World} {x : Blk} {r : Row} (h : RowR ρ w x r) {i : Nat} {v : AV} (hv : cellAt r.n r.z r.t i = some v) :
    ∃ c, cv ρ v = some c ∧ w.cell? ⟨x.b, i, none⟩ = some c := by
  obtain ⟨cur, fz, hg, _, _, _, _, hc⟩ := h
  have hi : i < r.n := by
    unfold cellAt at hv
    split at hv
    · rename_i h1; simpa using h1
    · cases hv
  obtain ⟨v', c, h1, h2, h3⟩ := hc i hi
  rw [hv] at h1; cases h1
  exact ⟨c, h2, by simp [World.cell?, hg, h3]⟩
theorem RowR.cells {ρ : Env} {w : World} {x : Blk} {r : Row} (h : RowR ρ w x r) : ∀ (k i : Nat) (l : List AV), cellsAt r.n r.z r.t k i = some l → ∃ cs, cvs ρ l = some cs ∧ cs.length = k ∧ w.rangeAt x.b i cs
  | 0, i, l, e => by
    simp only [cellsAt] at e; cases e
    exact ⟨[], rfl, rfl, fun j v hv => by simp at hv⟩
  | k + 1, i, l, e => by
    simp only [cellsAt, natF_eq] at e
    split at e
    · rename_i v hv
      split at e
      · rename_i l' hl
        cases e
        obtain ⟨c, h1, h2⟩ := h.cell hv
        obtain ⟨cs, h3, h4, h5⟩ := RowR.cells h k (i + 1) l' hl
        refine ⟨c :: cs, cvs_mk h1 h3, by simp [h4], fun j u hu => ?_⟩
        cases j with
        | zero => simp at hu; subst hu; exact h2
        | succ j => have := h5 j u (by simpa using hu); rw [show i + (j + 1) = i + 1 + j by omega]; exact this
      · cases e
    · cases e
theorem RowR.env {ρ ρ' : Env} {w : World} {x : Blk} {r : Row} (h : RowR ρ w x r) (hl : ρ.le ρ') : RowR ρ' w x r := by
  obtain ⟨cur, fz, hg, h1, h2, h3, h4, hc⟩ := h
  exact ⟨cur, fz, hg, h1, h2, h3, h4, fun i hi => let ⟨v, c, a, b, d⟩ := hc i hi; ⟨v, c, a, cv_mono hl v c b, d⟩⟩
theorem RowR.world {ρ : Env} {w w' : World} {x : Blk} {r : Row} (h : RowR ρ w x r) (hb : w'.heap[x.b]? = w.heap[x.b]?) : RowR ρ w' x r := by
  obtain ⟨cur, fz, hg, hr⟩ := h
  exact ⟨cur, fz, hb.trans hg, hr⟩
theorem RowR.free {ρ : Env} {w : World} {x : Blk} {r : Row} (h : RowR ρ w x r) {i : Nat} (hi : i < r.n) : w.frozen? ⟨x.b, i, none⟩ = false := by
  obtain ⟨cur, fz, hg, h1, h2, _⟩ := h
  obtain ⟨lo, hi'⟩ := fz
  have := h1 i (by omega)
  simp only [World.frozen?, hg]
  by_cases a : lo ≤ i
  · have : ¬ i < hi' := fun b => this ⟨a, b⟩
    simp [this]
  · simp [a]

/-! ### laying cells -/
def layC (cur : Array Value) : Nat → List Value → Array Value
  | _, [] => cur
  | o, v :: r => layC (cur.setIfInBounds o v) (o + 1) r
theorem layC_size : ∀ (l : List Value) (cur : Array Value) (o : Nat), (layC cur o l).size = cur.size
  | [], _, _ => rfl
  | v :: r, cur, o => by rw [layC, layC_size r]; simp
theorem layC_at : ∀ (l : List Value) (cur : Array Value) (o : Nat), o + l.length ≤ cur.size → ∀ i, (layC cur o l)[i]? = if o ≤ i ∧ i < o + l.length then l[i - o]? else cur[i]?
  | [], cur, o, _, i => by rw [if_neg (by simp)]; rfl
  | v :: r, cur, o, h, i => by
    simp only [List.length_cons] at h
    rw [layC, layC_at r _ (o + 1) (by simp; omega)]
    simp only [List.length_cons, Array.getElem?_setIfInBounds]
    by_cases h1 : i = o
    · subst h1
      rw [if_neg (by omega), if_pos rfl, if_pos (by omega), if_pos (by omega)]
      simp
    · by_cases h2 : o + 1 ≤ i ∧ i < o + 1 + r.length
      · rw [if_pos h2, if_pos (by omega), show i - o = (i - (o + 1)) + 1 by omega]; rfl
      · rw [if_neg h2, if_neg (by omega), if_neg (by omega)]
theorem heap_setCells : ∀ (l : List Value) (o : Nat) (w : World) (b : Nat) (cur : Array Value) (e : TypeId) (fz : Nat × Nat), w.heap[b]? = some (.cells cur e fz) →
    (w.setCells b o l).heap[b]? = some (.cells (layC cur o l) e fz) ∧ (∀ j, j ≠ b → (w.setCells b o l).heap[j]? = w.heap[j]?) ∧ (w.setCells b o l).heap.size = w.heap.size ∧ (w.setCells b o l).os = w.os ∧ (w.setCells b o l).tape = w.tape ∧ (w.setCells b o l).output = w.output
  | [], o, w, b, cur, e, fz, h => ⟨h, fun _ _ => rfl, rfl, rfl, rfl, rfl⟩
  | v :: r, o, w, b, cur, e, fz, h => by
    have h1 : (w.setCell ⟨b, o, none⟩ v).heap[b]? = some (.cells (cur.setIfInBounds o v) e fz) := by
      simp [World.setCell, Array.getElem?_modify, h]
    obtain ⟨a1, a2, a3, a4, a5, a6⟩ := heap_setCells r (o + 1) (w.setCell ⟨b, o, none⟩ v) b _ e fz h1
    refine ⟨a1, fun j hj => (a2 j hj).trans ?_, a3.trans (by simp [World.setCell]), a4, a5, a6⟩
    simp [World.setCell, Array.getElem?_modify, Ne.symm hj]
theorem layAt_ok {n : Nat} : ∀ (l : List AV) (t t' : T AV) (i : Nat), layAt n l t i = some t' →
    (l = [] ∨ i + l.length ≤ n) ∧ (∀ v ∈ l, v.one = true) ∧ ∀ j, t'.get j = if i ≤ j ∧ j < i + l.length then l[j - i]? else t.get j
  | [], t, t', i, h => by
    simp only [layAt] at h; cases h
    refine ⟨.inl rfl, (fun v hv => by cases hv), fun j => ?_⟩
    rw [if_neg (by simp only [List.length_nil]; omega)]
  | x :: r, t, t', i, h => by
    simp only [layAt] at h
    split at h
    · rename_i hi
      split at h
      · rename_i h1
        rw [AV.seq_eq] at h
        split at h
        · rename_i t1 ht
          rw [natF_eq] at h
          obtain ⟨a, b, c⟩ := layAt_ok r t1 t' (i + 1) h
          have hi' : i < n := by simpa using hi
          refine ⟨.inr ?_, fun v hv => ?_, fun j => ?_⟩
          · simp only [List.length_cons]
            rcases a with rfl | a
            · simp; omega
            · omega
          · rcases List.mem_cons.1 hv with rfl | hv
            · exact h1
            · exact b v hv
          · rw [c j, T.get_put ht]
            simp only [List.length_cons]
            by_cases e : j = i
            · subst e
              rw [if_neg (by omega), if_pos rfl, if_pos (by omega)]; simp
            · by_cases e2 : i + 1 ≤ j ∧ j < i + 1 + r.length
              · rw [if_pos e2, if_pos (by omega), show j - i = (j - (i + 1)) + 1 by omega]; rfl
              · rw [if_neg e2, if_neg e, if_neg (by omega)]
        · cases h
      · cases h
    · cases h
theorem layR_cell {n : Nat} {z : List AV} {t t' : T AV} {l : List AV} {i : Nat} (h : layAt n l t i = some t') (j : Nat) (hj : j < n) :
    cellAt n z t' j = if i ≤ j ∧ j < i + l.length then l[j - i]? else cellAt n z t j := by
  obtain ⟨_, _, c⟩ := layAt_ok l t t' i h
  unfold cellAt
  rw [c j]
  simp only [show Nat.blt j n = true by simpa using hj]
  by_cases e : i ≤ j ∧ j < i + l.length
  · rw [if_pos e, if_pos e, List.getElem?_eq_getElem (by omega)]
  · rw [if_neg e, if_neg e]
/-- a row of which some cells are laid -/
theorem RowR.lay {ρ : Env} {w : World} {x : Blk} {r : Row} (h : RowR ρ w x r) {l : List AV} {cs : List Value} {t' : T AV} {o : Nat} (hl : layAt r.n l r.t o = some t') (hc : cvs ρ l = some cs) :
    RowR ρ (w.setCells x.b o cs) x { r with t := t' } := by
  obtain ⟨cur, fz, hg, h1, h2, h3, h4, h5⟩ := h
  obtain ⟨a1, _⟩ := heap_setCells cs o w x.b cur r.e fz hg
  have hlen := cvs_len hc
  obtain ⟨k1, _, _⟩ := layAt_ok l r.t t' o hl
  refine ⟨layC cur o cs, fz, a1, fun i hi => h1 i (by rwa [layC_size] at hi), by rw [layC_size]; exact h2, by rw [layC_size]; exact h3, h4, fun i hi => ?_⟩
  simp only at hi
  rw [layR_cell hl i hi]
  rcases k1 with rfl | k1
  · have : cs = [] := cvs_nil hc
    subst this
    rw [if_neg (by simp)]
    exact h5 i hi
  · rw [layC_at cs cur o (by omega)]
    by_cases e : o ≤ i ∧ i < o + l.length
    · rw [if_pos e, if_pos (by omega), List.getElem?_eq_getElem (by omega)]
      obtain ⟨c, hc1, hc2⟩ := cvs_at hc (i - o) (List.getElem?_eq_getElem (by omega))
      exact ⟨_, c, rfl, hc2, hc1⟩
    · rw [if_neg e, if_neg (by omega)]
      exact h5 i hi
theorem run_lay {P : Program} {ρ : Env} {w : World} {x : Blk} {r : Row} (h : RowR ρ w x r) {l : List AV} {cs : List Value} {t' : T AV} {o : Nat} (hl : layAt r.n l r.t o = some t') (hc : cvs ρ l = some cs) :
    (storeCells ⟨x.b, o, none⟩ cs).run P w = .ok () (w.setCells x.b o cs) := by
  have hlen := cvs_len hc
  obtain ⟨k1, k2, _⟩ := layAt_ok l r.t t' o hl
  have := run_storeCells_cells (P := P) x.b o cs 0 w (fun j hj => ?_) (fun j hj => ?_) (fun v hv => ?_)
  · simpa using this
  · rcases k1 with rfl | k1
    · simp [cvs_nil hc] at hj
    · obtain ⟨cur, fz, hg, _, h2, _, _, h5⟩ := h
      have : o + 0 + j < cur.size := by omega
      simp only [World.cell?, hg, Array.getElem?_eq_getElem this]; simp
  · rcases k1 with rfl | k1
    · simp [cvs_nil hc] at hj
    · exact h.free (by omega)
  · obtain ⟨j, hj, rfl⟩ := List.getElem_of_mem hv
    obtain ⟨c, hc1, hc2⟩ := cvs_at hc j (List.getElem?_eq_getElem (by omega))
    rw [List.getElem?_eq_getElem hj] at hc1
    cases hc1
    exact one_cv hc2 (k2 _ (List.getElem_mem _))
end Go.Eng
