/- A hasher in the world; rows of words; a new hasher. -/
import Derived.Test.YtpbjdbdlfobpmaaGreatDgT
import Derived.Deep.MidRow
namespace Go.Proofs.YtpbjdbdlfobpmaaGreat
open Go.RowKit Go.Eng
theorem uI_size (l : List Int) : (uI l).size = l.length := by simp [uI]
theorem uI_at (l : List Int) {i : Nat} (h : i < l.length) : (uI l)[i]? = some (.int .u32 (l.getD i 0)) := by
  simp [uI, List.getD_eq_getElem?_getD, List.getElem?_eq_getElem h]
theorem uI_set (l : List Int) (p : Nat) (v : Int) : (uI l).setIfInBounds p (.int .u32 v) = uI (l.set p v) := by
  simp [uI, List.map_set]
/-- block g is a row of words -/
def RowU (w : World) (g : Nat) (l : List Int) : Prop := w.heap[g]? = some (.cells (uI l) 253 (0, 0))
section
variable {w w' : World} {g : Nat} {l : List Int}
theorem RowU.lt (h : RowU w g l) : g < w.heap.size := (Array.getElem?_eq_some_iff.1 h).1
theorem RowU.of_block (h : RowU w g l) (hb : w'.heap[g]? = w.heap[g]?) : RowU w' g l := hb.trans h
theorem RowU.cell (h : RowU w g l) {i : Nat} (hi : i < l.length) : w.cell? ⟨g, i, none⟩ = some (.int .u32 (l.getD i 0)) := by
  rw [cell_of_row w g i _ 253 (0, 0) h]; exact uI_at l hi
theorem RowU.free (h : RowU w g l) (i : Nat) : w.frozen? ⟨g, i, none⟩ = false := by
  have h' : w.heap[g]? = some (.cells (uI l) 253 (0, 0)) := h
  simp [World.frozen?, h']
theorem RowU.set (h : RowU w g l) (p : Nat) (v : Int) : RowU (w.setCell ⟨g, p, none⟩ (.int .u32 v)) g (l.set p v) := by
  have e := heap_setCell_same w g p (uI l) 253 (.int .u32 v) h
  rw [uI_set] at e
  exact e
theorem RowU.below (h : RowU w g l) (hb : RowKit.Below w.heap.size w w') : RowU w' g l := h.of_block (hb.block g h.lt)
theorem RowU.only {row : Option Nat} (h : RowU w g l) (hb : w.grownBy w' row) (hne : some g ≠ row) : RowU w' g l := h.of_block (hb.block g h.lt hne)
theorem RowU.alloc (h : RowU w g l) (o : Obj) : RowU (w.alloc o) g l := h.of_block (RowKit.Below.heap_alloc w o g h.lt)
theorem RowU.drew (h : RowU w g l) : RowU w.drew g l := h
theorem RowU.range (h : RowU w g l) : w.rangeAt g 0 (l.map (Value.int .u32)) := fun j v hv => by
  rw [cell_of_row w g _ _ 253 (0, 0) h, Nat.zero_add]
  simpa [uI] using hv
end
theorem RowU.new (w : World) (l : List Int) : RowU (w.alloc (.cells (uI l) 253)) w.heap.size l := heap_alloc_new w _
/-- block b holds a hasher: its words, what it holds, how much it has taken -/
def HS (w : World) (b : Nat) (l : List Int) (v : Value) (n : Int) : Prop :=
  l.length = 8 ∧ ∃ cur t fz, w.heap[b]? = some (.cells cur t fz) ∧ 10 ≤ cur.size ∧ (∀ i, i < 10 → ¬ (fz.1 ≤ i ∧ i < fz.2)) ∧ (∀ i, i < 8 → cur[i]? = some (.int .u32 (l.getD i 0))) ∧ cur[8]? = some v ∧ cur[9]? = some (.int .i64 n)
section
variable {w w' : World} {b : Nat} {l : List Int} {v : Value} {n : Int}
theorem HS.lt (h : HS w b l v n) : b < w.heap.size := by obtain ⟨_, cur, t, fz, h1, _⟩ := h; exact (Array.getElem?_eq_some_iff.1 h1).1
theorem HS.of_block (h : HS w b l v n) (hb : w'.heap[b]? = w.heap[b]?) : HS w' b l v n := by
  obtain ⟨h0, cur, t, fz, h1, h2⟩ := h
  exact ⟨h0, cur, t, fz, hb.trans h1, h2⟩
theorem HS.below (h : HS w b l v n) (hb : RowKit.Below w.heap.size w w') : HS w' b l v n := h.of_block (hb.block b h.lt)
theorem HS.only {row : Option Nat} (h : HS w b l v n) (hb : w.grownBy w' row) (hne : some b ≠ row) : HS w' b l v n := h.of_block (hb.block b h.lt hne)
theorem HS.alloc (h : HS w b l v n) (o : Obj) : HS (w.alloc o) b l v n := h.of_block (RowKit.Below.heap_alloc w o b h.lt)
theorem HS.drew (h : HS w b l v n) : HS w.drew b l v n := h
theorem HS.word (h : HS w b l v n) {i : Nat} (hi : i < 8) : w.cell? ⟨b, i, none⟩ = some (.int .u32 (l.getD i 0)) := by
  obtain ⟨_, cur, t, fz, h1, _, _, h4, _⟩ := h
  rw [cell_of_row w b i cur t fz h1]; exact h4 i hi
theorem HS.held (h : HS w b l v n) : w.cell? ⟨b, 8, none⟩ = some v := by
  obtain ⟨_, cur, t, fz, h1, _, _, _, h5, _⟩ := h
  rw [cell_of_row w b 8 cur t fz h1]; exact h5
theorem HS.num (h : HS w b l v n) : w.cell? ⟨b, 9, none⟩ = some (.int .i64 n) := by
  obtain ⟨_, cur, t, fz, h1, _, _, _, _, h6⟩ := h
  rw [cell_of_row w b 9 cur t fz h1]; exact h6
theorem HS.free (h : HS w b l v n) {i : Nat} (hi : i < 10) : w.frozen? ⟨b, i, none⟩ = false := by
  obtain ⟨_, cur, t, ⟨lo, hi'⟩, h1, _, h3, _⟩ := h
  have := h3 i hi
  simp only [World.frozen?, h1]
  simp only at this
  by_cases c1 : lo ≤ i
  · have : ¬ i < hi' := fun b => this ⟨c1, b⟩
    simp only [this, decide_false, Bool.and_false]
  · simp only [c1, decide_false, Bool.false_and]
theorem heap_set_any (w : World) (b p : Nat) (cur : Array Value) (t : TypeId) (fz : Nat × Nat) (u : Value) (h : w.heap[b]? = some (.cells cur t fz)) : (w.setCell ⟨b, p, none⟩ u).heap[b]? = some (.cells (cur.setIfInBounds p u) t fz) := by
  simp [World.setCell, Array.getElem?_modify, h]
theorem HS.setWord (h : HS w b l v n) {p : Nat} (hp : p < 8) (u : Int) : HS (w.setCell ⟨b, p, none⟩ (.int .u32 u)) b (l.set p u) v n := by
  obtain ⟨h0, cur, t, fz, h1, h2, h3, h4, h5, h6⟩ := h
  refine ⟨by simpa using h0, _, t, fz, heap_set_any w b p cur t fz _ h1, by simpa using h2, h3, fun i hi => ?_, ?_, ?_⟩
  · rw [Array.getElem?_setIfInBounds]
    by_cases e : p = i
    · subst e
      rw [if_pos rfl, if_pos (by omega)]
      have : p < l.length := by omega
      simp [List.getD_eq_getElem?_getD, this]
    · rw [if_neg e, h4 i hi]
      simp [List.getD_eq_getElem?_getD, e]
  · rw [Array.getElem?_setIfInBounds, if_neg (by omega)]; exact h5
  · rw [Array.getElem?_setIfInBounds, if_neg (by omega)]; exact h6
theorem HS.setHeld (h : HS w b l v n) (u : Value) : HS (w.setCell ⟨b, 8, none⟩ u) b l u n := by
  obtain ⟨h0, cur, t, fz, h1, h2, h3, h4, h5, h6⟩ := h
  refine ⟨h0, _, t, fz, heap_set_any w b 8 cur t fz _ h1, by simpa using h2, h3, fun i hi => ?_, ?_, ?_⟩
  · rw [Array.getElem?_setIfInBounds, if_neg (by omega)]; exact h4 i hi
  · rw [Array.getElem?_setIfInBounds, if_pos rfl, if_pos (by omega)]
  · rw [Array.getElem?_setIfInBounds, if_neg (by omega)]; exact h6
theorem HS.setNum (h : HS w b l v n) (m : Int) : HS (w.setCell ⟨b, 9, none⟩ (.int .i64 m)) b l v m := by
  obtain ⟨h0, cur, t, fz, h1, h2, h3, h4, h5, h6⟩ := h
  refine ⟨h0, _, t, fz, heap_set_any w b 9 cur t fz _ h1, by simpa using h2, h3, fun i hi => ?_, ?_, ?_⟩
  · rw [Array.getElem?_setIfInBounds, if_neg (by omega)]; exact h4 i hi
  · rw [Array.getElem?_setIfInBounds, if_neg (by omega)]; exact h5
  · rw [Array.getElem?_setIfInBounds, if_pos rfl, if_pos (by omega)]
end
def words0 (t : Int) : List Int := [w0 t 0, w0 t 1, w0 t 2, w0 t 3, w0 t 4, w0 t 5, w0 t 6, w0 t 7]
theorem new_any (t : Int) (w : World) : Calls Tryz.prog 137 #[.int .u8 t] w fun e w' => ∃ b, e = .returned (.pointer (some ⟨b, 0, none⟩)) ∧ w.heap.size ≤ b ∧ HS w' b (words0 t) (.slice none 0 0) 0 ∧ RowKit.Below w.heap.size w w' := by
  have hr := run_new t
  unfold seen at hr
  split at hr
  · rename_i q o h hcf
    split at hr
    · rename_i row hrow
      simp only [Option.some.injEq, Prod.mk.injEq, AV.ptr.injEq] at hr
      obtain ⟨⟨rfl, rfl⟩, h1, h2, h3⟩ := hr
      refine (cfN_sound (· < w.heap.size) (fun _ => none) w ⟨.leaf, 0⟩ 137 [qb t] [.int .u8 t] _ h (HR.start w) rfl hcf).mono ?_
      rintro e w' ⟨ρ', c', rfl, _, hc, H', hb⟩
      have hget := rowOf_some hrow
      obtain ⟨x, k1, k2, k3⟩ := H'.live 0 _ hget rfl
      simp only [cv, k1] at hc
      cases hc
      obtain ⟨cur, fz, g1, g2, g3, _, _, g6⟩ := k3
      simp only at g1 g3 g6
      have k3 : RowR ρ' w' x ⟨row.e, row.es, row.n, row.z, row.t⟩ := H'.live 0 _ hget rfl |>.choose_spec.2.2 |> fun _ => ⟨cur, fz, g1, g2, g3, by assumption, by assumption, g6⟩
      obtain ⟨cs, p1, p2, p3⟩ := RowR.cells k3 row.n 0 _ h3
      have hcs : cs = [.int .u32 (w0 t 0), .int .u32 (w0 t 1), .int .u32 (w0 t 2), .int .u32 (w0 t 3), .int .u32 (w0 t 4), .int .u32 (w0 t 5), .int .u32 (w0 t 6), .int .u32 (w0 t 7), .slice none 0 0, .int .i64 0] := by
        have : cvs ρ' [qv (w0 t 0), qv (w0 t 1), qv (w0 t 2), qv (w0 t 3), qv (w0 t 4), qv (w0 t 5), qv (w0 t 6), qv (w0 t 7), .v (.slice none 0 0), .i .i64 (.ofNat 0)] = some [.int .u32 (w0 t 0), .int .u32 (w0 t 1), .int .u32 (w0 t 2), .int .u32 (w0 t 3), .int .u32 (w0 t 4), .int .u32 (w0 t 5), .int .u32 (w0 t 6), .int .u32 (w0 t 7), .slice none 0 0, .int .i64 0] := rfl
        rw [this] at p1; cases p1; rfl
      subst hcs
      have hcell : ∀ i c, ([.int .u32 (w0 t 0), .int .u32 (w0 t 1), .int .u32 (w0 t 2), .int .u32 (w0 t 3), .int .u32 (w0 t 4), .int .u32 (w0 t 5), .int .u32 (w0 t 6), .int .u32 (w0 t 7), .slice none 0 0, .int .i64 0] : List Value)[i]? = some c → cur[i]? = some c := fun i c hi => by
        have := p3 i c hi
        rw [Nat.zero_add, cell_of_row w' x.b i cur row.e fz g1] at this
        exact this
      refine ⟨x.b, rfl, by omega, ⟨rfl, cur, row.e, fz, g1, by omega, fun i hi => g2 i (by omega), fun i hi => ?_, hcell 8 _ rfl, hcell 9 _ rfl⟩, hb.os, hb.tape, hb.output, hb.size, hb.block⟩
      rcases (show i = 0 ∨ i = 1 ∨ i = 2 ∨ i = 3 ∨ i = 4 ∨ i = 5 ∨ i = 6 ∨ i = 7 by omega) with rfl | rfl | rfl | rfl | rfl | rfl | rfl | rfl <;> exact hcell _ _ rfl
    · cases hr
  · cases hr
end Go.Proofs.YtpbjdbdlfobpmaaGreat
