/- Contracts of the reference's functions on lists of descriptors. -/
import Derived.Test.YtegeonompkgpeaaFd4
namespace Go.Proofs.Ytegeonompkgpeaa
open Go.RowKit

structure Ro where
  on : Bool
  ino : Int
  flags : Int
  pos : Int
def Ro.zero : Ro := ⟨false, 0, 0, 0⟩
def Ro.cells (o : Ro) : List Value := [.bool o.on, .int .i64 o.ino, .int .i64 o.flags, .int .i64 o.pos]
def roCells (L : List Ro) : List Value := L.flatMap Ro.cells
theorem roCells_len (L : List Ro) : (roCells L).length = L.length * 4 := by
  induction L with
  | nil => rfl
  | cons o L ih => simp only [roCells, List.flatMap_cons, List.length_append, List.length_cons] at ih ⊢; rw [ih]; simp [Ro.cells]; omega
theorem roCells_append (L M : List Ro) : roCells (L ++ M) = roCells L ++ roCells M := by simp [roCells]
theorem roCells_at (L : List Ro) : ∀ (i j : Nat), j < 4 → (roCells L)[i * 4 + j]? = (L[i]?).bind (fun o => o.cells[j]?) := by
  induction L with
  | nil => intro i j _; simp [roCells]
  | cons o L ih =>
    intro i j hj
    have e : roCells (o :: L) = o.cells ++ roCells L := rfl
    have hl : o.cells.length = 4 := rfl
    rw [e]
    cases i with
    | zero => rw [List.getElem?_append_left (by omega)]; simp
    | succ i => rw [List.getElem?_append_right (by omega), hl, show (i + 1) * 4 + j - 4 = i * 4 + j by omega, ih i j hj]; simp
/-- the slice at block g is the list L -/
def RefAt (w : World) (g cap : Nat) (L : List Ro) : Prop :=
  g < w.heap.size ∧ ∃ cur, w.heap[g]? = some (.cells cur 62 (0, 0)) ∧ L.length ≤ cap ∧ cap ≤ maxLen ∧ cur.size = cap * 4 ∧ cur.toList.take (L.length * 4) = roCells L
theorem RefAt.of_block {w w' : World} {g cap L} (h : RefAt w g cap L) (hb : w'.heap[g]? = w.heap[g]?) : RefAt w' g cap L := by
  obtain ⟨hlt, cur, h1, h2⟩ := h
  have h' : w'.heap[g]? = some (.cells cur 62 (0, 0)) := hb.trans h1
  exact ⟨(Array.getElem?_eq_some_iff.1 h').1, cur, h', h2⟩
theorem RefAt.below {w w' : World} {g cap L} (h : RefAt w g cap L) (hb : Below w.heap.size w w') : RefAt w' g cap L := h.of_block (hb.block g h.1)
theorem RefAt.only {w w' : World} {g cap L row} (h : RefAt w g cap L) (hb : w.grownBy w' row) (hne : some g ≠ row) : RefAt w' g cap L := h.of_block (hb.block g h.1 hne)
theorem RefAt.alloc {w : World} {g cap L} (h : RefAt w g cap L) (o : Obj) : RefAt (w.alloc o) g cap L := h.of_block (Below.heap_alloc w o g h.1)
theorem RefAt.drewN {w : World} {g cap L} (h : RefAt w g cap L) (n : Nat) : RefAt (w.drewN n) g cap L := h.of_block rfl
theorem RefAt.cellAt {w : World} {g cap L} (h : RefAt w g cap L) (j : Nat) (u : Value) (hu : (roCells L)[j]? = some u) : w.cell? ⟨g, j, none⟩ = some u := by
  obtain ⟨_, cur, h1, h2, h3, h4, h5⟩ := h
  rw [cell_of_row w g j cur 62 (0, 0) h1]
  rw [← h5, List.getElem?_take] at hu
  split at hu
  · simpa using hu
  · cases hu
theorem RefAt.cells {w : World} {g cap L} (h : RefAt w g cap L) {k : Nat} {o : Ro} (hk : L[k]? = some o) :
    w.cell? ⟨g, k * 4, none⟩ = some (.bool o.on) ∧ w.cell? ⟨g, k * 4 + 1, none⟩ = some (.int .i64 o.ino) ∧ w.cell? ⟨g, k * 4 + 2, none⟩ = some (.int .i64 o.flags) ∧ w.cell? ⟨g, k * 4 + 3, none⟩ = some (.int .i64 o.pos) := by
  refine ⟨h.cellAt (k * 4 + 0) _ ?_, h.cellAt _ _ ?_, h.cellAt _ _ ?_, h.cellAt _ _ ?_⟩ <;> rw [roCells_at L k _ (by omega), hk] <;> rfl
theorem RefAt.free {w g cap L} (h : RefAt w g cap L) (k : Nat) : w.frozen? ⟨g, k, none⟩ = false := by
  obtain ⟨_, cs, h1, h3⟩ := h
  simp [World.frozen?, h1]
theorem RefAt.size {w g cap L} (h : RefAt w g cap L) : L.length ≤ cap := by obtain ⟨_, cs, h1, h3, _⟩ := h; exact h3
theorem RefAt.cell_any {w : World} {g cap L} (h : RefAt w g cap L) (j : Nat) (hj : j < cap * 4) : ∃ u, w.cell? ⟨g, j, none⟩ = some u := by
  obtain ⟨_, cur, h1, h2, h3, h4, h5⟩ := h
  exact ⟨cur[j]'(by omega), by rw [cell_of_row w g j cur 62 (0, 0) h1]; exact Array.getElem?_eq_getElem _⟩
theorem RefAt.of_owns {w : World} {B g n cap : Nat} {L : List Ro} (h : w.ownsRow B 62 4 (.slice (some ⟨g, 0, none⟩) n cap) L.length (roCells L)) : RefAt w g cap L := by
  obtain ⟨hl, ⟨h1, _⟩ | ⟨g', cap', cur, hv, hb, hg, hnc, hcm, hcs, htake⟩⟩ := h
  · cases h1
  · cases hv
    exact ⟨(Array.getElem?_eq_some_iff.1 hg).1, cur, hg, hnc, hcm, hcs, htake⟩

/-- the least number that is not open -/
def lowL (L : List Ro) (k : Nat) : Prop := (∀ j, j < k → ∃ o, L[j]? = some o ∧ o.on = true) ∧ ∀ o, L[k]? = some o → o.on = false
def LowPost (L : List Ro) (w : World) (e : Ending) (w' : World) : Prop :=
  w = w' ∧ ((∃ k : Nat, k < 64 ∧ lowL L k ∧ e = .returned (.int .i64 k)) ∨ ((∀ j, j < 64 → ∃ o, L[j]? = some o ∧ o.on = true) ∧ e = .returned (.int .i64 (-1))))
set_option maxHeartbeats 400000 in
theorem lowest_any (g cap : Nat) (L : List Ro) (w : World) (hf : RefAt w g cap L) (_hL : L.length ≤ 64) :
    Calls Try.prog 33 #[.slice (some ⟨g, 0, none⟩) L.length cap] w (LowPost L w) := by
  obtain ⟨n, hn⟩ : ∃ n, n = L.length := ⟨_, rfl⟩
  have HN := Lib.hid hn
  rw [← hn]
  clear hn
  go_enter Try.func33, Try.ntmps33
  go_wp2
  go_loop [3] (fun i => ∃ k : Nat, k ≤ 64 ∧ i = .int .i64 k ∧ ∀ j, j < k → ∃ o, L[j]? = some o ∧ o.on = true) (fun i => 64 - (intOf i).toNat)
  case atStart => exact ⟨0, by omega, rfl, by intro j hj; omega⟩
  case round =>
    obtain ⟨k, hk, rfl, hall⟩ := hrel
    have HALL := Lib.hid hall
    clear hall
    by_cases hlt : k < 64
    · by_cases hkn : k < n
      · have hk' : k < L.length := by rw [← HN.out]; exact hkn
        have hx : L[k]? = some L[k] := List.getElem?_eq_getElem hk'
        obtain ⟨c0, -, -, -⟩ := hf.cells hx
        have HX := Lib.hid hx
        cases ho : L[k].on
        · rw [ho] at c0
          have HO := Lib.hid ho
          clear ho hx
          go_wp2
          go_ret
          exact ⟨rfl, .inl ⟨k, hlt, ⟨HALL.out, by intro o ho; rw [HX.out] at ho; cases ho; exact HO.out⟩, rfl⟩⟩
        · rw [ho] at c0
          have HO := Lib.hid ho
          clear ho hx
          go_wp2
          go_round
          case rel => exact ⟨k + 1, by omega, by go_num, by
            intro j hj
            by_cases e : j = k
            · subst e; exact ⟨_, HX.out, HO.out⟩
            · exact HALL.out j (by omega)⟩
          case measure => simp [intOf]; omega
      · go_wp2
        go_ret
        exact ⟨rfl, .inl ⟨k, hlt, ⟨HALL.out, by intro o ho; rw [List.getElem?_eq_none (by rw [← HN.out]; omega)] at ho; cases ho⟩, rfl⟩⟩
    · go_wp2
      go_ret
      exact ⟨rfl, .inr ⟨fun j hj => HALL.out j (by omega), rfl⟩⟩

def rgetE (L : List Ro) (fd : Int) : Int := if fd < 0 then 231 else match L[fd.toNat]? with | some o => if o.on then 0 else 231 | none => 231
def rgetX (L : List Ro) (fd : Int) : Ro := if fd < 0 then .zero else match L[fd.toNat]? with | some o => if o.on then o else .zero | none => .zero
def Ro.val (o : Ro) : Value := .agg #[.bool o.on, .int .i64 o.ino, .int .i64 o.flags, .int .i64 o.pos]
set_option maxHeartbeats 400000 in
theorem rget_any (g cap : Nat) (L : List Ro) (fd : Int) (w : World) (hf : RefAt w g cap L) :
    Calls Try.prog 32 #[.slice (some ⟨g, 0, none⟩) L.length cap, .int .i64 fd] w fun e w' => e = .returned (.tuple #[(rgetX L fd).val, .int .i64 (rgetE L fd)]) ∧ Below w.heap.size w w' := by
  obtain ⟨n, hn⟩ : ∃ n, n = L.length := ⟨_, rfl⟩
  have HN := Lib.hid hn
  have hg := hf.1
  rw [← hn]
  clear hn
  by_cases h0 : fd < 0
  · have hx : rgetX L fd = .zero := by simp [rgetX, h0]
    have he : rgetE L fd = 231 := by simp [rgetE, h0]
    have HX := Lib.hid hx
    have HE := Lib.hid he
    clear hx he
    go_enter Try.func32, Try.ntmps32
    go_wp2
    refine bodyPost_ret (v := .tuple #[.agg #[.bool false, .int .i64 0, .int .i64 0, .int .i64 0], .int .i64 231]) (by simp [results, Try.results32, go_sem]) rfl ?_
    exact ⟨by rw [HX.out, HE.out]; rfl, (Below.refl _ _).alloc (Nat.le_refl _) _⟩
  obtain ⟨k, rfl⟩ := Int.eq_ofNat_of_zero_le (by omega : 0 ≤ fd)
  by_cases h1 : n ≤ k
  · have hk0 : L[k]? = none := List.getElem?_eq_none (by rw [← HN.out]; exact h1)
    have hx : rgetX L k = .zero := by simp [rgetX, hk0]
    have he : rgetE L k = 231 := by simp [rgetE, hk0]
    have HX := Lib.hid hx
    have HE := Lib.hid he
    clear hx he hk0
    go_enter Try.func32, Try.ntmps32
    go_wp2
    refine bodyPost_ret (v := .tuple #[.agg #[.bool false, .int .i64 0, .int .i64 0, .int .i64 0], .int .i64 231]) (by simp [results, Try.results32, go_sem]) rfl ?_
    exact ⟨by rw [HX.out, HE.out]; rfl, (Below.refl _ _).alloc (Nat.le_refl _) _⟩
  have hk' : k < L.length := by rw [← HN.out]; omega
  have hx : L[k]? = some L[k] := List.getElem?_eq_getElem hk'
  generalize L[k] = o at hx
  obtain ⟨c0, c1, c2, c3⟩ := hf.cells hx
  cases ho : o.on
  · rw [ho] at c0
    have hx' : rgetX L k = .zero := by simp [rgetX, hx, ho]
    have he : rgetE L k = 231 := by simp [rgetE, hx, ho]
    have HX := Lib.hid hx'
    have HE := Lib.hid he
    clear hx he hx' ho
    go_enter Try.func32, Try.ntmps32
    go_wp2
    refine bodyPost_ret (v := .tuple #[.agg #[.bool false, .int .i64 0, .int .i64 0, .int .i64 0], .int .i64 231]) (by simp [results, Try.results32, go_sem]) rfl ?_
    exact ⟨by rw [HX.out, HE.out]; rfl, (Below.refl _ _).alloc (Nat.le_refl _) _⟩
  · have HO := Lib.hid ho
    have hx' : rgetX L k = o := by simp [rgetX, hx, ho]; omega
    have he : rgetE L k = 0 := by simp [rgetE, hx, ho]
    have HX := Lib.hid hx'
    have HE := Lib.hid he
    rw [ho] at c0
    clear hx he hx' ho
    go_enter Try.func32, Try.ntmps32
    go_wp2
    refine bodyPost_ret (v := .tuple #[.agg #[.bool true, .int .i64 o.ino, .int .i64 o.flags, .int .i64 o.pos], .int .i64 0]) (by simp [results, Try.results32, go_sem]) rfl ?_
    exact ⟨by rw [HX.out, HE.out]; simp [Ro.val, HO.out], (Below.refl _ _).alloc (Nat.le_refl _) _⟩

end Go.Proofs.Ytegeonompkgpeaa
