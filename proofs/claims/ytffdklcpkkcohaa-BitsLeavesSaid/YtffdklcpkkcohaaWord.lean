/- Contracts of package word's functions that the bits' leaves use. -/
import Derived.Test.YtffdklcpkkcohaaRoom
namespace Go.Proofs.Ytffdklcpkkcohaa
open Go.RowKit
/-- byte j of a number -/
def byteOf (n j : Nat) : Nat := n / 2 ^ (8 * j) % 256
theorem byteOf_lt (n j : Nat) : byteOf n j < 256 := Nat.mod_lt _ (by decide)
/-- block g is a row of bytes -/
def RowB (w : World) (g t m : Nat) (f : Nat → Nat) : Prop :=
  g < w.heap.size ∧ ∃ cur, w.heap[g]? = some (.cells cur t (0, 0)) ∧ cur.size = m ∧ ∀ i, i < m → cur[i]? = some (.int .u8 (f i : Int))
def setN (f : Nat → Nat) (p v : Nat) : Nat → Nat := fun i => if i = p then v else f i
section
variable {w w' : World} {g t m : Nat} {f : Nat → Nat}
theorem RowB.of_block (h : RowB w g t m f) (hb : w'.heap[g]? = w.heap[g]?) : RowB w' g t m f := by
  obtain ⟨_, cur, h1, h2⟩ := h
  have h' := hb.trans h1
  exact ⟨(Array.getElem?_eq_some_iff.1 h').1, cur, h', h2⟩
theorem RowB.below (h : RowB w g t m f) (hb : Below w.heap.size w w') : RowB w' g t m f := h.of_block (hb.block g h.1)
theorem RowB.only {row : Option Nat} (h : RowB w g t m f) (hb : w.grownBy w' row) (hne : some g ≠ row) : RowB w' g t m f := h.of_block (hb.block g h.1 hne)
theorem RowB.alloc (h : RowB w g t m f) (o : Obj) : RowB (w.alloc o) g t m f := h.of_block (Below.heap_alloc w o g h.1)
theorem RowB.drew (h : RowB w g t m f) : RowB w.drew g t m f := h.of_block rfl
theorem RowB.cell (h : RowB w g t m f) {i : Nat} (hi : i < m) : w.cell? ⟨g, i, none⟩ = some (.int .u8 (f i : Int)) := by
  obtain ⟨_, cur, h1, _, h3⟩ := h
  rw [cell_of_row w g i _ t (0, 0) h1]; exact h3 i hi
theorem RowB.free (h : RowB w g t m f) (i : Nat) : w.frozen? ⟨g, i, none⟩ = false := by
  obtain ⟨_, cur, h1, _⟩ := h
  simp [World.frozen?, h1]
theorem RowB.set (h : RowB w g t m f) {p : Nat} (hp : p < m) (v : Nat) : RowB (w.setCell ⟨g, p, none⟩ (.int .u8 (v : Int))) g t m (setN f p v) := by
  obtain ⟨h0, cur, h1, h2, h3⟩ := h
  have e := heap_setCell_same w g p cur t (.int .u8 (v : Int)) h1
  refine ⟨by simpa [World.setCell] using h0, _, e, by simpa using h2, fun i hi => ?_⟩
  rw [Array.getElem?_setIfInBounds]
  unfold setN
  by_cases ei : p = i
  · subst ei; rw [if_pos rfl, if_pos (by omega), if_pos rfl]
  · rw [if_neg ei, if_neg (fun e' => ei e'.symm)]; exact h3 i hi
theorem RowB.congr (h : RowB w g t m f) {f' : Nat → Nat} (hk : ∀ i, i < m → f i = f' i) : RowB w g t m f' := by
  obtain ⟨h0, cur, h1, h2, h3⟩ := h
  exact ⟨h0, cur, h1, h2, fun i hi => by rw [← hk i hi]; exact h3 i hi⟩
end
theorem byteOf_cast (v p : Nat) : ((byteOf v p : Nat) : Int) = (v : Int) / 2 ^ (8 * p) % 256 := by
  unfold byteOf; simp
theorem put_step (v : Nat) (f : Nat → Nat) (p i : Nat) : setN (fun i => if i < p then byteOf v i else f i) p (byteOf v p) i = if i < p + 1 then byteOf v i else f i := by
  unfold setN
  by_cases e : i = p
  · subst e; rw [if_pos rfl, if_pos (by omega)]
  · rw [if_neg e]
    show (if i < p then byteOf v i else f i) = _
    by_cases h : i < p
    · rw [if_pos h, if_pos (by omega)]
    · rw [if_neg h, if_neg (by omega)]
set_option maxRecDepth 100000 in
set_option maxHeartbeats 1000000 in
theorem put_any (g t m cap : Nat) (f : Nat → Nat) (v : Nat) (w : World) (hm : m ≤ 8) (_hv : v < 18446744073709551616) (hr : RowB w g t m f) :
    Calls Try.prog 90 #[.slice (some ⟨g, 0, none⟩) m cap, .int .u64 v] w fun e w' => (∃ x, e = .returned x) ∧ RowB w' g t m (byteOf v) ∧ w.grownBy w' (some g) := by
  have HR0 := Lib.hid hr
  clear hr
  go_enter Try.func90, Try.ntmps90
  go_wp2_with fail
  go_loopw [7] (fun i wr => ∃ p : Nat, p ≤ m ∧ i = .int .i64 p ∧ RowB wr g t m (fun i => if i < p then byteOf v i else f i) ∧ w.grownBy wr (some g)) (fun i _ => m - (intOf i).toNat)
  case atStart => exact ⟨0, by omega, rfl, HR0.out.congr (fun i _ => by rw [if_neg (by omega)]), only_refl _ _⟩
  case round =>
    obtain ⟨p, hp, rfl, hR, hG⟩ := hrel
    have HR := Lib.hid hR
    have HG := Lib.hid hG
    clear hR hG HR0
    by_cases hlt : p < m
    · have c1 := HR.out.cell hlt
      have f1 := HR.out.free p
      have hS := (HR.out.set hlt (byteOf v p)).congr (f' := fun i => if i < p + 1 then byteOf v i else f i) (fun i _ => put_step v f p i)
      rw [byteOf_cast] at hS
      have HS := Lib.hid hS
      clear hS
      go_wp2_with fail
      exact ⟨⟨p + 1, by omega, by go_num, HS.out, only_setCell HG.out (.inl rfl) _⟩, by simp [intOf]; omega⟩
    · go_wp2
      go_end0
      obtain rfl : p = m := by omega
      exact ⟨⟨_, rfl⟩, HR.out.congr (fun i hi => by rw [if_pos hi]), HG.out⟩
set_option maxRecDepth 100000 in
set_option maxHeartbeats 1000000 in
theorem bytes32_any (v : Nat) (w : World) (hv : v < 4294967296) :
    Calls Try.prog 82 #[.int .u32 v] w fun e w' => e = .returned (.agg #[.int .u8 (byteOf v 0 : Nat), .int .u8 (byteOf v 1 : Nat), .int .u8 (byteOf v 2 : Nat), .int .u8 (byteOf v 3 : Nat)]) ∧ Below w.heap.size w w' := by
  have hz : ∀ (W : World), RowB (W.alloc (.cells #[.int .u8 0, .int .u8 0, .int .u8 0, .int .u8 0] 125)) W.heap.size 125 4 (fun _ => 0) := fun W => by
    refine ⟨by simp, _, heap_alloc_new W _, rfl, fun i hi => ?_⟩
    rcases (show i = 0 ∨ i = 1 ∨ i = 2 ∨ i = 3 by omega) with rfl | rfl | rfl | rfl <;> rfl
  have hr1 := hz (w.alloc (.cells #[.int .u8 0, .int .u8 0, .int .u8 0, .int .u8 0] 125))
  have hr0 := (hz w).alloc (.cells #[.int .u8 0, .int .u8 0, .int .u8 0, .int .u8 0] 125)
  rw [World.size_alloc] at hr1
  have hB := ((Below.refl w.heap.size w).alloc (Nat.le_refl _) (.cells #[.int .u8 0, .int .u8 0, .int .u8 0, .int .u8 0] 125)).alloc (by simp) (.cells #[.int .u8 0, .int .u8 0, .int .u8 0, .int .u8 0] 125)
  have HP := Lib.hid (put_any _ 125 4 4 _ v _ (by omega) (by omega) hr1)
  have HB := Lib.hid hB
  have HR0 := Lib.hid hr0
  clear hz hr1 hr0 hB
  go_enter Try.func82, Try.ntmps82
  go_wp2_with fail
  refine HP.out.mono ?_
  clear HP
  generalize (w.alloc (.cells #[.int .u8 0, .int .u8 0, .int .u8 0, .int .u8 0] 125)).alloc (.cells #[.int .u8 0, .int .u8 0, .int .u8 0, .int .u8 0] 125) = w1 at *
  rintro e w2 ⟨⟨x, rfl⟩, hr, hg⟩
  have hr2 := HR0.out.only hg (fun e => by injection e; omega)
  have HB2 := Lib.hid (HB.out.grown hg HB.out.size (fun k hk => by cases hk; omega))
  have a0 := hr.cell (i := 0) (by omega)
  have a1 := hr.cell (i := 1) (by omega)
  have a2 := hr.cell (i := 2) (by omega)
  have a3 := hr.cell (i := 3) (by omega)
  have b0 := hr2.cell (i := 0) (by omega)
  have b1 := hr2.cell (i := 1) (by omega)
  have b2 := hr2.cell (i := 2) (by omega)
  have b3 := hr2.cell (i := 3) (by omega)
  have g0 := hr2.free 0
  have g1 := hr2.free 1
  have g2 := hr2.free 2
  have g3 := hr2.free 3
  have HR2 := Lib.hid hr2
  clear hr hg HR0 HB hr2
  go_wp2_with fail
  have hR := (((HR2.out.set (p := 0) (by omega) (byteOf v 0)).set (p := 1) (by omega) (byteOf v 1)).set (p := 2) (by omega) (byteOf v 2)).set (p := 3) (by omega) (byteOf v 3)
  have hB := (((HB2.out.setCell (p := ⟨w.heap.size, 0, none⟩) (Nat.le_refl _) (.int .u8 (byteOf v 0 : Nat))).setCell (p := ⟨w.heap.size, 1, none⟩) (Nat.le_refl _) (.int .u8 (byteOf v 1 : Nat))).setCell (p := ⟨w.heap.size, 2, none⟩) (Nat.le_refl _) (.int .u8 (byteOf v 2 : Nat))).setCell (p := ⟨w.heap.size, 3, none⟩) (Nat.le_refl _) (.int .u8 (byteOf v 3 : Nat))
  clear a0 a1 a2 a3 b0 b1 b2 b3 g0 g1 g2 g3
  generalize (((w2.setCell ⟨w.heap.size, 0, none⟩ (.int .u8 (byteOf v 0 : Nat))).setCell ⟨w.heap.size, 1, none⟩ (.int .u8 (byteOf v 1 : Nat))).setCell ⟨w.heap.size, 2, none⟩ (.int .u8 (byteOf v 2 : Nat))).setCell ⟨w.heap.size, 3, none⟩ (.int .u8 (byteOf v 3 : Nat)) = w3 at *
  have z0 : w3.cell? ⟨w.heap.size, 0, none⟩ = some (.int .u8 (byteOf v 0 : Nat)) := hR.cell (i := 0) (by omega)
  have z1 : w3.cell? ⟨w.heap.size, 1, none⟩ = some (.int .u8 (byteOf v 1 : Nat)) := hR.cell (i := 1) (by omega)
  have z2 : w3.cell? ⟨w.heap.size, 2, none⟩ = some (.int .u8 (byteOf v 2 : Nat)) := hR.cell (i := 2) (by omega)
  have z3 : w3.cell? ⟨w.heap.size, 3, none⟩ = some (.int .u8 (byteOf v 3 : Nat)) := hR.cell (i := 3) (by omega)
  refine bodyPost_ret (v := .agg #[.int .u8 (byteOf v 0 : Nat), .int .u8 (byteOf v 1 : Nat), .int .u8 (byteOf v 2 : Nat), .int .u8 (byteOf v 3 : Nat)]) ?_ rfl ⟨rfl, hB⟩
  simp [results, Try.f82, go_sem, z0, z1, z2, z3]
end Go.Proofs.Ytffdklcpkkcohaa
