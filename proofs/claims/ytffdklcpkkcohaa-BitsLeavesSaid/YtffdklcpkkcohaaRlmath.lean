/- The document's Leaves: the block as it is laid. -/
import Derived.Test.YtffdklcpkkcohaaRbytes
import Derived.Test.YtffdklcpkkcohaaBref
import Derived.Test.YtffdklcpkkcohaaBlk
import Derived.Deep.WholeRow
namespace Go.Proofs.Ytffdklcpkkcohaa
open Go.RowKit
theorem info77 : (Try.prog.info? 77).map (fun i => (i.zero, i.size, i.bytes)) = some (some (.agg zero256), 256, 256) := by kernel_rfl
noncomputable def hd4 : Array Value := (((Try.zeroCells77.setIfInBounds 0 (.int .u8 98)).setIfInBounds 1 (.int .u8 105)).setIfInBounds 2 (.int .u8 116)).setIfInBounds 3 (.int .u8 115)
theorem zero77 : Try.zeroCells77 = Array.replicate 256 (.int .u8 0) := by kernel_rfl
def headQ (j q i : Nat) : Nat := if i < 4 + q then hdByte j i else 0
theorem hd4_at (j i : Nat) (h : i < 256) : hd4[i]? = some (.int .u8 (headQ j 0 i : Nat)) := by
  by_cases h4 : i < 4
  · rcases (show i = 0 ∨ i = 1 ∨ i = 2 ∨ i = 3 by omega) with rfl | rfl | rfl | rfl <;> (unfold hd4; rw [zero77]; simp [headQ, hdByte])
  · have e : headQ j 0 i = 0 := by unfold headQ; rw [if_neg (by omega)]
    rw [e]
    unfold hd4
    rw [zero77]
    simp only [Array.getElem?_setIfInBounds]
    rw [if_neg (by omega), if_neg (by omega), if_neg (by omega), if_neg (by omega)]
    simp [h]
theorem hd4_store (w : World) : (storeCells ⟨w.heap.size, 0, none⟩ ((((Try.zeroCells77.toList.set 0 (.int .u8 98)).set 1 (.int .u8 105)).set 2 (.int .u8 116)).set 3 (.int .u8 115))).run Try.prog (w.alloc (.cells Try.zeroCells77 77)) = .ok () (w.alloc (.cells hd4 77)) := by
  have := run_storeCells_new (P := Try.prog) w 77 Try.zeroCells77 hd4 (by kernel_rfl) (by kernel_rfl) (by kernel_rfl)
  rw [show hd4.toList = (((Try.zeroCells77.toList.set 0 (.int .u8 98)).set 1 (.int .u8 105)).set 2 (.int .u8 116)).set 3 (.int .u8 115) by simp [hd4]] at this
  exact this
theorem hd4_row (w : World) (j : Nat) : RowB (w.alloc (.cells hd4 77)) w.heap.size 77 256 (headQ j 0) :=
  ⟨by simp, _, heap_alloc_new w _, by kernel_rfl, fun i hi => hd4_at j i hi⟩
theorem lowB_byteOf (p q : Nat) : lowB p q = byteOf p q := by
  unfold lowB byteOf
  rw [show (256 : Nat) = 2 ^ 8 by rfl, ← Nat.pow_mul]
theorem headQ_step (j q i : Nat) (hq : q < 4) : setN (headQ j q) (4 + q) (lowB j q) i = headQ j (q + 1) i := by
  rw [lowB_byteOf]
  unfold setN headQ
  by_cases h : i = 4 + q
  · subst h
    rw [if_pos rfl, if_pos (by omega)]
    rcases (show q = 0 ∨ q = 1 ∨ q = 2 ∨ q = 3 by omega) with rfl | rfl | rfl | rfl <;> rfl
  · rw [if_neg h]
    by_cases h2 : i < 4 + q
    · rw [if_pos h2, if_pos (by omega)]
    · rw [if_neg h2, if_neg (by omega)]
/-- the bits below p -/
def cutK (p : Nat) (K : Nat → Bool) : Nat → Bool := fun x => decide (x < p) && K x
theorem cutK_step (K : Nat → Bool) (p : Nat) (h : K p = true) : ∀ x, setK (cutK p K) p true x = cutK (p + 1) K x := by
  intro x
  unfold setK cutK
  by_cases e : x = p
  · subst e; rw [if_pos rfl, h]; simp
  · rw [if_neg e]
    by_cases e2 : x < p
    · simp [e2, show x < p + 1 by omega]
    · simp [e2, show ¬ x < p + 1 by omega]
theorem cutK_skip (K : Nat → Bool) (p : Nat) (h : K p = false) : ∀ x, cutK p K x = cutK (p + 1) K x := by
  intro x
  unfold cutK
  by_cases e : x = p
  · subst e; rw [h]; simp
  · by_cases e2 : x < p
    · simp [e2, show x < p + 1 by omega]
    · simp [e2, show ¬ x < p + 1 by omega]
/-- block j, its bits laid as far as p -/
def blkTo (K : Nat → Bool) (j p i : Nat) : Nat := if i < 128 then hdByte j i else byteVal (cutK p K) (128 * j + (i - 128))
theorem byteVal_none (k : Nat → Bool) (m : Nat) (h : ∀ t, t < 8 → k (8 * m + t) = false) : byteVal k m = 0 :=
  (byteVal_of (V := 0) (by omega) (fun t ht => by rw [h t ht]; simp)).symm
theorem blkTo_start (K : Nat → Bool) (j i : Nat) : headQ j 4 i = blkTo K j (1024 * j) i := by
  unfold headQ blkTo
  by_cases h : i < 128
  · rw [if_pos h]
    by_cases h2 : i < 4 + 4
    · rw [if_pos h2]
    · rw [if_neg h2, hdByte_big _ _ (by omega)]
  · rw [if_neg h, if_neg (by omega), byteVal_none _ _ (fun t ht => by unfold cutK; simp; omega)]
theorem blkTo_skip (K : Nat → Bool) (j p i : Nat) (h : K p = false) : blkTo K j p i = blkTo K j (p + 1) i := by
  unfold blkTo
  rw [byteVal_congr (fun t _ => cutK_skip K p h _)]
theorem blkTo_step (K : Nat → Bool) (j p i : Nat) (h : K p = true) (h1 : 1024 * j ≤ p) (h2 : p < 1024 * j + 1024) :
    setN (blkTo K j p) (128 + p % 1024 / 8) (byteVal (cutK p K) (p / 8) ||| 2 ^ (p % 8)) i = blkTo K j (p + 1) i := by
  unfold setN blkTo
  by_cases e : i = 128 + p % 1024 / 8
  · rw [if_pos e, if_neg (by omega), byteVal_set, show 128 * j + (i - 128) = p / 8 by omega]
    exact byteVal_congr (fun t _ => cutK_step K p h _)
  · rw [if_neg e]
    by_cases h3 : i < 128
    · rw [if_pos h3, if_pos h3]
    · rw [if_neg h3, if_neg h3]
      by_cases h4 : i < 256
      · rw [← byteVal_other (cutK p K) p _ true (show 128 * j + (i - 128) ≠ p / 8 by omega)]
        exact byteVal_congr (fun t _ => cutK_step K p h _)
      · rw [← byteVal_other (cutK p K) p _ true (show 128 * j + (i - 128) ≠ p / 8 by omega)]
        exact byteVal_congr (fun t _ => cutK_step K p h _)
theorem blkTo_end (K : Nat → Bool) (j n p i : Nat) (hi : i < 256) (h1 : p = 1024 * j + 1024 ∧ p ≤ n ∨ p = n ∧ n ≤ 1024 * j + 1024) : blkTo K j p i = leafAll (cutK n K) n (j * 256 + i) := by
  unfold blkTo leafAll leafTo
  rw [show (j * 256 + i) % 256 = i by omega, show (j * 256 + i) / 256 = j by omega]
  by_cases h : i < 128
  · rw [if_pos h, if_pos h]
  · rw [if_neg h, if_neg h]
    have e : byteVal (cutK p K) (128 * j + (i - 128)) = byteVal (cutK n K) (128 * j + (i - 128)) := by
      refine byteVal_congr (fun t ht => ?_)
      unfold cutK
      congr 1
      rw [decide_eq_decide]
      omega
    rw [e]
    by_cases h2 : 128 * j + (i - 128) < (n + 7) / 8
    · rw [if_pos h2]
    · rw [if_neg h2, byteVal_none _ _ (fun t ht => by unfold cutK; simp; omega)]
def lcells (f : Nat → Nat) (j : Nat) : List Value := (List.range j).flatMap (blkCells f)
theorem lcells_succ (f : Nat → Nat) (j : Nat) : lcells f (j + 1) = lcells f j ++ blkCells f j := by
  unfold lcells; rw [List.range_succ]; simp
end Go.Proofs.Ytffdklcpkkcohaa
