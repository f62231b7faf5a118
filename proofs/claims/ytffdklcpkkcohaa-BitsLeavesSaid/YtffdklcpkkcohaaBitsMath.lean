/- Bits of a byte, as numbers: no program in sight. -/
import Derived.WalkKit
import Derived.Laws.BitsAllLaws
namespace Go.Proofs.Ytffdklcpkkcohaa

/-- the byte of the eight bits from 8 i on -/
def byteVal (k : Nat → Bool) (i : Nat) : Nat :=
  (k (8 * i)).toNat + 2 * (k (8 * i + 1)).toNat + 4 * (k (8 * i + 2)).toNat + 8 * (k (8 * i + 3)).toNat + 16 * (k (8 * i + 4)).toNat + 32 * (k (8 * i + 5)).toNat + 64 * (k (8 * i + 6)).toNat + 128 * (k (8 * i + 7)).toNat
theorem byteVal_lt (k : Nat → Bool) (i : Nat) : byteVal k i < 256 := by
  have h : ∀ b : Bool, b.toNat ≤ 1 := fun b => by cases b <;> decide
  have := h (k (8 * i)); have := h (k (8 * i + 1)); have := h (k (8 * i + 2)); have := h (k (8 * i + 3)); have := h (k (8 * i + 4)); have := h (k (8 * i + 5)); have := h (k (8 * i + 6)); have := h (k (8 * i + 7))
  unfold byteVal; omega
def of8 (b0 b1 b2 b3 b4 b5 b6 b7 : Bool) : Nat := b0.toNat + 2 * b1.toNat + 4 * b2.toNat + 8 * b3.toNat + 16 * b4.toNat + 32 * b5.toNat + 64 * b6.toNat + 128 * b7.toNat
theorem of8_bits : ∀ b0 b1 b2 b3 b4 b5 b6 b7 : Bool, (of8 b0 b1 b2 b3 b4 b5 b6 b7).testBit 0 = b0 ∧ (of8 b0 b1 b2 b3 b4 b5 b6 b7).testBit 1 = b1 ∧ (of8 b0 b1 b2 b3 b4 b5 b6 b7).testBit 2 = b2 ∧ (of8 b0 b1 b2 b3 b4 b5 b6 b7).testBit 3 = b3 ∧
    (of8 b0 b1 b2 b3 b4 b5 b6 b7).testBit 4 = b4 ∧ (of8 b0 b1 b2 b3 b4 b5 b6 b7).testBit 5 = b5 ∧ (of8 b0 b1 b2 b3 b4 b5 b6 b7).testBit 6 = b6 ∧ (of8 b0 b1 b2 b3 b4 b5 b6 b7).testBit 7 = b7 := by decide +kernel
theorem byteVal_bit (k : Nat → Bool) (i j : Nat) (hj : j < 8) : (byteVal k i).testBit j = k (8 * i + j) := by
  obtain ⟨h0, h1, h2, h3, h4, h5, h6, h7⟩ := of8_bits (k (8 * i)) (k (8 * i + 1)) (k (8 * i + 2)) (k (8 * i + 3)) (k (8 * i + 4)) (k (8 * i + 5)) (k (8 * i + 6)) (k (8 * i + 7))
  match j, hj with
  | 0, _ => exact h0
  | 1, _ => exact h1
  | 2, _ => exact h2
  | 3, _ => exact h3
  | 4, _ => exact h4
  | 5, _ => exact h5
  | 6, _ => exact h6
  | 7, _ => exact h7
theorem bit_high {V j : Nat} (hV : V < 256) (hj : ¬ j < 8) : V.testBit j = false := by
  apply Nat.testBit_lt_two_pow
  exact Nat.lt_of_lt_of_le hV (by calc 256 = 2 ^ 8 := rfl
    _ ≤ 2 ^ j := Nat.pow_le_pow_right (by decide) (by omega))
/-- a byte is known by its bits -/
theorem byte_ext {V W : Nat} (hV : V < 256) (hW : W < 256) (h : ∀ j, j < 8 → V.testBit j = W.testBit j) : V = W := by
  apply Nat.eq_of_testBit_eq
  intro j
  by_cases hj : j < 8
  · exact h j hj
  · rw [bit_high hV hj, bit_high hW hj]
theorem byteVal_of {k : Nat → Bool} {i V : Nat} (hV : V < 256) (h : ∀ j, j < 8 → V.testBit j = k (8 * i + j)) : V = byteVal k i :=
  byte_ext hV (byteVal_lt k i) fun j hj => by rw [h j hj, byteVal_bit k i j hj]
theorem byteVal_congr {k k' : Nat → Bool} {i : Nat} (h : ∀ j, j < 8 → k (8 * i + j) = k' (8 * i + j)) : byteVal k i = byteVal k' i :=
  byteVal_of (byteVal_lt k i) fun j hj => by rw [byteVal_bit k i j hj, h j hj]

theorem u8_ops : ∀ V : Fin 256, ∀ q : Fin 8, bits .and .u8 ((V.val / 2 ^ q.val : Nat) : Int) 1 = ((V.val.testBit q.val).toNat : Int) ∧ bits .or .u8 (V.val : Int) ((2 ^ q.val : Nat) : Int) = ((V.val ||| 2 ^ q.val : Nat) : Int) ∧
    bits .andNot .u8 (V.val : Int) ((2 ^ q.val : Nat) : Int) = ((V.val &&& (255 - 2 ^ q.val) : Nat) : Int) := by decide +kernel
theorem and_seven (p : Nat) (hp : p < 8192) : bits .and .i64 (p : Int) 7 = ((p % 8 : Nat) : Int) := by
  have h : p &&& 7 = p % 8 := Nat.and_two_pow_sub_one_eq_mod p 3
  show IntKind.i64.wrap ((BitVec.ofInt 64 (p : Int) &&& BitVec.ofInt 64 (7 : Int)).toNat : Int) = _
  have e7 : BitVec.ofInt 64 (7 : Int) = BitVec.ofNat 64 7 := rfl
  rw [BitVec.ofInt_natCast, e7, BitVec.toNat_and, BitVec.toNat_ofNat, BitVec.toNat_ofNat, Nat.mod_eq_of_lt (by omega : p < 2 ^ 64), Nat.mod_eq_of_lt (by omega : 7 < 2 ^ 64), h, IntKind.wrap_i64]
  omega
theorem set_low : ∀ V : Fin 256, ∀ q : Fin 8, V.val ||| 2 ^ q.val < 256 ∧ V.val &&& (255 - 2 ^ q.val) < 256 ∧ ∀ j : Fin 8, (V.val ||| 2 ^ q.val).testBit j.val = (V.val.testBit j.val || decide (q.val = j.val)) ∧
    (V.val &&& (255 - 2 ^ q.val)).testBit j.val = (V.val.testBit j.val && !decide (q.val = j.val)) := by decide +kernel
def setK (k : Nat → Bool) (p : Nat) (v : Bool) : Nat → Bool := fun i => if i = p then v else k i
theorem byteVal_set (k : Nat → Bool) (p : Nat) : byteVal k (p / 8) ||| 2 ^ (p % 8) = byteVal (setK k p true) (p / 8) := by
  obtain ⟨h1, _, h2⟩ := set_low ⟨byteVal k (p / 8), byteVal_lt _ _⟩ ⟨p % 8, by omega⟩
  refine byteVal_of h1 fun j hj => ?_
  rw [(h2 ⟨j, hj⟩).1]
  simp only [byteVal_bit k _ j hj, setK]
  by_cases e : 8 * (p / 8) + j = p
  · rw [if_pos e, decide_eq_true (by omega)]; simp
  · rw [if_neg e, decide_eq_false (by omega)]; simp
theorem byteVal_clear (k : Nat → Bool) (p : Nat) : byteVal k (p / 8) &&& (255 - 2 ^ (p % 8)) = byteVal (setK k p false) (p / 8) := by
  obtain ⟨_, h1, h2⟩ := set_low ⟨byteVal k (p / 8), byteVal_lt _ _⟩ ⟨p % 8, by omega⟩
  refine byteVal_of h1 fun j hj => ?_
  rw [(h2 ⟨j, hj⟩).2]
  simp only [byteVal_bit k _ j hj, setK]
  by_cases e : 8 * (p / 8) + j = p
  · rw [if_pos e, decide_eq_true (by omega)]; simp
  · rw [if_neg e, decide_eq_false (by omega)]; simp
theorem byteVal_other (k : Nat → Bool) (p i : Nat) (v : Bool) (h : i ≠ p / 8) : byteVal (setK k p v) i = byteVal k i := by
  refine byteVal_congr fun j hj => ?_
  unfold setK; rw [if_neg (by omega)]

/-! counting -/
def countK (n : Nat) (k : Nat → Bool) : Nat := ((List.range n).filter k).length
theorem countK_succ (n : Nat) (k : Nat → Bool) : countK (n + 1) k = countK n k + (k n).toNat := by
  unfold countK
  rw [List.range_succ, List.filter_append, List.length_append]
  cases h : k n <;> simp [h]
theorem countK_le (n : Nat) (k : Nat → Bool) : countK n k ≤ n := by
  unfold countK; exact Nat.le_trans (List.length_filter_le _ _) (Nat.le_of_eq List.length_range)
theorem countK_ext (n : Nat) (k : Nat → Bool) (h : ∀ p, n ≤ p → k p = false) (d : Nat) : countK (n + d) k = countK n k := by
  induction d with
  | zero => rfl
  | succ d ih => rw [← Nat.add_assoc, countK_succ, ih, h _ (by omega)]; rfl
def pop8 (V : Nat) : Nat := (V.testBit 0).toNat + (V.testBit 1).toNat + (V.testBit 2).toNat + (V.testBit 3).toNat + (V.testBit 4).toNat + (V.testBit 5).toNat + (V.testBit 6).toNat + (V.testBit 7).toNat
theorem countK_byte (i : Nat) (k : Nat → Bool) : countK (8 * (i + 1)) k = countK (8 * i) k + pop8 (byteVal k i) := by
  unfold pop8
  rw [byteVal_bit k i 0 (by omega), byteVal_bit k i 1 (by omega), byteVal_bit k i 2 (by omega), byteVal_bit k i 3 (by omega), byteVal_bit k i 4 (by omega), byteVal_bit k i 5 (by omega), byteVal_bit k i 6 (by omega), byteVal_bit k i 7 (by omega)]
  rw [show 8 * (i + 1) = 8 * i + 1 + 1 + 1 + 1 + 1 + 1 + 1 + 1 by omega]
  simp only [countK_succ]
  simp only [Nat.add_assoc, Nat.add_zero]

/-! looking for a bit -/
def findR (k : Nat → Bool) (one : Bool) : Nat → Nat → Int
  | 0, _ => -1
  | d + 1, p => if k p = one then p else findR k one d (p + 1)
def findI (n : Nat) (k : Nat → Bool) (f : Int) (one : Bool) : Int := findR k one (n - (max f 0).toNat) (max f 0).toNat
theorem findR_step (k : Nat → Bool) (one : Bool) (n p : Nat) (h : p < n) : findR k one (n - p) p = if k p = one then (p : Int) else findR k one (n - (p + 1)) (p + 1) := by
  rw [show n - p = (n - (p + 1)) + 1 by omega]; rfl
theorem findR_end (k : Nat → Bool) (one : Bool) (n p : Nat) (h : n ≤ p) : findR k one (n - p) p = -1 := by
  rw [show n - p = 0 by omega]; rfl
/-- what is found: the least place, or none -/
theorem findR_spec (k : Nat → Bool) (one : Bool) : ∀ (d p : Nat), (∃ q : Nat, findR k one d p = q ∧ p ≤ q ∧ q < p + d ∧ k q = one ∧ ∀ j, p ≤ j → j < q → k j ≠ one) ∨ (findR k one d p = -1 ∧ ∀ j, p ≤ j → j < p + d → k j ≠ one) := by
  intro d
  induction d with
  | zero => intro p; exact .inr ⟨rfl, fun j h1 h2 => by omega⟩
  | succ d ih =>
    intro p
    unfold findR
    by_cases h : k p = one
    · rw [if_pos h]; exact .inl ⟨p, rfl, Nat.le_refl _, by omega, h, fun j h1 h2 => by omega⟩
    · rw [if_neg h]
      rcases ih (p + 1) with ⟨q, h1, h2, h3, h4, h5⟩ | ⟨h1, h2⟩
      · exact .inl ⟨q, h1, by omega, by omega, h4, fun j hj1 hj2 => by by_cases e : j = p; subst e; exact h; exact h5 j (by omega) hj2⟩
      · exact .inr ⟨h1, fun j hj1 hj2 => by by_cases e : j = p; subst e; exact h; exact h2 j (by omega) (by omega)⟩

end Go.Proofs.Ytffdklcpkkcohaa
