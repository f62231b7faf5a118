/- What the abstract run says of the model: numbers reckoned. -/
import Derived.Test.YtpbjdbdlfobpmaaGreatEngG
namespace Go.Eng
open Go Go.RowKit
section
variable {P : Program} {ρ : Env}
theorem fitK_ok {k : IntKind} {x : Int} {n : Nat} (e : fitK k x = some n) : x = (n : Int) ∧ n ≤ topK k := by
  unfold fitK at e
  split at e
  · split at e
    · rename_i h; cases e; exact ⟨rfl, by simpa using h⟩
    · cases e
  · cases e
theorem bitsK_eq (k : IntKind) : bitsK k = k.bits := by cases k <;> rfl
theorem topK_lt (k : IntKind) : ∃ m, topK k + 1 = 2 ^ m ∧ m ≤ k.bits := by
  cases k
  · exact ⟨7, rfl, by decide⟩
  · exact ⟨15, rfl, by decide⟩
  · exact ⟨31, rfl, by decide⟩
  · exact ⟨63, rfl, by decide⟩
  · exact ⟨8, rfl, by decide⟩
  · exact ⟨16, rfl, by decide⟩
  · exact ⟨32, rfl, by decide⟩
  · exact ⟨64, rfl, by decide⟩
theorem ofInt_fit {k : IntKind} {n : Nat} (h : n ≤ topK k) : (BitVec.ofInt k.bits (n : Int)).toNat = n := by
  obtain ⟨m, h1, h2⟩ := topK_lt k
  rw [BitVec.ofInt_natCast, BitVec.toNat_ofNat]
  exact Nat.mod_eq_of_lt (Nat.lt_of_lt_of_le (by omega : n < 2 ^ m) (Nat.pow_le_pow_right (by decide) h2))
theorem wrap_fit {k : IntKind} {n : Nat} (h : n ≤ topK k) : k.wrap (n : Int) = (n : Int) := wrap_in (.inl ⟨by omega, by omega⟩)
/-- what the model says of two numbers -/
def Num (P : Program) (op : BinOp) (t : TypeId) (k k' : IntKind) (x y : Int) (c : Value) : Prop := ∀ w, (binOp op t (.int k x) (.int k' y)).run P w = .ok c w
theorem sameK_ok {k k' : IntKind} {x : Option AV} {v : AV} (e : sameK k k' x = some v) : k = k' ∧ x = some v := by
  unfold sameK at e
  split at e
  · rename_i h; exact ⟨kIx_eq h, e⟩
  · cases e
theorem intA_ok {op : BinOp} {t : TypeId} {k k' : IntKind} {x y : Int} {v : AV} (e : intA op k k' x y = some v) : ∃ c, Num P op t k k' x y c ∧ cv ρ v = some c := by
  cases op with
  | add =>
    simp only [intA] at e
    obtain ⟨hk, e1⟩ := sameK_ok e
    clear e
    subst hk
    cases e1
    exact ⟨.int k (k.wrap (x + y)), fun w => by simp [binOp, Op.intArith], by simp only [cv, wrapF_eq, addI_eq]⟩
  | sub =>
    simp only [intA] at e
    obtain ⟨hk, e1⟩ := sameK_ok e
    clear e
    subst hk
    cases e1
    exact ⟨.int k (k.wrap (x - y)), fun w => by simp [binOp, Op.intArith], by simp only [cv, wrapF_eq, addI_eq, negI_eq]; rfl⟩
  | mul =>
    simp only [intA] at e
    obtain ⟨hk, e1⟩ := sameK_ok e
    clear e
    subst hk
    cases e1
    exact ⟨.int k (k.wrap (x * y)), fun w => by simp [binOp, Op.intArith], by simp only [cv, wrapF_eq, mulI_eq]⟩
  | quo =>
    simp only [intA] at e
    obtain ⟨hk, e1⟩ := sameK_ok e
    clear e
    subst hk
    have e := e1
    clear e1
    unfold quoF at e
    split at e
    · rename_i a b ha hb
      cases e
      obtain ⟨rfl, h1⟩ := fitK_ok ha
      obtain ⟨rfl, h2⟩ := fitK_ok hb
      refine ⟨.int k ((a / (b + 1) : Nat) : Int), fun w => ?_, rfl⟩
      have hne : ((b + 1 : Nat) : Int) ≠ 0 := by omega
      have hd : (a : Int).tdiv ((b + 1 : Nat) : Int) = ((a / (b + 1) : Nat) : Int) := rfl
      simp only [binOp, Op.intDiv, ne_eq, not_true_eq_false, if_false, hne, hd]
      rw [wrap_fit (Nat.le_trans (Nat.div_le_self _ _) h1)]
      rfl
    · cases e
  | rem =>
    simp only [intA] at e
    obtain ⟨hk, e1⟩ := sameK_ok e
    clear e
    subst hk
    have e := e1
    clear e1
    unfold remF at e
    split at e
    · rename_i a b ha hb
      cases e
      obtain ⟨rfl, h1⟩ := fitK_ok ha
      obtain ⟨rfl, h2⟩ := fitK_ok hb
      refine ⟨.int k ((a % (b + 1) : Nat) : Int), fun w => ?_, rfl⟩
      have hne : ((b + 1 : Nat) : Int) ≠ 0 := by omega
      have hd : (a : Int).tmod ((b + 1 : Nat) : Int) = ((a % (b + 1) : Nat) : Int) := rfl
      simp only [binOp, Op.intDiv, ne_eq, not_true_eq_false, if_false, hne, hd]
      rfl
    · cases e
  | and =>
    simp only [intA] at e
    obtain ⟨hk, e1⟩ := sameK_ok e
    clear e
    subst hk
    have e := e1
    clear e1
    unfold nat2 at e
    split at e
    · rename_i a b ha hb
      cases e
      obtain ⟨rfl, h1⟩ := fitK_ok ha
      obtain ⟨rfl, h2⟩ := fitK_ok hb
      refine ⟨.int k ((a &&& b : Nat) : Int), fun w => ?_, rfl⟩
      have hv : (BitVec.ofInt k.bits (a : Int) &&& BitVec.ofInt k.bits (b : Int)).toNat = (a &&& b : Nat) := by rw [BitVec.toNat_and, ofInt_fit h1, ofInt_fit h2]
      simp only [binOp, Op.intBits, ne_eq, not_true_eq_false, if_false, hv]
      rw [wrap_fit (Nat.le_trans Nat.and_le_left h1)]
      rfl
    · cases e
  | or =>
    simp only [intA] at e
    obtain ⟨hk, e1⟩ := sameK_ok e
    clear e
    subst hk
    have e := e1
    clear e1
    unfold nat2 at e
    split at e
    · rename_i a b ha hb
      cases e
      obtain ⟨rfl, h1⟩ := fitK_ok ha
      obtain ⟨rfl, h2⟩ := fitK_ok hb
      refine ⟨.int k ((a ||| b : Nat) : Int), fun w => ?_, rfl⟩
      obtain ⟨m, hm, _⟩ := topK_lt k
      have hv : (BitVec.ofInt k.bits (a : Int) ||| BitVec.ofInt k.bits (b : Int)).toNat = (a ||| b : Nat) := by rw [BitVec.toNat_or, ofInt_fit h1, ofInt_fit h2]
      have hl : a ||| b < 2 ^ m := Nat.or_lt_two_pow (by omega) (by omega)
      simp only [binOp, Op.intBits, ne_eq, not_true_eq_false, if_false, hv]
      rw [wrap_fit (by omega)]
      rfl
    · cases e
  | xor =>
    simp only [intA] at e
    obtain ⟨hk, e1⟩ := sameK_ok e
    clear e
    subst hk
    have e := e1
    clear e1
    unfold nat2 at e
    split at e
    · rename_i a b ha hb
      cases e
      obtain ⟨rfl, h1⟩ := fitK_ok ha
      obtain ⟨rfl, h2⟩ := fitK_ok hb
      refine ⟨.int k ((a ^^^ b : Nat) : Int), fun w => ?_, rfl⟩
      obtain ⟨m, hm, _⟩ := topK_lt k
      have hv : (BitVec.ofInt k.bits (a : Int) ^^^ BitVec.ofInt k.bits (b : Int)).toNat = (a ^^^ b : Nat) := by rw [BitVec.toNat_xor, ofInt_fit h1, ofInt_fit h2]
      have hl : a ^^^ b < 2 ^ m := Nat.xor_lt_two_pow (by omega) (by omega)
      simp only [binOp, Op.intBits, ne_eq, not_true_eq_false, if_false, hv]
      rw [wrap_fit (by omega)]
      rfl
    · cases e
  | andNot => cases e
  | shl =>
    simp only [intA] at e
    unfold shlF at e
    split at e
    · rename_i n
      cases e
      refine ⟨.int k (k.wrap (x * 2 ^ (min n k.bits))), fun w => ?_, ?_⟩
      · have : ¬ (Int.ofNat n < 0) := by rw [Int.ofNat_eq_natCast]; omega
        simp only [binOp, Op.shift, Int.toNat_natCast, Int.ofNat_eq_natCast] at this ⊢
        rw [if_neg this]
        rfl
      · simp only [cv, wrapF_eq, mulI_eq, bitsK_eq, Int.ofNat_eq_natCast]
        congr 3
    · cases e
  | shr =>
    simp only [intA] at e
    unfold shrF at e
    split at e
    · rename_i n
      split at e
      · rename_i a
        cases e
        refine ⟨.int k ((a : Int).fdiv (2 ^ (min n k.bits))), fun w => ?_, ?_⟩
        · have : ¬ (Int.ofNat n < 0) := by rw [Int.ofNat_eq_natCast]; omega
          simp only [binOp, Op.shift, Int.toNat_natCast, Int.ofNat_eq_natCast] at this ⊢
          rw [if_neg this]
          rfl
        · simp only [cv, bitsK_eq, Int.ofNat_eq_natCast]
          rw [Int.fdiv_eq_ediv_of_nonneg _ (by exact_mod_cast Nat.zero_le _)]
          push_cast
          rfl
      · cases e
    · cases e
  | eql =>
    simp only [intA] at e
    obtain ⟨hk, e1⟩ := sameK_ok e
    clear e
    subst hk
    cases e1
    exact ⟨.bool (x == y), fun w => by simp [binOp, Op.intCmp], by simp only [cv, eqI_eq]⟩
  | neq =>
    simp only [intA] at e
    obtain ⟨hk, e1⟩ := sameK_ok e
    clear e
    subst hk
    cases e1
    exact ⟨.bool (x != y), fun w => by simp [binOp, Op.intCmp], by simp only [cv, eqI_eq]; rfl⟩
  | lss =>
    simp only [intA] at e
    obtain ⟨hk, e1⟩ := sameK_ok e
    clear e
    subst hk
    cases e1
    refine ⟨.bool (decide (x < y)), fun w => by simp [binOp, Op.intCmp], ?_⟩
    simp only [cv, leI_eq]
    rw [← decide_not]
    congr 2
    rw [decide_eq_decide]; omega
  | leq =>
    simp only [intA] at e
    obtain ⟨hk, e1⟩ := sameK_ok e
    clear e
    subst hk
    cases e1
    exact ⟨.bool (decide (x ≤ y)), fun w => by simp [binOp, Op.intCmp], by simp only [cv, leI_eq]⟩
  | gtr =>
    simp only [intA] at e
    obtain ⟨hk, e1⟩ := sameK_ok e
    clear e
    subst hk
    cases e1
    refine ⟨.bool (decide (x > y)), fun w => by simp [binOp, Op.intCmp], ?_⟩
    simp only [cv, leI_eq]
    rw [← decide_not]
    congr 2
    rw [decide_eq_decide]; omega
  | geq =>
    simp only [intA] at e
    obtain ⟨hk, e1⟩ := sameK_ok e
    clear e
    subst hk
    cases e1
    exact ⟨.bool (decide (x ≥ y)), fun w => by simp [binOp, Op.intCmp], by simp only [cv, leI_eq]⟩
end
end Go.Eng
