/- What the abstract run says of the model: places, numbers, comparisons. -/
import Derived.Test.YtpbjdbdlfobpmaaGreatEngF
namespace Go.Eng
open Go Go.RowKit
theorem ble_dec (m n : Nat) : Nat.ble m n = decide (m ≤ n) := by rw [Bool.eq_iff_iff]; simp
theorem leI_eq (x y : Int) : leI x y = decide (x ≤ y) := by
  cases x with
  | ofNat m => cases y with
    | ofNat n => simp only [leI, ble_dec, Int.ofNat_eq_natCast]; exact decide_eq_decide.2 (by omega)
    | negSucc n => simp only [leI, Int.ofNat_eq_natCast]; exact (decide_eq_false (by omega)).symm
  | negSucc m => cases y with
    | ofNat n => simp only [leI, Int.ofNat_eq_natCast]; exact (decide_eq_true (by omega)).symm
    | negSucc n => simp only [leI, ble_dec]; exact decide_eq_decide.2 (by omega)
theorem addI_eq (x y : Int) : addI x y = x + y := by
  cases x with
  | ofNat m => cases y with
    | ofNat n => rfl
    | negSucc n => rfl
  | negSucc m => cases y with
    | ofNat n => rfl
    | negSucc n => simp only [addI]; omega
theorem negI_eq (x : Int) : negI x = -x := by
  cases x with
  | ofNat n => cases n <;> rfl
  | negSucc n => rfl
theorem mulI_eq (x y : Int) : mulI x y = x * y := by
  cases x with
  | ofNat m => cases y with
    | ofNat n => rfl
    | negSucc n => rfl
  | negSucc m => rfl
theorem kIx_eq {k k' : IntKind} (h : Nat.beq (kIx k) (kIx k') = true) : k = k' := by
  have : kIx k = kIx k' := by simpa using h
  cases k <;> cases k' <;> first | rfl | cases this
theorem eqI_eq (x y : Int) : eqI x y = (x == y) := by
  unfold eqI
  rw [leI_eq, leI_eq, Bool.eq_iff_iff, beq_iff_eq]
  by_cases h : x ≤ y
  · rw [decide_eq_true h]; simp only [decide_eq_true_eq]; omega
  · rw [decide_eq_false h]; simp; omega
theorem modK_eq (k : IntKind) : (2 ^ k.bits : Int) = (modK k : Int) := by cases k <;> rfl
theorem halfK {k : IntKind} (h : k.signed = true) : (2 ^ (k.bits - 1) : Int) = (topK k : Int) + 1 ∧ modK k = 2 * (topK k + 1) ∧ botK k = some (topK k) := by
  cases k <;> first | exact ⟨rfl, rfl, rfl⟩ | cases h
theorem wholeK {k : IntKind} (h : k.signed = false) : modK k = topK k + 1 ∧ botK k = none := by
  cases k <;> first | exact ⟨rfl, rfl⟩ | cases h
theorem modK_pos (k : IntKind) : 0 < modK k := by cases k <;> decide
theorem wrapS_eq (k : IntKind) (x : Int) : wrapS k x = k.wrap x := by
  unfold wrapS IntKind.wrap
  rw [modK_eq]
  have hp := modK_pos k
  have h0 : 0 ≤ x % (modK k : Int) := Int.emod_nonneg _ (by omega)
  have hlt : x % (modK k : Int) < (modK k : Int) := Int.emod_lt_of_pos _ (by omega)
  generalize hm : x % (modK k : Int) = m at *
  obtain ⟨m, rfl⟩ := Int.eq_ofNat_of_zero_le h0
  cases hs : k.signed
  · obtain ⟨h1, _⟩ := wholeK hs
    rw [show ((m : Int)) = Int.ofNat m from rfl]
    simp only [Bool.false_and, Bool.false_eq_true, if_false]
    rw [if_pos (by simp; omega)]
  · obtain ⟨h1, h2, _⟩ := halfK hs
    rw [h1, show ((m : Int)) = Int.ofNat m from rfl]
    simp only [Bool.true_and, decide_eq_true_eq]
    by_cases h : m ≤ topK k
    · rw [if_pos (by simpa using h), if_neg (by rw [Int.ofNat_eq_natCast]; omega)]
    · rw [if_neg (by simpa using h), if_pos (by rw [Int.ofNat_eq_natCast]; omega), Int.subNatNat_eq_coe]; rfl
theorem wrap_in {k : IntKind} {x : Int} (h : (0 ≤ x ∧ x ≤ topK k) ∨ (x < 0 ∧ ∃ b, botK k = some b ∧ -(b : Int) - 1 ≤ x)) : k.wrap x = x := by
  rw [← wrapS_eq]
  unfold wrapS
  have hp := modK_pos k
  rcases h with ⟨h1, h2⟩ | ⟨h1, b, h2, h3⟩
  · have hmt : topK k < modK k := by
      cases hs : k.signed
      · have := (wholeK hs).1; omega
      · have := (halfK hs).2.1; omega
    have : x % (modK k : Int) = x := Int.emod_eq_of_lt h1 (by omega)
    rw [this]
    obtain ⟨m, rfl⟩ := Int.eq_ofNat_of_zero_le h1
    rw [show ((m : Int)) = Int.ofNat m from rfl]
    simp only
    rw [if_pos (by simp; omega)]
  · cases hs : k.signed
    · rw [(wholeK hs).2] at h2; cases h2
    · obtain ⟨_, h5, h6⟩ := halfK hs
      rw [h6] at h2; cases h2
      have : x % (modK k : Int) = x + modK k := by
        rw [← Int.add_emod_right]
        exact Int.emod_eq_of_lt (by omega) (by omega)
      rw [this]
      obtain ⟨m, hm⟩ := Int.eq_ofNat_of_zero_le (show 0 ≤ x + (modK k : Int) by omega)
      rw [hm, show ((m : Int)) = Int.ofNat m from rfl]
      simp only
      rw [if_neg (by simp; omega), Int.subNatNat_eq_coe]; omega
theorem wrapF_eq (k : IntKind) (x : Int) : wrapF k x = k.wrap x := by
  cases x with
  | ofNat n =>
    simp only [wrapF]
    split
    · rename_i h
      have h : n ≤ topK k := by simpa using h
      rw [Int.ofNat_eq_natCast]; exact (wrap_in (.inl ⟨by omega, by omega⟩)).symm
    · exact wrapS_eq k _
  | negSucc n =>
    simp only [wrapF]
    split
    · rename_i b hb
      split
      · rename_i h
        have : n ≤ b := by simpa using h
        exact (wrap_in (.inr ⟨by omega, b, hb, by omega⟩)).symm
      · exact wrapS_eq k _
    · exact wrapS_eq k _
end Go.Eng
