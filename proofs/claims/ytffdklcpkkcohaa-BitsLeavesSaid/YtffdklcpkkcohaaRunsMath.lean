/- Stretches of ones, as lists: no program in sight. -/
import Derived.Test.YtffdklcpkkcohaaBitsMath
namespace Go.Proofs.Ytffdklcpkkcohaa

/-- the stretches within the first places -/
def rs (k : Nat → Bool) : Nat → List (Nat × Nat)
  | 0 => []
  | i + 1 => if k i = false then rs k i else if 0 < i ∧ k (i - 1) = true then (rs k i).dropLast ++ [(((rs k i).getLast?.getD (0, 0)).1, i)] else rs k i ++ [(i, i)]
theorem rs_zero (k : Nat → Bool) (i : Nat) (h : k i = false) : rs k (i + 1) = rs k i := by simp only [rs, if_pos h]
theorem rs_one (k : Nat → Bool) (i : Nat) (h : k i = true) (hp : ¬ (0 < i ∧ k (i - 1) = true)) : rs k (i + 1) = rs k i ++ [(i, i)] := by
  simp only [rs]; rw [if_neg (by simp [h]), if_neg hp]
theorem rs_more (k : Nat → Bool) (i : Nat) (h : k i = true) (hp : 0 < i ∧ k (i - 1) = true) : rs k (i + 1) = (rs k i).dropLast ++ [(((rs k i).getLast?.getD (0, 0)).1, i)] := by
  simp only [rs]; rw [if_neg (by simp [h]), if_pos hp]
/-- zeros add nothing -/
theorem rs_zeros (k : Nat → Bool) (p : Nat) : ∀ d, (∀ j, p ≤ j → j < p + d → k j = false) → rs k (p + d) = rs k p := by
  intro d
  induction d with
  | zero => intro _; rfl
  | succ d ih =>
    intro h
    rw [← Nat.add_assoc, rs_zero k _ (h _ (by omega) (by omega))]
    exact ih fun j h1 h2 => h j h1 (by omega)
/-- ones behind a zero add one stretch -/
theorem rs_ones (k : Nat → Bool) (p : Nat) (hp : ¬ (0 < p ∧ k (p - 1) = true)) : ∀ d, (∀ j, p ≤ j → j < p + d + 1 → k j = true) → rs k (p + d + 1) = rs k p ++ [(p, p + d)] := by
  intro d
  induction d with
  | zero => intro h; exact rs_one k p (h p (by omega) (by omega)) hp
  | succ d ih =>
    intro h
    have h1 := ih fun j h1 h2 => h j h1 (by omega)
    have e : p + (d + 1) + 1 = (p + d + 1) + 1 := by omega
    rw [e, rs_more k _ (h _ (by omega) (by omega)) ⟨by omega, by rw [show p + d + 1 - 1 = p + d by omega]; exact h _ (by omega) (by omega)⟩, h1]
    simp
    omega
theorem rs_len (k : Nat → Bool) (i : Nat) : (rs k i).length ≤ i := by
  induction i with
  | zero => simp [rs]
  | succ i ih =>
    simp only [rs]
    split
    · omega
    · split
      · have : (rs k i).length ≠ 0 ∨ (rs k i).length = 0 := by omega
        simp; omega
      · simp; omega
/-- where the last stretch ends -/
theorem rs_last (k : Nat → Bool) (i : Nat) : ∀ x, (rs k i).getLast? = some x → x.2 < i ∧ k x.2 = true ∧ ∀ j, x.2 < j → j < i → k j = false := by
  induction i with
  | zero => intro x h; simp [rs] at h
  | succ i ih =>
    intro x h
    simp only [rs] at h
    split at h
    · rename_i h0
      obtain ⟨h1, h2, h3⟩ := ih x h
      exact ⟨by omega, h2, fun j a b => by by_cases e : j = i; subst e; exact h0; exact h3 j a (by omega)⟩
    · rename_i h0
      split at h
      · simp at h; subst h; exact ⟨by simp, by simpa using h0, fun j a b => by simp at a; omega⟩
      · simp at h; subst h; exact ⟨by simp, by simpa using h0, fun j a b => by simp at a; omega⟩
theorem rs_some (k : Nat → Bool) (i : Nat) (h : 0 < i ∧ k (i - 1) = true) : ∃ x, (rs k i).getLast? = some x ∧ x.2 = i - 1 := by
  obtain ⟨i, rfl⟩ : ∃ j, i = j + 1 := ⟨i - 1, by omega⟩
  simp only [Nat.add_sub_cancel] at h ⊢
  simp only [rs]
  rw [if_neg (by simp [h.2])]
  split
  · exact ⟨(((rs k i).getLast?.getD (0, 0)).1, i), by simp, rfl⟩
  · exact ⟨(i, i), by simp, rfl⟩
/-- does the last stretch end right here? -/
theorem rs_ends (k : Nat → Bool) (i : Nat) {x : Nat × Nat} (h : (rs k i).getLast? = some x) : ((x.2 : Int) = (i : Int) - 1) ↔ (0 < i ∧ k (i - 1) = true) := by
  obtain ⟨h1, h2, h3⟩ := rs_last k i x h
  constructor
  · intro e
    have : x.2 = i - 1 := by omega
    exact ⟨by omega, by rw [← this]; exact h2⟩
  · intro ⟨a, b⟩
    have : ¬ x.2 < i - 1 := fun hc => by have := h3 (i - 1) hc (by omega); rw [this] at b; cases b
    omega
end Go.Proofs.Ytffdklcpkkcohaa
