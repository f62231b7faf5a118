/- The blocks of a state one by one, what is taken, what is let go one by one: no program in sight. -/
import Derived.Test.YtffdklcpkkcohaaKeepsMath
import Derived.Test.YtffdklcpkkcohaaRunsMath
namespace Go.Proofs.Ytffdklcpkkcohaa
theorem listS_mono (s : Nat → Int) (v : Int) (q d : Nat) : (listS q s v).length ≤ (listS (q + d) s v).length := by
  induction d with
  | zero => exact Nat.le_refl _
  | succ d ih =>
    rw [← Nat.add_assoc, listS_succ]
    split
    · rw [List.length_append]; omega
    · exact ih
theorem listS_even (s : Nat → Int) (v : Int) (q d : Nat) (h : (listS q s v).length = (listS (q + d) s v).length) : listS (q + d) s v = listS q s v ∧ ∀ i, q ≤ i → i < q + d → s i ≠ v := by
  induction d with
  | zero => exact ⟨rfl, fun i h1 h2 => by omega⟩
  | succ d ih =>
    rw [← Nat.add_assoc] at h ⊢
    have hs := listS_succ (q + d) s v
    have hm := listS_mono s v q d
    by_cases he : s (q + d) = v
    · rw [if_pos (by simp [he])] at hs
      rw [hs, List.length_append, List.length_singleton] at h
      omega
    · rw [if_neg (by simp [he])] at hs
      rw [hs] at h
      obtain ⟨h1, h2⟩ := ih h
      exact ⟨by rw [hs, h1], fun i a1 a2 => by
        by_cases e : i = q + d
        · subst e; exact he
        · exact h2 i a1 (by omega)⟩
/-- the next block of a state -/
theorem listS_next (s : Nat → Int) (v : Int) (q j : Nat) : ∀ d, (listS q s v).length = j → j < (listS (q + d) s v).length → ∃ p, q ≤ p ∧ p < q + d ∧ s p = v ∧ (∀ i, q ≤ i → i < p → s i ≠ v) ∧ (listS (q + d) s v)[j]? = some p ∧ listS (p + 1) s v = listS q s v ++ [p] := by
  intro d
  induction d with
  | zero => intro h1 h2; rw [Nat.add_zero] at h2; omega
  | succ d ih =>
    intro h1 h2
    rw [← Nat.add_assoc] at h2 ⊢
    have hs := listS_succ (q + d) s v
    by_cases hlt : j < (listS (q + d) s v).length
    · obtain ⟨p, a1, a2, a3, a4, a5, a6⟩ := ih h1 hlt
      refine ⟨p, a1, by omega, a3, a4, ?_, a6⟩
      rw [hs]
      split
      · rw [List.getElem?_append_left hlt]; exact a5
      · exact a5
    · have hm := listS_mono s v q d
      have he : (listS q s v).length = (listS (q + d) s v).length := by omega
      obtain ⟨b1, b2⟩ := listS_even s v q d he
      by_cases hv : s (q + d) = v
      · rw [if_pos (by simp [hv])] at hs
        refine ⟨q + d, by omega, by omega, hv, b2, ?_, by rw [hs, b1]⟩
        rw [hs, List.getElem?_append_right (by omega), show j - (listS (q + d) s v).length = 0 by omega]; rfl
      · rw [if_neg (by simp [hv])] at hs
        rw [hs] at h2; omega
/-- the states when the free blocks ahead of q are taken -/
def tkS (s : Nat → Int) (q : Nat) : Nat → Int := fun p => if p < q ∧ s p = 1 then 3 else s p
theorem tkS_zero (s : Nat → Int) : ∀ i, s i = tkS s 0 i := fun i => by unfold tkS; rw [if_neg (by omega)]
theorem tkS_step (s : Nat → Int) (q p : Nat) (h1 : q ≤ p) (h2 : s p = 1) (h3 : ∀ i, q ≤ i → i < p → s i ≠ 1) : ∀ i, setS (tkS s q) p 3 i = tkS s (p + 1) i := by
  intro i
  unfold setS tkS
  by_cases e : i = p
  · subst e; rw [if_pos rfl, if_pos ⟨by omega, h2⟩]
  · rw [if_neg e]
    by_cases a : i < q ∧ s i = 1
    · rw [if_pos a, if_pos ⟨by omega, a.2⟩]
    · rw [if_neg a, if_neg (fun b => ?_)]
      by_cases c : i < q
      · exact a ⟨c, b.2⟩
      · exact h3 i (by omega) (by omega) b.2
/-- what is the least that is free now -/
theorem tkS_least (s : Nat → Int) (q p p' : Nat) (h1 : q ≤ p) (h2 : s p = 1) (h3 : ∀ i, q ≤ i → i < p → s i ≠ 1) (k1 : tkS s q p' = 1) (k2 : ∀ i, i < p' → tkS s q i ≠ 1) : p' = p := by
  have f : ∀ i, tkS s q i = 1 ↔ q ≤ i ∧ s i = 1 := by
    intro i
    unfold tkS
    by_cases a : i < q ∧ s i = 1
    · rw [if_pos a]; constructor
      · intro h; omega
      · intro h; omega
    · rw [if_neg a]; constructor
      · intro h; exact ⟨by
          apply Classical.byContradiction; intro c; exact a ⟨by omega, h⟩, h⟩
      · intro h; exact h.2
  have g1 := (f p').1 k1
  by_cases a : p' < p
  · exact absurd g1.2 (h3 p' g1.1 a)
  · by_cases b : p < p'
    · exact absurd ((f p).2 ⟨h1, h2⟩) (k2 p b)
    · omega
theorem tkS_has (s : Nat → Int) (q p n : Nat) (h1 : q ≤ p) (h2 : s p = 1) (hp : p < n) : ¬ ∀ i, i < n → tkS s q i ≠ 1 := fun h => by
  refine h p hp ?_
  unfold tkS; rw [if_neg (by omega)]; exact h2
/-- the states behind the first i blocks are let go -/
def letF (n : Nat) (s : Nat → Int) (f : Nat → Nat) : Nat → Nat → Int
  | 0 => s
  | i + 1 => letS n (letF n s f i) (f i)
theorem letS_other (n : Nat) (s : Nat → Int) (p q : Nat) (h : q ≠ p) : letS n s p q = s q := by
  unfold letS setS
  split
  · exact if_neg h
  · split
    · exact if_neg h
    · rfl
theorem letF_other (n : Nat) (s : Nat → Int) (f : Nat → Nat) (p : Nat) : ∀ i, (∀ j, j < i → f j ≠ p) → letF n s f i p = s p
  | 0, _ => rfl
  | i + 1, h => by
    show letS n (letF n s f i) (f i) p = s p
    rw [letS_other n _ _ _ (fun e => h i (by omega) e.symm), letF_other n s f p i (fun j hj => h j (by omega))]
theorem letF_zero {n : Nat} {s : Nat → Int} (f : Nat → Nat) (h : s 0 = 0) : ∀ i, letF n s f i 0 = 0 := by
  have key : ∀ (s : Nat → Int) (p : Nat), s 0 = 0 → letS n s p 0 = 0 := by
    intro s p h
    unfold letS setS
    by_cases h2 : p < n ∧ s p = 2
    · rw [if_pos h2, if_neg (fun e => by subst e; have := h2.2; omega)]; exact h
    · rw [if_neg h2]
      by_cases h3 : p < n ∧ s p = 3
      · rw [if_pos h3, if_neg (fun e => by subst e; have := h3.2; omega)]; exact h
      · rw [if_neg h3]; exact h
  intro i
  induction i with
  | zero => exact h
  | succ i ih => exact key _ _ ih
/-- was the block let go ahead? -/
def seenF (f : Nat → Nat) (i : Nat) : Bool := (List.range i).any fun j => f j == f i
theorem seenF_false {f : Nat → Nat} {i : Nat} (h : seenF f i = false) : ∀ j, j < i → f j ≠ f i := by
  intro j hj e
  have : seenF f i = true := by simp only [seenF, List.any_eq_true, List.mem_range, beq_iff_eq]; exact ⟨j, hj, e⟩
  rw [h] at this; cases this
def BadL (n : Nat) (s : Nat → Int) (f : Nat → Nat) (i : Nat) : Prop := letE n s (f i) ≠ 0 ∨ seenF f i = true
theorem letE_congr {n : Nat} {s s' : Nat → Int} {p : Nat} (h : s p = s' p) : letE n s p = letE n s' p := by unfold letE; rw [h]
/-- where none is bad, each is let go as if it were the first -/
theorem letF_good {n : Nat} {s : Nat → Int} {f : Nat → Nat} {i : Nat} (h : seenF f i = false) : letE n (letF n s f i) (f i) = letE n s (f i) :=
  letE_congr (letF_other n s f _ i (seenF_false h))
end Go.Proofs.Ytffdklcpkkcohaa
