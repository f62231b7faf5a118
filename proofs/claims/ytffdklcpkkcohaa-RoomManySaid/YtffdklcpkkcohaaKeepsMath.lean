/- RoomKeeps, the plain law: what the states are behind Lets, Takes, Back and Swing. -/
import Derived.Test.YtffdklcpkkcohaaSame
namespace Go.Proofs.Ytffdklcpkkcohaa
open Go.RowKit
def cnt (n : Nat) (s : Nat → Int) (v : Int) : Nat := (listS n s v).length
theorem cnt_succ (n : Nat) (s : Nat → Int) (v : Int) : cnt (n + 1) s v = cnt n s v + (if s n = v then 1 else 0) := by
  unfold cnt
  rw [listS_succ]
  by_cases h : s n = v
  · simp [h]
  · simp [h]
theorem cnt_zero (s : Nat → Int) (v : Int) : cnt 0 s v = 0 := rfl
theorem cnt_pos {n : Nat} {s : Nat → Int} {v : Int} (h : 0 < cnt n s v) : ∃ i, i < n ∧ s i = v := by
  induction n with
  | zero => simp [cnt_zero] at h
  | succ n ih =>
    rw [cnt_succ] at h
    by_cases e : s n = v
    · exact ⟨n, by omega, e⟩
    · rw [if_neg e] at h
      obtain ⟨i, h1, h2⟩ := ih (by omega)
      exact ⟨i, by omega, h2⟩
theorem cnt_none {n : Nat} {s : Nat → Int} {v : Int} (h : cnt n s v = 0) : ∀ i, i < n → s i ≠ v := by
  induction n with
  | zero => intro i hi; omega
  | succ n ih =>
    rw [cnt_succ] at h
    intro i hi e
    by_cases hn : i = n
    · subst hn; rw [if_pos e] at h; omega
    · exact ih (by omega) i (by omega) e
theorem cnt_all {n : Nat} {s : Nat → Int} {v : Int} (h : ∀ i, i < n → s i ≠ v) : cnt n s v = 0 := by
  induction n with
  | zero => rfl
  | succ n ih => rw [cnt_succ, if_neg (h n (by omega)), ih (fun i hi => h i (by omega))]
theorem listS_congr {n : Nat} {s s' : Nat → Int} {v v' : Int} (h : ∀ i, i < n → (s i = v ↔ s' i = v')) : listS n s v = listS n s' v' := by
  induction n with
  | zero => rfl
  | succ n ih =>
    rw [listS_succ, listS_succ, ih (fun i hi => h i (by omega))]
    by_cases e : s n = v
    · have e' := (h n (by omega)).1 e
      simp [e, e']
    · have e' : ¬ s' n = v' := fun h' => e ((h n (by omega)).2 h')
      simp [e, e']
theorem cnt_congr {n : Nat} {s s' : Nat → Int} {v v' : Int} (h : ∀ i, i < n → (s i = v ↔ s' i = v')) : cnt n s v = cnt n s' v' := by
  unfold cnt; rw [listS_congr h]
/-- one is taken -/
theorem cnt_take {n p : Nat} {s : Nat → Int} (hp : p < n) (hs : s p = 1) : cnt n (setS s p 3) 1 + 1 = cnt n s 1 := by
  induction n with
  | zero => omega
  | succ n ih =>
    rw [cnt_succ, cnt_succ]
    by_cases e : p = n
    · subst e
      have h1 : cnt p (setS s p 3) 1 = cnt p s 1 := cnt_congr fun i hi => by unfold setS; rw [if_neg (by omega)]
      have h2 : setS s p 3 p = 3 := by unfold setS; rw [if_pos rfl]
      rw [h1, h2, hs]; simp
    · have h2 : setS s p 3 n = s n := by unfold setS; rw [if_neg (fun h => e h.symm)]
      have := ih (by omega)
      rw [h2]; omega
theorem cnt_sum {n : Nat} {s : Nat → Int} (h : ∀ i, i < n → 0 ≤ s i ∧ s i ≤ 4) : cnt n s 0 + cnt n s 1 + cnt n s 2 + cnt n s 3 + cnt n s 4 = n := by
  induction n with
  | zero => rfl
  | succ n ih =>
    have := ih (fun i hi => h i (by omega))
    have h1 := h n (by omega)
    simp only [cnt_succ]
    rcases (show s n = 0 ∨ s n = 1 ∨ s n = 2 ∨ s n = 3 ∨ s n = 4 by omega) with e | e | e | e | e <;> rw [e] <;> simp <;> omega
theorem cnt_two {n : Nat} {s s' : Nat → Int} {v a b : Int} (hab : a ≠ b) (h : ∀ i, i < n → (s' i = v ↔ s i = a ∨ s i = b)) : cnt n s' v = cnt n s a + cnt n s b := by
  induction n with
  | zero => rfl
  | succ n ih =>
    rw [cnt_succ, cnt_succ, cnt_succ, ih (fun i hi => h i (by omega))]
    have h1 := h n (by omega)
    by_cases ea : s n = a
    · have eb : ¬ s n = b := fun e => hab (ea.symm.trans e)
      rw [if_pos (h1.2 (.inl ea)), if_pos ea, if_neg eb]; omega
    · by_cases eb : s n = b
      · rw [if_pos (h1.2 (.inr eb)), if_neg ea, if_pos eb]; omega
      · rw [if_neg (fun e => (h1.1 e).elim ea eb), if_neg ea, if_neg eb]; omega
/-- a fresh room -/
theorem usedS_kind (f : Nat → Nat) (j i : Nat) : (i = 0 ∧ usedS f j i = 0) ∨ (i ≠ 0 ∧ (usedS f j i = 1 ∨ usedS f j i = 2)) := by
  unfold usedS
  by_cases h : i = 0
  · exact .inl ⟨h, by rw [if_pos h]⟩
  · refine .inr ⟨h, ?_⟩
    rw [if_neg h]
    split
    · exact .inr rfl
    · exact .inl rfl
/-- behind some Lets -/
def LetI (s0 s : Nat → Int) : Prop := ∀ i, s i = s0 i ∨ (s0 i = 2 ∧ s i = 4)
/-- behind some Takes -/
def TakeI (s0 s : Nat → Int) : Prop := ∀ i, (s i = s0 i) ∨ (s0 i = 2 ∧ s i = 4) ∨ (s0 i = 1 ∧ s i = 3)
def Fresh (s0 : Nat → Int) : Prop := ∀ i, (i = 0 ∧ s0 i = 0) ∨ (i ≠ 0 ∧ (s0 i = 1 ∨ s0 i = 2))
theorem letI_step {n : Nat} {s0 s : Nat → Int} (h0 : Fresh s0) (h : LetI s0 s) (p : Nat) : LetI s0 (letS n s p) := by
  intro i
  have hi := h i
  have hp := h p
  have fp := h0 p
  unfold letS
  split
  · rename_i c
    unfold setS
    by_cases e : i = p
    · subst e
      rw [if_pos rfl]
      refine .inr ⟨?_, rfl⟩
      rcases hp with hp | hp
      · rw [← hp]; exact c.2
      · exact hp.1
    · rw [if_neg e]; exact hi
  · split
    · rename_i c
      exfalso
      have := c.2
      rcases hp with hp | hp <;> rcases fp with fp | fp <;> omega
    · exact hi
theorem LetI.take {s0 s : Nat → Int} (h : LetI s0 s) : TakeI s0 s := fun i => (h i).elim .inl (fun h => .inr (.inl h))
theorem takeI_step {s0 s : Nat → Int} (h0 : Fresh s0) (h : TakeI s0 s) {p : Nat} (hp : s p = 1) : TakeI s0 (setS s p 3) ∧ s0 p = 1 := by
  have h1 : s0 p = 1 := by
    have fp := h0 p
    rcases h p with h | h | h
    · rw [← h]; exact hp
    · have := h.2; omega
    · have := h.2; omega
  refine ⟨fun i => ?_, h1⟩
  unfold setS
  by_cases e : i = p
  · subst e; rw [if_pos rfl]; exact .inr (.inr ⟨h1, rfl⟩)
  · rw [if_neg e]; exact h i
theorem takeI_range {s0 s : Nat → Int} (h0 : Fresh s0) (h : TakeI s0 s) (i : Nat) : 0 ≤ s i ∧ s i ≤ 4 := by
  have fi := h0 i
  rcases h i with h | h | h <;> rcases fi with fi | fi <;> omega
theorem takeI_back {s0 s : Nat → Int} (h0 : Fresh s0) (h : TakeI s0 s) (i : Nat) : turnS 1 2 s i = s0 i := by
  have fi := h0 i
  unfold turnS
  rcases h i with h | h | h
  · rw [if_neg (by rcases fi with fi | fi <;> omega), if_neg (by rcases fi with fi | fi <;> omega)]; exact h
  · rw [if_neg (by omega), if_pos h.2]; exact h.1.symm
  · rw [if_pos h.2]; exact h.1.symm
theorem fresh_zero {n : Nat} {s0 : Nat → Int} (h0 : Fresh s0) (hn : 1 ≤ n) : cnt n s0 0 = 1 := by
  induction n with
  | zero => omega
  | succ n ih =>
    rw [cnt_succ]
    by_cases e : n = 0
    · subst e
      have := h0 0
      rw [cnt_zero, if_pos (by omega)]
    · rw [ih (by omega), if_neg (by have := h0 n; omega)]
theorem takeI_zero {n : Nat} {s0 s : Nat → Int} (h0 : Fresh s0) (h : TakeI s0 s) (hn : 1 ≤ n) : cnt n s 0 = 1 := by
  rw [← fresh_zero h0 hn]
  refine cnt_congr fun i _ => ?_
  have fi := h0 i
  rcases h i with h | h | h
  · rw [h]
  · rw [h.1, h.2]; simp
  · rw [h.1, h.2]; simp
theorem fresh_sum {n : Nat} {s0 : Nat → Int} (h0 : Fresh s0) (hn : 1 ≤ n) : cnt n s0 2 + cnt n s0 1 = n - 1 := by
  have h := cnt_sum (n := n) (s := s0) (fun i _ => by have := h0 i; omega)
  have hz := fresh_zero h0 hn
  have h3 : cnt n s0 3 = 0 := cnt_all fun i _ => by have := h0 i; omega
  have h4 : cnt n s0 4 = 0 := cnt_all fun i _ => by have := h0 i; omega
  omega
/-- behind the Swing, when nothing was free -/
theorem swing_free {n : Nat} {s : Nat → Int} (hf : ∀ i, i < n → s i ≠ 1) : listS n (turnS 2 1 s) 1 = listS n s 4 := by
  refine listS_congr fun i hi => ?_
  have := hf i hi
  unfold turnS
  by_cases h3 : s i = 3
  · rw [if_pos h3]; omega
  · rw [if_neg h3]
    by_cases h4 : s i = 4
    · rw [if_pos h4]; simp [h4]
    · rw [if_neg h4]; simp [h4, this]
theorem swing_used {n : Nat} {s0 s : Nat → Int} (h0 : Fresh s0) (h : TakeI s0 s) (hf : ∀ i, i < n → s i ≠ 1) (hn : 1 ≤ n) : cnt n (turnS 2 1 s) 2 + cnt n s 4 = n - 1 := by
  have hs := cnt_sum (n := n) (s := s) (fun i _ => takeI_range h0 h i)
  have hz := takeI_zero h0 h hn
  have h1 := cnt_all hf
  have h2 : cnt n (turnS 2 1 s) 2 = cnt n s 2 + cnt n s 3 := cnt_two (by decide) fun i _ => by
    unfold turnS
    by_cases h3 : s i = 3
    · rw [if_pos h3]; simp [h3]
    · rw [if_neg h3]
      by_cases h4 : s i = 4
      · rw [if_pos h4]; simp [h4]
      · rw [if_neg h4]; simp [h3]
  omega
end Go.Proofs.Ytffdklcpkkcohaa
