/- What the abstract run says of the model: operations that do not look at the heap; names below a number; values that are the same. -/
import Derived.Test.YtpbjdbdlfobpmaaGreatEngZb
namespace Go.Eng
open Go Go.RowKit
section
variable {Q : Tab} {cf : CallF} {fr : Fr} {o : Oper} {h h1 h2 : Hp} {x : AV}
theorem okv_at {y : Option AV} (e : okv h y = some (x, h1)) : okv h2 y = some (x, h2) := by
  unfold okv at e ⊢
  cases y with
  | none => cases e
  | some v => cases e; rfl
theorem free_at (hf : freeO fr o = true) (e : opA Q cf fr o h = some (x, h1)) : opA Q cf fr o h2 = some (x, h2) := by
  unfold freeO at hf
  unfold opA at e ⊢
  cases ho : o.op <;> rw [ho] at hf <;> simp only [Bool.false_eq_true] at hf <;> rw [ho] at e <;> simp only [opSel] at e ⊢
  case move y => exact okv_at e
  case assign y => exact okv_at e
  case pick c y z =>
    revert e; unfold oPick; split <;> intro e <;> first | exact okv_at e | cases e
  case build t p => exact okv_at e
  case nilCheck y =>
    revert e; unfold oNil; split <;> intro e <;> first | exact okv_at e | (cases e; rfl)
  case binOp op t y z t' =>
    revert e
    unfold oBin
    split
    · split
      · have hx : ∀ u v, oBinX Q fr o h op t u v = some (x, h1) → oBinX Q fr o h2 op t u v = some (x, h2) := fun u v => by
          unfold oBinX
          split
          · unfold oBinP
            split
            · unfold oEqV
              split
              · split
                · split <;> intro e <;> first | exact okv_at e | (cases e; rfl)
                · exact okv_at
              · exact okv_at
            · unfold oEqV
              split
              · split
                · split <;> intro e <;> first | exact okv_at e | (cases e; rfl)
                · exact okv_at
              · exact okv_at
            · split
              · split <;> intro e <;> first | (cases e; done) | (cases e; rfl)
              · exact okv_at
            · exact okv_at
          · unfold oEq
            split
            · split <;> intro e <;> first | (cases e; done) | (cases e; rfl)
            · split <;> intro e <;> first | (cases e; done) | (cases e; rfl)
            · intro e; cases e
        unfold oBin2
        split
        · split
          · unfold oNum
            split <;> intro e <;> first | exact okv_at e | (cases e; rfl)
          · exact hx _ _
        · exact hx _ _
      · intro e; cases e
    · intro e; cases e
  case unOp op t y => exact okv_at e
  case convert s d y =>
    revert e
    unfold oConv
    split
    · rename_i v hv
      rw [hv] at hf
      unfold oConv1
      split
      · unfold oNum
        split <;> intro e <;> first | exact okv_at e | (cases e; rfl)
      · rename_i w
        unfold convV
        split
        · simp [isStrV] at hf
        · exact okv_at
      · simp [isStrV, isSlV] at hf
      · intro e; cases e
    · intro e; cases e
  case sliceToArrayPointer t y =>
    revert e; unfold oArr; split
    · split
      · split <;> intro e <;> first | (cases e; done) | (cases e; rfl)
      · intro e; cases e
    · intro e; cases e
  case makeFunc f y z =>
    revert e; unfold oMakeFunc; split
    · split <;> intro e <;> cases e <;> rfl
    · intro e; cases e
  case fieldAddr t y f =>
    revert e; unfold oFieldAddr; split
    · split
      · split <;> intro e <;> first | (cases e; done) | (cases e; rfl)
      · intro e; cases e
    · intro e; cases e
  case field t y f =>
    revert e; unfold oField; split
    · unfold oField1; split
      · exact okv_at
      · unfold fieldOf; split
        · split
          · split <;> intro e <;> first | (cases e; done) | (cases e; rfl)
          · exact okv_at
          · intro e; cases e
        · intro e; cases e
      · intro e; cases e
    · intro e; cases e
  case indexAddr t y z =>
    revert e; unfold oIndexAddr; split
    · split
      · unfold idxA; split <;> intro e <;> first | (cases e; done) | (cases e; rfl)
      · intro e; cases e
    · split
      · unfold idxA; split <;> intro e <;> first | (cases e; done) | (cases e; rfl)
      · intro e; cases e
    · intro e; cases e
  case extract y i =>
    revert e; unfold oExtract; split
    · exact okv_at
    · unfold extV; split
      · split <;> intro e <;> first | (cases e; done) | (cases e; rfl)
      · intro e; cases e
    · intro e; cases e
  case index t y z =>
    revert e; unfold oIndex; split
    · split <;> intro e <;> first | (cases e; done) | (cases e; rfl)
    · exact okv_at
end

/-! ### names below a number -/
def Env.upto (ρ : Env) (n : Nat) : Env := fun r => if r < n then ρ r else none
theorem Env.upto_le (ρ : Env) (n : Nat) : (ρ.upto n).le ρ := fun r x e => by
  unfold Env.upto at e
  split at e
  · exact e
  · cases e
theorem Env.upto_mono (ρ : Env) {n m : Nat} (h : n ≤ m) : (ρ.upto n).le (ρ.upto m) := fun r x e => by
  unfold Env.upto at e ⊢
  split at e
  · rw [if_pos (by omega)]; exact e
  · cases e
section
variable {ρ : Env} {n : Nat}
theorem upto_at {r : Nat} (h : r < n) : (ρ.upto n) r = ρ r := by unfold Env.upto; rw [if_pos h]
theorem nb0_cv {v : AV} (h : nb0 n v = true) : cv (ρ.upto n) v = cv ρ v := by
  cases v with
  | i k m => rfl
  | b b => rfl
  | v x => rfl
  | ptr r o => have h : r < n := by simpa [nb0] using h
               simp only [cv, upto_at h]
  | sl r o m c d => have h : r < n := by simpa [nb0] using h
                    simp only [cv, upto_at h]
  | mp r => have h : r < n := by simpa [nb0] using h
            simp only [cv, upto_at h]
  | agg l => cases h
  | tup l => cases h
  | fn f a b => cases h
theorem all0_cv : ∀ {l : List AV}, all0 n l = true → cvs (ρ.upto n) l = cvs ρ l
  | [], _ => rfl
  | x :: r, h => by
    simp only [all0] at h
    split at h
    · rename_i hx
      simp only [cvs, nb0_cv hx, all0_cv h]
    · cases h
theorem nb1_cv {v : AV} (h : nb1 n v = true) : cv (ρ.upto n) v = cv ρ v := by
  unfold nb1 at h
  split at h
  · simp only [cv, all0_cv h]
  · exact nb0_cv h
theorem all1_cv : ∀ {l : List AV}, all1 n l = true → cvs (ρ.upto n) l = cvs ρ l
  | [], _ => rfl
  | x :: r, h => by
    simp only [all1] at h
    split at h
    · rename_i hx
      simp only [cvs, nb1_cv hx, all1_cv h]
    · cases h
theorem nbA_cv {v : AV} (h : nbA n v = true) : cv (ρ.upto n) v = cv ρ v := by
  unfold nbA at h
  split at h
  · simp only [cv, all1_cv h]
  · rename_i f a b
    simp only [Bool.and_eq_true] at h
    simp only [cv, all1_cv h.1, all1_cv h.2]
  · exact nb1_cv h
end

/-! ### values that are the same -/
theorem eqV0_eq {x y : Value} (h : eqV0 x y = true) : x = y := by
  unfold eqV0 at h
  split at h
  · split at h
    · simp only [Bool.and_eq_true] at h
      rw [eqI_eq] at h
      rw [kIx_eq h.1, beq_iff_eq.1 h.2]
    · cases h
  · split at h
    · rw [beq_iff_eq.1 h]
    · cases h
  · split at h
    · rename_i a b
      have := beq_iff_eq.1 h
      congr 1
      exact ByteArray.ext (Array.ext' this)
    · cases h
  · first | split at h | (dsimp only at h; split at h)
    · rfl
    · cases h
  · first | split at h | (dsimp only at h; split at h)
    · rfl
    · cases h
  · first | split at h | (dsimp only at h; split at h)
    · rfl
    · cases h
  · first | split at h | (dsimp only at h; split at h)
    · rfl
    · cases h
  · cases h
theorem eqVs_eq : ∀ {l m : List Value}, eqVs l m = true → l = m
  | [], [], _ => rfl
  | x :: r, y :: s, h => by
    simp only [eqVs] at h
    split at h
    · rename_i hx; rw [eqV0_eq hx, eqVs_eq h]
    · cases h
  | [], _ :: _, h => by cases h
  | _ :: _, [], h => by cases h
theorem eqV_eq {x y : Value} (h : eqV x y = true) : x = y := by
  unfold eqV at h
  split at h
  · split at h
    · congr 1; exact Array.ext' (eqVs_eq h)
    · cases h
  · exact eqV0_eq h
theorem eqO_eq {x y : Option Nat} (h : eqO x y = true) : x = y := by
  unfold eqO at h
  split at h
  · rw [Nat.eq_of_beq_eq_true h]
  · rfl
  · cases h
theorem eqAV0_eq {x y : AV} (h : eqAV0 x y = true) : x = y := by
  unfold eqAV0 at h
  split at h
  · split at h
    · simp only [Bool.and_eq_true] at h
      rw [eqI_eq] at h
      rw [kIx_eq h.1, beq_iff_eq.1 h.2]
    · cases h
  · split at h
    · rw [beq_iff_eq.1 h]
    · cases h
  · split at h
    · rw [eqV_eq h]
    · cases h
  · split at h
    · simp only [Bool.and_eq_true, Nat.beq_eq] at h
      rw [h.1, h.2]
    · cases h
  · split at h
    · simp only [Bool.and_eq_true, Nat.beq_eq] at h
      obtain ⟨⟨⟨⟨h1, h2⟩, h3⟩, h4⟩, h5⟩ := h
      rw [h1, h2, h3, eqO_eq h4, h5]
    · cases h
  · split at h
    · rw [Nat.eq_of_beq_eq_true h]
    · cases h
  · cases h
theorem eqAVs_eq : ∀ {l m : List AV}, eqAVs l m = true → l = m
  | [], [], _ => rfl
  | x :: r, y :: s, h => by
    simp only [eqAVs] at h
    split at h
    · rename_i hx; rw [eqAV0_eq hx, eqAVs_eq h]
    · cases h
  | [], _ :: _, h => by cases h
  | _ :: _, [], h => by cases h
theorem eqAV_eq {x y : AV} (h : eqAV x y = true) : x = y := by
  unfold eqAV at h
  split at h
  · split at h
    · rw [eqAVs_eq h]
    · cases h
  · split at h
    · rw [eqAVs_eq h]
    · cases h
  · exact eqAV0_eq h
end Go.Eng
