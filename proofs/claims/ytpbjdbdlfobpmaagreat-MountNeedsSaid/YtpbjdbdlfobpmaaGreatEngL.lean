/- What the abstract run says of the model: slicing. -/
import Derived.Test.YtpbjdbdlfobpmaaGreatEngK
namespace Go.Eng
open Go Go.RowKit
section
variable {P : Program} {ρ : Env} {w : World}
def optR (ρ : Env) : Option AV → Option Value → Prop
  | none, none => True
  | some v, some c => cv ρ v = some c
  | _, _ => False
theorem bound_ok {v : AV} {c : Value} {d top n : Nat} {code : BoundsCode} (hc : cv ρ v = some c) (e : boundA (some v) d top = some n) : n ≤ top ∧ (Instr.sliceBound c top code).run P w = .ok n w := by
  simp only [boundA] at e
  split at e
  · rename_i m hm
    split at e
    · rename_i hle
      cases e
      have hle : n ≤ top := by simpa using hle
      obtain ⟨k, rfl⟩ := numOf_cv hm hc
      refine ⟨hle, ?_⟩
      have hb : 0 ≤ (n : Int) ∧ (n : Int) ≤ (top : Int) := by omega
      simp only [Instr.sliceBound, asIntOf, Sem.run_bind, Sem.run_pure, Result.andThen_ok]
      rw [if_pos hb]; rfl
    · cases e
  · cases e
theorem bounds2_ok {lo hi : Option AV} {lo' hi' : Option Value} {len m l h : Nat} {k : Nat} (hl : optR ρ lo lo') (hh : optR ρ hi hi') (e : bounds2 lo hi len m = some (l, h, k)) (b : Bool) (cap : Nat) (hcap : m ≤ cap) :
    k = m ∧ l ≤ h ∧ (h ≤ m ∨ h = len) ∧ (Instr.sliceBounds b len cap lo' hi' none).run P w = .ok (l, h, cap) w := by
  unfold bounds2 at e
  split at e
  · cases e
  · rename_i h1 hh1
    split at e
    · cases e
    · rename_i l1 hl1
      cases e
      have hlow : l ≤ h ∧ ((lo' = none ∧ l = 0) ∨ ∃ c, lo' = some c ∧ ∀ code, (Instr.sliceBound c h code).run P w = .ok l w) := by
        cases lo with
        | none =>
          cases lo' with
          | none => simp only [boundA] at hl1; cases hl1; exact ⟨Nat.zero_le _, .inl ⟨rfl, rfl⟩⟩
          | some c => cases hl
        | some v =>
          cases lo' with
          | none => cases hl
          | some c => exact ⟨(bound_ok (P := P) (w := w) (code := .sliceB) hl hl1).1, .inr ⟨c, rfl, fun code => (bound_ok hl hl1).2⟩⟩
      cases hi with
      | none =>
        cases hi' with
        | some c => cases hh
        | none =>
          simp only [boundA] at hh1
          cases hh1
          refine ⟨rfl, hlow.1, .inr rfl, ?_⟩
          rcases hlow.2 with ⟨rfl, rfl⟩ | ⟨c, rfl, h4⟩
          · simp only [Instr.sliceBounds, Sem.run_bind, Sem.run_pure, Result.andThen_ok]
          · simp only [Instr.sliceBounds, Sem.run_bind, Sem.run_pure, Result.andThen_ok, h4]
      | some u =>
        cases hi' with
        | none => cases hh
        | some c =>
          have hb := bound_ok (P := P) (w := w) (code := .sliceAcap) hh hh1
          obtain ⟨kk, rfl⟩ : ∃ kk, c = .int kk (h : Int) := by
            simp only [boundA] at hh1
            split at hh1
            · rename_i n hn
              split at hh1
              · cases hh1; exact numOf_cv hn hh
              · cases hh1
            · cases hh1
          refine ⟨rfl, hlow.1, .inl hb.1, ?_⟩
          have hbb : 0 ≤ (h : Int) ∧ (h : Int) ≤ (cap : Int) := by have := hb.1; omega
          have h3 : ∀ code, (Instr.sliceBound (.int kk (h : Int)) cap code).run P w = .ok h w := fun code => by
            simp only [Instr.sliceBound, asIntOf, Sem.run_bind, Sem.run_pure, Result.andThen_ok]
            rw [if_pos hbb]; rfl
          rcases hlow.2 with ⟨rfl, rfl⟩ | ⟨c, rfl, h4⟩
          · simp only [Instr.sliceBounds, Sem.run_bind, Sem.run_pure, Result.andThen_ok, h3]
          · simp only [Instr.sliceBounds, Sem.run_bind, Sem.run_pure, Result.andThen_ok, h3, h4]
theorem bounds3_ok {lo hi mx : Option AV} {lo' hi' mx' : Option Value} {len cap l h m : Nat} (hl : optR ρ lo lo') (hh : optR ρ hi hi') (hm : optR ρ mx mx') (e : bounds3 lo hi mx len cap = some (l, h, m)) (b : Bool) (cap' : Nat) (hcap : cap ≤ cap') (hsame : mx = none → cap' = cap) :
    (Instr.sliceBounds b len cap' lo' hi' mx').run P w = .ok (l, h, m) w := by
  cases mx with
  | none =>
    cases mx' with
    | some c => cases hm
    | none =>
      simp only [bounds3] at e
      obtain ⟨rfl, _, _, k⟩ := bounds2_ok (P := P) (w := w) hl hh e b cap' hcap
      rw [hsame rfl] at k
      exact hsame rfl ▸ k
  | some v =>
    cases mx' with
    | none => cases hm
    | some c =>
      cases hi with
      | none => simp only [bounds3] at e; cases e
      | some u =>
        cases hi' with
        | none => cases hh
        | some d =>
          simp only [bounds3] at e
          split at e
          · cases e
          · rename_i m1 hm1
            have hb := bound_ok (P := P) (w := w) (code := .sliceB) hm hm1
            obtain ⟨kk, rfl⟩ : ∃ kk, c = .int kk (m1 : Int) := by
              simp only [boundA] at hm1
              split at hm1
              · rename_i n hn
                split at hm1
                · cases hm1; exact numOf_cv hn hm
                · cases hm1
              · cases hm1
            have hbb : 0 ≤ (m1 : Int) ∧ (m1 : Int) ≤ (cap' : Int) := by have := hb.1; omega
            have h3 : ∀ code, (Instr.sliceBound (.int kk (m1 : Int)) cap' code).run P w = .ok m1 w := fun code => by
              simp only [Instr.sliceBound, asIntOf, Sem.run_bind, Sem.run_pure, Result.andThen_ok]
              rw [if_pos hbb]; rfl
            unfold bounds2 at e
            split at e
            · cases e
            · rename_i h1 hh1
              split at e
              · cases e
              · rename_i l1 hl1
                cases e
                have h5 : ∀ code, (Instr.sliceBound d m code).run P w = .ok h w := fun code => (bound_ok hh hh1).2
                cases lo with
                | none =>
                  cases lo' with
                  | some c => cases hl
                  | none =>
                    simp only [boundA] at hl1; cases hl1
                    simp only [Instr.sliceBounds, Sem.run_bind, Sem.run_pure, Result.andThen_ok, h3, h5]
                | some x =>
                  cases lo' with
                  | none => cases hl
                  | some c =>
                    have h6 : ∀ code, (Instr.sliceBound c h code).run P w = .ok l w := fun code => (bound_ok hl hl1).2
                    simp only [Instr.sliceBounds, Sem.run_bind, Sem.run_pure, Result.andThen_ok, h3, h5, h6]
end
end Go.Eng
