/- What the abstract run says of the model: cells that are read for append and copy; len. -/
import Derived.Test.YtpbjdbdlfobpmaaGreatEngO
namespace Go.Eng
open Go Go.RowKit
theorem takeF_eq {α : Type} : ∀ (n : Nat) (l : List α), takeF n l = l.take n
  | 0, l => by simp [takeF]
  | n + 1, [] => by simp [takeF]
  | n + 1, x :: r => by simp only [takeF, List.take_succ_cons]; rw [takeF_eq n r]
theorem dropF_eq {α : Type} : ∀ (n : Nat) (l : List α), dropF n l = l.drop n
  | 0, l => by simp [dropF]
  | n + 1, [] => by simp [dropF]
  | n + 1, x :: r => by simp only [dropF, List.drop_succ_cons]; exact dropF_eq n r
theorem bytesA_eq : ∀ l : List UInt8, bytesA l = (l.map fun b => Value.int .u8 b.toNat).map ofV
  | [] => rfl
  | u :: r => by simp only [bytesA, List.map_cons]; rw [bytesA_eq r]; rfl
section
variable {P : Program} {B : Nat → Prop} {ρ : Env} {w : World} {h : Hp}
theorem lenA_ok {y : AV} {c : Value} {n : Nat} (hc : cv ρ y = some c) (e : lenA y = some n) : (Builtin.lenOf c).run P w = .ok n w := by
  unfold lenA at e
  split at e
  · rename_i r o m c' d
    cases e
    obtain ⟨x, _, rfl⟩ := cv_sl hc
    rfl
  · rename_i x
    simp only [cv] at hc; cases hc
    unfold lenV at e
    split at e
    · cases e; rfl
    · rename_i s
      cases e
      simp [Builtin.lenOf]
    · cases e
  · cases e
end
end Go.Eng
