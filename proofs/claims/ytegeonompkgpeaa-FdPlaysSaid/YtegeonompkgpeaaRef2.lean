/- Contracts of the reference's functions on lists of descriptors, continued: May, lay, Put, Close, Move, Dup, Seek. -/
import Derived.Test.YtegeonompkgpeaaRef
namespace Go.Proofs.Ytegeonompkgpeaa
open Go.RowKit

def mayB (a : Int) : Bool :=
  if a < 1 ∨ 63 < a then false else if a % 4 = 0 then false else
  if a / 8 % 2 = 1 ∧ a / 4 % 2 = 0 then false else (a / 2 % 2 == 1) || (a / 16 == 0)
set_option maxHeartbeats 1000000 in
theorem may_any (a : Int) (w : World) :
    Calls Try.prog 7 #[.int .i64 a] w fun e w' => e = .returned (.bool (mayB a)) ∧ w = w' := by
  by_cases h1 : a < 1
  · have hm : mayB a = false := by simp [mayB, h1]
    have HM := Lib.hid hm
    clear hm
    go_enter Try.func7, Try.ntmps7
    go_wp2
    go_ret
    exact ⟨by rw [HM.out]; rfl, rfl⟩
  by_cases h2 : 63 < a
  · have hm : mayB a = false := by simp [mayB, h2]
    have HM := Lib.hid hm
    clear hm
    go_enter Try.func7, Try.ntmps7
    go_wp2
    go_ret
    exact ⟨by rw [HM.out]; rfl, rfl⟩
  have e0 : mayB a = if a % 4 = 0 then false else if a / 8 % 2 = 1 ∧ a / 4 % 2 = 0 then false else (a / 2 % 2 == 1) || (a / 16 == 0) := by
    unfold mayB; rw [if_neg (by omega)]
  cases c1 : (a % 4 == 0)
  · cases c2 : (a / 2 % 2 == 1) <;> cases c3 : (a / 8 % 2 == 1) <;> cases c4 : (a / 4 % 2 == 0) <;> cases c5 : (a / 16 == 0)
    all_goals
      have E0 := Lib.hid e0
      clear e0
      go_enter Try.func7, Try.ntmps7
      go_wp2
      go_ret
      refine ⟨ret_bool ?_, rfl⟩
      rw [E0.out]
      simp at c1 c2 c3 c4 c5
      simp [*]
  · have E0 := Lib.hid e0
    clear e0
    go_enter Try.func7, Try.ntmps7
    go_wp2
    go_ret
    refine ⟨ret_bool ?_, rfl⟩
    rw [E0.out]
    simp at c1
    simp [*]
theorem check_may (a : Int) : checkF a = if mayB a then 0 else 232 := by
  by_cases h : a < 1 ∨ 63 < a
  · simp [checkF, mayB, h]
  · obtain ⟨k, rfl⟩ := Int.eq_ofNat_of_zero_le (by omega : 0 ≤ a)
    have hk : k < 64 := by omega
    have key : ∀ k : Fin 64, checkF (k.val : Int) = if mayB (k.val : Int) then 0 else 232 := by decide +kernel
    exact key ⟨k, hk⟩
end Go.Proofs.Ytegeonompkgpeaa
