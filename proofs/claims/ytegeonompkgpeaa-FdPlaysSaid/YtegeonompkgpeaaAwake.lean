/- awake and the law on flags. -/
import Derived.Test.YtegeonompkgpeaaFd5
import Derived.Test.YtegeonompkgpeaaRef2
namespace Go.Proofs.Ytegeonompkgpeaa
open Go.RowKit

def stA : Nat → Fd := upd zeroSt 0 ⟨5, 1, 0⟩
theorem open_awake (b : Nat) (w : World) (hf : FdsAt w b zeroSt) :
    Calls Try.prog 13 #[.pointer (some ⟨b, 0, none⟩), .int .i64 5, .int .i64 1] w fun e w' => e = .returned (.tuple #[.int .i64 0, .int .i64 0]) ∧ FdsAt w' b stA ∧ w.grownBy w' (some b) := by
  refine (open_any b zeroSt 5 1 w hf).mono ?_
  have he : openE 5 1 = 0 := by decide +kernel
  rintro e w' (⟨h, _⟩ | ⟨_, ⟨k, hl, rfl, h1, h2⟩ | ⟨hl, _⟩⟩)
  · exact absurd he h
  · have : k = 0 := by
      apply Classical.byContradiction
      intro hk
      exact hl.2.2 0 (by omega) rfl
    subst this
    exact ⟨rfl, h1, h2⟩
  · exact absurd rfl (hl 0 (by omega))
theorem get_awake (b : Nat) (w : World) (hf : FdsAt w b stA) :
    Calls Try.prog 20 #[.pointer (some ⟨b, 0, none⟩), .int .i64 0] w fun e w' => e = .returned (.tuple #[.agg #[.int .i64 5, .int .i64 1, .int .i64 0], .int .i64 0]) ∧ Below w.heap.size w w' := by
  exact get_x b stA 0 w hf
theorem len_awake (b : Nat) (w : World) (hf : FdsAt w b stA) :
    Calls Try.prog 15 #[.pointer (some ⟨b, 0, none⟩)] w fun e w' => e = .returned (.int .i64 1) ∧ Below w.heap.size w w' := by
  refine (len_any b stA w hf).mono ?_
  rintro e w' ⟨rfl, hb⟩
  have : (openL stA 64).length = 1 := by decide +kernel
  exact ⟨by rw [this]; rfl, hb⟩
theorem check3 (w : World) : Calls Try.prog 9 #[.int .i64 3] w fun e w' => e = .returned (.int .i64 0) ∧ w = w' := by
  have := check_any 3 w
  rwa [show checkF 3 = 0 by decide +kernel] at this
theorem check0 (w : World) : Calls Try.prog 9 #[.int .i64 0] w fun e w' => e = .returned (.int .i64 232) ∧ w = w' := by
  have := check_any 0 w
  rwa [show checkF 0 = 232 by decide +kernel] at this
set_option maxHeartbeats 400000 in
theorem awake_any (w : World) : Calls Try.prog 8 #[] w fun e w' => e = .returned (.bool true) ∧ Below w.heap.size w w' := by
  go_enter Try.func8, Try.ntmps8
  go_wp2_with fail
  refine (new_any _).mono ?_
  rintro e w1 ⟨b, rfl, hb, hf1, hB1⟩
  have HB1 := Lib.hid hB1
  clear hB1
  go_wp2_with fail
  refine (open_awake b _ hf1).mono ?_
  rintro e w2 ⟨rfl, hf2, hg2⟩
  have HB2 := Lib.hid (HB1.out.grown hg2 HB1.out.size (fun k hk => by cases hk; exact hb))
  clear hg2 hf1
  go_wp2_with fail
  refine (get_awake b _ hf2).mono ?_
  rintro e w3 ⟨rfl, hB3⟩
  have hf3 := hf2.below hB3
  have HB3 := Lib.hid (below_trans' HB2.out hB3)
  clear hB3 hf2
  go_wp2_with (first | (go_at_call 15; refine (len_awake b _ (hf3.alloc _)).mono ?_; rintro e w4 ⟨rfl, hB4⟩; have HB4 := Lib.hid hB4; clear hB4) | fail)
  refine (check3 _).mono ?_
  rintro e w4 ⟨rfl, rfl⟩
  go_wp2_with (first | (go_at_call 15; refine (len_awake b _ (hf3.alloc _)).mono ?_; rintro e w4 ⟨rfl, hB4⟩; have HB4 := Lib.hid hB4; clear hB4) | fail)
  refine (check0 _).mono ?_
  rintro e w4 ⟨rfl, rfl⟩
  go_wp2_with (first | (go_at_call 15; refine (len_awake b _ (hf3.alloc _)).mono ?_; rintro e w4 ⟨rfl, hB4⟩; have HB4 := Lib.hid hB4; clear hB4) | fail)
  go_ret
  exact ⟨rfl, below_trans' (HB3.out.alloc HB3.out.size _) HB4.out⟩

theorem may_has (a : Int) (h : mayB a = true) : 1 ≤ a ∧ a ≤ 63 ∧ hasB a 1 = (a % 2 == 1) ∧ hasB a 2 = (a / 2 % 2 == 1) := by
  have hb : ¬ (a < 1 ∨ 63 < a) := by intro hc; simp [mayB, hc] at h
  obtain ⟨k, rfl⟩ := Int.eq_ofNat_of_zero_le (by omega : 0 ≤ a)
  have key : ∀ k : Fin 64, hasB (k.val : Int) 1 = ((k.val : Int) % 2 == 1) ∧ hasB (k.val : Int) 2 = ((k.val : Int) / 2 % 2 == 1) := by decide +kernel
  exact ⟨by omega, by omega, key ⟨k, by omega⟩⟩
theorem flags_yes (a : Int) (w : World) (r1 r2 : Bool) (h1 : 1 ≤ a) (h2 : a ≤ 63) (e1 : (a % 2 == 1) = r1) (e2 : (a / 2 % 2 == 1) = r2)
    (cm : ∀ w, Calls Try.prog 7 #[.int .i64 a] w fun e w' => e = .returned (.bool true) ∧ w = w')
    (cc : ∀ w, Calls Try.prog 9 #[.int .i64 a] w fun e w' => e = .returned (.int .i64 0) ∧ w = w')
    (cr : ∀ w, Calls Try.prog 10 #[.int .i64 a] w fun e w' => e = .returned (.bool r1) ∧ w = w')
    (cw : ∀ w, Calls Try.prog 11 #[.int .i64 a] w fun e w' => e = .returned (.bool r2) ∧ w = w') :
    Calls Try.prog 3 #[.int .i64 a] w fun e w' => e = .returned (.bool true) ∧ Below w.heap.size w w' := by
  have CM := Lib.hid cm
  have CC := Lib.hid cc
  have CR := Lib.hid cr
  have CW := Lib.hid cw
  clear cm cc cr cw
  cases r1 <;> cases r2
  all_goals
    go_enter Try.func3, Try.ntmps3
    go_wp2_with (first | (go_at_call 7; refine (CM.out _).mono ?_; rintro e w1 ⟨rfl, rfl⟩) | (go_at_call 9; refine (CC.out _).mono ?_; rintro e w1 ⟨rfl, rfl⟩) | (go_at_call 10; refine (CR.out _).mono ?_; rintro e w1 ⟨rfl, rfl⟩) | (go_at_call 11; refine (CW.out _).mono ?_; rintro e w1 ⟨rfl, rfl⟩) | (go_at_call 8; refine (awake_any _).mono ?_; rintro e w1 ⟨rfl, hB⟩; have HB := Lib.hid hB; clear hB))
    go_ret
    exact ⟨rfl, HB.out⟩
theorem flags_no (a : Int) (w : World)
    (cm : ∀ w, Calls Try.prog 7 #[.int .i64 a] w fun e w' => e = .returned (.bool false) ∧ w = w')
    (cc : ∀ w, Calls Try.prog 9 #[.int .i64 a] w fun e w' => e = .returned (.int .i64 232) ∧ w = w')
    (cr : ∀ w, Calls Try.prog 10 #[.int .i64 a] w fun e w' => e = .returned (.bool false) ∧ w = w')
    (cw : ∀ w, Calls Try.prog 11 #[.int .i64 a] w fun e w' => e = .returned (.bool false) ∧ w = w') :
    Calls Try.prog 3 #[.int .i64 a] w fun e w' => e = .returned (.bool true) ∧ Below w.heap.size w w' := by
  have CM := Lib.hid cm
  have CC := Lib.hid cc
  have CR := Lib.hid cr
  have CW := Lib.hid cw
  clear cm cc cr cw
  go_enter Try.func3, Try.ntmps3
  go_wp2_with (first | (go_at_call 7; refine (CM.out _).mono ?_; rintro e w1 ⟨rfl, rfl⟩) | (go_at_call 9; refine (CC.out _).mono ?_; rintro e w1 ⟨rfl, rfl⟩) | (go_at_call 10; refine (CR.out _).mono ?_; rintro e w1 ⟨rfl, rfl⟩) | (go_at_call 11; refine (CW.out _).mono ?_; rintro e w1 ⟨rfl, rfl⟩) | (go_at_call 8; refine (awake_any _).mono ?_; rintro e w1 ⟨rfl, hB⟩; have HB := Lib.hid hB; clear hB))
  go_ret
  exact ⟨rfl, HB.out⟩
theorem flags_any (a : Int) (w : World) : Calls Try.prog 3 #[.int .i64 a] w fun e w' => e = .returned (.bool true) ∧ Below w.heap.size w w' := by
  cases hm : mayB a
  · have hc : checkF a = 232 := by rw [check_may, hm]; rfl
    refine flags_no a w (fun w => ?_) (fun w => ?_) (fun w => ?_) (fun w => ?_)
    · have := may_any a w; rwa [hm] at this
    · have := check_any a w; rwa [hc] at this
    · have := reads_any a w; rwa [hc] at this
    · have := writes_any a w; rwa [hc] at this
  · obtain ⟨h1, h2, h3, h4⟩ := may_has a hm
    have hc : checkF a = 0 := by rw [check_may, hm]; rfl
    refine flags_yes a w _ _ h1 h2 rfl rfl (fun w => ?_) (fun w => ?_) (fun w => ?_) (fun w => ?_)
    · have := may_any a w; rwa [hm] at this
    · have := check_any a w; rwa [hc] at this
    · have := reads_any a w; rw [hc, h3] at this; simpa using this
    · have := writes_any a w; rw [hc, h4] at this; simpa using this
end Go.Proofs.Ytegeonompkgpeaa
