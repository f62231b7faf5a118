/- A nil map: what each method answers of a nil pointer; the law BitsNil, walked. -/
import Derived.Test.YtffdklcpkkcohaaBlaw
namespace Go.Proofs.Ytffdklcpkkcohaa
open Go.RowKit
section
variable (w : World)
theorem size_nil : Calls Try.prog 50 #[.pointer none] w fun e w' => e = .returned (.int .i64 0) ∧ w = w' := by
  go_enter Try.func50, Try.ntmps50
  go_wp2
  go_ret
  exact ⟨rfl, rfl⟩
theorem count_nil : Calls Try.prog 51 #[.pointer none] w fun e w' => e = .returned (.int .i64 0) ∧ w = w' := by
  go_enter Try.func51, Try.ntmps51
  go_wp2
  go_ret
  exact ⟨rfl, rfl⟩
theorem in_nil (a : Int) : Calls Try.prog 68 #[.pointer none, .int .i64 a] w fun e w' => e = .returned (.bool false) ∧ w = w' := by
  by_cases h : 0 ≤ a
  all_goals
    go_enter Try.func68, Try.ntmps68
    go_wp2_with (go_at_call 50; refine (size_nil _).mono ?_; rintro e w' ⟨rfl, rfl⟩)
    go_ret
    exact ⟨ret_bool (by simp <;> omega), rfl⟩
theorem has_nil (a : Int) : Calls Try.prog 52 #[.pointer none, .int .i64 a] w fun e w' => e = .returned (.bool false) ∧ w = w' := by
  go_enter Try.func52, Try.ntmps52
  go_wp2_with (go_at_call 68; refine (in_nil _ _).mono ?_; rintro e w' ⟨rfl, rfl⟩)
  go_ret
  exact ⟨rfl, rfl⟩
theorem set_nil (a : Int) : Calls Try.prog 43 #[.pointer none, .int .i64 a] w fun e w' => e = .returned (.bool false) ∧ w = w' := by
  go_enter Try.func43, Try.ntmps43
  go_wp2_with (go_at_call 68; refine (in_nil _ _).mono ?_; rintro e w' ⟨rfl, rfl⟩)
  go_ret
  exact ⟨rfl, rfl⟩
theorem clear_nil (a : Int) : Calls Try.prog 44 #[.pointer none, .int .i64 a] w fun e w' => e = .returned (.bool false) ∧ w = w' := by
  go_enter Try.func44, Try.ntmps44
  go_wp2_with (go_at_call 52; refine (has_nil _ _).mono ?_; rintro e w' ⟨rfl, rfl⟩)
  go_ret
  exact ⟨rfl, rfl⟩
theorem fill_nil (a b : Int) : Calls Try.prog 53 #[.pointer none, .int .i64 a, .int .i64 b] w fun e w' => e = .returned (.int .i64 90) ∧ w = w' := by
  go_enter Try.func53, Try.ntmps53
  go_wp2
  go_ret
  exact ⟨rfl, rfl⟩
theorem find_nil (a : Int) (one : Bool) : Calls Try.prog 86 #[.pointer none, .int .i64 a, .bool one] w fun e w' => e = .returned (.int .i64 (-1)) ∧ w = w' := by
  obtain ⟨f0, hf0⟩ : ∃ f0 : Nat, f0 = (max a 0).toNat := ⟨_, rfl⟩
  have hmax : max a 0 = (f0 : Int) := by omega
  clear hf0
  go_enter Try.func86, Try.ntmps86
  go_wp2_with (go_at_call 50; refine (size_nil _).mono ?_; rintro e w' ⟨rfl, rfl⟩)
  refine wp_loop_rounds 1 ?_
  rw [rounds_succ]
  go_wp2_with (go_at_call 50; refine (size_nil _).mono ?_; rintro e w' ⟨rfl, rfl⟩)
  go_ret
  exact ⟨rfl, rfl⟩
theorem free_nil (a : Int) : Calls Try.prog 54 #[.pointer none, .int .i64 a] w fun e w' => e = .returned (.int .i64 (-1)) ∧ w = w' := by
  go_enter Try.func54, Try.ntmps54
  go_wp2_with (go_at_call 86; refine (find_nil _ _ _).mono ?_; rintro e w' ⟨rfl, rfl⟩)
  go_ret
  exact ⟨rfl, rfl⟩
theorem next_nil (a : Int) : Calls Try.prog 55 #[.pointer none, .int .i64 a] w fun e w' => e = .returned (.int .i64 (-1)) ∧ w = w' := by
  go_enter Try.func55, Try.ntmps55
  go_wp2_with (go_at_call 86; refine (find_nil _ _ _).mono ?_; rintro e w' ⟨rfl, rfl⟩)
  go_ret
  exact ⟨rfl, rfl⟩
theorem runs_nil : Calls Try.prog 56 #[.pointer none] w fun e w' => e = .returned (.slice none 0 0) ∧ w = w' := by
  go_enter Try.func56, Try.ntmps56
  go_wp2_with (go_at_call 55; refine (next_nil _ _).mono ?_; rintro e w' ⟨rfl, rfl⟩)
  refine wp_loop_rounds 1 ?_
  rw [rounds_succ]
  go_wp2
  go_ret
  exact ⟨rfl, rfl⟩
theorem leaves_nil : Calls Try.prog 45 #[.pointer none] w fun e w' => e = .returned (.slice none 0 0) ∧ w = w' := by
  go_enter Try.func45, Try.ntmps45
  go_wp2
  go_ret
  exact ⟨rfl, rfl⟩
theorem mclone_nil : Calls Try.prog 42 #[.pointer none] w fun e w' => e = .returned (.pointer none) ∧ w = w' := by
  go_enter Try.func42, Try.ntmps42
  go_wp2
  go_ret
  exact ⟨rfl, rfl⟩
theorem both_nil (F b bb n : Nat) (k : Nat → Bool) (hm : MapAt w b bb n k) : Calls Try.prog 75 #[.pointer none, .pointer (some ⟨b, 0, none⟩), .func (.func F) #[] #[]] w fun e w' => e = .returned (.tuple #[.pointer none, .int .i64 110]) ∧ w = w' := by
  have hn : ((0 : Int) != (n : Int)) = true := by have := hm.2.2.1; simp; omega
  have hn' : 0 < n := hm.2.2.1
  go_enter Try.func75, Try.ntmps75
  go_wp2_with fail
  refine (size_nil _).mono ?_
  rintro e w' ⟨rfl, rfl⟩
  go_wp2_with fail
  refine (size_any b bb n k _ hm).mono ?_
  rintro e w' ⟨rfl, rfl⟩
  go_wp2_with fail
  go_ret2
  exact ⟨rfl, rfl⟩
theorem both_nilnil (F : Nat) : Calls Try.prog 75 #[.pointer none, .pointer none, .func (.func F) #[] #[]] w fun e w' => e = .returned (.tuple #[.pointer none, .int .i64 1]) ∧ w = w' := by
  go_enter Try.func75, Try.ntmps75
  go_wp2_with (go_at_call 50; refine (size_nil _).mono ?_; rintro e w' ⟨rfl, rfl⟩)
  go_ret2
  exact ⟨rfl, rfl⟩
theorem either_nil (b bb n : Nat) (k : Nat → Bool) (hm : MapAt w b bb n k) : Calls Try.prog 38 #[.pointer none, .pointer (some ⟨b, 0, none⟩)] w fun e w' => e = .returned (.tuple #[.pointer none, .int .i64 110]) ∧ w = w' := by
  go_enter Try.func38, Try.ntmps38
  go_wp2_with (go_at_call 75; refine (both_nil _ _ b bb n k hm).mono ?_; rintro e w' ⟨rfl, rfl⟩)
  go_ret2
  exact ⟨rfl, rfl⟩
theorem less_nil : Calls Try.prog 39 #[.pointer none, .pointer none] w fun e w' => e = .returned (.tuple #[.pointer none, .int .i64 1]) ∧ w = w' := by
  go_enter Try.func39, Try.ntmps39
  go_wp2_with (go_at_call 75; refine (both_nilnil _ _).mono ?_; rintro e w' ⟨rfl, rfl⟩)
  go_ret2
  exact ⟨rfl, rfl⟩
theorem cross_nil (b bb n : Nat) (k : Nat → Bool) (hm : MapAt w b bb n k) : Calls Try.prog 40 #[.pointer none, .pointer (some ⟨b, 0, none⟩)] w fun e w' => e = .returned (.tuple #[.pointer none, .int .i64 110]) ∧ w = w' := by
  go_enter Try.func40, Try.ntmps40
  go_wp2_with (go_at_call 75; refine (both_nil _ _ b bb n k hm).mono ?_; rintro e w' ⟨rfl, rfl⟩)
  go_ret2
  exact ⟨rfl, rfl⟩
theorem same_nilnil : Calls Try.prog 41 #[.pointer none, .pointer none] w fun e w' => e = .returned (.bool true) ∧ w = w' := by
  go_enter Try.func41, Try.ntmps41
  go_wp2
  go_ret
  exact ⟨rfl, rfl⟩
theorem eql_nil_ptr (a : Addr) (W : World) : (binOp .eql 23 (.pointer none) (.pointer (some a))).run Try.prog W = .ok (.bool false) W := by
  have hp := Try.underlying23
  have h : ∀ d : Nat, (Op.equalIn (d + 1) 23 (.pointer none) (.pointer (some a))).run Try.prog W = .ok false W := fun d => by
    simp [Op.equalIn, run_underlying hp]
  simp only [binOp]
  simp [Op.equal, Op.maxDepth, h 9999]
theorem same_nil (b : Nat) : Calls Try.prog 41 #[.pointer none, .pointer (some ⟨b, 0, none⟩)] w fun e w' => e = .returned (.bool false) ∧ w = w' := by
  have hq := eql_nil_ptr ⟨b, 0, none⟩
  go_enter Try.func41, Try.ntmps41
  go_wp2
  go_ret
  exact ⟨rfl, rfl⟩
set_option maxHeartbeats 1000000 in
theorem bnil_any (a c : Int) : Calls Try.prog 10 #[.int .i64 a, .int .i64 c] w fun e w' => e = .returned (.bool true) ∧ Below w.heap.size w w' := by
  go_enter Try.func10, Try.ntmps10
  go_wp2_with fail
  refine (new16 _).mono ?_
  rintro e w1 ⟨b, bb, rfl, hb, hbb, hm, hB⟩
  have HB := Lib.hid hB
  clear hB
  go_wp2_with fail
  refine (either_nil w1 b bb 16 zeroK hm).mono ?_; rintro e w' ⟨rfl, rfl⟩
  go_wp2_with fail
  refine (less_nil _).mono ?_; rintro e w' ⟨rfl, rfl⟩
  go_wp2_with fail
  refine (cross_nil _ b bb 16 zeroK hm).mono ?_; rintro e w' ⟨rfl, rfl⟩
  go_wp2_with fail
  refine (awake_any _).mono ?_
  rintro e w2 ⟨rfl, hB2⟩
  have HB2 := Lib.hid (below_trans' HB.out hB2)
  clear hB2 hm
  go_wp2_with (first | (go_at_call 50; refine (size_nil _).mono ?_; rintro e w' ⟨rfl, rfl⟩) | (go_at_call 51; refine (count_nil _).mono ?_; rintro e w' ⟨rfl, rfl⟩) | (go_at_call 52; refine (has_nil _ _).mono ?_; rintro e w' ⟨rfl, rfl⟩) | (go_at_call 43; refine (set_nil _ _).mono ?_; rintro e w' ⟨rfl, rfl⟩) | (go_at_call 44; refine (clear_nil _ _).mono ?_; rintro e w' ⟨rfl, rfl⟩) | (go_at_call 53; refine (fill_nil _ _ _).mono ?_; rintro e w' ⟨rfl, rfl⟩) | (go_at_call 54; refine (free_nil _ _).mono ?_; rintro e w' ⟨rfl, rfl⟩) | (go_at_call 55; refine (next_nil _ _).mono ?_; rintro e w' ⟨rfl, rfl⟩) | (go_at_call 56; refine (runs_nil _).mono ?_; rintro e w' ⟨rfl, rfl⟩) | (go_at_call 45; refine (leaves_nil _).mono ?_; rintro e w' ⟨rfl, rfl⟩) | (go_at_call 42; refine (mclone_nil _).mono ?_; rintro e w' ⟨rfl, rfl⟩) | fail)
  refine (same_nilnil _).mono ?_; rintro e w' ⟨rfl, rfl⟩
  go_wp2_with fail
  refine (same_nil _ b).mono ?_; rintro e w' ⟨rfl, rfl⟩
  go_wp2_with fail
  go_ret
  exact ⟨rfl, HB2.out⟩
end
end Go.Proofs.Ytffdklcpkkcohaa
