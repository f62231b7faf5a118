/- a nil room; awake of the room's laws; the law RoomNil. -/
import Derived.Test.YtffdklcpkkcohaaRoom3
namespace Go.Proofs.Ytffdklcpkkcohaa
open Go.RowKit
section
variable (w : World)
theorem state_nil (p : Int) : Calls Try.prog 26 #[.pointer none, .int .u32 p] w fun e w' => e = .returned (.int .i64 0) ∧ w = w' := by
  go_enter Try.func26, Try.ntmps26
  go_wp2
  go_ret
  exact ⟨rfl, rfl⟩
theorem list_nil (v : Int) : Calls Try.prog 32 #[.pointer none, .int .i64 v] w fun e w' => e = .returned (.slice none 0 0) ∧ w = w' := by
  go_enter Try.func32, Try.ntmps32
  go_wp2
  go_ret
  exact ⟨rfl, rfl⟩
theorem rcountS_nil (v : Int) : Calls Try.prog 28 #[.pointer none, .int .i64 v] w fun e w' => e = .returned (.int .i64 0) ∧ w = w' := by
  go_enter Try.func28, Try.ntmps28
  go_wp2_with (go_at_call 32; refine (list_nil _ _).mono ?_; rintro e w' ⟨rfl, rfl⟩)
  go_ret
  exact ⟨rfl, rfl⟩
theorem take_nil : Calls Try.prog 29 #[.pointer none] w fun e w' => e = .returned (.tuple #[.int .u32 0, .int .i64 3]) ∧ w = w' := by
  go_enter Try.func29, Try.ntmps29
  go_wp2
  go_ret2
  exact ⟨rfl, rfl⟩
theorem let_nil (p : Int) : Calls Try.prog 27 #[.pointer none, .int .u32 p] w fun e w' => e = .returned (.int .i64 121) ∧ w = w' := by
  go_enter Try.func27, Try.ntmps27
  go_wp2_with (go_at_call 26; refine (state_nil _ _).mono ?_; rintro e w' ⟨rfl, rfl⟩)
  go_ret
  exact ⟨rfl, rfl⟩
theorem turn_nil (t l : Int) : Calls Try.prog 74 #[.pointer none, .int .i64 t, .int .i64 l] w fun e w' => (∃ v, e = .returned v) ∧ w = w' := by
  go_enter Try.func74, Try.ntmps74
  go_wp2
  refine bodyPost_ret (results_none rfl _ _ _) rfl ?_
  exact ⟨⟨_, rfl⟩, rfl⟩
theorem swing_nil : Calls Try.prog 33 #[.pointer none] w fun e w' => (∃ v, e = .returned v) ∧ w = w' := by
  go_enter Try.func33, Try.ntmps33
  go_wp2_with (go_at_call 74; refine (turn_nil _ _ _).mono ?_; rintro e w' ⟨⟨v, rfl⟩, rfl⟩)
  go_end0
  exact ⟨⟨_, rfl⟩, rfl⟩
theorem back_nil : Calls Try.prog 30 #[.pointer none] w fun e w' => (∃ v, e = .returned v) ∧ w = w' := by
  go_enter Try.func30, Try.ntmps30
  go_wp2_with (go_at_call 74; refine (turn_nil _ _ _).mono ?_; rintro e w' ⟨⟨v, rfl⟩, rfl⟩)
  go_end0
  exact ⟨⟨_, rfl⟩, rfl⟩
theorem rleaves_nil : Calls Try.prog 57 #[.pointer none] w fun e w' => e = .returned (.slice none 0 0) ∧ w = w' := by
  go_enter Try.func57, Try.ntmps57
  go_wp2
  go_ret
  exact ⟨rfl, rfl⟩
theorem rblocks_nil : Calls Try.prog 58 #[.pointer none] w fun e w' => e = .returned (.int .i64 0) ∧ w = w' := by
  go_enter Try.func58, Try.ntmps58
  go_wp2
  go_ret
  exact ⟨rfl, rfl⟩
theorem copy_nil : Calls Try.prog 25 #[.pointer none] w fun e w' => e = .returned (.pointer none) ∧ w = w' := by
  go_enter Try.func25, Try.ntmps25
  go_wp2
  go_ret
  exact ⟨rfl, rfl⟩
set_option maxRecDepth 100000 in
set_option maxHeartbeats 1000000 in
theorem rawake_any : Calls Try.prog 23 #[] w fun e w' => e = .returned (.bool true) ∧ Below w.heap.size w w' := by
  have hU : U32s (w.alloc (.cells #[.int .u32 1, .int .u32 2] 46)) (some ⟨w.heap.size, 0, none⟩) 2 (fun i => i + 1) := by
    refine ⟨fun i hi => by show i + 1 < 4294967296; omega, fun _ => ⟨_, 0, rfl, by simp, fun i hi => ?_⟩⟩
    have h := cell_two_at w (.int .u32 1) (.int .u32 2) 46 _ rfl i
    rw [Addr.add_mid] at h
    rcases (show i = 0 ∨ i = 1 by omega) with rfl | rfl
    · exact h _ rfl
    · exact h _ rfl
  have hB0 := (Below.refl w.heap.size w).alloc (Nat.le_refl _) (.cells #[.int .u32 1, .int .u32 2] 46)
  have HN := Lib.hid (rnew_any 16 _ 2 2 _ _ hU (by unfold maxLen; omega))
  have HB0 := Lib.hid hB0
  clear hU hB0
  go_enter Try.func23, Try.ntmps23
  go_wp2_with fail
  refine HN.out.mono ?_
  clear HN
  generalize w.alloc (.cells #[.int .u32 1, .int .u32 2] 46) = w0 at *
  rintro e w1 (⟨h, _⟩ | ⟨n, hn, _, _, ⟨j, hj, hbad, _⟩ | ⟨_, b, bb, rfl, hb, hbb, hR, hB⟩⟩)
  · exfalso; omega
  · exfalso
    obtain rfl : n = 16 := by omega
    rcases (show j = 0 ∨ j = 1 by omega) with rfl | rfl
    · exact hbad (by decide)
    · exact hbad (by decide)
  obtain rfl : n = 16 := by omega
  have HR := Lib.hid hR
  have hs0 := HB0.out.size
  have HB := Lib.hid (HB0.out.trans (hB.mono hs0))
  have hbb' : w.heap.size ≤ bb := by omega
  clear hR hB hn
  go_wp2_with fail
  refine (take_any b bb 16 _ w1 HR.out).mono ?_
  rintro e w2 (⟨h, _, _⟩ | ⟨p, hp, h1, h2, rfl, hR2, hG⟩)
  · exact absurd (by decide) (h 3 (by omega))
  obtain rfl : p = 3 := by
    have a1 := fun h : 3 < p => h2 3 h (by decide)
    rcases (show p = 0 ∨ p = 1 ∨ p = 2 ∨ p = 3 ∨ 3 < p by omega) with rfl | rfl | rfl | rfl | h
    · exact absurd h1 (by decide)
    · exact absurd h1 (by decide)
    · exact absurd h1 (by decide)
    · rfl
    · exact (a1 h).elim
  have HS := Lib.hid (state_any b bb 16 _ w2 3 (by omega) hR2)
  have HB2 := Lib.hid (HB.out.grown hG HB.out.size (fun q hq => by cases hq; exact hbb'))
  have hst : stI 16 (setS (usedS (fun i => i + 1) 2) 3 3) 3 = 3 := by decide
  rw [hst] at HS
  clear hR2 hG h1 h2 hst
  go_wp2_with fail
  refine HS.out.mono ?_
  rintro e w3 ⟨rfl, rfl⟩
  go_wp2_with fail
  go_ret
  exact ⟨rfl, HB2.out⟩
set_option maxHeartbeats 1000000 in
theorem rnil_any (p v : Int) : Calls Try.prog 11 #[.int .u32 p, .int .i64 v] w fun e w' => e = .returned (.bool true) ∧ Below w.heap.size w w' := by
  go_enter Try.func11, Try.ntmps11
  go_wp2_with fail
  refine (rawake_any _).mono ?_
  rintro e w1 ⟨rfl, hB⟩
  have HB := Lib.hid hB
  clear hB
  go_wp2_with (first | (go_at_call 33; refine (swing_nil _).mono ?_; rintro e w' ⟨⟨v, rfl⟩, rfl⟩) | (go_at_call 30; refine (back_nil _).mono ?_; rintro e w' ⟨⟨v, rfl⟩, rfl⟩) | (go_at_call 29; refine (take_nil _).mono ?_; rintro e w' ⟨rfl, rfl⟩) | (go_at_call 27; refine (let_nil _ _).mono ?_; rintro e w' ⟨rfl, rfl⟩) | (go_at_call 26; refine (state_nil _ _).mono ?_; rintro e w' ⟨rfl, rfl⟩) | (go_at_call 28; refine (rcountS_nil _ _).mono ?_; rintro e w' ⟨rfl, rfl⟩) | (go_at_call 32; refine (list_nil _ _).mono ?_; rintro e w' ⟨rfl, rfl⟩) | (go_at_call 57; refine (rleaves_nil _).mono ?_; rintro e w' ⟨rfl, rfl⟩) | (go_at_call 58; refine (rblocks_nil _).mono ?_; rintro e w' ⟨rfl, rfl⟩) | (go_at_call 25; refine (copy_nil _).mono ?_; rintro e w' ⟨rfl, rfl⟩))
  go_ret
  exact ⟨rfl, HB.out⟩
end
end Go.Proofs.Ytffdklcpkkcohaa
