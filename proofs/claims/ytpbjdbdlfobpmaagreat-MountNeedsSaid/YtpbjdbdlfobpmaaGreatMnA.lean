/- Contracts: how many blocks a file takes. -/
import Derived.Test.YtpbjdbdlfobpmaaGreatProg
import Derived.Test.YtpbjdbdlfobpmaaGreatBase
import Derived.Lib.Walk
import Derived.Outline
import Derived.WalkLawsBesides
import Derived.WalkSpells
namespace Go.Proofs.YtpbjdbdlfobpmaaGreat
open Go.RowKit
/-- the levels above so many leaves, counted -/
def upF : Nat → Nat → Nat → Nat
  | 0, _, all => all
  | d + 1, l, all => if 1 < l then upF d ((l + 3) / 4) (all + (l + 3) / 4) else all
theorem upF_done {l all : Nat} (h : ¬ 1 < l) : ∀ d, upF d l all = all
  | 0 => rfl
  | d + 1 => by unfold upF; rw [if_neg h]
theorem upF_more : ∀ (d l all : Nat), l ≤ d → ∀ e, upF (d + e) l all = upF d l all
  | 0, l, all, h, e => by
    have : ¬ 1 < l := by omega
    rw [upF_done this, upF_done this]
  | d + 1, l, all, h, e => by
    rw [show d + 1 + e = d + e + 1 by omega]
    unfold upF
    by_cases h1 : 1 < l
    · rw [if_pos h1, if_pos h1]
      exact upF_more d _ _ (by omega) e
    · rw [if_neg h1, if_neg h1]
theorem upF_step (l all : Nat) (h : 1 < l) : upF ((l + 3) / 4) ((l + 3) / 4) (all + (l + 3) / 4) = upF l l all := by
  obtain ⟨d, hd⟩ : ∃ d, l = d + 1 := ⟨l - 1, by omega⟩
  have e1 : upF l l all = upF d ((l + 3) / 4) (all + (l + 3) / 4) := by
    rw [hd]; conv => lhs; unfold upF
    rw [if_pos (by omega)]
  obtain ⟨e, he⟩ : ∃ e, d = (l + 3) / 4 + e := ⟨d - (l + 3) / 4, by omega⟩
  rw [e1, he, upF_more _ _ _ (Nat.le_refl _)]
theorem reflv_any (n : Nat) (hn : n ≤ 1000000000) (w : World) : Calls Tryz.prog 6 #[.int .i64 n] w fun e w' => e = .returned (.int .i64 ((n + 255) / 256 : Nat)) ∧ w = w' := by
  go_enter Tryz.func6, Tryz.ntmps6
  go_wp2
  go_ret
  exact ⟨by simp, rfl⟩
set_option maxRecDepth 100000 in
theorem leaves_bad (a : Int) (h : a < 0 ∨ 1048576 < a) (w : World) : Calls Tryz.prog 7 #[.int .i64 a] w fun e w' => e = .returned (.tuple #[.int .i64 0, .int .i64 1]) ∧ w = w' := by
  by_cases h1 : a < 0
  · go_enter Tryz.func7, Tryz.ntmps7
    go_wp2
    go_ret2
    exact ⟨rfl, rfl⟩
  · have h2 : a > 1048576 := by omega
    go_enter Tryz.func7, Tryz.ntmps7
    go_wp2
    go_ret2
    exact ⟨rfl, rfl⟩
set_option maxRecDepth 100000 in
theorem leaves_any (n : Nat) (h : n ≤ 1048576) (w : World) : Calls Tryz.prog 7 #[.int .i64 n] w fun e w' => e = .returned (.tuple #[.int .i64 ((n + 255) / 256 : Nat), .int .i64 0]) ∧ w = w' := by
  have h1 : ¬ ((n : Int) < 0) := by omega
  have h2 : ¬ ((n : Int) > 1048576) := by omega
  have e : (((n + 255) / 256 : Nat) : Int) = ((n : Int) + 256 - 1) / 256 := by omega
  rw [e]
  go_enter Tryz.func7, Tryz.ntmps7
  go_wp2
  go_ret2
  exact ⟨rfl, rfl⟩
theorem need_bad (a : Int) (h : a < 0 ∨ 1048576 < a) (w : World) : Calls Tryz.prog 4 #[.int .i64 a] w fun e w' => e = .returned (.tuple #[.int .i64 0, .int .i64 1]) ∧ w = w' := by
  go_enter Tryz.func4, Tryz.ntmps4
  go_wp2_with (go_at_call 7; refine (leaves_bad a h _).mono ?_; rintro e w' ⟨rfl, rfl⟩)
  go_ret2
  exact ⟨rfl, rfl⟩
set_option maxRecDepth 100000 in
theorem need_any (n : Nat) (h : n ≤ 1048576) (w : World) : Calls Tryz.prog 4 #[.int .i64 n] w fun e w' => e = .returned (.tuple #[.int .i64 (upF ((n + 255) / 256) ((n + 255) / 256) ((n + 255) / 256) : Nat), .int .i64 0]) ∧ w = w' := by
  have hlv := fun W => leaves_any n h W
  obtain ⟨L, hL⟩ : ∃ L, (n + 255) / 256 = L := ⟨_, rfl⟩
  rw [hL] at hlv ⊢
  have hL' : L ≤ 4097 := by omega
  clear hL
  go_enter Tryz.func4, Tryz.ntmps4
  go_wp2_with (go_at_call 7; refine (hlv _).mono ?_; rintro e w' ⟨rfl, rfl⟩)
  go_loop [4, 6] (fun l a => ∃ p q : Nat, p ≤ 4097 ∧ q + p ≤ 10000 ∧ l = .int .i64 p ∧ a = .int .i64 q ∧ upF p p q = upF L L L) (fun l _ => (intOf l).toNat)
  case atStart => exact ⟨L, L, hL', by omega, rfl, rfl, rfl⟩
  case round =>
    obtain ⟨p, q, hp, hq, rfl, rfl, hu⟩ := hrel
    by_cases h1 : (p : Int) > 1
    · have hs := upF_step p q (by omega)
      go_wp2
      go_round
      case rel => exact ⟨(p + 3) / 4, q + (p + 3) / 4, by omega, by omega, by go_num, by go_num, by rw [hs, hu]⟩
      case measure => simp [intOf]; omega
    · rw [upF_done (by omega)] at hu
      go_wp2
      go_ret2
      exact ⟨rfl, rfl⟩
set_option maxRecDepth 100000 in
theorem law_bad (hAw : ∀ W, Calls Tryz.prog 5 #[] W fun e w' => e = .returned (.bool true) ∧ RowKit.Below W.heap.size W w') (a : Int) (h : a < 0 ∨ 1048576 < a) (w : World) : Calls Tryz.prog 3 #[.int .i64 a] w fun e w' => e = .returned (.bool true) ∧ RowKit.Below w.heap.size w w' := by
  by_cases h1 : a < 0
  · go_enter Tryz.func3, Tryz.ntmps3
    go_wp2_with (first | (go_at_call 4; refine (need_bad a h _).mono ?_; rintro e w' ⟨rfl, rfl⟩) | (go_at_call 5; refine (hAw _).mono ?_; rintro e w' ⟨rfl, hb⟩; have HB := Lib.hid hb; clear hb))
    go_ret
    exact ⟨rfl, HB.out⟩
  · have h2 : a > 1048576 := by omega
    go_enter Tryz.func3, Tryz.ntmps3
    go_wp2_with (first | (go_at_call 4; refine (need_bad a h _).mono ?_; rintro e w' ⟨rfl, rfl⟩) | (go_at_call 5; refine (hAw _).mono ?_; rintro e w' ⟨rfl, hb⟩; have HB := Lib.hid hb; clear hb))
    go_ret
    exact ⟨rfl, HB.out⟩
set_option maxRecDepth 100000 in
theorem law_good (hAw : ∀ W, Calls Tryz.prog 5 #[] W fun e w' => e = .returned (.bool true) ∧ RowKit.Below W.heap.size W w') (n : Nat) (h : n ≤ 1048576) (w : World) : Calls Tryz.prog 3 #[.int .i64 n] w fun e w' => e = .returned (.bool true) ∧ RowKit.Below w.heap.size w w' := by
  have hn1 : ¬ ((n : Int) < 0) := by omega
  have hn2 : ¬ ((n : Int) > 1048576) := by omega
  have hne := fun W => need_any n h W
  have hlv := fun W => reflv_any n (by omega) W
  obtain ⟨L, hL⟩ : ∃ L, (n + 255) / 256 = L := ⟨_, rfl⟩
  rw [hL] at hlv hne
  have hL' : L ≤ 4097 := by omega
  clear hL
  obtain ⟨R, hR⟩ : ∃ R, upF L L L = R := ⟨_, rfl⟩
  rw [hR] at hne
  have HR := Lib.hid hR
  clear hR
  go_enter Tryz.func3, Tryz.ntmps3
  go_wp2_with (first | (go_at_call 4; refine (hne _).mono ?_; rintro e w' ⟨rfl, rfl⟩) | (go_at_call 6; refine (hlv _).mono ?_; rintro e w' ⟨rfl, rfl⟩))
  go_loop [5, 6] (fun l a => ∃ p q : Nat, p ≤ 4097 ∧ q + p ≤ 10000 ∧ l = .int .i64 p ∧ a = .int .i64 q ∧ upF p p q = R) (fun l _ => (intOf l).toNat)
  case atStart => exact ⟨L, L, hL', by omega, rfl, rfl, HR.out⟩
  case round =>
    obtain ⟨p, q, hp, hq, rfl, rfl, hu⟩ := hrel
    by_cases h1 : (p : Int) > 1
    · have hs := upF_step p q (by omega)
      go_wp2
      go_round
      case rel => exact ⟨(p + 3) / 4, q + (p + 3) / 4, by omega, by omega, by go_num, by go_num, by rw [hs, hu]⟩
      case measure => simp [intOf]; omega
    · rw [upF_done (by omega)] at hu
      subst hu
      clear hne hlv HR
      go_wp2_with (go_at_call 5; refine (hAw _).mono ?_; rintro e w' ⟨rfl, hb⟩; have HB := Lib.hid hb; clear hb)
      go_ret
      exact ⟨by simp, HB.out⟩
theorem law_any (hAw : ∀ W, Calls Tryz.prog 5 #[] W fun e w' => e = .returned (.bool true) ∧ RowKit.Below W.heap.size W w') (a : Int) (w : World) : Calls Tryz.prog 3 #[.int .i64 a] w fun e w' => e = .returned (.bool true) ∧ RowKit.Below w.heap.size w w' := by
  by_cases h : a < 0 ∨ 1048576 < a
  · exact law_bad hAw a h w
  · have := law_good hAw a.toNat (by omega) w
    rwa [Int.toNat_of_nonneg (by omega)] at this
end Go.Proofs.YtpbjdbdlfobpmaaGreat
