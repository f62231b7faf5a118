/- of a nil room what takes many; the law RoomNone. -/
import Derived.Test.YtffdklcpkkcohaaRoom4
namespace Go.Proofs.Ytffdklcpkkcohaa
open Go.RowKit
section
variable (w : World)
theorem takemany_nil (n : Int) : Calls Try.prog 34 #[.pointer none, .int .i64 n] w fun e w' => e = .returned (.tuple #[.slice none 0 0, .int .i64 (if n < 0 then 1 else 3)]) ∧ w = w' := by
  by_cases h : n < 0
  · rw [if_pos h]
    go_enter Try.func34, Try.ntmps34
    go_wp2
    go_ret2
    exact ⟨rfl, rfl⟩
  · rw [if_neg h]
    go_enter Try.func34, Try.ntmps34
    go_wp2
    go_ret2
    exact ⟨rfl, rfl⟩
theorem rruns_nil (v : Int) : Calls Try.prog 37 #[.pointer none, .int .i64 v] w fun e w' => e = .returned (.slice none 0 0) ∧ w = w' := by
  go_enter Try.func37, Try.ntmps37
  go_wp2_with (go_at_call 32; refine (list_nil _ _).mono ?_; rintro e w' ⟨rfl, rfl⟩)
  refine wp_loop_rounds 1 ?_
  rw [rounds_succ]
  go_wp2
  go_ret
  exact ⟨rfl, rfl⟩
theorem longest_nil (v : Int) : Calls Try.prog 36 #[.pointer none, .int .i64 v] w fun e w' => e = .returned (.tuple #[.int .u32 0, .int .i64 0]) ∧ w = w' := by
  go_enter Try.func36, Try.ntmps36
  go_wp2_with (go_at_call 37; refine (rruns_nil _ _).mono ?_; rintro e w' ⟨rfl, rfl⟩)
  refine wp_loop_rounds 1 ?_
  rw [rounds_succ]
  go_wp2
  go_ret2
  exact ⟨rfl, rfl⟩
theorem letall_nil (a : Option Addr) (len cap : Nat) (f : Nat → Nat) (hx : U32s w a len f) (hlen : len ≤ maxLen) : Calls Try.prog 35 #[.pointer none, .slice a len cap] w fun e w' => e = .returned (.tuple #[.int .i64 0, .int .i64 (if len = 0 then 0 else 121)]) ∧ Below w.heap.size w w' := by
  unfold maxLen at hlen
  have hmm := @run_makeMap Try.prog
  by_cases h : len = 0
  · subst h
    rw [if_pos rfl]
    clear hx
    go_enter Try.func35, Try.ntmps35
    go_wp2_with fail
    refine wp_loop_rounds 1 ?_
    rw [rounds_succ]
    go_wp2_with fail
    refine wp_loop_rounds 1 ?_
    rw [rounds_succ]
    go_wp2_with fail
    go_ret2
    exact ⟨rfl, (Below.refl _ w).alloc (Nat.le_refl _) _⟩
  · rw [if_neg h]
    obtain ⟨b0, off, rfl, h0, hc⟩ := hx.2 (by omega)
    have c0 : (w.alloc (.map #[] 0)).cell? ⟨b0, off, none⟩ = some (.int .u32 (f 0)) := (World.cell?_of_block (Below.heap_alloc w _ b0 h0)).trans (hc 0 (by omega))
    clear hc hx
    generalize f 0 = z at *
    go_enter Try.func35, Try.ntmps35
    go_wp2_with fail
    refine wp_loop_rounds 1 ?_
    rw [rounds_succ]
    go_wp2_with (go_at_call 26; refine (state_nil _ _).mono ?_; rintro e w' ⟨rfl, rfl⟩)
    go_ret2
    exact ⟨rfl, (Below.refl _ w).alloc (Nat.le_refl _) _⟩
set_option maxHeartbeats 1000000 in
theorem rnone_any (n : Int) (a : Option Addr) (len cap : Nat) (f : Nat → Nat) (hx : U32s w a len f) (hlen : len ≤ maxLen) : Calls Try.prog 7 #[.agg #[.int .i64 n, .slice a len cap]] w fun e w' => e = .returned (.bool true) ∧ Below w.heap.size w w' := by
  have hB0 := (Below.refl w.heap.size w).alloc (Nat.le_refl _) (.cells #[.int .i64 n, .slice a len cap] 57)
  have z0 : (w.alloc (.cells #[.int .i64 n, .slice a len cap] 57)).cell? ⟨w.heap.size, 0, none⟩ = some (.int .i64 n) := cell_two_at w _ _ _ _ rfl 0 _ rfl
  have z1 : (w.alloc (.cells #[.int .i64 n, .slice a len cap] 57)).cell? ⟨w.heap.size, 1, none⟩ = some (.slice a len cap) := cell_two_at w _ _ _ _ rfl 1 _ rfl
  have HX0 := Lib.hid (hx.below hB0)
  have HB0 := Lib.hid hB0
  have hlt : w.heap.size < (w.alloc (.cells #[.int .i64 n, .slice a len cap] 57)).heap.size := by simp
  clear hB0 hx
  have TM := Lib.hid (takemany_nil (w.alloc (.cells #[.int .i64 n, .slice a len cap] 57)) n)
  have LA := Lib.hid (letall_nil (w.alloc (.cells #[.int .i64 n, .slice a len cap] 57)) a len cap f HX0.out hlen)
  have d0 : (n < 0) ∨ ¬ (n < 0) := Classical.em _
  have d1 : (len = 0) ∨ ¬ (len = 0) := Classical.em _
  clear HX0
  rcases d0 with d0 | d0 <;> rcases d1 with rfl | d1
  all_goals
    first | rw [if_pos d0] at TM | rw [if_neg d0] at TM
    first | rw [if_pos rfl] at LA | rw [if_neg d1] at LA
    go_enter Try.func7, Try.ntmps7
    go_wp2_with fail
    first | generalize w.alloc (.cells #[.int .i64 n, .slice a len cap] 57) = w0 at * | generalize w.alloc (.cells #[.int .i64 n, .slice a 0 cap] 57) = w0 at *
    refine TM.out.mono ?_
    rintro e w' ⟨rfl, rfl⟩
    go_wp2_with fail
    refine LA.out.mono ?_
    rintro e w2 ⟨rfl, hB⟩
    have y0 := (hB.cell (p := ⟨w.heap.size, 0, none⟩) hlt).trans z0
    have y1 := (hB.cell (p := ⟨w.heap.size, 1, none⟩) hlt).trans z1
    have hlt2 := Nat.lt_of_lt_of_le hlt hB.size
    have HB2 := Lib.hid (HB0.out.trans (hB.mono (Nat.le_of_lt hlt)))
    clear hB z0 z1 hlt
    go_wp2_with fail
    refine (longest_nil _ _).mono ?_
    rintro e w' ⟨rfl, rfl⟩
    go_wp2_with fail
    refine (rawake_any _).mono ?_
    rintro e w3 ⟨rfl, hB⟩
    have x0 := (hB.cell (p := ⟨w.heap.size, 0, none⟩) hlt2).trans y0
    have HB3 := Lib.hid (HB2.out.trans (hB.mono (Nat.le_of_lt hlt2)))
    clear hB y0 y1 hlt2
    go_wp2_with fail
    refine (rruns_nil _ _).mono ?_
    rintro e w' ⟨rfl, rfl⟩
    go_wp2_with fail
    go_ret
    exact ⟨rfl, HB3.out⟩
end
end Go.Proofs.Ytffdklcpkkcohaa
