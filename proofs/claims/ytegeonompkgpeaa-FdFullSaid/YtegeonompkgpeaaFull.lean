/- As many descriptors as may be: sixty-four are opened, one more is not; one is closed, and its number is the next one's. -/
import Derived.Test.YtegeonompkgpeaaAwake
namespace Go.Proofs.Ytegeonompkgpeaa
open Go.RowKit

def fillSt (F : Int) (k : Nat) : Nat → Fd := fun i => if i < k then ⟨i + 1, F, 0⟩ else .none
theorem fill_upd (F : Int) (k : Nat) : upd (fillSt F k) k ⟨k + 1, F, 0⟩ = fillSt F (k + 1) := by
  funext i
  unfold upd fillSt
  by_cases h : i = k
  · subst h; simp
  · rw [if_neg h]
    by_cases h2 : i < k
    · rw [if_pos h2, if_pos (by omega)]
    · rw [if_neg h2, if_neg (by omega)]
theorem fill_ino (F : Int) (k i : Nat) : (fillSt F k i).ino = if i < k then (i : Int) + 1 else 0 := by
  unfold fillSt; split <;> rfl
theorem open_fill (F : Int) (hm : mayB F = true) (b : Nat) (k : Nat) (hk : k < 64) (w : World) (hf : FdsAt w b (fillSt F k)) :
    Calls Try.prog 13 #[.pointer (some ⟨b, 0, none⟩), .int .i64 ((k : Int) + 1), .int .i64 F] w fun e w' => e = .returned (.tuple #[.int .i64 k, .int .i64 0]) ∧ FdsAt w' b (fillSt F (k + 1)) ∧ w.grownBy w' (some b) := by
  refine (open_any b _ (k + 1) F w hf).mono ?_
  have he : openE (k + 1) F = 0 := by simp [openE, check_may, hm]; omega
  rintro e w' (⟨h, _⟩ | ⟨_, ⟨q, hl, rfl, h1, h2⟩ | ⟨hl, _⟩⟩)
  · exact absurd he h
  · have : q = k := by
      have a1 := hl.2.1
      rw [fill_ino] at a1
      have a2 : ¬ q < k := by intro hc; rw [if_pos hc] at a1; omega
      have a3 : ¬ k < q := by intro hc; exact hl.2.2 k hc (by rw [fill_ino, if_neg (by omega)])
      omega
    subst this
    rw [fill_upd] at h1
    exact ⟨rfl, h1, h2⟩
  · exact absurd (by rw [fill_ino, if_neg (by omega)]) (hl k hk)
theorem open_full (F : Int) (hm : mayB F = true) (b : Nat) (w : World) (hf : FdsAt w b (fillSt F 64)) :
    Calls Try.prog 13 #[.pointer (some ⟨b, 0, none⟩), .int .i64 9, .int .i64 F] w fun e w' => e = .returned (.tuple #[.int .i64 0, .int .i64 230]) ∧ FdsAt w' b (fillSt F 64) ∧ w.grownBy w' (some b) := by
  refine (open_any b _ 9 F w hf).mono ?_
  have he : openE 9 F = 0 := by simp [openE, check_may, hm]
  rintro e w' (⟨h, _⟩ | ⟨_, ⟨q, hl, rfl, h1, h2⟩ | ⟨hl, rfl, h1, h2⟩⟩)
  · exact absurd he h
  · have a1 := hl.2.1
    rw [fill_ino, if_pos hl.1] at a1
    omega
  · exact ⟨rfl, h1, h2⟩
theorem dup_full (F : Int) (b : Nat) (w : World) (hf : FdsAt w b (fillSt F 64)) :
    Calls Try.prog 14 #[.pointer (some ⟨b, 0, none⟩), .int .i64 3] w fun e w' => e = .returned (.tuple #[.int .i64 0, .int .i64 230]) ∧ FdsAt w' b (fillSt F 64) ∧ w.grownBy w' (some b) := by
  refine (dup_any b _ 3 w hf).mono ?_
  have he : getE (fillSt F 64) 3 = 0 := by simp [getE, fillSt]
  rintro e w' (⟨h, _⟩ | ⟨_, ⟨q, hl, rfl, h1, h2⟩ | ⟨hl, rfl, h1, h2⟩⟩)
  · exact absurd he h
  · have a1 := hl.2.1
    rw [fill_ino, if_pos hl.1] at a1
    omega
  · exact ⟨rfl, h1, h2⟩
theorem len_full (F : Int) (b : Nat) (w : World) (hf : FdsAt w b (fillSt F 64)) :
    Calls Try.prog 15 #[.pointer (some ⟨b, 0, none⟩)] w fun e w' => e = .returned (.int .i64 64) ∧ Below w.heap.size w w' := by
  refine (len_any b _ w hf).mono ?_
  rintro e w' ⟨rfl, hb⟩
  have : (openL (fillSt F 64) 64).length = 64 := by
    have h : ∀ k, k ≤ 64 → (openL (fillSt F 64) k).length = k := by
      intro k
      induction k with
      | zero => intro _; rfl
      | succ k ih => intro hk; rw [openL_succ, List.length_append, ih (by omega), if_neg (by rw [fill_ino, if_pos (by omega)]; omega)]; rfl
    exact h 64 (by omega)
  exact ⟨by rw [this]; rfl, hb⟩
theorem close_out (F a : Int) (ha : a < 0 ∨ 63 < a) (b : Nat) (w : World) (hf : FdsAt w b (fillSt F 64)) :
    Calls Try.prog 16 #[.pointer (some ⟨b, 0, none⟩), .int .i64 a] w fun e w' => e = .returned (.int .i64 231) ∧ w.grownBy w' (some b) := by
  refine (close_any b _ a w hf).mono ?_
  rintro e w' ⟨rfl, h1, h2⟩
  have : getE (fillSt F 64) a = 231 := by unfold getE; rw [if_pos (by omega)]
  exact ⟨by rw [this], h1⟩
def gapSt (F : Int) (k : Nat) : Nat → Fd := upd (fillSt F 64) k .none
theorem close_in (F : Int) (k : Nat) (hk : k < 64) (b : Nat) (w : World) (hf : FdsAt w b (fillSt F 64)) :
    Calls Try.prog 16 #[.pointer (some ⟨b, 0, none⟩), .int .i64 k] w fun e w' => e = .returned (.int .i64 0) ∧ FdsAt w' b (gapSt F k) ∧ w.grownBy w' (some b) := by
  refine (close_any b _ k w hf).mono ?_
  rintro e w' ⟨rfl, h1, h2⟩
  have : getE (fillSt F 64) k = 0 := by
    unfold getE; rw [if_neg]; rw [Int.toNat_natCast, fill_ino, if_pos hk]; omega
  rw [if_pos this] at h2
  exact ⟨by rw [this], h2, h1⟩
theorem open_gap (F : Int) (hm : mayB F = true) (k : Nat) (hk : k < 64) (b : Nat) (w : World) (hf : FdsAt w b (gapSt F k)) :
    Calls Try.prog 13 #[.pointer (some ⟨b, 0, none⟩), .int .i64 9, .int .i64 F] w fun e w' => e = .returned (.tuple #[.int .i64 k, .int .i64 0]) ∧ w.grownBy w' (some b) := by
  refine (open_any b _ 9 F w hf).mono ?_
  have he : openE 9 F = 0 := by simp [openE, check_may, hm]
  have hg : ∀ i, i < 64 → i ≠ k → (gapSt F k i).ino ≠ 0 := by
    intro i hi hne
    unfold gapSt upd
    rw [if_neg hne, fill_ino, if_pos hi]; omega
  rintro e w' (⟨h, _⟩ | ⟨_, ⟨q, hl, rfl, h1, h2⟩ | ⟨hl, rfl, h1, h2⟩⟩)
  · exact absurd he h
  · have : q = k := Classical.byContradiction fun hc => hg q hl.1 hc hl.2.1
    subst this
    exact ⟨rfl, h2⟩
  · exact absurd (by simp [gapSt, upd, Fd.none]) (hl k hk)
theorem below_new {w w1 w2 : World} {b : Nat} (h : Below w.heap.size w w1) (hg : w1.grownBy w2 (some b)) (hb : w.heap.size ≤ b) : Below w.heap.size w w2 :=
  h.grown hg h.size (fun k hk => by cases hk; exact hb)
theorem open_bad (F : Int) (hm : mayB F = false) (b : Nat) (w : World) (st : Nat → Fd) (hf : FdsAt w b st) :
    Calls Try.prog 13 #[.pointer (some ⟨b, 0, none⟩), .int .i64 1, .int .i64 F] w fun e w' => e = .returned (.tuple #[.int .i64 0, .int .i64 232]) ∧ w = w' := by
  refine (open_any b st 1 F w hf).mono ?_
  have he : openE 1 F = 232 := by simp [openE, check_may, hm]
  rintro e w' (⟨h, rfl, rfl⟩ | ⟨h, _⟩)
  · exact ⟨by rw [he], rfl⟩
  · rw [he] at h; cases h
set_option maxHeartbeats 1000000 in
theorem full_any (F a : Int) (w : World) : Calls Try.prog 4 #[.int .i64 F, .int .i64 a] w fun e w' => e = .returned (.bool true) ∧ Below w.heap.size w w' := by
  have HM := Lib.hid (may_any F)
  cases hm : mayB F
  · rw [hm] at HM
    go_enter Try.func4, Try.ntmps4
    go_wp2_with fail
    refine (new_any _).mono ?_; rintro e w1 ⟨b, rfl, hb, hf1, hB1⟩; have HB1 := Lib.hid hB1; clear hB1
    go_wp2_with fail
    refine (awake_any _).mono ?_; rintro e w2 ⟨rfl, hB2⟩; have hf2 := hf1.below hB2; have HB2 := Lib.hid (below_trans' HB1.out hB2); clear hB2
    go_wp2_with fail
    refine (HM.out _).mono ?_; rintro e w3 ⟨rfl, rfl⟩
    go_wp2_with fail
    refine (open_bad F hm b _ _ hf2).mono ?_; rintro e w3 ⟨rfl, rfl⟩
    go_wp2_with fail
    go_ret
    exact ⟨rfl, HB2.out⟩
  · rw [hm] at HM
    have HF := Lib.hid hm
    clear hm
    have hcase : (a < 0 ∨ 63 < a) ∨ ∃ q : Nat, q < 64 ∧ a = q := by
      by_cases h : a < 0 ∨ 63 < a
      · exact .inl h
      · exact .inr ⟨a.toNat, by omega, by omega⟩
    have HC := Lib.hid hcase
    clear hcase
    go_enter Try.func4, Try.ntmps4
    go_wp2_with fail
    refine (new_any _).mono ?_; rintro e w1 ⟨b, rfl, hb, hf1, hB1⟩; have HB1 := Lib.hid hB1; clear hB1
    go_wp2_with fail
    refine (awake_any _).mono ?_; rintro e w2 ⟨rfl, hB2⟩; have hf2 := hf1.below hB2; have HB2 := Lib.hid (below_trans' HB1.out hB2); clear hB2
    go_wp2_with fail
    refine (HM.out _).mono ?_; rintro e w3 ⟨rfl, rfl⟩
    go_wp2_with fail
    clear hf1
    go_loopw [8] (fun i wr => ∃ k : Nat, k ≤ 64 ∧ i = .int .i64 k ∧ FdsAt wr b (fillSt F k) ∧ Below w.heap.size w wr) (fun i _ => 64 - (intOf i).toNat)
    case atStart => exact ⟨0, by omega, rfl, hf2.congr (fun i hi => by simp [zeroSt, fillSt]), HB2.out⟩
    case round =>
      obtain ⟨k, hk, rfl, hf3, hB3⟩ := hrel
      have HB3 := Lib.hid hB3
      clear hB3
      by_cases hlt : k < 64
      · go_wp2_with (go_at_call 13; refine (open_fill F HF.out b k hlt _ hf3).mono ?_; rintro e w4 ⟨rfl, hf4, hg4⟩; have HB4 := Lib.hid (below_new HB3.out hg4 hb); clear hg4)
        go_roundw
        case rel => exact ⟨k + 1, by omega, by go_num, hf4, HB4.out⟩
        case measure => simp [intOf]; omega
      · obtain rfl : k = 64 := by omega
        clear hf2 hlt hk
        go_wp2_with fail
        refine (open_full F HF.out b _ hf3).mono ?_; rintro e w4 ⟨rfl, hf4, hg4⟩; have HB4 := Lib.hid (below_new HB3.out hg4 hb); clear hg4
        go_wp2_with fail
        refine (dup_full F b _ hf4).mono ?_; rintro e w5 ⟨rfl, hf5, hg5⟩; have HB5 := Lib.hid (below_new HB4.out hg5 hb); clear hg5
        go_wp2_with fail
        refine (len_full F b _ hf5).mono ?_; rintro e w6 ⟨rfl, hB6⟩; have hf6 := hf5.below hB6; have HB6 := Lib.hid (below_trans' HB5.out hB6); clear hB6
        rcases HC.out with h | ⟨q, hq, rfl⟩
        · have HA := Lib.hid h
          rcases h with h | h
          all_goals
            go_wp2_with fail
            refine (close_out F a HA.out b _ hf6).mono ?_; rintro e w7 ⟨rfl, hg7⟩; have HB7 := Lib.hid (below_new HB6.out hg7 hb); clear hg7
            go_wp2_with fail
            go_ret
            exact ⟨rfl, HB7.out⟩
        · go_wp2_with fail
          refine (close_in F q hq b _ hf6).mono ?_; rintro e w7 ⟨rfl, hf7, hg7⟩; have HB7 := Lib.hid (below_new HB6.out hg7 hb); clear hg7
          go_wp2_with fail
          refine (open_gap F HF.out q hq b _ hf7).mono ?_; rintro e w8 ⟨rfl, hg8⟩; have HB8 := Lib.hid (below_new HB7.out hg8 hb); clear hg8
          go_wp2_with fail
          go_ret
          exact ⟨rfl, HB8.out⟩
end Go.Proofs.Ytegeonompkgpeaa
