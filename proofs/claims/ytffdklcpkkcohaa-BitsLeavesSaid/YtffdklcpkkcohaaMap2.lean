/- Contracts of package bits' functions on one map: Fill, Count, what is looked for, Clone. -/
import Derived.Test.YtffdklcpkkcohaaMap
import Derived.Lib.BitFns
import Derived.Lib.Small
import Derived.Lib.Walk
namespace Go.Proofs.Ytffdklcpkkcohaa
open Go.RowKit
section
variable (b bb n : Nat) (k : Nat → Bool) (w : World)
/-! Fill -/
def fillK (k : Nat → Bool) (f t : Nat) : Nat → Bool := fun i => if f ≤ i ∧ i < t then true else k i
theorem fillK_step (k : Nat → Bool) (f p n : Nat) (hp : p < n) (hf : f ≤ p) : ∀ i, putI n (fillK k f p) p true i = fillK k f (p + 1) i := by
  intro i
  unfold putI
  rw [if_pos (by omega)]
  simp only [setK, fillK, Int.toNat_natCast]
  by_cases e : i = p
  · subst e; rw [if_pos rfl, if_pos (by omega)]
  · rw [if_neg e]
    by_cases h : f ≤ i ∧ i < p
    · rw [if_pos h, if_pos (by omega)]
    · rw [if_neg h, if_neg (by omega)]
def fillOk (n : Nat) (f t : Int) : Bool := decide (0 ≤ f) && decide (f ≤ t) && decide (t ≤ n)
def fillI (n : Nat) (k : Nat → Bool) (f t : Int) : Nat → Bool := if fillOk n f t then fillK k f.toNat t.toNat else k
def FillPost (b bb n : Nat) (k : Nat → Bool) (f t : Int) (w : World) (e : Ending) (w' : World) : Prop :=
  e = .returned (.int .i64 (if fillOk n f t then 0 else 90)) ∧ MapAt w' b bb n (fillI n k f t) ∧ w.grownBy w' (some bb)
set_option maxHeartbeats 400000 in
theorem fill_any (f t : Int) (hm : MapAt w b bb n k) : Calls Try.prog 53 #[.pointer (some ⟨b, 0, none⟩), .int .i64 f, .int .i64 t] w (FillPost b bb n k f t w) := by
  have hn := hm.2.2.2.1
  obtain ⟨cap, h0, h1⟩ := hm.head
  by_cases hbad : f < 0 ∨ t < f ∨ (n : Int) < t
  · have ho : fillOk n f t = false := by
      unfold fillOk
      rcases hbad with h | h | h
      · rw [decide_eq_false (show ¬ 0 ≤ f by omega)]; rfl
      · rw [decide_eq_false (show ¬ f ≤ t by omega)]; simp
      · rw [decide_eq_false (show ¬ t ≤ n by omega)]; simp
    have HO := Lib.hid ho
    clear ho
    have hfin : FillPost b bb n k f t w (.returned (.int .i64 90)) w := ⟨by rw [HO.out]; rfl, by unfold fillI; rw [HO.out]; exact hm, only_refl _ _⟩
    have HF := Lib.hid hfin
    clear hfin
    by_cases g1 : f < 0
    · go_enter Try.func53, Try.ntmps53
      go_wp2
      go_ret
      exact HF.out
    by_cases g2 : t < f
    · go_enter Try.func53, Try.ntmps53
      go_wp2
      go_ret
      exact HF.out
    have g3 : (n : Int) < t := by omega
    go_enter Try.func53, Try.ntmps53
    go_wp2
    go_ret
    exact HF.out
  · obtain ⟨f, rfl⟩ := Int.eq_ofNat_of_zero_le (by omega : 0 ≤ f)
    obtain ⟨t, rfl⟩ := Int.eq_ofNat_of_zero_le (by omega : 0 ≤ t)
    have ho : fillOk n f t = true := by unfold fillOk; rw [decide_eq_true (by omega), decide_eq_true (by omega), decide_eq_true (by omega)]; rfl
    have HO := Lib.hid ho
    have g2 : f ≤ t := by omega
    have g3 : t ≤ n := by omega
    have d1 : decide ((f : Int) < 0) = false := by simp
    have d2 : decide (t < f) = false := by simp; omega
    have d3 : decide (n < t) = false := by simp; omega
    clear ho hbad
    go_enter Try.func53, Try.ntmps53
    go_wp2
    go_loopw [7] (fun i wr => ∃ p : Nat, f ≤ p ∧ p ≤ t ∧ i = .int .i64 p ∧ MapAt wr b bb n (fillK k f p) ∧ w.grownBy wr (some bb)) (fun i _ => t - (intOf i).toNat)
    case atStart => exact ⟨f, by omega, by omega, rfl, hm.congr (fun i => by unfold fillK; rw [if_neg (by omega)]), only_refl _ _⟩
    case round =>
      obtain ⟨p, hf, hp, rfl, hM, hG⟩ := hrel
      have HG := Lib.hid hG
      clear hG
      by_cases hlt : p < t
      · go_wp2_with (go_at_call 43; refine (set_any b bb n _ _ p hM).mono ?_; rintro e w1 ⟨rfl, hM1, hG1⟩; have HM1 := Lib.hid (hM1.congr (fillK_step k f p n (by omega) (by omega))); have HG1 := Lib.hid (only_trans HG.out hG1); clear hM1 hG1)
        go_roundw
        case rel => exact ⟨p + 1, by omega, by omega, by go_num, HM1.out, HG1.out⟩
        case measure => simp [intOf]; omega
      · go_wp2
        go_ret
        have : p = t := by omega
        subst this
        exact ⟨by rw [HO.out]; rfl, by unfold fillI; rw [HO.out]; exact hM, HG.out⟩

/-! Count -/
theorem pop8_lib : ∀ V : Fin 256, wrap64 (Lib.pop8 (V.val : Int)) = ((pop8 V.val : Nat) : Int) := by decide +kernel
theorem pop8_le (V : Nat) : pop8 V ≤ 8 := by
  have h : ∀ b : Bool, b.toNat ≤ 1 := fun b => by cases b <;> decide
  have := h (V.testBit 0); have := h (V.testBit 1); have := h (V.testBit 2); have := h (V.testBit 3); have := h (V.testBit 4); have := h (V.testBit 5); have := h (V.testBit 6); have := h (V.testBit 7)
  unfold pop8; omega
set_option maxRecDepth 100000 in
theorem ones_any (V : Nat) (hV : V < 256) (w : World) : Calls Try.prog 85 #[.int .u8 V] w fun e w' => e = .returned (.int .i64 (pop8 V)) ∧ w = w' := by
  have hV' : (V : Int) ≤ 255 := by omega
  go_enter Try.func85, Try.ntmps85
  go_wp2
  go_ret
  exact ⟨ret_int (pop8_lib ⟨V, hV⟩), rfl⟩
set_option maxHeartbeats 400000 in
theorem count_any (hm : MapAt w b bb n k) : Calls Try.prog 51 #[.pointer (some ⟨b, 0, none⟩)] w fun e w' => e = .returned (.int .i64 (countK n k)) ∧ w = w' := by
  have hn := hm.2.2.2.1
  have hk := hm.2.2.2.2.1
  obtain ⟨cap, h0, h1⟩ := hm.head
  have hfin : countK (8 * ((n + 7) / 8)) k = countK n k := by
    have := countK_ext n k hk (8 * ((n + 7) / 8) - n)
    rwa [show n + (8 * ((n + 7) / 8) - n) = 8 * ((n + 7) / 8) by omega] at this
  have HF := Lib.hid hfin
  clear hfin hk
  obtain ⟨m, hm'⟩ : ∃ m, m = (n + 7) / 8 := ⟨_, rfl⟩
  have HM := Lib.hid hm'
  have hmn : m ≤ 1024 := by omega
  rw [← hm'] at h1
  clear hm'
  go_enter Try.func51, Try.ntmps51
  go_wp2
  go_loop [3, 13] (fun c i => ∃ p : Nat, p ≤ m ∧ i = .int .i64 p ∧ c = .int .i64 (countK (8 * p) k)) (fun _ i => m - (intOf i).toNat)
  case atStart => exact ⟨0, by omega, rfl, rfl⟩
  case round =>
    obtain ⟨p, hp, rfl, rfl⟩ := hrel
    have hcl := countK_le (8 * p) k
    by_cases hlt : p < m
    · have hc := hm.byte (i := p) (by rw [← HM.out]; exact hlt)
      have hV := byteVal_lt k p
      have HS := Lib.hid (countK_byte p k)
      generalize byteVal k p = V at *
      have hp8 : pop8 V ≤ 8 := pop8_le V
      go_wp2_with (go_at_call 85; refine (ones_any V hV _).mono ?_; rintro e w' ⟨rfl, rfl⟩)
      go_round
      case rel => exact ⟨p + 1, by omega, by go_num, by rw [HS.out]; go_num⟩
      case measure => simp [intOf]; omega
    · go_wp2
      go_ret
      have : p = m := by omega
      subst this
      exact ⟨ret_int (by rw [← HF.out, ← HM.out]), rfl⟩

/-! what is looked for -/
set_option maxHeartbeats 400000 in
theorem find_any (f : Int) (one : Bool) (hm : MapAt w b bb n k) : Calls Try.prog 86 #[.pointer (some ⟨b, 0, none⟩), .int .i64 f, .bool one] w fun e w' => e = .returned (.int .i64 (findI n k f one)) ∧ w = w' := by
  have hn := hm.2.2.2.1
  obtain ⟨f0, hf0⟩ : ∃ f0 : Nat, f0 = (max f 0).toNat := ⟨_, rfl⟩
  have hmax : max f 0 = (f0 : Int) := by omega
  have hfi : findI n k f one = findR k one (n - f0) f0 := by unfold findI; rw [← hf0]
  have HFI := Lib.hid hfi
  clear hf0 hfi
  go_enter Try.func86, Try.ntmps86
  go_wp2
  go_loop [7] (fun i => ∃ p : Nat, f0 ≤ p ∧ (p ≤ n ∨ p = f0) ∧ i = .int .i64 p ∧ findI n k f one = findR k one (n - p) p) (fun i => n - (intOf i).toNat)
  case atStart => exact ⟨f0, by omega, .inr rfl, rfl, HFI.out⟩
  case round =>
    obtain ⟨p, hf, hp, rfl, hfi⟩ := hrel
    by_cases hlt : p < n
    · rw [findR_step k one n p hlt] at hfi
      have HF := Lib.hid hfi
      clear hfi
      have HH := Lib.hid (has_in b bb n k w p hm hlt)
      by_cases he : k p = one
      · have he' : (k p == one) = true := by simp [he]
        have HE := Lib.hid he
        clear he
        go_wp2_with (first | (go_at_call 50; refine (size_any b bb n k _ hm).mono ?_; rintro e w' ⟨rfl, rfl⟩) | (go_at_call 52; refine HH.out.mono ?_; rintro e w' ⟨rfl, rfl⟩))
        go_ret
        exact ⟨ret_int (by rw [HF.out, if_pos HE.out]), rfl⟩
      · have he' : (k p == one) = false := by simp [he]
        have HE := Lib.hid he
        clear he
        go_wp2_with (first | (go_at_call 50; refine (size_any b bb n k _ hm).mono ?_; rintro e w' ⟨rfl, rfl⟩) | (go_at_call 52; refine HH.out.mono ?_; rintro e w' ⟨rfl, rfl⟩))
        go_round
        case rel => exact ⟨p + 1, by omega, by omega, by go_num, by rw [HF.out, if_neg HE.out]⟩
        case measure => simp [intOf]; omega
    · rw [findR_end k one n p (by omega)] at hfi
      have HF := Lib.hid hfi
      clear hfi
      go_wp2_with (first | (go_at_call 50; refine (size_any b bb n k _ hm).mono ?_; rintro e w' ⟨rfl, rfl⟩))
      go_ret
      exact ⟨ret_int (by rw [HF.out]), rfl⟩
theorem free_any (f : Int) (hm : MapAt w b bb n k) : Calls Try.prog 54 #[.pointer (some ⟨b, 0, none⟩), .int .i64 f] w fun e w' => e = .returned (.int .i64 (findI n k f false)) ∧ w = w' := by
  go_enter Try.func54, Try.ntmps54
  go_wp2_with (go_at_call 86; refine (find_any b bb n k _ _ _ hm).mono ?_; rintro e w' ⟨rfl, rfl⟩)
  go_ret
  exact ⟨rfl, rfl⟩
theorem next_any (f : Int) (hm : MapAt w b bb n k) : Calls Try.prog 55 #[.pointer (some ⟨b, 0, none⟩), .int .i64 f] w fun e w' => e = .returned (.int .i64 (findI n k f true)) ∧ w = w' := by
  go_enter Try.func55, Try.ntmps55
  go_wp2_with (go_at_call 86; refine (find_any b bb n k _ _ _ hm).mono ?_; rintro e w' ⟨rfl, rfl⟩)
  go_ret
  exact ⟨rfl, rfl⟩
end
end Go.Proofs.Ytffdklcpkkcohaa
