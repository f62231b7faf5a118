/- Contracts of the reference's functions on lists of bools. -/
import Derived.Test.YtffdklcpkkcohaaMap5
namespace Go.Proofs.Ytffdklcpkkcohaa
open Go.RowKit

/-- the slice at block g is the list of the first n of k -/
def BoolsAt (w : World) (g n : Nat) (k : Nat → Bool) : Prop :=
  g < w.heap.size ∧ n ≤ 8192 ∧ ∃ cur, w.heap[g]? = some (.cells cur 4 (0, 0)) ∧ n ≤ cur.size ∧ ∀ i, i < n → cur[i]? = some (.bool (k i))
section
variable {w w' : World} {g n : Nat} {k : Nat → Bool}
theorem BoolsAt.of_block (h : BoolsAt w g n k) (hb : w'.heap[g]? = w.heap[g]?) : BoolsAt w' g n k := by
  obtain ⟨_, hn, cur, h1, h2⟩ := h
  have h' := hb.trans h1
  exact ⟨(Array.getElem?_eq_some_iff.1 h').1, hn, cur, h', h2⟩
theorem BoolsAt.below (h : BoolsAt w g n k) (hb : Below w.heap.size w w') : BoolsAt w' g n k := h.of_block (hb.block g h.1)
theorem BoolsAt.only {row : Option Nat} (h : BoolsAt w g n k) (hb : w.grownBy w' row) (hne : some g ≠ row) : BoolsAt w' g n k := h.of_block (hb.block g h.1 hne)
theorem BoolsAt.alloc (h : BoolsAt w g n k) (o : Obj) : BoolsAt (w.alloc o) g n k := h.of_block (Below.heap_alloc w o g h.1)
theorem BoolsAt.drewN (h : BoolsAt w g n k) (m : Nat) : BoolsAt (w.drewN m) g n k := h.of_block rfl
theorem BoolsAt.cell (h : BoolsAt w g n k) {i : Nat} (hi : i < n) : w.cell? ⟨g, i, none⟩ = some (.bool (k i)) := by
  obtain ⟨_, _, cur, h1, _, h3⟩ := h
  rw [cell_of_row w g i _ 4 (0, 0) h1]; exact h3 i hi
theorem BoolsAt.free (h : BoolsAt w g n k) (i : Nat) : w.frozen? ⟨g, i, none⟩ = false := by
  obtain ⟨_, _, cur, h1, _⟩ := h
  simp [World.frozen?, h1]
theorem BoolsAt.set (h : BoolsAt w g n k) {p : Nat} (hp : p < n) (v : Bool) : BoolsAt (w.setCell ⟨g, p, none⟩ (.bool v)) g n (setK k p v) := by
  obtain ⟨h0, hn, cur, h1, h2, h3⟩ := h
  have e := heap_setCell_same w g p cur 4 (.bool v) h1
  refine ⟨by simpa [World.setCell] using h0, hn, _, e, by simpa using h2, fun i hi => ?_⟩
  rw [Array.getElem?_setIfInBounds]
  unfold setK
  by_cases ei : p = i
  · subst ei; rw [if_pos rfl, if_pos (by omega), if_pos rfl]
  · rw [if_neg ei, if_neg (fun e' => ei e'.symm)]; exact h3 i hi
theorem BoolsAt.congr (h : BoolsAt w g n k) {k' : Nat → Bool} (hk : ∀ i, i < n → k i = k' i) : BoolsAt w g n k' := by
  obtain ⟨h0, hn, cur, h1, h2, h3⟩ := h
  exact ⟨h0, hn, cur, h1, h2, fun i hi => by rw [← hk i hi]; exact h3 i hi⟩
end
section
variable (g n cap : Nat) (k : Nat → Bool) (w : World)
set_option maxHeartbeats 400000 in
theorem rcount_any (h : BoolsAt w g n k) : Calls Try.prog 21 #[.slice (some ⟨g, 0, none⟩) n cap] w fun e w' => e = .returned (.int .i64 (countK n k)) ∧ w = w' := by
  have hn := h.2.1
  go_enter Try.func21, Try.ntmps21
  go_wp2
  go_loop [3, 4] (fun c i => ∃ p : Nat, p ≤ n ∧ i = .int .i64 p ∧ c = .int .i64 (countK p k)) (fun _ i => n - (intOf i).toNat)
  case atStart => exact ⟨0, by omega, rfl, rfl⟩
  case round =>
    obtain ⟨p, hp, rfl, rfl⟩ := hrel
    have hcl := countK_le p k
    by_cases hlt : p < n
    · have hc := h.cell hlt
      have HS := Lib.hid (countK_succ p k)
      cases hk : k p
      · rw [hk] at hc
        have HK := Lib.hid hk
        clear hk
        go_wp2
        go_round
        case rel => exact ⟨p + 1, by omega, by go_num, by rw [HS.out, HK.out]; rfl⟩
        case measure => simp [intOf]; omega
      · rw [hk] at hc
        have HK := Lib.hid hk
        clear hk
        go_wp2
        go_round
        case rel => exact ⟨p + 1, by omega, by go_num, by rw [HS.out, HK.out]; go_num⟩
        case measure => simp [intOf]; omega
    · go_wp2
      go_ret
      obtain rfl : p = n := by omega
      exact ⟨rfl, rfl⟩
set_option maxHeartbeats 400000 in
theorem rnext_any (f : Int) (one : Bool) (h : BoolsAt w g n k) : Calls Try.prog 20 #[.slice (some ⟨g, 0, none⟩) n cap, .int .i64 f, .bool one] w fun e w' => e = .returned (.int .i64 (findI n k f one)) ∧ w = w' := by
  have hn := h.2.1
  obtain ⟨f0, hf0⟩ : ∃ f0 : Nat, f0 = (max f 0).toNat := ⟨_, rfl⟩
  have hmax : (f : Int) ≤ f0 ∧ (0 < f → (f0 : Int) = f) ∧ (f ≤ 0 → f0 = 0) := by omega
  have hfi : findI n k f one = findR k one (n - f0) f0 := by unfold findI; rw [← hf0]
  have HFI := Lib.hid hfi
  clear hf0 hfi
  obtain ⟨m1, m2, m3⟩ := hmax
  go_enter Try.func20, Try.ntmps20
  go_wp2
  go_loop [7] (fun i => ∃ p : Nat, p ≤ n ∧ i = .int .i64 p ∧ findI n k f one = findR k one (n - max p f0) (max p f0)) (fun i => n - (intOf i).toNat)
  case atStart => exact ⟨0, by omega, rfl, by rw [HFI.out, Nat.max_eq_right (Nat.zero_le _)]⟩
  case round =>
    obtain ⟨p, hp, rfl, hfi⟩ := hrel
    by_cases hlt : p < n
    · have hc := h.cell hlt
      by_cases hpf : (p : Int) < f
      · have HF := Lib.hid hfi
        clear hfi
        go_wp2
        go_round
        case rel => exact ⟨p + 1, by omega, by go_num, by rw [HF.out, Nat.max_eq_right (by omega), Nat.max_eq_right (by omega)]⟩
        case measure => simp [intOf]; omega
      · rw [Nat.max_eq_left (by omega), findR_step k one n p hlt] at hfi
        have HF := Lib.hid hfi
        clear hfi
        by_cases he : k p = one
        · have he' : (k p == one) = true := by simp [he]
          have HE := Lib.hid he
          clear he
          go_wp2
          go_ret
          exact ⟨ret_int (by rw [HF.out, if_pos HE.out]), rfl⟩
        · have he' : (k p == one) = false := by simp [he]
          have HE := Lib.hid he
          clear he
          go_wp2
          go_round
          case rel => exact ⟨p + 1, by omega, by go_num, by rw [HF.out, if_neg HE.out, Nat.max_eq_left (by omega)]⟩
          case measure => simp [intOf]; omega
    · rw [findR_end k one n _ (by omega)] at hfi
      have HF := Lib.hid hfi
      clear hfi
      go_wp2
      go_ret
      exact ⟨ret_int (by rw [HF.out]), rfl⟩
end
theorem info109 : (Try.prog.info? 109).map (fun i => (i.zero, i.size, i.bytes)) = some (some (.agg #[.int .i64 0, .int .i64 0]), 2, 16) := by kernel_rfl
end Go.Proofs.Ytffdklcpkkcohaa
