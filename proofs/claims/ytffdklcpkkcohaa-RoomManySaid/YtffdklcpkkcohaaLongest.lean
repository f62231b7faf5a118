/- Contract of Longest. -/
import Derived.Test.YtffdklcpkkcohaaRuns2
namespace Go.Proofs.Ytffdklcpkkcohaa
open Go.RowKit
theorem rs_bounds (K : Nat → Bool) : ∀ i, ∀ x ∈ rs K i, x.1 ≤ x.2 ∧ x.2 < i
  | 0, x, h => by simp [rs] at h
  | i + 1, x, h => by
    have ih := rs_bounds K i
    by_cases hk : K i = true
    · by_cases hp : 0 < i ∧ K (i - 1) = true
      · rw [rs_more K i hk hp, List.mem_append] at h
        obtain ⟨y, hy, _⟩ := rs_some K i hp
        rcases h with h | h
        · have := ih x ((List.dropLast_sublist _).subset h); omega
        · rw [hy] at h
          simp at h
          subst h
          have := ih y (List.mem_of_getLast? hy)
          show y.1 ≤ i ∧ i < i + 1
          omega
      · rw [rs_one K i hk hp, List.mem_append] at h
        rcases h with h | h
        · have := ih x h; omega
        · simp at h; subst h; show i ≤ i ∧ i < i + 1; omega
    · rw [rs_zero K i (by simpa using hk)] at h
      have := ih x h; omega
def longStep (a : Nat × Nat) (x : Nat × Nat) : Nat × Nat := if a.2 < x.2 - x.1 + 1 then (x.1, x.2 - x.1 + 1) else a
/-- the longest stretch: where it begins, how long it is -/
def longF (L : List (Nat × Nat)) : Nat × Nat := L.foldl longStep (0, 0)
theorem longF_succ {L : List (Nat × Nat)} {j : Nat} {x : Nat × Nat} (h : L[j]? = some x) : longF (L.take (j + 1)) = longStep (longF (L.take j)) x := by
  unfold longF
  rw [List.take_add_one, h]
  simp
theorem longF_le {L : List (Nat × Nat)} {n : Nat} (h : ∀ x ∈ L, x.1 ≤ x.2 ∧ x.2 < n) (j : Nat) : (longF (L.take j)).1 ≤ n ∧ (longF (L.take j)).2 ≤ n := by
  induction j with
  | zero => simp [longF]
  | succ j ih =>
    cases hx : L[j]? with
    | none =>
      rw [List.take_add_one, hx]; simpa using ih
    | some x =>
      rw [longF_succ hx]
      have := h x (List.mem_of_getElem? hx)
      unfold longStep
      split
      · exact ⟨by show x.1 ≤ n; omega, by show x.2 - x.1 + 1 ≤ n; omega⟩
      · exact ih
theorem rmruns_sl (b bb n : Nat) (s : Nat → Int) (v : Int) (w : World) (hr : RoomAt w b bb n s) : Calls Try.prog 37 #[.pointer (some ⟨b, 0, none⟩), .int .i64 v] w fun e w' => ∃ a cap, e = .returned (.slice a (rs (stK s v) n).length cap) ∧ RunsIn w' w.heap.size a (rs (stK s v) n) ∧ Below w.heap.size w w' := by
  refine (rmruns_any b bb n s v w hr).mono ?_
  rintro e w' ⟨v, rfl, ho, hb⟩
  obtain ⟨a, cap, rfl, h⟩ := runs_shape ho
  exact ⟨a, cap, rfl, h, hb⟩
theorem lruns_sl (g n cap : Nat) (s : Nat → Int) (v : Int) (w : World) (h : IntsAt w g n s) : Calls Try.prog 64 #[.slice (some ⟨g, 0, none⟩) n cap, .int .i64 v] w fun e w' => ∃ a cap, e = .returned (.slice a (rs (stK s v) n).length cap) ∧ RunsIn w' w.heap.size a (rs (stK s v) n) ∧ Below w.heap.size w w' := by
  refine (lruns_any g n cap s v w h).mono ?_
  rintro e w' ⟨v, rfl, ho, hb⟩
  obtain ⟨a, cap, rfl, h⟩ := runs_shape ho
  exact ⟨a, cap, rfl, h, hb⟩
set_option maxRecDepth 100000 in
set_option maxHeartbeats 1000000 in
theorem longest_any (b bb n : Nat) (s : Nat → Int) (v : Int) (w : World) (hr : RoomAt w b bb n s) : Calls Try.prog 36 #[.pointer (some ⟨b, 0, none⟩), .int .i64 v] w fun e w' => e = .returned (.tuple #[.int .u32 ((longF (rs (stK s v) n)).1 : Nat), .int .i64 ((longF (rs (stK s v) n)).2 : Nat)]) ∧ Below w.heap.size w w' := by
  have hn := hr.most
  have HR := Lib.hid (rmruns_sl b bb n s v w hr)
  have HBD := Lib.hid (rs_bounds (stK s v) n)
  have hll := rs_len (stK s v) n
  clear hr
  generalize rs (stK s v) n = L at *
  obtain ⟨M, hM⟩ : ∃ M, L.length = M := ⟨_, rfl⟩
  rw [hM] at HR hll
  have HM := Lib.hid hM
  clear hM
  go_enter Try.func36, Try.ntmps36
  go_wp2_with fail
  refine HR.out.mono ?_
  rintro e w1 ⟨a, c, rfl, hI, hB⟩
  have HI := Lib.hid hI
  have HB1 := Lib.hid hB
  clear hI hB HR
  go_wp2_with fail
  go_loopw [6, 7, 15] (fun x y i wr => ∃ j : Nat, j ≤ M ∧ i = .int .i64 j ∧ x = .int .i64 ((longF (L.take j)).1 : Nat) ∧ y = .int .i64 ((longF (L.take j)).2 : Nat) ∧ Below w1.heap.size w1 wr) (fun _ _ i _ => M - (intOf i).toNat)
  case atStart => exact ⟨0, by omega, rfl, rfl, rfl, Below.refl _ _⟩
  case round =>
    obtain ⟨j, hj, rfl, rfl, rfl, hB⟩ := hrel
    have HB := Lib.hid hB
    have hsz := hB.size
    by_cases hlt : j < M
    · obtain ⟨g, rfl, hg1, hg2, hcs⟩ := (HI.out.below hB) (by rw [HM.out]; omega)
      have hx := List.getElem?_eq_getElem (l := L) (show j < L.length by rw [HM.out]; exact hlt)
      generalize L[j]'(show j < L.length by rw [HM.out]; exact hlt) = x at hx
      obtain ⟨c0, c1⟩ := hcs j x hx
      obtain ⟨x1, x2⟩ := x
      have hb := HBD.out _ (List.mem_of_getElem? hx)
      have hls := longF_succ hx
      have hle := longF_le HBD.out j
      unfold longStep at hls
      simp only at hb hls c0 c1
      have HX := Lib.hid hx
      clear hcs hx
      have hb1 := hb.1
      have hb2 := hb.2
      have HBA := Lib.hid (HB.out.alloc hsz (.cells #[.int .i64 (x1 : Int), .int .i64 (x2 : Int)] 99))
      by_cases hlt2 : (longF (L.take j)).2 < x2 - x1 + 1
      · rw [if_pos hlt2] at hls
        have HS := Lib.hid hls
        generalize longF (L.take j) = q at *
        obtain ⟨q1, q2⟩ := q
        simp only at hlt2 hle
        clear hls hB hb
        go_wp2_with fail
        exact ⟨⟨j + 1, by omega, by go_num, by rw [HS.out], by rw [HS.out]; show Value.int .i64 _ = .int .i64 ((x2 - x1 + 1 : Nat) : Int); rw [show ((x2 - x1 + 1 : Nat) : Int) = (x2 : Int) - x1 + 1 by omega], HBA.out⟩, by simp [intOf]; omega⟩
      · rw [if_neg hlt2] at hls
        have HS := Lib.hid hls
        generalize longF (L.take j) = q at *
        obtain ⟨q1, q2⟩ := q
        simp only at hlt2 hle
        clear hls hB hb
        go_wp2_with fail
        exact ⟨⟨j + 1, by omega, by go_num, by rw [HS.out], by rw [HS.out], HBA.out⟩, by simp [intOf]; omega⟩
    · obtain rfl : j = M := by omega
      have htk : L.take j = L := List.take_of_length_le (by rw [HM.out]; omega)
      have hle := longF_le HBD.out j
      rw [htk] at hle ⊢
      have hle1 := hle.1
      clear hle hB htk
      go_wp2_with fail
      go_ret2
      exact ⟨rfl, below_trans' HB1.out HB.out⟩
end Go.Proofs.Ytffdklcpkkcohaa
