/- 'says' of the bits' laws: a map says what the list of bools says; awake. -/
import Derived.Test.YtffdklcpkkcohaaBref2
namespace Go.Proofs.Ytffdklcpkkcohaa
open Go.RowKit

/-- a slice of stretches, as a walk reads it -/
def RunsIn (w : World) (B : Nat) (a : Option Addr) (L : List (Nat × Nat)) : Prop :=
  0 < L.length → ∃ g, a = some ⟨g, 0, none⟩ ∧ B ≤ g ∧ g < w.heap.size ∧ ∀ i x, L[i]? = some x → w.cell? ⟨g, i * 2, none⟩ = some (.int .i64 x.1) ∧ w.cell? ⟨g, i * 2 + 1, none⟩ = some (.int .i64 x.2)
theorem runs_shape {w : World} {B E : Nat} {v : Value} {L : List (Nat × Nat)} (h : w.ownsRow B E 2 v L.length (runCells L)) : ∃ a cap, v = .slice a L.length cap ∧ RunsIn w B a L := by
  rcases h.2 with ⟨rfl, h0⟩ | ⟨g, cap, cur, rfl, hb, hg, hnc, hcm, hcs, htake⟩
  · exact ⟨none, 0, by rw [h0], fun h => by omega⟩
  · refine ⟨_, _, rfl, fun _ => ⟨g, rfl, hb, (Array.getElem?_eq_some_iff.1 hg).1, fun i x hx => ?_⟩⟩
    obtain ⟨h1, h2, _⟩ := owns_run h hx
    exact ⟨h1, h2⟩
theorem RunsIn.below {w w' : World} {B : Nat} {a : Option Addr} {L : List (Nat × Nat)} (h : RunsIn w B a L) (hb : Below w.heap.size w w') : RunsIn w' B a L := by
  intro hn
  obtain ⟨g, h1, h2, h3, h4⟩ := h hn
  refine ⟨g, h1, h2, Nat.lt_of_lt_of_le h3 hb.size, fun i x hx => ?_⟩
  obtain ⟨c1, c2⟩ := h4 i x hx
  exact ⟨(hb.cell (p := ⟨g, i * 2, none⟩) h3).trans c1, (hb.cell (p := ⟨g, i * 2 + 1, none⟩) h3).trans c2⟩
theorem runs_sl (b bb n : Nat) (k : Nat → Bool) (w : World) (hm : MapAt w b bb n k) : Calls Try.prog 56 #[.pointer (some ⟨b, 0, none⟩)] w fun e w' => ∃ a cap, e = .returned (.slice a (rs k n).length cap) ∧ RunsIn w' w.heap.size a (rs k n) ∧ Below w.heap.size w w' := by
  refine (runs_any b bb n k w hm).mono ?_
  rintro e w' ⟨v, rfl, ho, hb⟩
  obtain ⟨a, cap, rfl, h⟩ := runs_shape ho
  exact ⟨a, cap, rfl, h, hb⟩
theorem rruns_sl (g n cap : Nat) (k : Nat → Bool) (w : World) (h : BoolsAt w g n k) : Calls Try.prog 69 #[.slice (some ⟨g, 0, none⟩) n cap] w fun e w' => ∃ a cap, e = .returned (.slice a (rs k n).length cap) ∧ RunsIn w' w.heap.size a (rs k n) ∧ Below w.heap.size w w' := by
  refine (rruns_any g n cap k w h).mono ?_
  rintro e w' ⟨v, rfl, ho, hb⟩
  obtain ⟨a, cap, rfl, h⟩ := runs_shape ho
  exact ⟨a, cap, rfl, h, hb⟩
theorem hasI_neg (n : Nat) (k : Nat → Bool) : hasI n k (-1) = false := by simp [hasI]
theorem hasI_in (n : Nat) (k : Nat → Bool) (p : Nat) (h : p < n) : hasI n k p = k p := by
  rw [hasI, decide_eq_true (by omega), decide_eq_true (by omega)]; rfl
theorem hasI_end (n : Nat) (k : Nat → Bool) : hasI n k n = false := by simp [hasI]
set_option maxRecDepth 100000 in
set_option maxHeartbeats 2000000 in
theorem says_any (b bb g n cap : Nat) (k : Nat → Bool) (f : Int) (w : World) (hm : MapAt w b bb n k) (hg : BoolsAt w g n k) :
    Calls Try.prog 17 #[.pointer (some ⟨b, 0, none⟩), .slice (some ⟨g, 0, none⟩) n cap, .int .i64 f] w fun e w' => e = .returned (.bool true) ∧ Below w.heap.size w w' := by
  have hn := hm.2.2.2.1
  go_enter Try.func17, Try.ntmps17
  go_wp2_with (first | (go_at_call 50; refine (size_any b bb n k _ hm).mono ?_; rintro e w' ⟨rfl, rfl⟩) | (go_at_call 51; refine (count_any b bb n k _ hm).mono ?_; rintro e w' ⟨rfl, rfl⟩) | (go_at_call 21; refine (rcount_any g n cap k _ hg).mono ?_; rintro e w' ⟨rfl, rfl⟩) | (go_at_call 54; refine (free_any b bb n k _ _ hm).mono ?_; rintro e w' ⟨rfl, rfl⟩) | (go_at_call 55; refine (next_any b bb n k _ _ hm).mono ?_; rintro e w' ⟨rfl, rfl⟩) | (go_at_call 20; refine (rnext_any g n cap k _ _ _ hg).mono ?_; rintro e w' ⟨rfl, rfl⟩))
  go_loop [7] (fun i => ∃ p : Nat, p ≤ n + 2 ∧ i = .int .i64 ((p : Int) - 1)) (fun i => n + 2 - (intOf i + 1).toNat)
  case atStart => exact ⟨0, by omega, rfl⟩
  case round =>
    obtain ⟨p, hp, rfl⟩ := hrel
    by_cases h0 : p = 0
    · subst h0
      have hh := hasI_neg n k
      have HH := Lib.hid (has_any b bb n k w (-1) hm)
      rw [hh] at HH
      go_wp2_with (go_at_call 52; refine HH.out.mono ?_; rintro e w' ⟨rfl, rfl⟩)
      go_round
      case rel => exact ⟨1, by omega, by go_num⟩
      case measure => simp [intOf]
    · obtain ⟨q, rfl⟩ : ∃ q, p = q + 1 := ⟨p - 1, by omega⟩
      rw [show ((q + 1 : Nat) : Int) - 1 = (q : Int) by omega]
      by_cases h1 : q < n
      · have hc := hg.cell h1
        have HH := Lib.hid (has_in b bb n k w q hm h1)
        cases hk : k q
        all_goals
          rw [hk] at hc HH
          clear hk h0
          go_wp2_with (go_at_call 52; refine HH.out.mono ?_; rintro e w' ⟨rfl, rfl⟩)
          go_round
          case rel => exact ⟨q + 2, by omega, by go_num⟩
          case measure => simp [intOf]; omega
      · by_cases h2 : q = n
        · subst h2
          have HH := Lib.hid (has_any b bb q k w q hm)
          rw [hasI_end] at HH
          clear h0 h1
          go_wp2_with (go_at_call 52; refine HH.out.mono ?_; rintro e w' ⟨rfl, rfl⟩)
          go_round
          case rel => exact ⟨q + 2, by omega, by go_num⟩
          case measure => simp [intOf]; omega
        · have hqn : n < q := by omega
          have hrl := rs_len k n
          clear h0 h1 h2
          go_wp2_with fail
          refine (runs_sl b bb n k w hm).mono ?_
          rintro e w1 ⟨a1, p1, rfl, hS1, hB1⟩
          have hg1 := hg.below hB1
          have HS1 := Lib.hid hS1
          have HB1 := Lib.hid hB1
          clear hS1 hB1
          go_wp2_with fail
          refine (rruns_sl g n cap k w1 hg1).mono ?_
          rintro e w2 ⟨a2, p2, rfl, hS2, hB2⟩
          have HS2 := Lib.hid hS2
          have HS3 := Lib.hid (HS1.out.below hB2)
          have HB2 := Lib.hid (below_trans' HB1.out hB2)
          clear hS2 hB2 hg1
          generalize hRL : rs k n = L at *
          go_wp2_with fail
          go_loopw [10] (fun i wq => ∃ j m : Nat, j ≤ L.length ∧ i = .int .i64 j ∧ wq = w2.drewN m) (fun i _ => L.length - (intOf i).toNat)
          case atStart => exact ⟨0, 0, by omega, rfl, rfl⟩
          case round =>
            obtain ⟨j, m, hj, rfl, rfl⟩ := hrel
            by_cases hjm : j < L.length
            · obtain ⟨g1, rfl, -, hg1, hc1⟩ := HS3.out (by omega)
              obtain ⟨g2, rfl, -, hg2, hc2⟩ := HS2.out (by omega)
              obtain ⟨x, hx⟩ : ∃ x, L[j]? = some x := ⟨_, List.getElem?_eq_getElem hjm⟩
              obtain ⟨c1, c2⟩ := hc1 j x hx
              obtain ⟨d1, d2⟩ := hc2 j x hx
              clear hc1 hc2 hx
              go_wp2
              go_quiet (fail)
              go_wp2
              go_roundw
              case rel => exact ⟨j + 1, _, by omega, by go_num, rfl⟩
              case measure => simp [intOf]; omega
            · go_wp2
              go_ret
              exact ⟨rfl, below_drewN HB2.out m⟩
end Go.Proofs.Ytffdklcpkkcohaa
