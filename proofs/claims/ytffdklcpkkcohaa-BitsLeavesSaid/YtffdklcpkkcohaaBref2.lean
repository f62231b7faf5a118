/- The reference's stretches. -/
import Derived.Test.YtffdklcpkkcohaaBref
namespace Go.Proofs.Ytffdklcpkkcohaa
open Go.RowKit

theorem owns_run {w : World} {B E g n cap : Nat} {L : List (Nat × Nat)} (h : w.ownsRow B E 2 (.slice (some ⟨g, 0, none⟩) n cap) n (runCells L)) {i : Nat} {x : Nat × Nat} (hx : L[i]? = some x) :
    w.cell? ⟨g, i * 2, none⟩ = some (.int .i64 x.1) ∧ w.cell? ⟨g, i * 2 + 1, none⟩ = some (.int .i64 x.2) ∧ w.frozen? ⟨g, i * 2 + 1, none⟩ = false ∧ i < n := by
  obtain ⟨hl, ⟨h1, _⟩ | ⟨g', cap', cur, hv, hb, hg, hnc, hcm, hcs, htake⟩⟩ := h
  · cases h1
  · cases hv
    have hn : L.length = n := by rw [runCells_len] at hl; omega
    have hi : i < L.length := by
      apply Classical.byContradiction; intro hc
      rw [List.getElem?_eq_none (by omega)] at hx; cases hx
    have key : ∀ j, j < 2 → w.cell? ⟨g, i * 2 + j, none⟩ = (runCells L)[i * 2 + j]? := by
      intro j hj
      rw [cell_of_row w g _ cur E (0, 0) hg, ← htake, List.getElem?_take, if_pos (by omega)]
      simp
    refine ⟨?_, ?_, by simp [World.frozen?, hg], by omega⟩
    · have := key 0 (by omega); rw [runCells_at L i 0 (by omega), hx] at this; exact this
    · rw [key 1 (by omega), runCells_at L i 1 (by omega), hx]; rfl
theorem owns_setLast {w : World} {B E g n cap : Nat} {L : List (Nat × Nat)} (h : w.ownsRow B E 2 (.slice (some ⟨g, 0, none⟩) n cap) n (runCells L)) {i : Nat} {x : Nat × Nat} (hx : L[i]? = some x) (hi : i + 1 = L.length) (y : Nat) :
    (w.setCell ⟨g, i * 2 + 1, none⟩ (.int .i64 y)).ownsRow B E 2 (.slice (some ⟨g, 0, none⟩) n cap) n (runCells (L.dropLast ++ [(x.1, y)])) := by
  obtain ⟨hl, ⟨h1, _⟩ | ⟨g', cap', cur, hv, hb, hg, hnc, hcm, hcs, htake⟩⟩ := h
  · cases h1
  · cases hv
    have hn : L.length = n := by rw [runCells_len] at hl; omega
    have hlen : (L.dropLast ++ [(x.1, y)]).length = n := by simp; omega
    have e := heap_setCell_same w g (i * 2 + 1) cur E (.int .i64 y) hg
    refine ⟨by rw [runCells_len, hlen], .inr ⟨g, cap, _, rfl, hb, e, hnc, hcm, by simpa using hcs, ?_⟩⟩
    apply List.ext_getElem?
    intro t
    by_cases ht : t < n * 2
    · obtain ⟨p, j, hp, hj, rfl⟩ : ∃ p j, p < n ∧ j < 2 ∧ t = p * 2 + j := ⟨t / 2, t % 2, by omega, by omega, by omega⟩
      rw [runCells_at _ p j hj, List.getElem?_take, if_pos (by omega)]
      simp only [Array.getElem?_toList, Array.getElem?_setIfInBounds]
      have hold : cur[p * 2 + j]? = (L[p]?).bind (fun o => [Value.int .i64 o.1, Value.int .i64 o.2][j]?) := by
        rw [← runCells_at L p j hj, ← htake, List.getElem?_take, if_pos (by omega)]; simp
      by_cases hpi : p = i
      · subst hpi
        rw [List.getElem?_append_right (by simp; omega)]
        have e0 : p - L.dropLast.length = 0 := by simp; omega
        rw [e0]
        rw [hx] at hold
        match j, hj with
        | 0, _ => rw [if_neg (by omega), hold]; rfl
        | 1, _ => rw [if_pos (by omega), if_pos (by omega)]; rfl
      · rw [if_neg (by omega), hold, List.getElem?_append_left (by simp; omega), List.getElem?_dropLast, if_pos (by omega)]
    · rw [List.getElem?_eq_none (by simp; omega), List.getElem?_eq_none (by rw [runCells_len, hlen]; omega)]
theorem last_at {L : List (Nat × Nat)} {x : Nat × Nat} (h : L.getLast? = some x) : L[L.length - 1]? = some x := by
  rw [← List.getLast?_eq_getElem?]; exact h
theorem rruns_rel {n p m g2 c2 : Nat} {k : Nat → Bool} {w w1 : World} (h : rs k (p + 1) = rs k p ++ [(p, p)]) (hm : (rs k p).length = m) (hp : p + 1 ≤ n)
    (ho : w1.ownsRow w.heap.size 109 2 (.slice (some ⟨g2, 0, none⟩) (m + 1) c2) (m + 1) (runCells (rs k p) ++ [.int .i64 p, .int .i64 p])) (hb : Below w.heap.size w w1) :
    ∃ q g1 c1 : Nat, q ≤ n ∧ Value.int .i64 ((p : Int) + 1) = .int .i64 q ∧ Value.slice (some ⟨g2, 0, none⟩) (m + 1) c2 = .slice (some ⟨g1, 0, none⟩) (rs k q).length c1 ∧ w1.ownsRow w.heap.size 109 2 (.slice (some ⟨g1, 0, none⟩) (rs k q).length c1) (rs k q).length (runCells (rs k q)) ∧ Below w.heap.size w w1 := by
  have hl : (rs k (p + 1)).length = m + 1 := by rw [h, List.length_append, hm]; rfl
  refine ⟨p + 1, g2, c2, hp, rfl, by rw [hl], ?_, hb⟩
  rw [hl, h, runCells_append]; exact ho
set_option maxRecDepth 100000 in
set_option maxHeartbeats 1000000 in
theorem rruns_any (g n cap : Nat) (k : Nat → Bool) (w : World) (h : BoolsAt w g n k) : Calls Try.prog 69 #[.slice (some ⟨g, 0, none⟩) n cap] w (RunsPost 109 (rs k n) w) := by
  have hn := h.2.1
  have hg := h.1
  obtain ⟨i0, hi, hz0, hz1, hz2⟩ := info_parts info109
  go_enter Try.func69, Try.ntmps69
  go_wp2
  go_loopw [3, 4, 5] (fun v i _ wr => ∃ p g1 c1 : Nat, p ≤ n ∧ i = .int .i64 p ∧ v = .slice (some ⟨g1, 0, none⟩) (rs k p).length c1 ∧ wr.ownsRow w.heap.size 109 2 (.slice (some ⟨g1, 0, none⟩) (rs k p).length c1) (rs k p).length (runCells (rs k p)) ∧ Below w.heap.size w wr) (fun _ i _ _ => n - (intOf i).toNat)
  case atStart => exact ⟨0, w.heap.size, 0, by omega, rfl, rfl, own_empty w 109 2, (Below.refl _ _).alloc (Nat.le_refl _) _⟩
  case round =>
    obtain ⟨p, g1, c1, hp, rfl, rfl, hown, hbel⟩ := hrel
    have hsz := hbel.size
    have hrl := rs_len k p
    have hbase := hown.lt g1 rfl
    have hb1 := hbase.1
    have hb2 := hbase.2
    have HB := Lib.hid hbel
    by_cases hlt : p < n
    · have hc := (h.below hbel).cell hlt
      cases hk : k p
      · rw [hk] at hc
        have HS := Lib.hid (rs_zero k p hk)
        have HO := Lib.hid hown
        clear hk hown hbel hbase
        go_wp2
        go_roundw
        case rel => exact ⟨p + 1, g1, c1, by omega, by go_num, by rw [HS.out], by rw [HS.out]; exact HO.out, HB.out⟩
        case measure => simp [intOf]; omega
      · rw [hk] at hc
        by_cases hcond : 0 < p ∧ k (p - 1) = true
        · obtain ⟨x, hx, hx2⟩ := rs_some k p hcond
          have hxe := (rs_ends k p hx).2 hcond
          have hL0 : (rs k p).length ≠ 0 := by intro e; rw [List.eq_nil_of_length_eq_zero e] at hx; simp at hx
          have hmore := rs_more k p hk hcond
          rw [hx] at hmore
          have hxi := last_at hx
          obtain ⟨d0, d1, d2, d3⟩ := owns_run hown hxi
          have hset := owns_setLast hown hxi (by omega) p
          have hlen : (rs k (p + 1)).length = (rs k p).length := by rw [hmore]; simp; omega
          have HS : Hid (rs k (p + 1) = (rs k p).dropLast ++ [(x.1, p)]) := Lib.hid hmore
          have HSE := Lib.hid hset
          have HLE := Lib.hid hlen
          obtain ⟨m, hm⟩ : ∃ m, (rs k p).length = m + 1 := ⟨(rs k p).length - 1, by omega⟩
          rw [hm] at d0 d1 d2 hrl
          simp only [Nat.add_sub_cancel] at d0 d1 d2
          have hxe' : ((x.2 : Int) == (p : Int) - 1) = true := by simp [hxe]
          have HM := Lib.hid hm
          have hm2 : 0 < m + 1 := by omega
          clear hk hmore hset hlen hown hbel hbase hx hxi hcond hL0 hxe hx2 d3
          rw [hm]
          clear hm
          go_wp2
          go_roundw
          case rel =>
            refine ⟨p + 1, g1, c1, by omega, by go_num, by rw [HLE.out, HM.out], ?_, HB.out.setCell (by simp; omega) _⟩
            have h1 := HSE.out
            rw [← HS.out] at h1
            rw [HLE.out]
            rw [HM.out] at h1 ⊢
            exact h1
          case measure => simp [intOf]; omega
        · have hone := rs_one k p hk hcond
          have HS := Lib.hid hone
          have HO := Lib.hid hown
          by_cases hL0 : (rs k p).length = 0
          · have HL0 := Lib.hid hL0
            have hle : (rs k p).length ≤ 0 := by omega
            clear hk hown hbel hbase hcond hone
            rw [hL0] at HO hrl
            rw [hL0]
            clear hL0 hle
            go_wp2_with (at_builtin; go_must (refine wpList_append_own _ rfl (.tmp 39) (.tmp 43) 107 rfl w.heap.size 109 i0 (.agg #[.int .i64 0, .int .i64 0]) 2 16 Try.underlying107 hi hz0 hz1 hz2 rfl (by decide) _ _ _ rfl (HO.out.alloc _) ⟨wr.heap.size, 0, none⟩ 1 1 [.int .i64 p, .int .i64 p] rfl rfl (cell_two_at wr _ _ _ _ rfl) (two_one _ _) (by unfold maxLen; omega) (by omega) (by simp; omega) ?_); intro v2 w1 hown2 hgrow2 hnil; obtain ⟨g2, c2, rfl, hb2, hs2⟩ := owns_some hown2 (fun e => by have := (hnil.1 e).1; cases this); have HO2 := Lib.hid hown2; have HB2 := Lib.hid ((HB.out.alloc hsz _).grown hgrow2 (by simp; omega) (fun q hq => (HO.out.lt q hq).1)); clear hown2 hgrow2 hnil)
            go_roundw
            case rel => exact rruns_rel HS.out HL0.out (by omega) HO2.out HB2.out
            case measure => simp [intOf]; omega
          · obtain ⟨x, hx⟩ : ∃ x, (rs k p).getLast? = some x := by
              cases hc : (rs k p).getLast? with
              | none => simp at hc; rw [hc] at hL0; simp at hL0
              | some x => exact ⟨x, rfl⟩
            have hxe : ¬ ((x.2 : Int) = (p : Int) - 1) := fun e => hcond ((rs_ends k p hx).1 e)
            have hxe' : ((x.2 : Int) == (p : Int) - 1) = false := by simp [hxe]
            have hxi := last_at hx
            obtain ⟨d0, d1, d2, d3⟩ := owns_run hown hxi
            obtain ⟨m, hm⟩ : ∃ m, (rs k p).length = m + 1 := ⟨(rs k p).length - 1, by omega⟩
            rw [hm] at d0 d1 d2 hrl HO
            simp only [Nat.add_sub_cancel] at d0 d1 d2
            have HM := Lib.hid hm
            have hm2 : 0 < m + 1 := by omega
            clear hk hown hbel hbase hx hxi hcond hL0 hxe d3 hone
            rw [hm]
            clear hm
            go_wp2_with (at_builtin; go_must (refine wpList_append_own _ rfl (.tmp 39) (.tmp 43) 107 rfl w.heap.size 109 i0 (.agg #[.int .i64 0, .int .i64 0]) 2 16 Try.underlying107 hi hz0 hz1 hz2 rfl (by decide) _ _ _ rfl (HO.out.alloc _) ⟨wr.heap.size, 0, none⟩ 1 1 [.int .i64 p, .int .i64 p] rfl rfl (cell_two_at wr _ _ _ _ rfl) (two_one _ _) (by unfold maxLen; omega) (by omega) (by simp; omega) ?_); intro v2 w1 hown2 hgrow2 hnil; obtain ⟨g2, c2, rfl, hb2, hs2⟩ := owns_some hown2 (fun e => by have := (hnil.1 e).1; cases this); have HO2 := Lib.hid hown2; have HB2 := Lib.hid ((HB.out.alloc hsz _).grown hgrow2 (by simp; omega) (fun q hq => (HO.out.lt q hq).1)); clear hown2 hgrow2 hnil)
            go_roundw
            case rel => exact rruns_rel HS.out HM.out (by omega) HO2.out HB2.out
            case measure => simp [intOf]; omega
    · go_wp2
      go_ret
      obtain rfl : p = n := by omega
      exact ⟨_, rfl, hown, HB.out⟩
end Go.Proofs.Ytffdklcpkkcohaa
