/- Contracts: the room's stretches, the law's stretches. -/
import Derived.Test.YtffdklcpkkcohaaManyMath
import Derived.Test.YtffdklcpkkcohaaRoom5
namespace Go.Proofs.Ytffdklcpkkcohaa
open Go.RowKit
/-- a slice of stretches that is being laid -/
def RunsV (w : World) (B : Nat) (vv : Value) (L : List (Nat × Nat)) : Prop :=
  (L = [] ∧ vv = .slice none 0 0) ∨ (∃ m g c, L.length = m + 1 ∧ vv = .slice (some ⟨g, 0, none⟩) (m + 1) c ∧ w.ownsRow B 99 2 vv (m + 1) (runCells L))
theorem RunsV.below {w w' : World} {B : Nat} {vv : Value} {L : List (Nat × Nat)} (h : RunsV w B vv L) (hb : Below w.heap.size w w') : RunsV w' B vv L := by
  rcases h with h | ⟨m, g, c, h1, h2, h3⟩
  · exact .inl h
  · refine .inr ⟨m, g, c, h1, h2, h3.kept (only_of_below hb none) ?_⟩
    subst h2
    right; simp [Value.ownBlock]
theorem RunsV.own {w : World} {B : Nat} {vv : Value} {L : List (Nat × Nat)} (h : RunsV w B vv L) : w.ownsRow B 99 2 vv L.length (runCells L) := by
  rcases h with ⟨rfl, rfl⟩ | ⟨m, g, c, h1, h2, h3⟩
  · exact World.ownsRow_nil w B 99 2
  · rw [h1]; exact h3
theorem own_base {w : World} {B B' e size n : Nat} {v : Value} {xs : List Value} (h : w.ownsRow B e size v n xs) (hb : B' ≤ B) : w.ownsRow B' e size v n xs := by
  refine ⟨h.1, ?_⟩
  rcases h.2 with h | ⟨g, cap, cur, h1, h2, h3⟩
  · exact .inl h
  · exact .inr ⟨g, cap, cur, h1, Nat.le_trans hb h2, h3⟩
def stK (s : Nat → Int) (v : Int) : Nat → Bool := fun i => s i == v
/-- what becomes of the stretches at a block of the state -/
theorem runs_cases {w : World} {B : Nat} {vv : Value} {K : Nat → Bool} {p : Nat} (h : RunsV w B vv (rs K p)) (hk : K p = true) :
    (vv = .slice none 0 0 ∧ rs K (p + 1) = [(p, p)]) ∨
    (∃ m g c x1 x2, vv = .slice (some ⟨g, 0, none⟩) (m + 1) c ∧ m + 1 ≤ p ∧ B ≤ g ∧ w.cell? ⟨g, m * 2, none⟩ = some (.int .i64 (x1 : Nat)) ∧ w.cell? ⟨g, m * 2 + 1, none⟩ = some (.int .i64 (x2 : Nat)) ∧ w.frozen? ⟨g, m * 2 + 1, none⟩ = false ∧
      (((((x2 : Nat) : Int) == (p : Int) - 1) = true ∧ RunsV (w.setCell ⟨g, m * 2 + 1, none⟩ (.int .i64 p)) B vv (rs K (p + 1))) ∨
       ((((x2 : Nat) : Int) == (p : Int) - 1) = false ∧ (rs K p).length = m + 1 ∧ rs K (p + 1) = rs K p ++ [(p, p)] ∧ w.ownsRow B 99 2 vv (m + 1) (runCells (rs K p))))) := by
  rcases h with ⟨h1, h2⟩ | ⟨m, g, c, h1, h2, h3⟩
  · left
    refine ⟨h2, ?_⟩
    have hc : ¬ (0 < p ∧ K (p - 1) = true) := fun hc => by
      obtain ⟨x, hx, _⟩ := rs_some K p hc
      rw [h1] at hx; cases hx
    rw [rs_one K p hk hc, h1]; rfl
  · right
    subst h2
    have hrl := rs_len K p
    obtain ⟨x, hx⟩ : ∃ x, (rs K p).getLast? = some x := by
      cases hc : (rs K p).getLast? with
      | none => simp at hc; rw [hc] at h1; cases h1
      | some x => exact ⟨x, rfl⟩
    have hxi := last_at hx
    obtain ⟨d0, d1, d2, _⟩ := owns_run h3 hxi
    rw [h1] at d0 d1 d2
    simp only [Nat.add_sub_cancel] at d0 d1 d2
    refine ⟨m, g, c, x.1, x.2, rfl, by omega, (h3.lt g rfl).1, d0, d1, d2, ?_⟩
    by_cases hcond : 0 < p ∧ K (p - 1) = true
    · left
      have hxe := (rs_ends K p hx).2 hcond
      refine ⟨by simp [hxe], .inr ⟨m, g, c, ?_, rfl, ?_⟩⟩
      · have hmore := rs_more K p hk hcond
        rw [hmore]; simp; omega
      · have hset := owns_setLast h3 hxi (by omega) p
        rw [h1] at hset
        simp only [Nat.add_sub_cancel] at hset
        have hmore := rs_more K p hk hcond
        rw [hx] at hmore
        rw [hmore]; exact hset
    · right
      have hxe : ¬ ((x.2 : Int) = (p : Int) - 1) := fun e => hcond ((rs_ends K p hx).1 e)
      exact ⟨by simp [hxe], h1, rs_one K p hk hcond, h3⟩
theorem runsV_one {w : World} {B p : Nat} {v : Value} {L L' : List (Nat × Nat)} (h : L' = L ++ [(p, p)]) (ho : w.ownsRow B 99 2 v (L.length + 1) (runCells L ++ [.int .i64 p, .int .i64 p])) (hv : v ≠ .slice none 0 0) : RunsV w B v L' := by
  obtain ⟨g, c, rfl, _, _⟩ := owns_some ho hv
  refine .inr ⟨L.length, g, c, by rw [h]; simp, rfl, ?_⟩
  rw [h, runCells_append]; exact ho
set_option maxRecDepth 100000 in
set_option maxHeartbeats 2000000 in
theorem lruns_any (g n cap : Nat) (s : Nat → Int) (v : Int) (w : World) (h : IntsAt w g n s) : Calls Try.prog 64 #[.slice (some ⟨g, 0, none⟩) n cap, .int .i64 v] w (RunsPost 99 (rs (stK s v) n) w) := by
  have hn := h.2.1
  obtain ⟨i0, hi, hz0, hz1, hz2⟩ := info_parts info99
  have H := Lib.hid h
  clear h
  go_enter Try.func64, Try.ntmps64
  go_wp2_with fail
  go_loopw [5, 10] (fun vv i wr => ∃ p : Nat, p ≤ n ∧ i = .int .i64 p ∧ RunsV wr w.heap.size vv (rs (stK s v) p) ∧ Below w.heap.size w wr) (fun _ i _ => n - (intOf i).toNat)
  case atStart => exact ⟨0, by omega, rfl, .inl ⟨rfl, rfl⟩, Below.refl _ _⟩
  case round =>
    obtain ⟨p, hp, rfl, hV, hB⟩ := hrel
    have hsz := hB.size
    have HV := Lib.hid hV
    have HB := Lib.hid hB
    clear hV hB
    by_cases hlt : p < n
    · have hc := (H.out.below HB.out).cell hlt
      by_cases he : s p = v
      · have HK : Hid (stK s v p = true) := Lib.hid (by simp [stK, he])
        have t1 : (s p != v) = false := by simp [he]
        rw [he] at hc
        clear he t1
        rcases runs_cases HV.out HK.out with ⟨rfl, hone⟩ | ⟨m, g, c, x1, x2, rfl, hmp, hBg, d0, d1, d2, ⟨tx, hset⟩ | ⟨tx, hlen, hone, hown⟩⟩
        · have HS : Hid (rs (stK s v) (p + 1) = [] ++ [(p, p)]) := Lib.hid (by rw [hone]; rfl)
          have HO := Lib.hid (World.ownsRow_nil wr w.heap.size 99 2)
          clear hone
          go_wp2_with (at_builtin; go_must (refine wpList_append_own _ rfl (.tmp 40) (.tmp 44) 64 rfl w.heap.size 99 i0 (.agg #[.int .i64 0, .int .i64 0]) 2 16 Try.underlying64 hi hz0 hz1 hz2 rfl (by decide) _ _ _ rfl (HO.out.alloc _) ⟨wr.heap.size, 0, none⟩ 1 1 [.int .i64 p, .int .i64 p] rfl rfl (cell_two_at wr _ _ _ _ rfl) (two_one _ _) (by unfold maxLen; omega) (by omega) (by simp; omega) ?_); intro v2 w3 hown2 hgrow2 hnil; have HO2 := Lib.hid (runsV_one HS.out hown2 (fun e => absurd (hnil.1 e).2 (by decide))); have HB2 := Lib.hid ((HB.out.alloc hsz _).grown hgrow2 (by simp; omega) (fun q hq => (HO.out.lt q hq).1)); clear hown2 hgrow2 hnil)
          exact ⟨⟨p + 1, by omega, by go_num, HO2.out, HB2.out⟩, by simp [intOf]; omega⟩
        · have HSE := Lib.hid hset
          clear hset
          go_wp2_with fail
          exact ⟨⟨p + 1, by omega, by go_num, HSE.out, HB.out.setCell hBg _⟩, by simp [intOf]; omega⟩
        · have HS := Lib.hid hone
          have HO := Lib.hid hown
          have HLE := Lib.hid hlen
          clear hone hown hlen
          go_wp2_with (at_builtin; go_must (refine wpList_append_own _ rfl (.tmp 40) (.tmp 44) 64 rfl w.heap.size 99 i0 (.agg #[.int .i64 0, .int .i64 0]) 2 16 Try.underlying64 hi hz0 hz1 hz2 rfl (by decide) _ _ _ rfl (HO.out.alloc _) ⟨wr.heap.size, 0, none⟩ 1 1 [.int .i64 p, .int .i64 p] rfl rfl (cell_two_at wr _ _ _ _ rfl) (two_one _ _) (by unfold maxLen; omega) (by omega) (by simp; omega) ?_); intro v2 w3 hown2 hgrow2 hnil; have HO2 := Lib.hid (runsV_one HS.out (by rw [HLE.out]; exact hown2) (fun e => absurd (hnil.1 e).2 (by decide))); have HB2 := Lib.hid ((HB.out.alloc hsz _).grown hgrow2 (by simp; omega) (fun q hq => (HO.out.lt q hq).1)); clear hown2 hgrow2 hnil)
          exact ⟨⟨p + 1, by omega, by go_num, HO2.out, HB2.out⟩, by simp [intOf]; omega⟩
      · have HS := Lib.hid (rs_zero (stK s v) p (by simp [stK, he]))
        have t1 : (s p != v) = true := by simp [he]
        clear he
        generalize s p = z at *
        go_wp2_with fail
        exact ⟨⟨p + 1, by omega, by go_num, by rw [HS.out]; exact HV.out, HB.out⟩, by simp [intOf]; omega⟩
    · obtain rfl : p = n := by omega
      go_wp2_with fail
      go_ret
      exact ⟨_, rfl, HV.out.own, HB.out⟩
set_option maxRecDepth 100000 in
set_option maxHeartbeats 2000000 in
theorem rmruns_any (b bb n : Nat) (s : Nat → Int) (v : Int) (w : World) (hr : RoomAt w b bb n s) : Calls Try.prog 37 #[.pointer (some ⟨b, 0, none⟩), .int .i64 v] w (RunsPost 99 (rs (stK s v) n) w) := by
  have hn := hr.most
  obtain ⟨i0, hi, hz0, hz1, hz2⟩ := info_parts info99
  have HL := Lib.hid (list_sl b bb n s v w hr)
  have hll := listS_len n s v
  clear hr
  obtain ⟨M, hM⟩ : ∃ M, (listS n s v).length = M := ⟨_, rfl⟩
  rw [hM] at HL hll
  have HM := Lib.hid hM
  clear hM
  go_enter Try.func37, Try.ntmps37
  go_wp2_with fail
  refine HL.out.mono ?_
  rintro e w1 ⟨la, lc, rfl, hU, hB⟩
  have HU := Lib.hid hU
  have HB1 := Lib.hid hB
  have hz1' := hB.size
  clear hU hB HL
  go_wp2_with fail
  go_loopw [5, 14] (fun vv i wr => ∃ q j : Nat, j ≤ M ∧ i = .int .i64 j ∧ (listS q s v).length = j ∧ q ≤ n ∧ RunsV wr w1.heap.size vv (rs (stK s v) q) ∧ Below w1.heap.size w1 wr) (fun _ i _ => M - (intOf i).toNat)
  case atStart => exact ⟨0, 0, by omega, rfl, rfl, by omega, .inl ⟨rfl, rfl⟩, Below.refl _ _⟩
  case round =>
    obtain ⟨q, j, hj, rfl, hlen, hq, hV, hB⟩ := hrel
    have hsz := hB.size
    have HB := Lib.hid hB
    by_cases hlt : j < M
    · obtain ⟨d, hd⟩ : ∃ d, n = q + d := ⟨n - q, by omega⟩
      have hnx := listS_next s v q j d hlen (by rw [← hd, HM.out]; exact hlt)
      rw [← hd] at hnx
      obtain ⟨p, a1, a2, a3, a4, a5, a6⟩ := hnx
      have hz0' := rs_zeros (stK s v) q (p - q) (fun i h1 h2 => by simp [stK]; exact a4 i h1 (by omega))
      rw [show q + (p - q) = p by omega] at hz0'
      rw [← hz0'] at hV
      have HV := Lib.hid hV
      have HK : Hid (stK s v p = true) := Lib.hid (by simp [stK, a3])
      obtain ⟨gl, rfl, hgl1, hgl2, hcell⟩ := (HU.out.below HB.out) (by rw [HM.out]; omega)
      obtain ⟨c0, _⟩ := hcell j p a5
      have HL6 := Lib.hid (show (listS (p + 1) s v).length = j + 1 by rw [a6, List.length_append, hlen]; rfl)
      have hd0 := Lib.hid hd
      clear hV hlen a3 a4 a5 a6 hz0' hcell hd hB
      rcases runs_cases HV.out HK.out with ⟨rfl, hone⟩ | ⟨m, g, c, x1, x2, rfl, hmp, hBg, d0, d1, d2, ⟨tx, hset⟩ | ⟨tx, hlen, hone, hown⟩⟩
      · have HS : Hid (rs (stK s v) (p + 1) = [] ++ [(p, p)]) := Lib.hid (by rw [hone]; rfl)
        have HO := Lib.hid (World.ownsRow_nil wr w1.heap.size 99 2)
        clear hone
        go_wp2_with (at_builtin; go_must (refine wpList_append_own _ rfl (.tmp 41) (.tmp 45) 64 rfl w1.heap.size 99 i0 (.agg #[.int .i64 0, .int .i64 0]) 2 16 Try.underlying64 hi hz0 hz1 hz2 rfl (by decide) _ _ _ rfl (HO.out.alloc _) ⟨wr.heap.size, 0, none⟩ 1 1 [.int .i64 p, .int .i64 p] rfl rfl (cell_two_at wr _ _ _ _ rfl) (two_one _ _) (by unfold maxLen; omega) (by omega) (by simp; omega) ?_); intro v2 w3 hown2 hgrow2 hnil; have HO2 := Lib.hid (runsV_one HS.out hown2 (fun e => absurd (hnil.1 e).2 (by decide))); have HB2 := Lib.hid ((HB.out.alloc hsz _).grown hgrow2 (by simp; omega) (fun q hq => (HO.out.lt q hq).1)); clear hown2 hgrow2 hnil)
        exact ⟨⟨p + 1, j + 1, by omega, by go_num, HL6.out, by omega, HO2.out, HB2.out⟩, by simp [intOf]; omega⟩
      · have HSE := Lib.hid hset
        clear hset
        go_wp2_with fail
        exact ⟨⟨p + 1, j + 1, by omega, by go_num, HL6.out, by omega, HSE.out, HB.out.setCell hBg _⟩, by simp [intOf]; omega⟩
      · have HS := Lib.hid hone
        have HO := Lib.hid hown
        have HLE := Lib.hid hlen
        clear hone hown hlen
        go_wp2_with (at_builtin; go_must (refine wpList_append_own _ rfl (.tmp 41) (.tmp 45) 64 rfl w1.heap.size 99 i0 (.agg #[.int .i64 0, .int .i64 0]) 2 16 Try.underlying64 hi hz0 hz1 hz2 rfl (by decide) _ _ _ rfl (HO.out.alloc _) ⟨wr.heap.size, 0, none⟩ 1 1 [.int .i64 p, .int .i64 p] rfl rfl (cell_two_at wr _ _ _ _ rfl) (two_one _ _) (by unfold maxLen; omega) (by omega) (by simp; omega) ?_); intro v2 w3 hown2 hgrow2 hnil; have HO2 := Lib.hid (runsV_one HS.out (by rw [HLE.out]; exact hown2) (fun e => absurd (hnil.1 e).2 (by decide))); have HB2 := Lib.hid ((HB.out.alloc hsz _).grown hgrow2 (by simp; omega) (fun q hq => (HO.out.lt q hq).1)); clear hown2 hgrow2 hnil)
        exact ⟨⟨p + 1, j + 1, by omega, by go_num, HL6.out, by omega, HO2.out, HB2.out⟩, by simp [intOf]; omega⟩
    · obtain rfl : j = M := by omega
      obtain ⟨d, hd⟩ : ∃ d, n = q + d := ⟨n - q, by omega⟩
      have hev := listS_even s v q d (by rw [← hd, HM.out, hlen])
      have hz0' := rs_zeros (stK s v) q d (fun i h1 h2 => by simp [stK]; exact hev.2 i h1 h2)
      rw [← hd] at hz0'
      rw [← hz0'] at hV
      have HV := Lib.hid hV
      clear hB hV hev hz0' hd hlen
      go_wp2_with fail
      go_ret
      exact ⟨_, rfl, own_base HV.out.own HB1.out.size, below_trans' HB1.out HB.out⟩
end Go.Proofs.Ytffdklcpkkcohaa
