/- RoomMany, walked, where as many are taken. -/
import Derived.Test.YtffdklcpkkcohaaRManyH
namespace Go.Proofs.Ytffdklcpkkcohaa
open Go.RowKit
set_option maxRecDepth 100000 in
set_option maxHeartbeats 4000000 in
theorem rmany_C (n : Nat) (a1 : Option Addr) (l1 c1 : Nat) (f1 : Nat → Nat) (m : Nat) (a2 : Option Addr) (l2 c2 : Nat) (f2 : Nat → Nat) (w : World) (hx1 : U32s w a1 l1 f1) (hl1 : l1 ≤ maxLen) (hx2 : U32s w a2 l2 f2) (hl2 : l2 ≤ c2) (hc2 : c2 ≤ maxLen) (hN : -9223372036854775808 ≤ (m : Int) ∧ (m : Int) ≤ 9223372036854775807)
    (hn1 : 16 ≤ n) (hn2 : n ≤ 8192) (hgood : ∀ i, i < l1 → ¬ BadU n f1 i) (hNF : m ≤ (listS n (usedS f1 l1) 1).length) :
    Calls Try.prog 13 #[.int .i64 n, .slice a1 l1 c1, .agg #[.int .i64 (m : Int), .slice a2 l2 c2]] w fun e w' => e = .returned (.bool true) ∧ Below w.heap.size w w' := by
  have HBX0 : Hid (BoxI (w.alloc (.cells #[.int .i64 (m : Int), .slice a2 l2 c2] 57)) w.heap.size (m : Int) (.slice a2 l2 c2)) := Lib.hid ⟨by simp, by rw [cell_of_row _ _ _ _ _ _ (heap_alloc_new w _)]; rfl, by rw [cell_of_row _ _ _ _ _ _ (heap_alloc_new w _)]; rfl⟩
  have HB0 := Lib.hid ((Below.refl w.heap.size w).alloc (Nat.le_refl _) (.cells #[.int .i64 (m : Int), .slice a2 l2 c2] 57))
  have hl2' := hl2
  unfold maxLen at hc2
  have HX1 := Lib.hid hx1
  have HX2 := Lib.hid hx2
  have HGD := Lib.hid hgood
  have hsz0 : (w.alloc (.cells #[.int .i64 (m : Int), .slice a2 l2 c2] 57)).heap.size = w.heap.size + 1 := by simp
  have HSZ0 := Lib.hid hsz0
  clear hx1 hx2 hgood hsz0
  have HRN := Lib.hid ((rnew_any n a1 l1 c1 f1 _ (HX1.out.below HB0.out) hl1).mono (fun e w' h => show ∃ b bb, e = .returned (.tuple #[.pointer (some ⟨b, 0, none⟩), .int .i64 0, .int .i64 0]) ∧ w.heap.size < b ∧ w.heap.size < bb ∧ RoomAt w' b bb n (usedS f1 l1) ∧ Below (w.alloc (.cells #[.int .i64 (m : Int), .slice a2 l2 c2] 57)).heap.size (w.alloc (.cells #[.int .i64 (m : Int), .slice a2 l2 c2] 57)) w' by
    rcases h with ⟨h2, _⟩ | ⟨n', hn', _, _, ⟨j', hj', hbj', _⟩ | ⟨_, b, bb, h5, h6, h7, h8⟩⟩
    · omega
    · obtain rfl : n' = n := by omega
      exact absurd hbj' (HGD.out j' hj')
    · obtain rfl : n' = n := by omega
      rw [HSZ0.out] at h6 h7
      exact ⟨b, bb, h5, by omega, by omega, h8⟩))
  go_enter Try.func13, Try.ntmps13
  go_wp2_with fail
  refine HRN.out.mono ?_
  rintro e w1 ⟨b, bb, rfl, hb, hbb, hR, hB⟩
  have HB1 := Lib.hid (below_trans' HB0.out hB)
  have HBX1 := Lib.hid (HBX0.out.below hB)
  have HR1 := Lib.hid hR
  have HRF := Lib.hid ((refnew_any n a1 l1 c1 f1 w1 (HX1.out.below HB1.out) hl1).mono (fun e w' h => show ∃ g cap, e = .returned (.tuple #[.slice (some ⟨g, 0, none⟩) n cap, .int .i64 0, .int .i64 0]) ∧ w1.heap.size ≤ g ∧ IntsAt w' g n (usedS f1 l1) ∧ Below w1.heap.size w1 w' by
      rcases h with ⟨h2, _⟩ | ⟨n', hn', _, _, ⟨j', hj', hbj', _⟩ | ⟨_, h5⟩⟩
      · omega
      · obtain rfl : n' = n := by omega
        exact absurd hbj' (HGD.out j' hj')
      · obtain rfl : n' = n := by omega
        exact h5))
  have hs0 : usedS f1 l1 0 = 0 := rfl
  generalize usedS f1 l1 = s0 at *
  have HZ0 := Lib.hid hs0
  clear hR hB HB0 HBX0 HRN hs0
  go_wp2_with fail
  refine HRF.out.mono ?_
  rintro e w2 ⟨g, cg, rfl, hg, hI, hB⟩
  have HBX2 := Lib.hid (HBX1.out.below hB)
  have HP2 := Lib.hid (show PlayI w w2 b bb g n s0 from ⟨HR1.out.below hB, hI, by omega, by omega, by have := HB1.out.size; omega, by have := HR1.out.row.1; omega, HZ0.out, below_trans' HB1.out hB⟩)
  clear hg hI hB HRF HR1 HB1 HBX1
  go_wp2_with fail
  refine (rawake_any _).mono ?_
  rintro e w3 ⟨rfl, hB⟩
  have HP3 := Lib.hid (HP2.out.onto hB)
  have HBX3 := Lib.hid (HBX2.out.below hB)
  have hcN := HBX3.out.2.1
  clear hB HP2 HBX2
  have HTM := Lib.hid ((takemany_any m b bb n s0 w3 HP3.out.room hN).mono (fun e w' h => show ∃ (q : Nat) (a : Option Addr) (c : Nat), q ≤ n ∧ (listS q s0 1).length = m ∧ e = .returned (.tuple #[.slice a m c, .int .i64 0]) ∧ U32In w' w3.heap.size a (listS q s0 1) ∧ RoomAt w' b bb n (tkS s0 q) ∧ w3.grownBy w' (some bb) by
    rcases h with ⟨h, _⟩ | ⟨_, h, _⟩ | ⟨m', q, h1, h2, h3, h4, a, c, h5, h6⟩
    · omega
    · omega
    · obtain rfl : m' = m := by omega
      exact ⟨q, a, c, h3, h4, h5, h6⟩))
  go_wp2_with fail
  refine HTM.out.mono ?_
  rintro e w4 ⟨qm, ta, tc, hqm, hqlen, rfl, hU, hR, hG⟩
  have HB4 := Lib.hid (HP3.out.below.grown hG HP3.out.below.size (fun k hk => by cases hk; exact HP3.out.nbb))
  have HI4 := Lib.hid (HP3.out.ints.only hG (fun e => by injection e with e; exact HP3.out.ne e))
  have HR4 := Lib.hid hR
  have HU4 := Lib.hid hU
  have HBX4 := Lib.hid (HBX3.out.only hG (by omega))
  have HFR := Lib.hid (rlist_sl g n cg s0 w4 1 HI4.out)
  have HQL := Lib.hid hqlen
  have hbb4 : bb < w4.heap.size := hR.row.1
  clear hU hR hG HTM hcN hqlen
  have hll := listS_len n s0 1
  go_wp2_with fail
  refine HFR.out.mono ?_
  rintro e w5 ⟨fa, fc, rfl, _, hB⟩
  have HB5 := Lib.hid (below_trans' HB4.out hB)
  have HI5 := Lib.hid (HI4.out.below hB)
  have HR5 := Lib.hid (HR4.out.below hB)
  have HU5 := Lib.hid (HU4.out.below hB)
  have HBX5 := Lib.hid (HBX4.out.below hB)
  have hbb5 : bb < w5.heap.size := Nat.lt_of_lt_of_le hbb4 hB.size
  have hsz5 := HB5.out.size
  have hcN := HBX5.out.2.1
  have hcL := HBX5.out.2.2
  have hgne := HP3.out.ne
  have hgn := HP3.out.ng
  clear hB HFR HI4 HR4 HU4 HBX4 HB4
  generalize (listS n s0 1).length = F at *
  have hd1 : decide (F < m) = false := decide_eq_false (by omega)
  go_wp2_with fail
  go_loopw [10, 73] (fun vl i wr => ∃ (q j g' c' : Nat), j ≤ m ∧ i = .int .i64 j ∧ vl = .slice (some ⟨g', 0, none⟩) n c' ∧ (listS q s0 1).length = j ∧ q ≤ n ∧ IntsAt wr g' n (tkS s0 q) ∧ (g' = g ∨ w5.heap.size ≤ g') ∧ Below w5.heap.size w5 wr) (fun _ i _ => m - (intOf i).toNat)
  case atStart => exact ⟨0, 0, g, cg, by omega, rfl, rfl, rfl, by omega, HI5.out.congr (fun i _ => tkS_zero s0 i), .inl rfl, Below.refl _ _⟩
  case round =>
    obtain ⟨q, j, g', c', hj, rfl, rfl, hlen, hq, hI, hg', hB⟩ := hrel
    obtain ⟨wS, rfl⟩ : ∃ wS : World, wS = wr := ⟨_, rfl⟩
    have HIS := Lib.hid hI
    have HGS := Lib.hid hg'
    have HBS := Lib.hid hB
    have HLS := Lib.hid hlen
    have HBXS := Lib.hid (HBX5.out.below hB)
    have hcN := HBXS.out.2.1
    have hcL := HBXS.out.2.2
    clear hI hg' hB hlen
    by_cases hjm : j < m
    · have hqq := listS_lt s0 (q := q) (q' := qm) (by rw [HLS.out, HQL.out]; exact hjm)
      have hnx := listS_next s0 1 q j (qm - q) HLS.out (by rw [show q + (qm - q) = qm by omega, HQL.out]; exact hjm)
      rw [show q + (qm - q) = qm by omega] at hnx
      obtain ⟨p, a1', a2', a3, a4, a5, a6⟩ := hnx
      obtain ⟨gt, rfl, _, _, hcell⟩ := (HU5.out.below HBS.out) (by rw [HQL.out]; omega)
      obtain ⟨c0, _⟩ := hcell j p a5
      have HT := Lib.hid ((rtake_any g' n c' (tkS s0 q) wS HIS.out).mono (fun e w' h => show ∃ g2 c2', e = .returned (.tuple #[.slice (some ⟨g2, 0, none⟩) n c2', .int .u32 p, .int .i64 0]) ∧ wS.heap.size ≤ g2 ∧ IntsAt w' g2 n (tkS s0 (p + 1)) ∧ Below wS.heap.size wS w' by
        rcases h with ⟨h, _⟩ | ⟨p', g2, c2', b1, b2, b3, b4, b5, b6, b7⟩
        · exact absurd h (tkS_has s0 q p n a1' a3 (by omega))
        · obtain rfl := tkS_least s0 q p p' a1' a3 a4 b2 b3
          exact ⟨g2, c2', b4, b5, b6.congr (fun i _ => tkS_step s0 q p' a1' a3 a4 i), b7⟩))
      have HL6 := Lib.hid (show (listS (p + 1) s0 1).length = j + 1 by rw [a6, List.length_append, HLS.out]; rfl)
      have HU6 := Lib.hid (fun w' (h : Below wS.heap.size wS w') => (hcell j p a5).1)
      have HCC := Lib.hid (fun w' (h : Below wS.heap.size wS w') => show w'.cell? ⟨gt, j, none⟩ = _ from (((HU5.out.below HBS.out).below h (by rw [HQL.out]; omega)).elim (fun g0 h0 => by
        obtain ⟨k1, _, _, k2⟩ := h0
        cases k1
        exact (k2 j p a5).1)))
      clear a3 a4 a5 a6 hcell HU6 hqq
      go_wp2_with fail
      refine HT.out.mono ?_
      rintro e w7 ⟨g2, c2', rfl, hg2, hI2, hB⟩
      have cq := HCC.out _ hB
      have HI7 := Lib.hid hI2
      have HB7 := Lib.hid (below_trans' HBS.out hB)
      have hz7 := HBS.out.size
      clear hI2 hB HT HCC c0
      go_wp2_with fail
      go_roundw
      case rel => exact ⟨p + 1, j + 1, g2, c2', by omega, by go_num, rfl, HL6.out, by omega, HI7.out, .inr (by omega), HB7.out⟩
      case measure => simp [intOf]; omega
    · obtain rfl : j = m := by omega
      have hev := tkS_even s0 (q := q) (q' := qm) (by rw [HLS.out, HQL.out])
      have hng : w.heap.size ≤ g' ∧ g' ≠ bb := by
        rcases HGS.out with h | h
        · subst h; exact ⟨hgn, hgne⟩
        · exact ⟨by omega, by omega⟩
      have HPS := Lib.hid (show PlayI w wS b bb g' n (tkS s0 qm) from ⟨HR5.out.below HBS.out, HIS.out.congr (fun i _ => hev i), by omega, by omega, hng.1, hng.2, tkS_nought HZ0.out qm, below_trans' HB5.out HBS.out⟩)
      clear hev hng HIS HGS HLS
      -- (tkS s0 qm): the room's and the document's states, g' c' its slice
      go_wp2_with fail
      go_loopw [17, 18, 19, 131] (fun v17 v18 vk i wr => ∃ (p gk ck : Nat), p ≤ l2 ∧ v17 = .int .i64 0 ∧ v18 = .bool false ∧ i = .int .i64 p ∧ vk = .slice (some ⟨gk, 0, none⟩) n ck ∧ IntsAt wr gk n (letF n (tkS s0 qm) f2 p) ∧ (gk = g' ∨ wS.heap.size ≤ gk) ∧ Below wS.heap.size wS wr ∧ ∀ j, j < p → ¬ BadL n (tkS s0 qm) f2 j) (fun _ _ _ i _ => l2 - (intOf i).toNat)
      case atStart => exact ⟨0, g', c', by omega, rfl, rfl, rfl, rfl, HPS.out.ints, .inl rfl, Below.refl _ _, fun j hj => by omega⟩
      case round =>
        obtain ⟨p, gk, ck, hp, rfl, rfl, rfl, rfl, hI, hgk, hB, hall⟩ := hrel
        obtain ⟨w6, rfl⟩ : ∃ w6 : World, w6 = wr := ⟨_, rfl⟩
        have HI6 := Lib.hid hI
        have HGK := Lib.hid hgk
        have HB6 := Lib.hid hB
        have HA6 := Lib.hid hall
        have HBX6 := Lib.hid (HBXS.out.below hB)
        have hcL6 := HBX6.out.2.2
        have hcN6 := HBX6.out.2.1
        have HP6 := Lib.hid (HPS.out.onto hB)
        have HX6 := Lib.hid (HX2.out.below HP6.out.below)
        clear hI hgk hB hall
        by_cases hlt : p < l2
        · obtain ⟨b0, off, rfl, hb0, hcs⟩ := HX6.out.2 (by omega)
          have c0 := hcs p hlt
          have hu := HX6.out.1 p hlt
          have HCS := Lib.hid hcs
          clear hcs
          go_wp2_with fail
          go_loop [22, 141] (fun sv i => ∃ t : Nat, t ≤ p ∧ i = .int .i64 t ∧ sv = .bool (seenTo f2 p t)) (fun _ i => p - (intOf i).toNat)
          case atStart => exact ⟨0, by omega, rfl, rfl⟩
          case round =>
            obtain ⟨t, ht, rfl, rfl⟩ := hrel
            by_cases htp : t < p
            · have c5 := HCS.out t (by omega)
              have HQS := Lib.hid (seenTo_succ f2 p t)
              cases hst : seenTo f2 p t
              · rw [hst] at HQS
                by_cases hee : f2 t = f2 p
                · have tee : ((f2 t : Int) == (f2 p : Int)) = true := by simp; omega
                  have HF := Lib.hid (show seenTo f2 p (t + 1) = true by rw [HQS.out]; simp [hee])
                  clear hst hee HQS
                  go_wp2_with fail
                  go_round
                  case rel => exact ⟨t + 1, by omega, by go_num, by rw [HF.out]⟩
                  case measure => simp [intOf]; omega
                · have tee : ((f2 t : Int) == (f2 p : Int)) = false := by simp; omega
                  have HF := Lib.hid (show seenTo f2 p (t + 1) = false by rw [HQS.out]; simp [hee])
                  clear hst hee HQS
                  go_wp2_with fail
                  go_round
                  case rel => exact ⟨t + 1, by omega, by go_num, by rw [HF.out]⟩
                  case measure => simp [intOf]; omega
              · have HF := Lib.hid (show seenTo f2 p (t + 1) = true by rw [HQS.out, hst]; rfl)
                clear hst HQS
                go_wp2_with fail
                go_round
                case rel => exact ⟨t + 1, by omega, by go_num, by rw [HF.out]⟩
                case measure => simp [intOf]; omega
            · obtain rfl : t = p := by omega
              obtain ⟨le, hle⟩ : ∃ le, letE n (letF n (tkS s0 qm) f2 t) (f2 t) = le := ⟨_, rfl⟩
              have HRL := Lib.hid ((rlet_any gk n ck (letF n (tkS s0 qm) f2 t) w6 (f2 t) hu HI6.out).mono (fun e w' h => show ∃ g' c', e = .returned (.tuple #[.slice (some ⟨g', 0, none⟩) n c', .int .i64 le]) ∧ (g' = gk ∨ w6.heap.size ≤ g') ∧ IntsAt w' g' n (letF n (tkS s0 qm) f2 (t + 1)) ∧ Below w6.heap.size w6 w' by
                obtain ⟨g', c', k1, k2⟩ := h
                rw [hle] at k1
                exact ⟨g', c', k1, k2⟩))
              have HSE : Hid (seenTo f2 t t = seenF f2 t) := Lib.hid rfl
              have hl01 : le = 0 ∨ le = 121 := by
                rw [← hle]; unfold letE
                split
                · left; rfl
                · right; rfl
              have HLE := Lib.hid hle
              clear hle
              go_wp2_with fail
              refine HRL.out.mono ?_
              rintro e w7 ⟨g7, c7, rfl, hg7, hI7, hB7⟩
              have HB7 := Lib.hid hB7
              have HP7 := Lib.hid (HP6.out.onto hB7)
              have HBX7 := Lib.hid (HBX6.out.below hB7)
              have hcL8 := HBX7.out.2.2
              have HG7 := Lib.hid hg7
              have HI7 := Lib.hid hI7
              clear hg7 hI7 hB7 HRL
              rcases hl01 with rfl | rfl
              · cases hse : seenTo f2 t t
                · have HNB : Hid (¬ BadL n (tkS s0 qm) f2 t) := Lib.hid (fun h => by
                    rw [HSE.out] at hse
                    rcases h with h | h
                    · rw [← letF_good hse, HLE.out] at h; exact h rfl
                    · rw [hse] at h; cases h)
                  clear hse
                  go_wp2_with fail
                  exact ⟨⟨t + 1, g7, c7, by omega, rfl, rfl, by go_num, rfl, HI7.out, by
                    rcases HG7.out with h | h
                    · subst h; exact HGK.out
                    · right; have := HB6.out.size; omega, below_trans' HB6.out HB7.out, fun j hj => by
                    by_cases e : j = t
                    · subst e; exact HNB.out
                    · exact HA6.out j (by omega)⟩, by simp [intOf]; omega⟩
                · have HBAD : Hid (BadL n (tkS s0 qm) f2 t) := Lib.hid (.inr (by rw [← HSE.out]; exact hse))
                  clear hse
                  -- a bad one at t (HBAD): the world w7 (HP7, HBX7), LetAll tells it
                  have HLA := Lib.hid ((letall_any b bb n (tkS s0 qm) (some ⟨b0, off, none⟩) l2 c2 f2 w7 HP7.out.room (HX2.out.below HP7.out.below) (by unfold maxLen; omega) (fun h0 ad had => by
                    obtain ⟨b0', off', h1, h2, _⟩ := HX2.out.2 h0
                    rw [h1] at had; cases had
                    have := HP7.out.nbb; show b0' ≠ bb; omega)).mono (fun e w' h => show e = .returned (.tuple #[.int .i64 (t : Nat), .int .i64 121]) ∧ Below w7.heap.size w7 w' by
                    rcases h with ⟨t', k1, k2, k3, k4, k5⟩ | ⟨k1, _⟩
                    · have : t' = t := by
                        by_cases x1 : t' < t
                        · exact absurd k2 (HA6.out t' x1)
                        · by_cases x2 : t < t'
                          · exact absurd HBAD.out (k3 t x2)
                          · omega
                      subst this
                      exact ⟨k4, k5⟩
                    · exact absurd HBAD.out (k1 t hlt)))
                  go_wp2_with fail
                  ((with_reducible refine HLA.out.mono ?_))
                  rintro e w10 ⟨rfl, hB⟩
                  have HPY := Lib.hid (HP7.out.onto hB)
                  have HBXY := Lib.hid (HBX7.out.below hB)
                  clear hB HLA
                  -- the state (tkS s0 qm), the document's slice g' c', the world w10 (HPY, HBXY)
                  go_wp2_with fail
                  go_loopw [27] (fun i wr => ∃ v : Int, -1 ≤ v ∧ v ≤ 6 ∧ i = .int .i64 v ∧ Below w10.heap.size w10 wr) (fun i _ => (6 - intOf i).toNat)
                  case atStart => exact ⟨-1, by omega, by omega, rfl, Below.refl _ _⟩
                  case round =>
                    obtain ⟨v, hv1, hv2, rfl, hB⟩ := hrel
                    obtain ⟨wo, rfl⟩ : ∃ wo : World, wo = wr := ⟨_, rfl⟩
                    have HBo := Lib.hid hB
                    have HPo := Lib.hid (HPY.out.onto hB)
                    have HBXo := Lib.hid (HBXY.out.below hB)
                    have hcL7 := HBXo.out.2.2
                    clear hB
                    by_cases hlt : v < 6
                    · have HR1 := Lib.hid (rmruns_sl b bb n (tkS s0 qm) v wo HPo.out.room)
                      have hll := rs_len (stK (tkS s0 qm) v) n
                      go_wp2_with fail
                      refine HR1.out.mono ?_
                      rintro e w8 ⟨ga, gc, rfl, hI1, hB1⟩
                      have HB8 := Lib.hid (below_trans' HBo.out hB1)
                      have HI1 := Lib.hid hI1
                      have HR2 := Lib.hid (lruns_sl g' n c' (tkS s0 qm) v w8 (HPo.out.ints.below hB1))
                      have HP8 := Lib.hid (HPo.out.onto hB1)
                      clear hI1 hB1 HR1
                      go_wp2_with fail
                      refine HR2.out.mono ?_
                      rintro e w9 ⟨wa, wc, rfl, hI2, hB2⟩
                      have HB9 := Lib.hid (below_trans' HB8.out hB2)
                      have HI2 := Lib.hid hI2
                      have HI1' := Lib.hid (HI1.out.below hB2)
                      have HLG := Lib.hid (fun k => longest_any b bb n (tkS s0 qm) v (w9.drewN k) ((HP8.out.room.below hB2).drewN k))
                      have HBD := Lib.hid (rs_bounds (stK (tkS s0 qm) v) n)
                      clear hI2 hB2 HR2 HI1 HB8 HP8
                      generalize rs (stK (tkS s0 qm) v) n = L at *
                      obtain ⟨M, hM⟩ : ∃ M, L.length = M := ⟨_, rfl⟩
                      rw [hM] at hll
                      have HM := Lib.hid hM
                      rw [hM]
                      clear hM
                      go_wp2_with fail
                      go_loopw [30, 31, 204] (fun x y i wr => ∃ j k : Nat, j ≤ M ∧ i = .int .i64 j ∧ x = .int .u32 ((longF (L.take j)).1 : Nat) ∧ y = .int .i64 ((longF (L.take j)).2 : Nat) ∧ wr = w9.drewN k) (fun _ _ i _ => M - (intOf i).toNat)
                      case atStart => exact ⟨0, 0, by omega, rfl, rfl, rfl, rfl⟩
                      case round =>
                        obtain ⟨j, k, hj, rfl, rfl, rfl, rfl⟩ := hrel
                        have hle := longF_le HBD.out j
                        by_cases hjm : j < M
                        · obtain ⟨g1, rfl, _, _, hcs1⟩ := HI1'.out (by rw [HM.out]; omega)
                          obtain ⟨g2, rfl, _, _, hcs2⟩ := HI2.out (by rw [HM.out]; omega)
                          have hx := List.getElem?_eq_getElem (l := L) (show j < L.length by rw [HM.out]; exact hjm)
                          generalize L[j]'(show j < L.length by rw [HM.out]; exact hjm) = x at hx
                          obtain ⟨k0, k1⟩ := hcs1 j x hx
                          obtain ⟨m0, m1⟩ := hcs2 j x hx
                          have hb := HBD.out _ (List.mem_of_getElem? hx)
                          have hls := longF_succ hx
                          unfold longStep at hls
                          obtain ⟨x1, x2⟩ := x
                          simp only at hb hls k0 k1 m0 m1
                          have hb1 := hb.1
                          have hb2 := hb.2
                          have hwr : IntKind.i64.wrap ((x2 : Int) - x1 + 1) = (x2 : Int) - x1 + 1 := IntWalk.i64_in _ (by omega)
                          have hwr2 : IntKind.i64.wrap ((x2 : Int) - x1) = (x2 : Int) - x1 := IntWalk.i64_in _ (by omega)
                          clear hcs1 hcs2 hx hb
                          by_cases hlt2 : (longF (L.take j)).2 < x2 - x1 + 1
                          · rw [if_pos hlt2] at hls
                            have HS := Lib.hid hls
                            generalize longF (L.take j) = q at *
                            obtain ⟨q1, q2⟩ := q
                            simp only at hlt2 hle
                            have hq1 := hle.1
                            have hq2 := hle.2
                            clear hls hle
                            go_wp2_with fail
                            go_quiet (fail)
                            go_wp2_with fail
                            go_quiet (fail)
                            go_wp2_with fail
                            exact ⟨⟨j + 1, _, by omega, by go_num, by rw [HS.out], by rw [HS.out]; show Value.int .i64 _ = .int .i64 ((x2 - x1 + 1 : Nat) : Int); rw [show ((x2 - x1 + 1 : Nat) : Int) = (x2 : Int) - x1 + 1 by omega], rfl⟩, by simp [intOf]; omega⟩
                          · rw [if_neg hlt2] at hls
                            have HS := Lib.hid hls
                            generalize longF (L.take j) = q at *
                            obtain ⟨q1, q2⟩ := q
                            simp only at hlt2 hle
                            have hq1 := hle.1
                            have hq2 := hle.2
                            clear hls hle
                            go_wp2_with fail
                            go_quiet (fail)
                            go_wp2_with fail
                            go_quiet (fail)
                            go_wp2_with fail
                            exact ⟨⟨j + 1, _, by omega, by go_num, by rw [HS.out], by rw [HS.out], rfl⟩, by simp [intOf]; omega⟩
                        · obtain rfl : j = M := by omega
                          have htk : L.take j = L := List.take_of_length_le (by rw [HM.out]; omega)
                          rw [htk] at hle ⊢
                          have hq1 := hle.1
                          have hq2 := hle.2
                          have HLG2 := Lib.hid (HLG.out k)
                          clear hle htk HLG
                          generalize (longF L).1 = q1 at *
                          generalize (longF L).2 = q2 at *
                          go_wp2_with fail
                          refine HLG2.out.mono ?_
                          rintro e w12 ⟨rfl, hB⟩
                          have HB12 := Lib.hid (below_trans' (below_drewN HB9.out k) hB)
                          clear hB HLG2
                          go_wp2_with fail
                          exact ⟨⟨v + 1, by omega, by omega, rfl, HB12.out⟩, by simp [intOf]; omega⟩
                    · obtain rfl : v = 6 := by omega
                      have HSD := Lib.hid (stands_any b bb n g' c' (tkS s0 qm) _ l2 c2 f2 wo HPo.out.room HPo.out.ints (HX2.out.below HPo.out.below) (by unfold maxLen; omega))
                      go_wp2_with fail
                      refine HSD.out.mono ?_
                      rintro e w13 ⟨rfl, hB⟩
                      have HB13 := Lib.hid (below_trans' HPo.out.below hB)
                      clear hB HSD
                      go_wp2_with fail
                      go_ret
                      exact ⟨rfl, HB13.out⟩
              · have HBAD : Hid (BadL n (tkS s0 qm) f2 t) := Lib.hid (by
                  cases hse : seenF f2 t
                  · left; rw [← letF_good hse, HLE.out]; decide
                  · right; exact hse)
                -- a bad one at t (HBAD): the world w7 (HP7, HBX7), LetAll tells it
                have HLA := Lib.hid ((letall_any b bb n (tkS s0 qm) (some ⟨b0, off, none⟩) l2 c2 f2 w7 HP7.out.room (HX2.out.below HP7.out.below) (by unfold maxLen; omega) (fun h0 ad had => by
                  obtain ⟨b0', off', h1, h2, _⟩ := HX2.out.2 h0
                  rw [h1] at had; cases had
                  have := HP7.out.nbb; show b0' ≠ bb; omega)).mono (fun e w' h => show e = .returned (.tuple #[.int .i64 (t : Nat), .int .i64 121]) ∧ Below w7.heap.size w7 w' by
                  rcases h with ⟨t', k1, k2, k3, k4, k5⟩ | ⟨k1, _⟩
                  · have : t' = t := by
                      by_cases x1 : t' < t
                      · exact absurd k2 (HA6.out t' x1)
                      · by_cases x2 : t < t'
                        · exact absurd HBAD.out (k3 t x2)
                        · omega
                    subst this
                    exact ⟨k4, k5⟩
                  · exact absurd HBAD.out (k1 t hlt)))
                go_wp2_with fail
                ((with_reducible refine HLA.out.mono ?_))
                rintro e w10 ⟨rfl, hB⟩
                have HPY := Lib.hid (HP7.out.onto hB)
                have HBXY := Lib.hid (HBX7.out.below hB)
                clear hB HLA
                -- the state (tkS s0 qm), the document's slice g' c', the world w10 (HPY, HBXY)
                go_wp2_with fail
                go_loopw [27] (fun i wr => ∃ v : Int, -1 ≤ v ∧ v ≤ 6 ∧ i = .int .i64 v ∧ Below w10.heap.size w10 wr) (fun i _ => (6 - intOf i).toNat)
                case atStart => exact ⟨-1, by omega, by omega, rfl, Below.refl _ _⟩
                case round =>
                  obtain ⟨v, hv1, hv2, rfl, hB⟩ := hrel
                  obtain ⟨wo, rfl⟩ : ∃ wo : World, wo = wr := ⟨_, rfl⟩
                  have HBo := Lib.hid hB
                  have HPo := Lib.hid (HPY.out.onto hB)
                  have HBXo := Lib.hid (HBXY.out.below hB)
                  have hcL7 := HBXo.out.2.2
                  clear hB
                  by_cases hlt : v < 6
                  · have HR1 := Lib.hid (rmruns_sl b bb n (tkS s0 qm) v wo HPo.out.room)
                    have hll := rs_len (stK (tkS s0 qm) v) n
                    go_wp2_with fail
                    refine HR1.out.mono ?_
                    rintro e w8 ⟨ga, gc, rfl, hI1, hB1⟩
                    have HB8 := Lib.hid (below_trans' HBo.out hB1)
                    have HI1 := Lib.hid hI1
                    have HR2 := Lib.hid (lruns_sl g' n c' (tkS s0 qm) v w8 (HPo.out.ints.below hB1))
                    have HP8 := Lib.hid (HPo.out.onto hB1)
                    clear hI1 hB1 HR1
                    go_wp2_with fail
                    refine HR2.out.mono ?_
                    rintro e w9 ⟨wa, wc, rfl, hI2, hB2⟩
                    have HB9 := Lib.hid (below_trans' HB8.out hB2)
                    have HI2 := Lib.hid hI2
                    have HI1' := Lib.hid (HI1.out.below hB2)
                    have HLG := Lib.hid (fun k => longest_any b bb n (tkS s0 qm) v (w9.drewN k) ((HP8.out.room.below hB2).drewN k))
                    have HBD := Lib.hid (rs_bounds (stK (tkS s0 qm) v) n)
                    clear hI2 hB2 HR2 HI1 HB8 HP8
                    generalize rs (stK (tkS s0 qm) v) n = L at *
                    obtain ⟨M, hM⟩ : ∃ M, L.length = M := ⟨_, rfl⟩
                    rw [hM] at hll
                    have HM := Lib.hid hM
                    rw [hM]
                    clear hM
                    go_wp2_with fail
                    go_loopw [30, 31, 204] (fun x y i wr => ∃ j k : Nat, j ≤ M ∧ i = .int .i64 j ∧ x = .int .u32 ((longF (L.take j)).1 : Nat) ∧ y = .int .i64 ((longF (L.take j)).2 : Nat) ∧ wr = w9.drewN k) (fun _ _ i _ => M - (intOf i).toNat)
                    case atStart => exact ⟨0, 0, by omega, rfl, rfl, rfl, rfl⟩
                    case round =>
                      obtain ⟨j, k, hj, rfl, rfl, rfl, rfl⟩ := hrel
                      have hle := longF_le HBD.out j
                      by_cases hjm : j < M
                      · obtain ⟨g1, rfl, _, _, hcs1⟩ := HI1'.out (by rw [HM.out]; omega)
                        obtain ⟨g2, rfl, _, _, hcs2⟩ := HI2.out (by rw [HM.out]; omega)
                        have hx := List.getElem?_eq_getElem (l := L) (show j < L.length by rw [HM.out]; exact hjm)
                        generalize L[j]'(show j < L.length by rw [HM.out]; exact hjm) = x at hx
                        obtain ⟨k0, k1⟩ := hcs1 j x hx
                        obtain ⟨m0, m1⟩ := hcs2 j x hx
                        have hb := HBD.out _ (List.mem_of_getElem? hx)
                        have hls := longF_succ hx
                        unfold longStep at hls
                        obtain ⟨x1, x2⟩ := x
                        simp only at hb hls k0 k1 m0 m1
                        have hb1 := hb.1
                        have hb2 := hb.2
                        have hwr : IntKind.i64.wrap ((x2 : Int) - x1 + 1) = (x2 : Int) - x1 + 1 := IntWalk.i64_in _ (by omega)
                        have hwr2 : IntKind.i64.wrap ((x2 : Int) - x1) = (x2 : Int) - x1 := IntWalk.i64_in _ (by omega)
                        clear hcs1 hcs2 hx hb
                        by_cases hlt2 : (longF (L.take j)).2 < x2 - x1 + 1
                        · rw [if_pos hlt2] at hls
                          have HS := Lib.hid hls
                          generalize longF (L.take j) = q at *
                          obtain ⟨q1, q2⟩ := q
                          simp only at hlt2 hle
                          have hq1 := hle.1
                          have hq2 := hle.2
                          clear hls hle
                          go_wp2_with fail
                          go_quiet (fail)
                          go_wp2_with fail
                          go_quiet (fail)
                          go_wp2_with fail
                          exact ⟨⟨j + 1, _, by omega, by go_num, by rw [HS.out], by rw [HS.out]; show Value.int .i64 _ = .int .i64 ((x2 - x1 + 1 : Nat) : Int); rw [show ((x2 - x1 + 1 : Nat) : Int) = (x2 : Int) - x1 + 1 by omega], rfl⟩, by simp [intOf]; omega⟩
                        · rw [if_neg hlt2] at hls
                          have HS := Lib.hid hls
                          generalize longF (L.take j) = q at *
                          obtain ⟨q1, q2⟩ := q
                          simp only at hlt2 hle
                          have hq1 := hle.1
                          have hq2 := hle.2
                          clear hls hle
                          go_wp2_with fail
                          go_quiet (fail)
                          go_wp2_with fail
                          go_quiet (fail)
                          go_wp2_with fail
                          exact ⟨⟨j + 1, _, by omega, by go_num, by rw [HS.out], by rw [HS.out], rfl⟩, by simp [intOf]; omega⟩
                      · obtain rfl : j = M := by omega
                        have htk : L.take j = L := List.take_of_length_le (by rw [HM.out]; omega)
                        rw [htk] at hle ⊢
                        have hq1 := hle.1
                        have hq2 := hle.2
                        have HLG2 := Lib.hid (HLG.out k)
                        clear hle htk HLG
                        generalize (longF L).1 = q1 at *
                        generalize (longF L).2 = q2 at *
                        go_wp2_with fail
                        refine HLG2.out.mono ?_
                        rintro e w12 ⟨rfl, hB⟩
                        have HB12 := Lib.hid (below_trans' (below_drewN HB9.out k) hB)
                        clear hB HLG2
                        go_wp2_with fail
                        exact ⟨⟨v + 1, by omega, by omega, rfl, HB12.out⟩, by simp [intOf]; omega⟩
                  · obtain rfl : v = 6 := by omega
                    have HSD := Lib.hid (stands_any b bb n g' c' (tkS s0 qm) _ l2 c2 f2 wo HPo.out.room HPo.out.ints (HX2.out.below HPo.out.below) (by unfold maxLen; omega))
                    go_wp2_with fail
                    refine HSD.out.mono ?_
                    rintro e w13 ⟨rfl, hB⟩
                    have HB13 := Lib.hid (below_trans' HPo.out.below hB)
                    clear hB HSD
                    go_wp2_with fail
                    go_ret
                    exact ⟨rfl, HB13.out⟩
        · obtain rfl : p = l2 := by omega
          have HLA := Lib.hid ((letall_any b bb n (tkS s0 qm) a2 p c2 f2 w6 HP6.out.room HX6.out (by unfold maxLen; omega) (fun h0 ad had => by
            obtain ⟨b0', off', h1, h2, _⟩ := HX2.out.2 h0
            rw [h1] at had; cases had
            have := HP6.out.nbb; show b0' ≠ bb; omega)).mono (fun e w' h => show e = .returned (.tuple #[.int .i64 0, .int .i64 0]) ∧ RoomAt w' b bb n (letF n (tkS s0 qm) f2 p) ∧ w6.grownBy w' (some bb) by
            rcases h with ⟨t', k1, k2, _⟩ | ⟨_, k2⟩
            · exact absurd k2 (HA6.out t' k1)
            · exact k2))
          go_wp2_with fail
          ((with_reducible refine HLA.out.mono ?_))
          rintro e w10 ⟨rfl, hR, hG⟩
          have HPY := Lib.hid (HPS.out.step2 HI6.out HGK.out HB6.out hR hG (letF_zero f2 HPS.out.zero p))
          have HBXY := Lib.hid (HBX6.out.only hG (by omega))
          clear hR hG HLA
          -- the state (letF n (tkS s0 qm) f2 p), the document's slice gk ck, the world w10 (HPY, HBXY)
          go_wp2_with fail
          go_loopw [27] (fun i wr => ∃ v : Int, -1 ≤ v ∧ v ≤ 6 ∧ i = .int .i64 v ∧ Below w10.heap.size w10 wr) (fun i _ => (6 - intOf i).toNat)
          case atStart => exact ⟨-1, by omega, by omega, rfl, Below.refl _ _⟩
          case round =>
            obtain ⟨v, hv1, hv2, rfl, hB⟩ := hrel
            obtain ⟨wo, rfl⟩ : ∃ wo : World, wo = wr := ⟨_, rfl⟩
            have HBo := Lib.hid hB
            have HPo := Lib.hid (HPY.out.onto hB)
            have HBXo := Lib.hid (HBXY.out.below hB)
            have hcL7 := HBXo.out.2.2
            clear hB
            by_cases hlt : v < 6
            · have HR1 := Lib.hid (rmruns_sl b bb n (letF n (tkS s0 qm) f2 p) v wo HPo.out.room)
              have hll := rs_len (stK (letF n (tkS s0 qm) f2 p) v) n
              go_wp2_with fail
              refine HR1.out.mono ?_
              rintro e w8 ⟨ga, gc, rfl, hI1, hB1⟩
              have HB8 := Lib.hid (below_trans' HBo.out hB1)
              have HI1 := Lib.hid hI1
              have HR2 := Lib.hid (lruns_sl gk n ck (letF n (tkS s0 qm) f2 p) v w8 (HPo.out.ints.below hB1))
              have HP8 := Lib.hid (HPo.out.onto hB1)
              clear hI1 hB1 HR1
              go_wp2_with fail
              refine HR2.out.mono ?_
              rintro e w9 ⟨wa, wc, rfl, hI2, hB2⟩
              have HB9 := Lib.hid (below_trans' HB8.out hB2)
              have HI2 := Lib.hid hI2
              have HI1' := Lib.hid (HI1.out.below hB2)
              have HLG := Lib.hid (fun k => longest_any b bb n (letF n (tkS s0 qm) f2 p) v (w9.drewN k) ((HP8.out.room.below hB2).drewN k))
              have HBD := Lib.hid (rs_bounds (stK (letF n (tkS s0 qm) f2 p) v) n)
              clear hI2 hB2 HR2 HI1 HB8 HP8
              generalize rs (stK (letF n (tkS s0 qm) f2 p) v) n = L at *
              obtain ⟨M, hM⟩ : ∃ M, L.length = M := ⟨_, rfl⟩
              rw [hM] at hll
              have HM := Lib.hid hM
              rw [hM]
              clear hM
              go_wp2_with fail
              go_loopw [30, 31, 204] (fun x y i wr => ∃ j k : Nat, j ≤ M ∧ i = .int .i64 j ∧ x = .int .u32 ((longF (L.take j)).1 : Nat) ∧ y = .int .i64 ((longF (L.take j)).2 : Nat) ∧ wr = w9.drewN k) (fun _ _ i _ => M - (intOf i).toNat)
              case atStart => exact ⟨0, 0, by omega, rfl, rfl, rfl, rfl⟩
              case round =>
                obtain ⟨j, k, hj, rfl, rfl, rfl, rfl⟩ := hrel
                have hle := longF_le HBD.out j
                by_cases hjm : j < M
                · obtain ⟨g1, rfl, _, _, hcs1⟩ := HI1'.out (by rw [HM.out]; omega)
                  obtain ⟨g2, rfl, _, _, hcs2⟩ := HI2.out (by rw [HM.out]; omega)
                  have hx := List.getElem?_eq_getElem (l := L) (show j < L.length by rw [HM.out]; exact hjm)
                  generalize L[j]'(show j < L.length by rw [HM.out]; exact hjm) = x at hx
                  obtain ⟨k0, k1⟩ := hcs1 j x hx
                  obtain ⟨m0, m1⟩ := hcs2 j x hx
                  have hb := HBD.out _ (List.mem_of_getElem? hx)
                  have hls := longF_succ hx
                  unfold longStep at hls
                  obtain ⟨x1, x2⟩ := x
                  simp only at hb hls k0 k1 m0 m1
                  have hb1 := hb.1
                  have hb2 := hb.2
                  have hwr : IntKind.i64.wrap ((x2 : Int) - x1 + 1) = (x2 : Int) - x1 + 1 := IntWalk.i64_in _ (by omega)
                  have hwr2 : IntKind.i64.wrap ((x2 : Int) - x1) = (x2 : Int) - x1 := IntWalk.i64_in _ (by omega)
                  clear hcs1 hcs2 hx hb
                  by_cases hlt2 : (longF (L.take j)).2 < x2 - x1 + 1
                  · rw [if_pos hlt2] at hls
                    have HS := Lib.hid hls
                    generalize longF (L.take j) = q at *
                    obtain ⟨q1, q2⟩ := q
                    simp only at hlt2 hle
                    have hq1 := hle.1
                    have hq2 := hle.2
                    clear hls hle
                    go_wp2_with fail
                    go_quiet (fail)
                    go_wp2_with fail
                    go_quiet (fail)
                    go_wp2_with fail
                    exact ⟨⟨j + 1, _, by omega, by go_num, by rw [HS.out], by rw [HS.out]; show Value.int .i64 _ = .int .i64 ((x2 - x1 + 1 : Nat) : Int); rw [show ((x2 - x1 + 1 : Nat) : Int) = (x2 : Int) - x1 + 1 by omega], rfl⟩, by simp [intOf]; omega⟩
                  · rw [if_neg hlt2] at hls
                    have HS := Lib.hid hls
                    generalize longF (L.take j) = q at *
                    obtain ⟨q1, q2⟩ := q
                    simp only at hlt2 hle
                    have hq1 := hle.1
                    have hq2 := hle.2
                    clear hls hle
                    go_wp2_with fail
                    go_quiet (fail)
                    go_wp2_with fail
                    go_quiet (fail)
                    go_wp2_with fail
                    exact ⟨⟨j + 1, _, by omega, by go_num, by rw [HS.out], by rw [HS.out], rfl⟩, by simp [intOf]; omega⟩
                · obtain rfl : j = M := by omega
                  have htk : L.take j = L := List.take_of_length_le (by rw [HM.out]; omega)
                  rw [htk] at hle ⊢
                  have hq1 := hle.1
                  have hq2 := hle.2
                  have HLG2 := Lib.hid (HLG.out k)
                  clear hle htk HLG
                  generalize (longF L).1 = q1 at *
                  generalize (longF L).2 = q2 at *
                  go_wp2_with fail
                  refine HLG2.out.mono ?_
                  rintro e w12 ⟨rfl, hB⟩
                  have HB12 := Lib.hid (below_trans' (below_drewN HB9.out k) hB)
                  clear hB HLG2
                  go_wp2_with fail
                  exact ⟨⟨v + 1, by omega, by omega, rfl, HB12.out⟩, by simp [intOf]; omega⟩
            · obtain rfl : v = 6 := by omega
              have HSD := Lib.hid (stands_any b bb n gk ck (letF n (tkS s0 qm) f2 p) _ p c2 f2 wo HPo.out.room HPo.out.ints (HX2.out.below HPo.out.below) (by unfold maxLen; omega))
              go_wp2_with fail
              refine HSD.out.mono ?_
              rintro e w13 ⟨rfl, hB⟩
              have HB13 := Lib.hid (below_trans' HPo.out.below hB)
              clear hB HSD
              go_wp2_with fail
              go_ret
              exact ⟨rfl, HB13.out⟩
end Go.Proofs.Ytffdklcpkkcohaa
