/- 'played' of the bits' laws, walked. -/
import Derived.Test.YtffdklcpkkcohaaPlayed
namespace Go.Proofs.Ytffdklcpkkcohaa
open Go.RowKit
def PlayedPost (size : Int) (w : World) (e : Ending) (w' : World) : Prop :=
  ((size < 1 ∨ 8192 < size) ∧ e = .returned (.tuple #[.pointer none, .slice none 0 0, .bool true]) ∧ Below w.heap.size w w') ∨
  (∃ (n b bb g : Nat) (k : Nat → Bool), size = n ∧ e = .returned (.tuple #[.pointer (some ⟨b, 0, none⟩), .slice (some ⟨g, 0, none⟩) n n, .bool true]) ∧ Both w w' b bb g n k)
theorem info4 : (Try.prog.info? 4).map (fun i => (i.zero, i.size, i.bytes)) = some (some (.bool false), 1, 1) := by kernel_rfl
theorem make28 (m : Nat) (h2 : m ≤ 8192) (w : World) : (Instr.makeSlice 28 (.int .i64 (m : Int)) (.int .i64 (m : Int))).run Try.prog w =
    .ok (.slice (some ⟨w.heap.size, 0, none⟩) m m) (w.alloc (.cells (madeCells #[.bool false] m) 4)) := by
  obtain ⟨i0, hi, hz0, hz1, hz2⟩ := info_parts info4
  have hr := run_make (P := Try.prog) w 28 4 i0 (.bool false) Try.underlying28 hi hz0 .i64 .i64 (m : Int) (m : Int) (by omega) (by omega) (by rw [hz2]; omega) (by omega)
  rw [hz1] at hr
  rw [Int.toNat_natCast, Nat.mul_one] at hr
  exact hr
theorem bools_made (w : World) (n : Nat) (h : n ≤ 8192) : BoolsAt (w.alloc (.cells (madeCells #[.bool false] n) 4)) w.heap.size n zeroK := by
  refine ⟨by simp, h, _, heap_alloc_new w _, by simp [madeCells], fun i hi => ?_⟩
  rw [Array.getElem?_eq_getElem (by rw [size_madeCells]; exact hi), ← Array.getElem_toList]
  simp only [toList_madeCells_one]
  simp [zeroK]
theorem fill_bools {w wq : World} {b bb g n F T q : Nat} {k : Nat → Bool} (hm : MapAt wq b bb n (fillK k F T)) (hb : BoolsAt wq g n (fillK k F q)) (hq : q < n) (hF : F ≤ q) (hg : w.heap.size ≤ g) (hB : Below w.heap.size w wq) :
    MapAt (wq.setCell ⟨g, q, none⟩ (.bool true)) b bb n (fillK k F T) ∧ BoolsAt (wq.setCell ⟨g, q, none⟩ (.bool true)) g n (fillK k F (q + 1)) ∧ Below w.heap.size w (wq.setCell ⟨g, q, none⟩ (.bool true)) := by
  have hne := map_bools_ne hm hb
  refine ⟨hm.of_blocks (Below.heap_setCell _ _ _ _ (fun e => hne.1 e.symm)) (Below.heap_setCell _ _ _ _ (fun e => hne.2 e.symm)), (hb.set hq true).congr (fun i _ => ?_), hB.setCell (by exact hg) _⟩
  unfold setK fillK
  by_cases e : i = q
  · subst e; rw [if_pos rfl, if_pos (by omega)]
  · rw [if_neg e]
    by_cases h : F ≤ i ∧ i < q
    · rw [if_pos h, if_pos (by omega)]
    · rw [if_neg h, if_neg (by omega)]
set_option maxRecDepth 100000 in
set_option maxHeartbeats 4000000 in
theorem played_any (size : Int) (a : Option Addr) (len cap : Nat) (xs : Nat → Act3) (w : World) (hx : Acts w a len xs) (hlen : len ≤ maxLen) :
    Calls Try.prog 18 #[.int .i64 size, .slice a len cap] w (PlayedPost size w) := by
  unfold maxLen at hlen
  have HX := Lib.hid hx
  clear hx
  by_cases hbad : size < 1 ∨ 8192 < size
  · have HBAD := Lib.hid hbad
    rcases hbad with h | h
    all_goals
      go_enter Try.func18, Try.ntmps18
      go_wp2_with fail
      refine (new_any _ _).mono ?_
      rintro e w' (⟨_, rfl, rfl⟩ | ⟨h1, h2, _⟩)
      · go_wp2
        go_ret3
        exact .inl ⟨HBAD.out, rfl, Below.refl _ _⟩
      · exfalso; omega
  obtain ⟨n, rfl⟩ := Int.eq_ofNat_of_zero_le (by omega : 0 ≤ size)
  have hn1 : 1 ≤ n := by omega
  have hn2 : n ≤ 8192 := by omega
  have hmk := make28 n hn2
  clear hbad
  go_enter Try.func18, Try.ntmps18
  go_wp2_with fail
  refine (new_any _ _).mono ?_
  rintro e w1 (⟨h, _, _⟩ | ⟨_, _, b, bb, rfl, hb, hbb, hm, hB⟩)
  · exfalso; omega
  rw [Int.toNat_natCast] at hm
  have hB0 : Both w (w1.alloc (.cells (madeCells #[.bool false] n) 4)) b bb w1.heap.size n zeroK := ⟨hm.alloc _, bools_made w1 n hn2, hb, hbb, hB.size, hB.alloc hB.size _⟩
  have HB0 := Lib.hid hB0
  clear hm hB hB0
  go_wp2_with fail
  go_loopw [7, 10] (fun m i wr => ∃ (p b bb : Nat) (k : Nat → Bool), p ≤ len ∧ i = .int .i64 p ∧ m = .pointer (some ⟨b, 0, none⟩) ∧ Both w wr b bb w1.heap.size n k) (fun _ i _ => len - (intOf i).toNat)
  case atStart => exact ⟨0, b, bb, zeroK, by omega, rfl, rfl, HB0.out⟩
  case round =>
    obtain ⟨p, b, bb, k, hp, rfl, rfl, hBo⟩ := hrel
    have HBo := Lib.hid hBo
    clear hBo HB0 hmk
    by_cases hlt : p < len
    · obtain ⟨b0, off, rfl, hb0, hcs⟩ := (HX.out.below HBo.out.below) (by omega)
      obtain ⟨c0, c1, c2⟩ := hcs p hlt
      clear hcs
      generalize xs p = x at *
      obtain ⟨K, A, B⟩ := x
      simp only at c0 c1 c2
      have hkind : K = 0 ∨ K = 1 ∨ K = 2 ∨ K = 3 ∨ (K ≠ 0 ∧ K ≠ 1 ∧ K ≠ 2 ∧ K ≠ 3) := by omega
      rcases hkind with rfl | rfl | rfl | rfl | ⟨n0, n1, n2, n3⟩
      · by_cases hA : A < 0
        · have HA : Hid (A < 0 ∨ (n : Int) ≤ A) := Lib.hid (.inl hA)
          go_wp2
          go_quiet (fail)
          go_wp2_with (go_at_call 43; go_must (refine (set_out b bb n k _ A HA.out (HBo.out.map.drewN _)).mono ?_); rintro e w2 ⟨rfl, hm2, hg2⟩; have HN := Lib.hid ((HBo.out.drewN _).same hm2 hg2); clear hm2 hg2)
          go_roundw
          case rel => exact ⟨p + 1, b, bb, k, by omega, by go_num, rfl, HN.out⟩
          case measure => simp [intOf]; omega
        · by_cases hA2 : (n : Int) ≤ A
          · have HA : Hid (A < 0 ∨ (n : Int) ≤ A) := Lib.hid (.inr hA2)
            go_wp2
            go_quiet (fail)
            go_wp2_with (go_at_call 43; go_must (refine (set_out b bb n k _ A HA.out (HBo.out.map.drewN _)).mono ?_); rintro e w2 ⟨rfl, hm2, hg2⟩; have HN := Lib.hid ((HBo.out.drewN _).same hm2 hg2); clear hm2 hg2)
            go_roundw
            case rel => exact ⟨p + 1, b, bb, k, by omega, by go_num, rfl, HN.out⟩
            case measure => simp [intOf]; omega
          · obtain ⟨q, rfl⟩ := Int.eq_ofNat_of_zero_le (by omega : 0 ≤ A)
            have hq : q < n := by omega
            have HK := Lib.hid (set_in b bb n k)
            cases hk : k q
            all_goals
              have HKQ := Lib.hid hk
              clear hk
              go_wp2
              go_quiet (fail)
              go_wp2_with (go_at_call 43; go_must (refine (HK.out _ q hq (HBo.out.map.drewN _)).mono ?_); rintro e w2 ⟨rfl, hm2, hg2⟩; have hbs := ((HBo.out.drewN _).step hm2 hg2).1; have cc := hbs.cell hq; have cf := hbs.free q; rw [HKQ.out] at cc; rw [HKQ.out]; have hlt2 := hbs.1; have HN := Lib.hid ((HBo.out.drewN _).set hm2 hg2 hq (fun _ => rfl)); clear hm2 hg2 hbs)
              go_roundw
              case rel => exact ⟨p + 1, b, bb, setK k q true, by omega, by go_num, rfl, HN.out⟩
              case measure => simp [intOf]; omega
      · by_cases hA : A < 0
        · have HA : Hid (A < 0 ∨ (n : Int) ≤ A) := Lib.hid (.inl hA)
          go_wp2
          go_quiet (fail)
          go_wp2_with (go_at_call 44; go_must (refine (clear_out b bb n k _ A HA.out (HBo.out.map.drewN _)).mono ?_); rintro e w2 ⟨rfl, hm2, hg2⟩; have HN := Lib.hid ((HBo.out.drewN _).same hm2 hg2); clear hm2 hg2)
          go_roundw
          case rel => exact ⟨p + 1, b, bb, k, by omega, by go_num, rfl, HN.out⟩
          case measure => simp [intOf]; omega
        · by_cases hA2 : (n : Int) ≤ A
          · have HA : Hid (A < 0 ∨ (n : Int) ≤ A) := Lib.hid (.inr hA2)
            go_wp2
            go_quiet (fail)
            go_wp2_with (go_at_call 44; go_must (refine (clear_out b bb n k _ A HA.out (HBo.out.map.drewN _)).mono ?_); rintro e w2 ⟨rfl, hm2, hg2⟩; have HN := Lib.hid ((HBo.out.drewN _).same hm2 hg2); clear hm2 hg2)
            go_roundw
            case rel => exact ⟨p + 1, b, bb, k, by omega, by go_num, rfl, HN.out⟩
            case measure => simp [intOf]; omega
          · obtain ⟨q, rfl⟩ := Int.eq_ofNat_of_zero_le (by omega : 0 ≤ A)
            have hq : q < n := by omega
            have HK := Lib.hid (clear_in b bb n k)
            cases hk : k q
            all_goals
              have HKQ := Lib.hid hk
              clear hk
              go_wp2
              go_quiet (fail)
              go_wp2_with (go_at_call 44; go_must (refine (HK.out _ q hq (HBo.out.map.drewN _)).mono ?_); rintro e w2 ⟨rfl, hm2, hg2⟩; have hbs := ((HBo.out.drewN _).step hm2 hg2).1; have cc := hbs.cell hq; have cf := hbs.free q; rw [HKQ.out] at cc; rw [HKQ.out]; have hlt2 := hbs.1; have HN := Lib.hid ((HBo.out.drewN _).set hm2 hg2 hq (fun _ => rfl)); clear hm2 hg2 hbs)
              go_roundw
              case rel => exact ⟨p + 1, b, bb, setK k q false, by omega, by go_num, rfl, HN.out⟩
              case measure => simp [intOf]; omega
      · by_cases hA : A < 0
        · have HA : Hid (A < 0 ∨ B < A ∨ (n : Int) < B) := Lib.hid (.inl hA)
          by_cases hAB : A < B
          all_goals
            go_wp2
            go_quiet (fail)
            go_wp2_with (go_at_call 53; go_must (refine (fill_out b bb n k _ A B HA.out (HBo.out.map.drewN _)).mono ?_); rintro e w2 ⟨rfl, hm2, hg2⟩; have HN := Lib.hid ((HBo.out.drewN _).same hm2 hg2); clear hm2 hg2)
            refine wp_loop_rounds 1 ?_
            rw [rounds_succ]
            go_wp2
            go_roundw
            case rel => exact ⟨p + 1, b, bb, k, by omega, by go_num, rfl, HN.out⟩
            case measure => simp [intOf]; omega
        · by_cases hA2 : B < A
          · have HA : Hid (A < 0 ∨ B < A ∨ (n : Int) < B) := Lib.hid (.inr (.inl hA2))
            go_wp2
            go_quiet (fail)
            go_wp2_with (go_at_call 53; go_must (refine (fill_out b bb n k _ A B HA.out (HBo.out.map.drewN _)).mono ?_); rintro e w2 ⟨rfl, hm2, hg2⟩; have HN := Lib.hid ((HBo.out.drewN _).same hm2 hg2); clear hm2 hg2)
            refine wp_loop_rounds 1 ?_
            rw [rounds_succ]
            go_wp2
            go_roundw
            case rel => exact ⟨p + 1, b, bb, k, by omega, by go_num, rfl, HN.out⟩
            case measure => simp [intOf]; omega
          · by_cases hA3 : (n : Int) < B
            · have HA : Hid (A < 0 ∨ B < A ∨ (n : Int) < B) := Lib.hid (.inr (.inr hA3))
              by_cases hAB : A < B
              all_goals
                go_wp2
                go_quiet (fail)
                go_wp2_with (go_at_call 53; go_must (refine (fill_out b bb n k _ A B HA.out (HBo.out.map.drewN _)).mono ?_); rintro e w2 ⟨rfl, hm2, hg2⟩; have HN := Lib.hid ((HBo.out.drewN _).same hm2 hg2); clear hm2 hg2)
                refine wp_loop_rounds 1 ?_
                rw [rounds_succ]
                go_wp2
                go_roundw
                case rel => exact ⟨p + 1, b, bb, k, by omega, by go_num, rfl, HN.out⟩
                case measure => simp [intOf]; omega
            · obtain ⟨F, rfl⟩ := Int.eq_ofNat_of_zero_le (by omega : 0 ≤ A)
              obtain ⟨T, rfl⟩ := Int.eq_ofNat_of_zero_le (by omega : 0 ≤ B)
              have hFT : F ≤ T := by omega
              have hTn : T ≤ n := by omega
              clear hA hA2 hA3
              have hnb := HBo.out.newbb
              have hng := HBo.out.newg
              cases hd : decide (F < n)
              all_goals
                go_wp2
                go_quiet (fail)
                go_wp2_with (go_at_call 53; go_must (refine (fill_in b bb n k _ F T hFT hTn (HBo.out.map.drewN _)).mono ?_); rintro e w2 ⟨rfl, hm2, hg2⟩; have HS := Lib.hid ((HBo.out.drewN _).step hm2 hg2); have HM2 := Lib.hid hm2; clear hm2 hg2)
                clear c0 c1 c2
                go_loopw [15] (fun i wq => ∃ q : Nat, F ≤ q ∧ q ≤ T ∧ i = .int .i64 q ∧ MapAt wq b bb n (fillK k F T) ∧ BoolsAt wq w1.heap.size n (fillK k F q) ∧ Below w.heap.size w wq) (fun i _ => T - (intOf i).toNat)
                case atStart => exact ⟨F, by omega, by omega, rfl, HM2.out, HS.out.1.congr (fun i _ => by unfold fillK; rw [if_neg (by omega)]), HS.out.2⟩
                case round =>
                  obtain ⟨q, hFq, hqT, rfl, hMq, hBq, hWq⟩ := hrel
                  by_cases hqlt : q < T
                  · have hqn : q < n := by omega
                    have cc := hBq.cell hqn
                    have cf := hBq.free q
                    have cl := hBq.1
                    have hnew := fill_bools hMq hBq hqn hFq hng hWq
                    have HNEW := Lib.hid hnew
                    clear hMq hBq hWq hnew
                    go_wp2
                    go_roundw
                    case rel => exact ⟨q + 1, by omega, by omega, by go_num, HNEW.out⟩
                    case measure => simp [intOf]; omega
                  · obtain rfl : q = T := by omega
                    have HN : Hid (Both w wr b bb w1.heap.size n (fillK k F q)) := Lib.hid ⟨hMq, hBq, HBo.out.newb, hnb, hng, hWq⟩
                    clear hMq hBq hWq
                    go_wp2
                    go_roundw
                    case rel => exact ⟨p + 1, b, bb, fillK k F q, by omega, by go_num, rfl, HN.out⟩
                    case measure => simp [intOf]; omega
      · have h0n : 0 < n := by omega
        by_cases hA : 0 ≤ A
        all_goals
          go_wp2
          go_quiet (fail)
          go_wp2_with (first | (go_at_call 42; go_must (refine (clone_any b bb n k _ (HBo.out.map.drewN _)).mono ?_); rintro e w2 ⟨b', bb', rfl, hb', hbb', hm2, hB2⟩; have HM2 := Lib.hid hm2; have HB2 := Lib.hid hB2; clear hm2 hB2) | (go_at_call 43; go_must (refine (set_in b bb n k _ 0 h0n ((HBo.out.map.drewN _).below HB2.out)).mono ?_); rintro e w3 ⟨rfl, hm3, hg3⟩; have HN := Lib.hid ((HBo.out.drewN _).turn HM2.out hb' hbb' HB2.out hm3 hg3); clear hm3 hg3))
          go_roundw
          case rel => exact ⟨p + 1, b', bb', k, by omega, by go_num, rfl, HN.out⟩
          case measure => simp [intOf]; omega
      · have e0 : (K == 0) = false := by simp [n0]
        have e1 : (K == 1) = false := by simp [n1]
        have e2 : (K == 2) = false := by simp [n2]
        have e3 : (K == 3) = false := by simp [n3]
        clear n0 n1 n2 n3
        by_cases hA : 0 ≤ A
        all_goals
          go_wp2
          go_quiet (fail)
          go_wp2
          go_roundw
          case rel => exact ⟨p + 1, b, bb, k, by omega, by go_num, rfl, HBo.out.drewN _⟩
          case measure => simp [intOf]; omega
    · go_wp2
      go_ret3
      exact .inr ⟨n, b, bb, w1.heap.size, k, rfl, rfl, HBo.out⟩
end Go.Proofs.Ytffdklcpkkcohaa
