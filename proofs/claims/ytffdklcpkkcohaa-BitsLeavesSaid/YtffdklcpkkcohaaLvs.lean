/- The law BitsLeaves, walked. -/
import Derived.Test.YtffdklcpkkcohaaLvmath
import Derived.Deep.DeepCutAuto
import Derived.BigRegion
namespace Go.Proofs.Ytffdklcpkkcohaa
open Go.RowKit
theorem own_le {w : World} {base base' size n : Nat} {e : TypeId} {v : Value} {xs : List Value} (h : w.ownsRow base e size v n xs) (hb : base' ≤ base) : w.ownsRow base' e size v n xs :=
  ⟨h.1, h.2.imp_right fun ⟨g, cap, cur, h1, h2, r⟩ => ⟨g, cap, cur, h1, Nat.le_trans hb h2, r⟩⟩
open Classical in
theorem sameB_refl' (n : Nat) (k : Nat → Bool) : sameB n n k k = true := by unfold sameB; exact decide_eq_true ⟨rfl, fun _ => rfl⟩
theorem blk_cells' (w : World) (l : List Value) : ∀ j u, l[j]? = some u → (w.alloc (.cells l.toArray 78)).cell? ((⟨w.heap.size, 0, none⟩ : Addr).add j) = some u := by
  intro j u hu
  rw [Addr.add_mid, Nat.zero_add, cell_of_row _ _ _ _ _ _ (heap_alloc_new w _)]
  simpa using hu
def InR (bo : Bool) (x : Int) : Prop := bo = true → 0 ≤ x ∧ x < 256
set_option maxRecDepth 100000 in
set_option maxHeartbeats 4000000 in
theorem leaveslaw_any (size : Int) (a : Option Addr) (len cap : Nat) (xs : Nat → Act3) (at_ : Int) (w : World) (hx : Acts w a len xs) (hlen : len ≤ maxLen) :
    Calls Try.prog 9 #[.int .i64 size, .slice a len cap, .int .i64 at_] w fun e w' => e = .returned (.bool true) ∧ Below w.heap.size w w' := by
  have HP := Lib.hid (played_any size a len cap xs w hx hlen)
  clear hx
  go_enter Try.func9, Try.ntmps9
  go_wp2_with fail
  refine HP.out.mono ?_
  rintro e w1 (⟨_, rfl, hB⟩ | ⟨n, b, bb, g, k, rfl, rfl, hBo⟩)
  · have HB := Lib.hid hB
    clear hB HP
    go_wp2_with fail
    refine (awake_any _).mono ?_
    rintro e w2 ⟨rfl, hB2⟩
    have HB2 := Lib.hid (below_trans' HB.out hB2)
    clear hB2
    go_wp2_with fail
    refine (awake_any _).mono ?_
    rintro e w2 ⟨rfl, hB3⟩
    have HB3 := Lib.hid (below_trans' HB2.out hB3)
    clear hB3
    go_wp2_with fail
    go_ret
    exact ⟨rfl, HB3.out⟩
  have HBo := Lib.hid hBo
  clear hBo HP
  go_wp2_with fail
  refine (awake_any _).mono ?_
  rintro e w2 ⟨rfl, hB2⟩
  have HM := Lib.hid (HBo.out.map.below hB2)
  have HG := Lib.hid (HBo.out.bools.below hB2)
  have HB2 := Lib.hid (below_trans' HBo.out.below hB2)
  clear hB2 HBo
  have hn1 : 1 ≤ n := HM.out.2.2.1
  have hn2 : n ≤ 8192 := HM.out.2.2.2.1
  go_wp2_with fail
  refine (leaves_any b bb n k _ HM.out).mono ?_
  rintro e w3 ⟨gx, rfl, hgx, hX, hB3⟩
  have HX := Lib.hid hX.blks
  have HM3 := Lib.hid (HM.out.below hB3)
  have HG3 := Lib.hid (HG.out.below hB3)
  have HB3 := Lib.hid (below_trans' HB2.out hB3)
  clear hgx hX hB3 HB2 HM HG
  go_wp2_with fail
  refine (rleaves11_any g n n k _ HG3.out hn2).mono ?_
  rintro e w4 ⟨v12, rfl, hO, hB4⟩
  have hkz : ∀ p, n ≤ p → k p = false := HM3.out.2.2.2.2.1
  rw [cut_all k n hkz] at hO
  obtain ⟨L, hL⟩ : ∃ L, nLeaves n = L := ⟨_, rfl⟩
  have hL1 : 1 ≤ L := by rw [← hL]; unfold nLeaves; omega
  have hL8 : L ≤ 8 := by rw [← hL]; unfold nLeaves; omega
  have HOK : Hid (leafOk n L (leafAll k n) = true) := Lib.hid (by rw [← hL]; exact leafOk_leaf k n hkz)
  have HFK : Hid (fromK (leafAll k n) n = k) := Lib.hid (from_leaf k n hkz)
  rw [hL] at hO HX ⊢
  obtain ⟨g12, c12, rfl, hW⟩ := blks_of_own hO hL1
  have HW := Lib.hid hW
  have HO := Lib.hid (own_le hO HB3.out.size)
  have HX4 := Lib.hid (HX.out.below hB4)
  have HM4 := Lib.hid (HM3.out.below hB4)
  have HB4 := Lib.hid (below_trans' HB3.out hB4)
  clear hO hW hB4 HX HM3 HG3 HB3 hkz
  have HLL := Lib.hid hL
  clear hL
  obtain ⟨F, hF⟩ : ∃ F, leafAll k n = F := ⟨_, rfl⟩
  have HFL : Hid (∀ i, F i < 256) := Lib.hid (fun i => by rw [← hF]; exact leaf_lt k n i)
  rw [hF] at HOK HFK HO HX4 HW
  clear hF
  go_wp2_with fail
  go_loopw [13] (fun i wr => ∃ q : Nat, q ≤ L ∧ i = .int .i64 q ∧ ∃ k, wr = w4.drewN k) (fun i _ => L - (intOf i).toNat)
  case atStart => exact ⟨0, by omega, rfl, 0, rfl⟩
  case round =>
    obtain ⟨q, hq, rfl, kd, rfl⟩ := hrel
    by_cases hlt : q < L
    · obtain ⟨b1, o1, e1, _, k1⟩ := HX4.out (by omega)
      cases e1
      obtain ⟨b2, o2, e2, _, k2⟩ := HW.out (by omega)
      cases e2
      have R1 : Hid (w4.rangeAt gx (q * 256) (blkCells F q)) := Lib.hid (by have := Blks.range k1 hlt; rwa [Nat.zero_add] at this)
      have R2 : Hid (w4.rangeAt g12 (q * 256) (blkCells F q)) := Lib.hid (by have := Blks.range k2 hlt; rwa [Nat.zero_add] at this)
      have HE : Hid (blkEq F F q = true) := Lib.hid ((blkEq_iff _ _ _).2 fun _ _ => rfl)
      clear k1 k2
      go_wp2_with fail
      refine wp_region_quiet_lit (by kernel_rfl) (by kernel_rfl) ?_
      go_big_quiet_step (fail)
      go_big_quiet_step (fail)
      go_big_quiet_step (fail)
      refine wpQuiet_load_mid rfl 78 _ rfl _ _ rfl (blkCells F q) (.array 256 5) (fun w' hw' => by obtain ⟨k, rfl⟩ := hw'; exact R1.out) Try.underlying78 rfl (by rw [blkCells_len]; kernel_rfl) ?_
      go_simp
      go_big_quiet_step (fail)
      go_big_quiet_step (fail)
      go_big_quiet_step (fail)
      refine wpQuiet_load_mid rfl 77 _ rfl _ _ rfl (blkCells F q) (.array 256 5) (fun w' hw' => by obtain ⟨k, rfl⟩ := hw'; exact R2.out) Try.underlying77 rfl (by rw [blkCells_len]; kernel_rfl) ?_
      go_simp
      refine wpQuiet_neq_agg rfl 78 78 _ _ rfl (blkCells F q).toArray (blkCells F q).toArray rfl rfl (by kernel_rfl) false (fun w' => by rw [run_eq_blk 78 Try.underlying78, HE.out]; rfl) ?_
      refine wpQuiet_nil ?_
      intro nq
      go_simp
      go_wp2_with fail
      exact ⟨⟨q + 1, by omega, by go_num, _, rfl⟩, by simp [intOf]; omega⟩
    · obtain rfl : q = L := by omega
      have HX5 := Lib.hid (HX4.out.drewN kd)
      have HM5 := Lib.hid (HM4.out.drewN kd)
      have HO5 := Lib.hid (show (w4.drewN kd).ownsRow w.heap.size 77 256 _ q (lcells F q) from HO.out)
      have HB5 := Lib.hid (below_drewN HB4.out kd)
      clear HX4 HM4 HO HB4 HW
      generalize w4.drewN kd = w5 at *
      go_wp2_with fail
      refine (froml_any (n : Int) _ q _ F w5 HX5.out (by unfold maxLen; omega) HFL.out).mono ?_
      intro e w6 hpost
      rcases hpost with ⟨h1, _⟩ | ⟨_, _, h1, _⟩ | ⟨_, _, _, b6, bb6, rfl, _, _, hM6, hB6⟩
      · omega
      · rw [Int.toNat_natCast, HOK.out] at h1; cases h1
      rw [Int.toNat_natCast, HFK.out] at hM6
      have HM6 := Lib.hid hM6
      have HM6' := Lib.hid (HM5.out.below hB6)
      have HO6 := Lib.hid (HO5.out.kept (only_of_below hB6 none) (own_any' HO5.out))
      have HB6 := Lib.hid (below_trans' HB5.out hB6)
      clear hM6 hB6 HM5 HO5 HX5 HB5
      go_wp2_with fail
      refine (same_any b6 bb6 n k b bb n k w6 HM6.out HM6'.out).mono ?_
      rintro e w7 ⟨he, nq, rfl⟩
      rw [sameB_refl'] at he
      subst he
      have HO7 := Lib.hid (show (w6.drewN nq).ownsRow w.heap.size 77 256 _ q (lcells F q) from HO6.out)
      have HB7 := Lib.hid (below_drewN HB6.out nq)
      clear HM6 HM6' HO6 HB6
      generalize w6.drewN nq = w7 at *
      go_upto_region 16 with fail
      go_cut [89] (fun s wx => ∃ bo, s = .bool bo ∧ Hid (InR bo at_) ∧ w7 = wx)
      case first =>
        by_cases hat0 : 0 ≤ at_
        · by_cases hat1 : at_ < 256
          · have h1 : Hid (InR true at_) := Lib.hid (fun _ => ⟨hat0, hat1⟩)
            go_wp2_with fail
            go_meet
            exact ⟨_, rfl, h1, rfl⟩
          · have h1 : Hid (InR false at_) := Lib.hid (fun h => by cases h)
            go_wp2_with fail
            go_meet
            exact ⟨_, rfl, h1, rfl⟩
        · have h1 : Hid (InR false at_) := Lib.hid (fun h => by cases h)
          go_wp2_with fail
          go_meet
          exact ⟨_, rfl, h1, rfl⟩
      case rest =>
        obtain ⟨bo, rfl, hbo, rfl⟩ := hcut
        go_upto_if 89 with fail
        go_cut [12] (fun s12 wx => ∃ g12 c12 f wy, wy = wx ∧ s12 = .slice (some ⟨g12, 0, none⟩) q c12 ∧ (∀ i, f i < 256) ∧ wx.ownsRow w.heap.size 77 256 (.slice (some ⟨g12, 0, none⟩) q c12) q (lcells f q) ∧ Below w.heap.size w wx)
        case first =>
          cases bo with
          | true =>
            have hat := hbo.out rfl
            clear hbo
            obtain ⟨p, rfl⟩ := Int.eq_ofNat_of_zero_le hat.1
            have hp : p < 256 := by omega
            have hoq : (q - 1) * 256 + p < 256 * q := by omega
            obtain ⟨V, hFV⟩ : ∃ V, F ((q - 1) * 256 + p) = V := ⟨_, rfl⟩
            have hc : w7.cell? ⟨g12, (q - 1) * 256 + p, none⟩ = some (.int .u8 (V : Int)) := by
              have k := HO7.out.cellAt (j := (q - 1) * 256 + p) (by omega)
              rw [k, ← hFV]; exact lcells_at F q _ hoq
            have hf : w7.frozen? ⟨g12, (q - 1) * 256 + p, none⟩ = false := own_free HO7.out _
            have hV : V < 256 := by rw [← hFV]; exact HFL.out _
            have hxo := xor_any ⟨V, hV⟩
            simp only at hxo
            have HS := Lib.hid (own_set (v := V ^^^ 128) HO7.out hoq)
            have HFL2 := Lib.hid (fun i => setN_lt HFL.out ((q - 1) * 256 + p) hxo.1 i)
            have HB8 := Lib.hid (HB7.out.setCell (p := ⟨g12, (q - 1) * 256 + p, none⟩) (HO7.out.lt g12 rfl).1 (.int .u8 ((V ^^^ 128 : Nat) : Int)))
            have hxo2 := hxo.2
            clear hxo hFV
            have e1 : IntKind.i64.wrap ((q : Int) - 1) = (q : Int) - 1 := IntWalk.i64_in _ (by omega)
            have e2 : 0 ≤ (q : Int) - 1 := by omega
            have e2' : 1 ≤ (q : Int) := by omega
            have e2'' : 1 ≤ q := hL1
            have e3 : (q : Int) - 1 < (q : Int) := by omega
            have e4 : ((q : Int) - 1).toNat = q - 1 := by omega
            have e5 : 0 ≤ (p : Int) := by omega
            have e6 : (p : Int) < 256 := by omega
            have e7 : (p : Int).toNat = p := by omega
            clear hat hoq
            go_wp2_with fail
            refine wp_region_still_tail 11 (by kernel_rfl) (by kernel_rfl) ?_
            simp only [List.take_succ_cons, List.take_zero, List.drop_succ_cons, List.drop_zero]
            rw [show ({ heap := w7.heap, tape := w7.tape, drawn := w7.drawn + 1, os := w7.os, output := w7.output } : World) = w7.drew from rfl]
            have hc : w7.drew.cell? ⟨g12, (q - 1) * 256 + p, none⟩ = _ := hc
            have hf : w7.drew.frozen? ⟨g12, (q - 1) * 256 + p, none⟩ = _ := hf
            have HS2 : Hid ((w7.drew.setCell ⟨g12, (q - 1) * 256 + p, none⟩ (.int .u8 ((V ^^^ 128 : Nat) : Int))).ownsRow w.heap.size 77 256 (.slice (some ⟨g12, 0, none⟩) q c12) q (lcells (setN F ((q - 1) * 256 + p) (V ^^^ 128)) q)) := HS
            have HB9 : Hid (Below w.heap.size w (w7.drew.setCell ⟨g12, (q - 1) * 256 + p, none⟩ (.int .u8 ((V ^^^ 128 : Nat) : Int)))) := Lib.hid ⟨HB8.out.os, HB8.out.tape, HB8.out.output, HB8.out.size, HB8.out.block⟩
            clear HS HB8
            generalize w7.drew = w8 at *
            repeat still_step
            refine wpStill_nil ?_
            clear e1 e2 e2' e2'' e3 e4 e5 e6 e7 hxo2
            go_wp2_with fail
            go_meet
            exact ⟨g12, c12, _, _, rfl, rfl, HFL2.out, HS2.out, HB9.out⟩
          | false =>
            clear hbo
            go_wp2_with fail
            go_meet
            exact ⟨g12, c12, F, _, rfl, rfl, HFL.out, HO7.out, HB7.out⟩
        case rest =>
          obtain ⟨g13, c13, F1, w8, rfl, rfl, hF1, hO1, hB1⟩ := hcut
          have HF1 := Lib.hid hF1
          have HO8 := Lib.hid hO1
          have HB8 := Lib.hid hB1
          clear hF1 hO1 hB1 HO7 HB7
          obtain ⟨i0, hi, hz0, hz1, hz2⟩ := info_parts info77
          obtain ⟨i1, hji, hy0, hy1, hy2⟩ := info_parts info78'
          obtain ⟨mo, hmo⟩ : ∃ mo, (at_.tmod 7 == 1) = mo := ⟨_, rfl⟩
          rw [hmo]
          clear hmo
          go_upto_if 101 with fail
          go_cut [12] (fun s12 wx => ∃ g12 c12 m f wy, wy = wx ∧ m ≤ 9 ∧ 1 ≤ m ∧ s12 = .slice (some ⟨g12, 0, none⟩) m c12 ∧ (∀ i, f i < 256) ∧ wx.ownsRow w.heap.size 77 256 (.slice (some ⟨g12, 0, none⟩) m c12) m (lcells f m) ∧ Below w.heap.size w wx)
          case first =>
            cases mo with
            | true =>
              have hs8 := HB8.out.size
              go_wp2_with fail
              refine wp_buildSlice 75 77 1 #[(0, .tmp 103)] rfl hd4.toList.toArray i0 (.agg zero256) Try.underlying75 hi hz0 (by rw [hz1]; decide) (by rw [hz1]; decide) (by rw [hz1]; exact fill_blk3 _ (.agg zero256) _ _ (by rw [hd4_list, blkCells_len]) rfl) ?_
              go_wp2_with (at_builtin; go_must (refine wpList_append_own _ rfl (.tmp 102) (.tmp 104) 75 rfl w.heap.size 77 i0 (.agg zero256) 256 256 Try.underlying75 hi hz0 hz1 hz2 rfl (by decide) _ _ _ rfl (HO8.out.alloc _) ⟨w8.heap.size, 0, none⟩ 1 1 hd4.toList rfl (by rw [hd4_list, blkCells_len]) (blk_cells w8 _) (by rw [hd4_list]; exact blk_one _ _) (by unfold maxLen; omega) (by omega) (by simp; omega) ?_); intro v' w9 hown1 hgrow1 _; have HB9 := Lib.hid ((HB8.out.alloc HB8.out.size _).grown hgrow1 (by simp; omega) (fun k hk => (HO8.out.lt k hk).1)); rw [moreF_cells] at hown1; have HO9 := Lib.hid hown1; clear hown1 hgrow1)
              obtain ⟨g14, c14, rfl, _⟩ := blks_of_own HO9.out (by omega)
              go_meet
              exact ⟨g14, c14, q + 1, _, _, rfl, by omega, by omega, rfl, fun i => moreF_lt HF1.out q i, HO9.out, HB9.out⟩
            | false =>
              go_wp2_with fail
              go_meet
              exact ⟨g13, c13, q, F1, _, rfl, by omega, by omega, rfl, HF1.out, HO8.out, HB8.out⟩
          case rest =>
            obtain ⟨g14, c14, m, F2, w9, rfl, hm9, hm1, rfl, hF2, hO2, hB2⟩ := hcut
            obtain ⟨_, _, e14, hW2⟩ := blks_of_own hO2 hm1
            cases e14
            have HF2 := Lib.hid hF2
            have HW2 := Lib.hid hW2
            have HB9 := Lib.hid hB2
            clear hF2 hO2 hB2 hW2 HO8 HB8
            go_wp2_with fail
            have HO0 := Lib.hid (own_empty w9 78 256)
            have HB0 : Hid (Below w9.heap.size w9 (w9.alloc (.cells #[] 78))) := Lib.hid ((Below.refl _ _).alloc (Nat.le_refl _) _)
            go_loopw [16, 17] (fun v i wr => ∃ (j : Nat), j ≤ m ∧ i = .int .i64 j ∧ wr.ownsRow w9.heap.size 78 256 v j (lcells F2 j) ∧ Below w9.heap.size w9 wr) (fun _ i _ => m - (intOf i).toNat)
            case atStart => exact ⟨0, by omega, rfl, HO0.out, HB0.out⟩
            case round =>
              obtain ⟨j, hj, rfl, hO, hB⟩ := hrel
              obtain ⟨wq, rfl⟩ : ∃ wq : World, wq = wr := ⟨_, rfl⟩
              have HO := Lib.hid hO
              have HB := Lib.hid hB
              have hsz := hB.size
              clear hO hB HO0 HB0
              by_cases hlt : j < m
              · obtain ⟨b2, o2, e2, _, k2⟩ := (HW2.out.below HB.out) (by omega)
                cases e2
                have hra : wq.rangeAt g14 (j * 256) (blkCells F2 j) := by have := Blks.range k2 hlt; rwa [Nat.zero_add] at this
                have hld := run_loadVar_mid wq g14 (j * 256) 77 (blkCells F2 j) _ hra Try.underlying77 (by kernel_rfl) (by rw [blkCells_len]; kernel_rfl)
                have hlc := blkCells_len F2 j
                clear k2 hra
                go_wp2_with fail
                refine wp_load_mid 77 (.tmp 116) g14 (j * 256) _ rfl rfl hld ?_
                go_wp2_with fail
                refine wp_buildSlice 73 78 1 #[(0, .tmp 117)] rfl (blkCells F2 j).toArray i1 (.agg zero256) Try.underlying73 hji hy0 (by rw [hy1]; decide) (by rw [hy1]; decide) (by rw [hy1]; exact fill_blk3 _ (.agg zero256) _ _ hlc rfl) ?_
                go_wp2_with (at_builtin; go_must (refine wpList_append_own _ rfl (.tmp 113) (.tmp 118) 73 rfl w9.heap.size 78 i1 (.agg zero256) 256 256 Try.underlying73 hji hy0 hy1 hy2 rfl (by decide) _ _ _ rfl (HO.out.alloc _) ⟨wq.heap.size, 0, none⟩ 1 1 (blkCells F2 j) rfl hlc (blk_cells' wq _) (blk_one _ _) (by unfold maxLen; omega) (by omega) (by simp; omega) ?_); intro v' w10 hown1 hgrow1 _; have HB1 := Lib.hid ((HB.out.alloc hsz _).grown hgrow1 (by simp; omega) (fun k hk => (HO.out.lt k hk).1)); have HO1 := Lib.hid hown1; clear hown1 hgrow1)
                exact ⟨⟨j + 1, by omega, by go_num, by rw [lcells_succ]; exact HO1.out, HB1.out⟩, by simp [intOf]; omega⟩
              · obtain rfl : j = m := by omega
                obtain ⟨g16, c16, rfl, hY⟩ := blks_of_own HO.out hm1
                have HY := Lib.hid hY
                have HW3 := Lib.hid (HW2.out.below HB.out)
                have HB3 := Lib.hid (below_trans' HB9.out HB.out)
                clear hY HO HB HW2 HB9
                go_wp2_with fail
                cases hlo : leafOk n j F2
                all_goals
                  have HLO := Lib.hid hlo
                  clear hlo
                · refine (froml_any (n : Int) _ j _ F2 wq HY.out (by unfold maxLen; omega) HF2.out).mono ?_
                  intro e w11 hpost
                  rcases hpost with ⟨h1, _⟩ | ⟨_, _, _, rfl, hB4⟩ | ⟨_, _, h1, _⟩
                  · omega
                  · have HW4 := Lib.hid (HW3.out.below hB4)
                    have HB4 := Lib.hid (below_trans' HB3.out hB4)
                    clear hB4 HW3 HB3
                    go_wp2_with fail
                    refine (rfroml_any (n : Int) _ j _ F2 w11 HW4.out hm9 HF2.out (by omega) (by omega)).mono ?_
                    rintro e w12 ⟨hB5, hpost⟩
                    rcases hpost with ⟨_, rfl⟩ | ⟨h1, _⟩
                    · have HB5 := Lib.hid (below_trans' HB4.out hB5)
                      clear hB5
                      go_wp2_with fail
                      go_ret
                      exact ⟨rfl, HB5.out⟩
                    · rw [Int.toNat_natCast, HLO.out] at h1; cases h1
                  · rw [Int.toNat_natCast, HLO.out] at h1; cases h1
                · refine (froml_any (n : Int) _ j _ F2 wq HY.out (by unfold maxLen; omega) HF2.out).mono ?_
                  intro e w11 hpost
                  rcases hpost with ⟨h1, _⟩ | ⟨_, _, h1, _⟩ | ⟨_, _, _, b8, bb8, rfl, _, _, hM8, hB4⟩
                  · omega
                  · rw [Int.toNat_natCast, HLO.out] at h1; cases h1
                  · rw [Int.toNat_natCast] at hM8
                    have HM8 := Lib.hid hM8
                    have HW4 := Lib.hid (HW3.out.below hB4)
                    have HB4 := Lib.hid (below_trans' HB3.out hB4)
                    clear hB4 HW3 HB3 hM8
                    go_wp2_with fail
                    refine (rfroml_any (n : Int) _ j _ F2 w11 HW4.out hm9 HF2.out (by omega) (by omega)).mono ?_
                    rintro e w12 ⟨hB5, hpost⟩
                    rcases hpost with ⟨h1, _⟩ | ⟨_, g8, c8, rfl, hG8, _⟩
                    · rw [Int.toNat_natCast, HLO.out] at h1; cases h1
                    · rw [Int.toNat_natCast] at hG8 ⊢
                      have HG8 := Lib.hid hG8
                      have HM9 := Lib.hid (HM8.out.below hB5)
                      have HB5 := Lib.hid (below_trans' HB4.out hB5)
                      clear hB5 hG8 HM8 HB4
                      go_wp2_with fail
                      refine (says_any b8 bb8 g8 n c8 (fromK F2 n) 0 _ HM9.out HG8.out).mono ?_
                      rintro e w13 ⟨rfl, hB6⟩
                      have HB6 := Lib.hid (below_trans' HB5.out hB6)
                      clear hB6
                      go_wp2_with fail
                      go_ret
                      exact ⟨rfl, HB6.out⟩
end Go.Proofs.Ytffdklcpkkcohaa
