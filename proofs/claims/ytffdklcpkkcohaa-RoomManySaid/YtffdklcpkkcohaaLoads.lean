/- RoomLoads: every Load answers as the statement says. -/
import Derived.Test.YtffdklcpkkcohaaLoad
import Derived.Test.YtffdklcpkkcohaaKeepsMath
namespace Go.Proofs.Ytffdklcpkkcohaa
open Go.RowKit
theorem loadS_two (K : Nat → Bool) (i : Nat) : (loadS K i == 2) = K i := by
  unfold loadS freeS
  cases h : K i
  · rw [if_neg (by simp)]
    by_cases e : i = 0
    · rw [if_pos e]; rfl
    · rw [if_neg e]; rfl
  · rw [if_pos rfl]; rfl
theorem loadS_used (K : Nat → Bool) (n : Nat) (hK : ∀ p, n ≤ p → K p = false) : ∀ i, usedK n (loadS K) i = K i := by
  intro i
  unfold usedK
  rw [loadS_two]
  have h3 : (loadS K i == 3) = false := by
    unfold loadS freeS
    by_cases h : K i = true
    · rw [if_pos h]; rfl
    · rw [if_neg h]
      by_cases e : i = 0
      · rw [if_pos e]; rfl
      · rw [if_neg e]; rfl
  rw [h3, Bool.or_false]
  by_cases h : i < n
  · rw [decide_eq_true h]; rfl
  · rw [hK i (by omega), Bool.and_false]
theorem loadS_fresh (K : Nat → Bool) (h0 : K 0 = false) : Fresh (loadS K) := by
  intro i
  unfold loadS freeS
  by_cases e : i = 0
  · subst e; left; rw [h0]; exact ⟨rfl, rfl⟩
  · right
    refine ⟨e, ?_⟩
    cases K i
    · left; simp [e]
    · right; rfl
theorem loadS_list (K : Nat → Bool) (n : Nat) : listS n (loadS K) 2 = (List.range n).filter K := by
  unfold listS
  congr 1
  funext i
  exact loadS_two K i
theorem loadS_count (K : Nat → Bool) (n : Nat) : (listS n (loadS K) 2).length = countK n K := by rw [loadS_list]; rfl
theorem loadS_free (K : Nat → Bool) (n : Nat) (h0 : K 0 = false) (hn : 1 ≤ n) : (listS n (loadS K) 1).length = n - 1 - countK n K ∧ countK n K ≤ n - 1 := by
  have := fresh_sum (loadS_fresh K h0) hn
  unfold cnt at this
  rw [loadS_count] at this
  omega
set_option maxRecDepth 100000 in
set_option maxHeartbeats 2000000 in
theorem rloads_any (size : Int) (a : Option Addr) (m cap : Nat) (f : Nat → Nat) (w : World) (h : Blks w a m f) (hm : m ≤ maxLen) (hf : ∀ i, f i < 256) :
    Calls Try.prog 12 #[.int .i64 size, .slice a m cap] w fun e w' => e = .returned (.bool true) ∧ Below w.heap.size w w' := by
  have HA := Lib.hid (rawake_any w)
  have H := Lib.hid h
  have HF := Lib.hid hf
  clear h hf
  have HLD := Lib.hid (fun w1 (hB : Below w.heap.size w w1) => load_any size a m cap f w1 (H.out.below hB) hm HF.out)
  by_cases h1 : size < 16
  · have HLD2 := Lib.hid (fun w1 hB => (HLD.out w1 hB).mono (fun e w' h => show e = .returned (.tuple #[.pointer none, .int .i64 120]) ∧ Below w1.heap.size w1 w' by
      rcases h with ⟨_, h2⟩ | ⟨h2, _⟩ | ⟨h2, _⟩
      · exact h2
      · omega
      · omega))
    clear HLD
    go_enter Try.func12, Try.ntmps12
    go_wp2_with fail
    refine HA.out.mono ?_
    rintro e w1 ⟨rfl, hB⟩
    have HB := Lib.hid hB
    clear hB
    go_wp2_with fail
    refine (HLD2.out _ HB.out).mono ?_
    rintro e w2 ⟨rfl, hB2⟩
    have HB2 := Lib.hid (below_trans' HB.out hB2)
    clear hB2
    go_wp2_with fail
    go_ret
    exact ⟨rfl, HB2.out⟩
  by_cases h2 : 8192 < size
  · have HLD2 := Lib.hid (fun w1 hB => (HLD.out w1 hB).mono (fun e w' h => show e = .returned (.tuple #[.pointer none, .int .i64 120]) ∧ Below w1.heap.size w1 w' by
      rcases h with ⟨_, h2⟩ | ⟨_, h2, _⟩ | ⟨_, h2, _⟩
      · exact h2
      · omega
      · omega))
    clear HLD
    go_enter Try.func12, Try.ntmps12
    go_wp2_with fail
    refine HA.out.mono ?_
    rintro e w1 ⟨rfl, hB⟩
    have HB := Lib.hid hB
    clear hB
    go_wp2_with fail
    refine (HLD2.out _ HB.out).mono ?_
    rintro e w2 ⟨rfl, hB2⟩
    have HB2 := Lib.hid (below_trans' HB.out hB2)
    clear hB2
    go_wp2_with fail
    go_ret
    exact ⟨rfl, HB2.out⟩
  obtain ⟨n, rfl⟩ := Int.eq_ofNat_of_zero_le (by omega : 0 ≤ size)
  have hn1 : 16 ≤ n := by omega
  have hn2 : n ≤ 8192 := by omega
  have HFR := Lib.hid (fun w1 (hB : Below w.heap.size w w1) => froml_any (n : Int) a m cap f w1 (H.out.below hB) hm HF.out)
  cases hlo : leafOk n m f
  · have HO := Lib.hid hlo
    clear hlo
    have HLD2 := Lib.hid (fun w1 hB => (HLD.out w1 hB).mono (fun e w' h => show e = .returned (.tuple #[.pointer none, .int .i64 122]) ∧ Below w1.heap.size w1 w' by
      rcases h with ⟨h2, _⟩ | ⟨_, _, _, h2⟩ | ⟨_, _, h2, _⟩
      · omega
      · exact h2
      · unfold loadOk at h2; rw [Int.toNat_natCast, HO.out] at h2; cases h2))
    have HFR2 := Lib.hid (fun w1 hB => (HFR.out w1 hB).mono (fun e w' h => show e = .returned (.tuple #[.pointer none, .int .i64 111]) ∧ Below w1.heap.size w1 w' by
      rcases h with ⟨h1, _⟩ | ⟨_, _, _, h2⟩ | ⟨_, _, h1, _⟩
      · omega
      · exact h2
      · rw [Int.toNat_natCast, HO.out] at h1; cases h1))
    clear HLD HFR
    go_enter Try.func12, Try.ntmps12
    go_wp2_with fail
    refine HA.out.mono ?_
    rintro e w1 ⟨rfl, hB⟩
    have HB := Lib.hid hB
    clear hB
    go_wp2_with fail
    refine (HLD2.out _ HB.out).mono ?_
    rintro e w2 ⟨rfl, hB2⟩
    have HB2 := Lib.hid (below_trans' HB.out hB2)
    clear hB2
    go_wp2_with fail
    refine (HFR2.out _ HB2.out).mono ?_
    rintro e w3 ⟨rfl, hB3⟩
    have HB3 := Lib.hid (below_trans' HB2.out hB3)
    clear hB3
    go_wp2_with fail
    go_ret
    exact ⟨rfl, HB3.out⟩
  have HO := Lib.hid hlo
  clear hlo
  have HFR2 := Lib.hid (fun w1 hB => (HFR.out w1 hB).mono (fun e w' h => show ∃ b bb, e = .returned (.tuple #[.pointer (some ⟨b, 0, none⟩), .int .i64 0]) ∧ w1.heap.size ≤ b ∧ w1.heap.size ≤ bb ∧ MapAt w' b bb n (fromK f n) ∧ Below w1.heap.size w1 w' by
      rcases h with ⟨h1, _⟩ | ⟨_, _, h1, _⟩ | ⟨_, _, _, h2⟩
      · omega
      · rw [Int.toNat_natCast, HO.out] at h1; cases h1
      · rw [Int.toNat_natCast] at h2; exact h2))
  clear HFR
  cases hk0 : fromK f n 0
  case true =>
    have HK0 := Lib.hid hk0
    clear hk0
    have HLD2 := Lib.hid (fun w1 hB => (HLD.out w1 hB).mono (fun e w' h => show e = .returned (.tuple #[.pointer none, .int .i64 122]) ∧ Below w1.heap.size w1 w' by
      rcases h with ⟨h2, _⟩ | ⟨_, _, _, h2⟩ | ⟨_, _, h2, _⟩
      · omega
      · exact h2
      · unfold loadOk at h2; rw [Int.toNat_natCast, HO.out, HK0.out] at h2; cases h2))
    clear HLD
    go_enter Try.func12, Try.ntmps12
    go_wp2_with fail
    refine HA.out.mono ?_
    rintro e w1 ⟨rfl, hB⟩
    have HB := Lib.hid hB
    clear hB
    go_wp2_with fail
    refine (HLD2.out _ HB.out).mono ?_
    rintro e w2 ⟨rfl, hB2⟩
    have HB2 := Lib.hid (below_trans' HB.out hB2)
    clear hB2
    go_wp2_with fail
    refine (HFR2.out _ HB2.out).mono ?_
    rintro e w3 ⟨mb, mbb, rfl, _, _, hM, hB3⟩
    have HB3 := Lib.hid (below_trans' HB2.out hB3)
    have HH := Lib.hid (has_in mb mbb n (fromK f n) w3 0 hM (by omega))
    rw [HK0.out] at HH
    clear hB3 hM
    go_wp2_with fail
    refine HH.out.mono ?_
    rintro e w' ⟨rfl, rfl⟩
    go_wp2_with fail
    go_ret
    exact ⟨rfl, HB3.out⟩
  have HK0 := Lib.hid hk0
  clear hk0
  have HLD2 := Lib.hid (fun w1 hB => (HLD.out w1 hB).mono (fun e w' h => show ∃ b bb, e = .returned (.tuple #[.pointer (some ⟨b, 0, none⟩), .int .i64 0]) ∧ w1.heap.size ≤ b ∧ w1.heap.size ≤ bb ∧ RoomAt w' b bb n (loadS (fromK f n)) ∧ Below w1.heap.size w1 w' by
      rcases h with ⟨h2, _⟩ | ⟨_, _, h2, _⟩ | ⟨_, _, _, h2⟩
      · omega
      · unfold loadOk at h2; rw [Int.toNat_natCast, HO.out, HK0.out] at h2; cases h2
      · rw [Int.toNat_natCast] at h2; exact h2))
  clear HLD
  obtain ⟨C, hC⟩ : ∃ C, countK n (fromK f n) = C := ⟨_, rfl⟩
  have hcc := loadS_count (fromK f n) n
  have hcf := loadS_free (fromK f n) n HK0.out (by omega)
  rw [hC] at hcc hcf
  have hCn := hcf.2
  obtain ⟨F, hF⟩ : ∃ F, n - 1 - C = F := ⟨_, rfl⟩
  rw [hF] at hcf
  have tF : ((F : Int) != (n : Int) - 1 - (C : Int)) = false := by simp; omega
  have HCC := Lib.hid hcc
  have HCF := Lib.hid hcf.1
  have HC := Lib.hid hC
  clear hcc hcf hC hF
  go_enter Try.func12, Try.ntmps12
  go_wp2_with fail
  refine HA.out.mono ?_
  rintro e w1 ⟨rfl, hB⟩
  have HB := Lib.hid hB
  clear hB
  go_wp2_with fail
  refine (HLD2.out _ HB.out).mono ?_
  rintro e w2 ⟨b, bb, rfl, _, _, hR, hB2⟩
  have HB2 := Lib.hid (below_trans' HB.out hB2)
  have HR := Lib.hid hR
  clear hB2 hR HB
  go_wp2_with fail
  refine (HFR2.out _ HB2.out).mono ?_
  rintro e w3 ⟨mb, mbb, rfl, _, _, hM, hB3⟩
  have HB3 := Lib.hid (below_trans' HB2.out hB3)
  have HH := Lib.hid (has_in mb mbb n (fromK f n) w3 0 hM (by omega))
  rw [HK0.out] at HH
  have HM := Lib.hid hM
  have HR3 := Lib.hid (HR.out.below hB3)
  clear hB3 hM HR
  go_wp2_with fail
  refine HH.out.mono ?_
  rintro e w' ⟨rfl, rfl⟩
  have HBK := Lib.hid (rblocks_any b bb n _ w3 HR3.out)
  clear HH
  go_wp2_with fail
  refine HBK.out.mono ?_
  rintro e w' ⟨rfl, rfl⟩
  have HC2 := Lib.hid (rcountS_any b bb n _ 2 w3 HR3.out)
  rw [HCC.out] at HC2
  clear HBK
  go_wp2_with fail
  refine HC2.out.mono ?_
  rintro e w4 ⟨rfl, hB4⟩
  have HB4 := Lib.hid (below_trans' HB3.out hB4)
  have HR4 := Lib.hid (HR3.out.below hB4)
  have HM4 := Lib.hid (HM.out.below hB4)
  have HCM := Lib.hid (count_any mb mbb n _ w4 HM4.out)
  rw [HC.out] at HCM
  clear hB4 HC2
  go_wp2_with fail
  refine HCM.out.mono ?_
  rintro e w' ⟨rfl, rfl⟩
  have HC1 := Lib.hid (rcountS_any b bb n _ 1 w4 HR4.out)
  rw [HCF.out] at HC1
  go_wp2_with fail
  refine HC1.out.mono ?_
  clear HCM HC1
  rintro e w5 ⟨rfl, hB5⟩
  have HB5 := Lib.hid (below_trans' HB4.out hB5)
  have HR5 := Lib.hid (HR4.out.below hB5)
  have HM5 := Lib.hid (HM4.out.below hB5)
  have HCM := Lib.hid (count_any mb mbb n _ w5 HM5.out)
  rw [HC.out] at HCM
  clear hB5
  go_wp2_with fail
  refine HCM.out.mono ?_
  clear HCM
  rintro e w' ⟨rfl, rfl⟩
  have HLS := Lib.hid (list_sl b bb n _ 2 w5 HR5.out)
  rw [HCC.out] at HLS
  go_wp2_with fail
  refine HLS.out.mono ?_
  rintro e w6 ⟨la, lc, rfl, hU, hB6⟩
  have HU := Lib.hid hU
  have HB6 := Lib.hid (below_trans' HB5.out hB6)
  have HR6 := Lib.hid (HR5.out.below hB6)
  have HM6 := Lib.hid (HM5.out.below hB6)
  clear hU hB6 HLS
  go_wp2_with fail
  have hCn' : C ≤ 8192 := by omega
  go_loop [81] (fun i => ∃ p : Nat, p ≤ C ∧ i = .int .i64 p) (fun i => C - (intOf i).toNat)
  case atStart => exact ⟨0, by omega, rfl⟩
  case round =>
    obtain ⟨p, hp, rfl⟩ := hrel
    by_cases hlt : p < C
    · obtain ⟨g, rfl, _, hg, hcell⟩ := HU.out (by rw [HCC.out]; omega)
      have hpl : p < (listS n (loadS (fromK f n)) 2).length := by rw [HCC.out]; exact hlt
      obtain ⟨c1, _⟩ := hcell p _ (List.getElem?_eq_getElem hpl)
      have hmem := List.getElem_mem hpl
      generalize (listS n (loadS (fromK f n)) 2)[p] = x at *
      rw [loadS_list, List.mem_filter, List.mem_range] at hmem
      have hxn := hmem.1
      have HH := Lib.hid (has_in mb mbb n (fromK f n) w6 x HM6.out hxn)
      rw [hmem.2] at HH
      clear hcell hmem
      go_wp2_with fail
      refine HH.out.mono ?_
      rintro e w' ⟨rfl, rfl⟩
      go_wp2_with fail
      go_round
      case rel => exact ⟨p + 1, by omega, by go_num⟩
      case measure => simp [intOf]; omega
    · have HLV := Lib.hid (rleaves_any b bb n _ w6 HR6.out)
      go_wp2_with fail
      refine HLV.out.mono ?_
      rintro e w7 ⟨a7, c7, rfl, hBl, hB7⟩
      have HB7 := Lib.hid (below_trans' HB6.out hB7)
      have hfun : usedK n (loadS (fromK f n)) = fromK f n := funext (loadS_used (fromK f n) n (fromK_out f n))
      rw [hfun] at hBl
      have HEQ := Lib.hid (blocks_any a7 a (nLeaves n) m c7 cap _ f w7 hBl (H.out.below HB7.out) (by unfold nLeaves maxLen; omega))
      rw [show bsame (nLeaves n) m (leafAll (fromK f n) n) f = _ from HO.out] at HEQ
      clear hBl hB7 hfun HLV
      go_wp2_with fail
      refine HEQ.out.mono ?_
      rintro e w8 ⟨rfl, nq, rfl⟩
      go_wp2_with fail
      go_ret
      exact ⟨rfl, below_drewN HB7.out _⟩
end Go.Proofs.Ytffdklcpkkcohaa
