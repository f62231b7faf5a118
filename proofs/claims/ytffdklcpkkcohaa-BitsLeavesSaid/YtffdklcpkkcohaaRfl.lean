/- Contract of the document's FromLeaves. -/
import Derived.Test.YtffdklcpkkcohaaRl
import Derived.Test.YtffdklcpkkcohaaFroml
namespace Go.Proofs.Ytffdklcpkkcohaa
open Go.RowKit
/-- bit p of m leaves of bytes f -/
def rbitK (f : Nat → Nat) (m p : Nat) : Bool := decide (p / 1024 < m) && (rawB f (p / 8)).testBit (p % 8)
theorem cut_rbit (f : Nat → Nat) (n m : Nat) (hm : m = nLeaves n) : cutK n (rbitK f m) = fromK f n := by
  funext p
  unfold cutK rbitK fromK
  by_cases h : p < n
  · rw [decide_eq_true h, decide_eq_true (show p / 1024 < m by rw [hm]; unfold nLeaves; omega)]; simp
  · rw [decide_eq_false h]; simp
theorem lcells_len (f : Nat → Nat) (m : Nat) : (lcells f m).length = 256 * m := by
  induction m with
  | zero => rfl
  | succ m ih => rw [lcells_succ, List.length_append, ih, blkCells_len]; omega
theorem lcells_at (f : Nat → Nat) (m i : Nat) (h : i < 256 * m) : (lcells f m)[i]? = some (.int .u8 (f i : Int)) := by
  induction m with
  | zero => omega
  | succ m ih =>
    rw [lcells_succ]
    by_cases h1 : i < 256 * m
    · rw [List.getElem?_append_left (by rw [lcells_len]; exact h1)]; exact ih h1
    · rw [List.getElem?_append_right (by rw [lcells_len]; omega), lcells_len, blkCells_at _ _ _ (by omega), show m * 256 + (i - 256 * m) = i by omega]
theorem blks_of_own {w : World} {B e : Nat} {v : Value} {m : Nat} {f : Nat → Nat} (h : w.ownsRow B e 256 v m (lcells f m)) (h1 : 1 ≤ m) :
    ∃ g cap, v = .slice (some ⟨g, 0, none⟩) m cap ∧ Blks w (some ⟨g, 0, none⟩) m f := by
  rcases h.2 with ⟨h3, h4⟩ | ⟨g, cap, cur, rfl, hb, hg, _⟩
  · omega
  · refine ⟨g, cap, rfl, fun _ => ⟨g, 0, rfl, (Array.getElem?_eq_some_iff.1 hg).1, fun i hi => ?_⟩⟩
    have k := h.cellAt (j := i) (by omega)
    rw [Nat.zero_add, k]; exact lcells_at f m i hi
def boolCells (K : Nat → Bool) (p : Nat) : List Value := (List.range p).map fun i => Value.bool (K i)
theorem boolCells_succ (K : Nat → Bool) (p : Nat) : boolCells K (p + 1) = boolCells K p ++ [.bool (K p)] := by
  unfold boolCells; rw [List.range_succ, List.map_append]; rfl
theorem bools_of_own {w : World} {B : Nat} {v : Value} {n : Nat} {K : Nat → Bool} (h : w.ownsRow B 4 1 v n (boolCells K n)) (h1 : 1 ≤ n) (h2 : n ≤ 8192) :
    ∃ g cap, v = .slice (some ⟨g, 0, none⟩) n cap ∧ B ≤ g ∧ BoolsAt w g n K := by
  rcases h.2 with ⟨h3, h4⟩ | ⟨g, cap, cur, rfl, hb, hg, _⟩
  · omega
  · have hc : ∀ i, i < n → cur[i]? = some (.bool (K i)) := fun i hi => by
      have k := h.cellAt (j := i) (by simpa [boolCells] using hi)
      rw [cell_of_row w g i cur 4 (0, 0) hg] at k
      rw [k]; simp [boolCells, hi]
    refine ⟨g, cap, rfl, hb, (Array.getElem?_eq_some_iff.1 hg).1, h2, cur, hg, ?_, hc⟩
    have := (Array.getElem?_eq_some_iff.1 (hc (n - 1) (by omega))).1
    omega
theorem shr_bit : ∀ V : Fin 256, ∀ q : Fin 8, ((((V.val : Nat) : Int) / 2 ^ q.val).tmod 2 == 1) = V.val.testBit q.val := by decide +kernel
set_option maxRecDepth 100000 in
set_option maxHeartbeats 2000000 in
theorem rfroml_any (size : Int) (a : Option Addr) (m cap : Nat) (f : Nat → Nat) (w : World) (h : Blks w a m f) (hm : m ≤ 9) (hf : ∀ i, f i < 256) (hs1 : 1 ≤ size) (hs2 : size ≤ 8192) :
    Calls Try.prog 48 #[.int .i64 size, .slice a m cap] w fun e w' => Below w.heap.size w w' ∧ (leafOk size.toNat m f = false ∧ e = .returned (.tuple #[.slice none 0 0, .int .i64 111]) ∨ leafOk size.toNat m f = true ∧ ∃ g cp, e = .returned (.tuple #[.slice (some ⟨g, 0, none⟩) size.toNat cp, .int .i64 0]) ∧ BoolsAt w' g size.toNat (fromK f size.toNat) ∧ w.heap.size ≤ g) := by
  obtain ⟨n, rfl⟩ := Int.eq_ofNat_of_zero_le (by omega : 0 ≤ size)
  have hn1 : 1 ≤ n := by omega
  have hn2 : n ≤ 8192 := by omega
  rw [Int.toNat_natCast]
  have H := Lib.hid h
  have HF := Lib.hid hf
  obtain ⟨i0, hi, hz0, hz1, hz2⟩ := info_parts info4
  clear h hf
  go_enter Try.func48, Try.ntmps48
  go_wp2_with fail
  have HO0 := Lib.hid (own_empty w 4 1)
  have HB0 : Hid (Below w.heap.size w (w.alloc (.cells #[] 4))) := Lib.hid ((Below.refl _ _).alloc (Nat.le_refl _) _)
  go_loopw [6, 7] (fun v i wr => ∃ (p : Nat), p ≤ n ∧ i = .int .i64 p ∧ wr.ownsRow w.heap.size 4 1 v p (boolCells (rbitK f m) p) ∧ Below w.heap.size w wr) (fun _ i _ => n - (intOf i).toNat)
  case atStart => exact ⟨0, by omega, rfl, HO0.out, HB0.out⟩
  case round =>
    obtain ⟨p, hp, rfl, hO, hB⟩ := hrel
    have HO := Lib.hid hO
    have HB := Lib.hid hB
    have hsz := hB.size
    clear hO hB HO0 HB0
    by_cases hlt : p < n
    · by_cases hpm : p / 1024 < m
      · obtain ⟨b, off, rfl, hb, hc⟩ := (H.out.below HB.out) (by omega)
        have hc1 : wr.cell? ⟨b, off + p / 1024 * 256 + (128 + p % 1024 / 8), none⟩ = some (.int .u8 (rawB f (p / 8) : Int)) := by
          have := hc (p / 8 / 128 * 256 + (128 + p / 8 % 128)) (by omega)
          rw [show off + p / 1024 * 256 + (128 + p % 1024 / 8) = off + (p / 8 / 128 * 256 + (128 + p / 8 % 128)) by omega]
          exact this
        clear hc
        have hV : rawB f (p / 8) < 256 := HF.out _
        have HK : Hid (((((rawB f (p / 8) : Nat) : Int) / 2 ^ (p % 8)).tmod 2 == 1) = rbitK f m p) := Lib.hid (by
          have := shr_bit ⟨_, hV⟩ ⟨p % 8, by omega⟩
          simp only at this
          rw [this]; unfold rbitK; rw [decide_eq_true hpm]; rfl)
        go_wp2_with (at_builtin; go_must (refine wpList_append_own _ rfl (.tmp 25) (.tmp 47) 28 rfl w.heap.size 4 i0 (.bool false) 1 1 Try.underlying28 hi hz0 hz1 hz2 rfl (by decide) _ _ _ rfl (HO.out.alloc _) ⟨wr.heap.size, 0, none⟩ 1 1 [.bool ((((rawB f (p / 8) : Nat) : Int) / 2 ^ (p % 8)).tmod 2 == 1)] rfl rfl (cell_one_at wr _ _ _ rfl) (fun u hu => by simp at hu; subst hu; rfl) (by unfold maxLen; omega) (by omega) (by simp; omega) ?_); intro v' w1 hown1 hgrow1 _; have HB1 := Lib.hid ((HB.out.alloc hsz _).grown hgrow1 (by simp; omega) (fun q hq => (HO.out.lt q hq).1)); have HO1 := Lib.hid hown1; clear hown1 hgrow1)
        exact ⟨⟨p + 1, by omega, by go_num, by rw [boolCells_succ, ← HK.out]; exact HO1.out, HB1.out⟩, by simp [intOf]; omega⟩
      · have HK : Hid (rbitK f m p = false) := Lib.hid (by unfold rbitK; rw [decide_eq_false hpm]; rfl)
        go_wp2_with (at_builtin; go_must (refine wpList_append_own _ rfl (.tmp 25) (.tmp 47) 28 rfl w.heap.size 4 i0 (.bool false) 1 1 Try.underlying28 hi hz0 hz1 hz2 rfl (by decide) _ _ _ rfl (HO.out.alloc _) ⟨wr.heap.size, 0, none⟩ 1 1 [.bool false] rfl rfl (cell_one_at wr _ _ _ rfl) (fun u hu => by simp at hu; subst hu; rfl) (by unfold maxLen; omega) (by omega) (by simp; omega) ?_); intro v' w1 hown1 hgrow1 _; have HB1 := Lib.hid ((HB.out.alloc hsz _).grown hgrow1 (by simp; omega) (fun q hq => (HO.out.lt q hq).1)); have HO1 := Lib.hid hown1; clear hown1 hgrow1)
        exact ⟨⟨p + 1, by omega, by go_num, by rw [boolCells_succ, HK.out]; exact HO1.out, HB1.out⟩, by simp [intOf]; omega⟩
    · obtain rfl : p = n := by omega
      obtain ⟨g, cp, rfl, hg, hBo⟩ := bools_of_own HO.out hn1 hn2
      have HG := Lib.hid hg
      have HBo := Lib.hid hBo
      clear hg hBo HO
      go_wp2_with fail
      refine (rleaves11_any g p cp (rbitK f m) _ HBo.out hn2).mono ?_
      rintro e w1 ⟨v9, rfl, hO9, hB9⟩
      have HO9 := Lib.hid hO9
      have HB9 := Lib.hid (below_trans' HB.out hB9)
      have HBo9 := Lib.hid (HBo.out.below hB9)
      have HA := Lib.hid (H.out.below HB9.out)
      clear hO9 hB9 HBo H HB
      obtain ⟨g9, cap9, rfl, hb9⟩ := blks_of_own HO9.out (by unfold nLeaves; omega)
      by_cases hml : nLeaves p = m
      · have HML := Lib.hid hml
        have HE : Hid (leafAll (cutK p (rbitK f m)) p = leafAll (fromK f p) p) := Lib.hid (by rw [cut_rbit f p m HML.out.symm])
        rw [hml, HE.out] at hb9
        rw [hml]
        have HB9' := Lib.hid hb9
        clear hml hb9 HO9
        go_wp2_with fail
        go_loopw [10] (fun i wr => ∃ q : Nat, q ≤ m ∧ i = .int .i64 q ∧ sameTo (leafAll (fromK f p) p) f q = true ∧ ∃ k, wr = w1.drewN k) (fun i _ => m - (intOf i).toNat)
        case atStart => exact ⟨0, by omega, rfl, rfl, 0, rfl⟩
        case round =>
          obtain ⟨q, hq, rfl, hs, k, rfl⟩ := hrel
          have HS := Lib.hid hs
          clear hs
          by_cases hlt : q < m
          · obtain ⟨b1, o1, e1, _, k1⟩ := HB9'.out (by omega)
            cases e1
            obtain ⟨b2, o2, rfl, _, k2⟩ := HA.out (by omega)
            have R1 : Hid (w1.rangeAt g9 (q * 256) (blkCells (leafAll (fromK f p) p) q)) := Lib.hid (by have := Blks.range k1 hlt; rwa [Nat.zero_add] at this)
            have R2 := Lib.hid (Blks.range k2 hlt)
            clear k1 k2
            cases hbe : blkEq (leafAll (fromK f p) p) f q
            all_goals
              have HE := Lib.hid hbe
              clear hbe
              go_wp2_with fail
              refine wp_region_quiet_lit (by kernel_rfl) (by kernel_rfl) ?_
              go_big_quiet_step (fail)
              go_big_quiet_step (fail)
              go_big_quiet_step (fail)
              refine wpQuiet_load_mid rfl 77 _ rfl _ _ rfl (blkCells (leafAll (fromK f p) p) q) (.array 256 5) (fun w' hw' => by obtain ⟨k, rfl⟩ := hw'; exact R1.out) Try.underlying77 rfl (by rw [blkCells_len]; kernel_rfl) ?_
              go_simp
              go_big_quiet_step (fail)
              go_big_quiet_step (fail)
              go_big_quiet_step (fail)
              refine wpQuiet_load_mid rfl 77 _ rfl _ _ rfl (blkCells f q) (.array 256 5) (fun w' hw' => by obtain ⟨k, rfl⟩ := hw'; exact R2.out) Try.underlying77 rfl (by rw [blkCells_len]; kernel_rfl) ?_
              go_simp
              first
                | refine wpQuiet_neq_agg rfl 77 77 _ _ rfl (blkCells (leafAll (fromK f p) p) q).toArray (blkCells f q).toArray rfl rfl (by kernel_rfl) true (fun w' => by rw [run_eq_blk 77 Try.underlying77, HE.out]; rfl) ?_
                | refine wpQuiet_neq_agg rfl 77 77 _ _ rfl (blkCells (leafAll (fromK f p) p) q).toArray (blkCells f q).toArray rfl rfl (by kernel_rfl) false (fun w' => by rw [run_eq_blk 77 Try.underlying77, HE.out]; rfl) ?_
              refine wpQuiet_nil ?_
              intro nq
              go_simp
            · go_wp2_with fail
              go_ret2
              exact ⟨below_drewN HB9.out _, .inl ⟨by unfold leafOk bsame; rw [HML.out, sameTo_false hlt HE.out]; simp, rfl⟩⟩
            · go_wp2_with fail
              exact ⟨⟨q + 1, by omega, by go_num, by rw [sameTo_succ, HS.out, HE.out]; rfl, _, rfl⟩, by simp [intOf]; omega⟩
          · obtain rfl : q = m := by omega
            go_wp2_with fail
            go_ret2
            exact ⟨below_drewN HB9.out _, .inr ⟨by unfold leafOk bsame; rw [HML.out, HS.out]; simp, g, cp, rfl, (HBo9.out.congr (fun i hi => by
              have := congrFun (cut_rbit f p q HML.out.symm) i
              rw [← this]; unfold cutK; rw [decide_eq_true hi]; rfl)).drewN _, HG.out⟩⟩
      · have hd : ((nLeaves p : Int) != (m : Int)) = true := by simp; omega
        have HNL : Hid (leafOk p m f = false) := Lib.hid (by unfold leafOk bsame; rw [decide_eq_false hml]; rfl)
        clear hml hb9 HO9
        go_wp2_with fail
        go_ret2
        exact ⟨HB9.out, .inl ⟨HNL.out, rfl⟩⟩
end Go.Proofs.Ytffdklcpkkcohaa
