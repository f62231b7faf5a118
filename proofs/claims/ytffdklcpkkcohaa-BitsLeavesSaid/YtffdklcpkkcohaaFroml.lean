/- Contract of bits.FromLeaves. -/
import Derived.Test.YtffdklcpkkcohaaBlk
import Derived.Test.YtffdklcpkkcohaaMap4
namespace Go.Proofs.Ytffdklcpkkcohaa
open Go.RowKit
/-- block b is a map of n bits whose bytes are g -/
def MapRaw (w : World) (b bb n : Nat) (g : Nat → Nat) : Prop :=
  b < w.heap.size ∧ bb < w.heap.size ∧ ∃ cap cur, w.heap[b]? = some (.cells #[.int .i64 n, .slice (some ⟨bb, 0, none⟩) ((n + 7) / 8) cap] 121 (0, 0)) ∧
    w.heap[bb]? = some (.cells cur 5 (0, 0)) ∧ (n + 7) / 8 ≤ cur.size ∧ ∀ i, i < (n + 7) / 8 → cur[i]? = some (.int .u8 (g i : Int))
section
variable {w w' : World} {b bb n : Nat} {g : Nat → Nat}
theorem MapAt.raw {k : Nat → Bool} (h : MapAt w b bb n k) : MapRaw w b bb n (byteVal k) := by
  obtain ⟨h1, h2, _, _, _, r⟩ := h; exact ⟨h1, h2, r⟩
theorem MapRaw.map {k : Nat → Bool} (h : MapRaw w b bb n g) (h1 : 1 ≤ n) (h2 : n ≤ 8192) (hk : ∀ p, n ≤ p → k p = false) (hg : ∀ i, i < (n + 7) / 8 → g i = byteVal k i) : MapAt w b bb n k := by
  obtain ⟨a1, a2, cap, cur, e1, e2, hs, hc⟩ := h
  exact ⟨a1, a2, h1, h2, hk, cap, cur, e1, e2, hs, fun i hi => by rw [← hg i hi]; exact hc i hi⟩
theorem MapRaw.ne (h : MapRaw w b bb n g) : b ≠ bb := by
  rintro rfl
  obtain ⟨_, _, cap, cur, e1, e2, _⟩ := h
  rw [e1] at e2; cases e2
theorem MapRaw.head (h : MapRaw w b bb n g) : ∃ cap, w.cell? ⟨b, 0, none⟩ = some (.int .i64 n) ∧ w.cell? ⟨b, 1, none⟩ = some (.slice (some ⟨bb, 0, none⟩) ((n + 7) / 8) cap) := by
  obtain ⟨_, _, cap, cur, e1, e2, _⟩ := h
  exact ⟨cap, by rw [cell_of_row w b 0 _ 121 (0, 0) e1]; rfl, by rw [cell_of_row w b 1 _ 121 (0, 0) e1]; rfl⟩
theorem MapRaw.byte (h : MapRaw w b bb n g) {i : Nat} (hi : i < (n + 7) / 8) : w.cell? ⟨bb, i, none⟩ = some (.int .u8 (g i : Int)) := by
  obtain ⟨_, _, cap, cur, e1, e2, _, h3⟩ := h
  rw [cell_of_row w bb i _ 5 (0, 0) e2]; exact h3 i hi
theorem MapRaw.free (h : MapRaw w b bb n g) (i : Nat) : w.frozen? ⟨bb, i, none⟩ = false := by
  obtain ⟨_, _, cap, cur, e1, e2, _⟩ := h
  simp [World.frozen?, e2]
theorem MapRaw.of_blocks (h : MapRaw w b bb n g) (h1 : w'.heap[b]? = w.heap[b]?) (h2 : w'.heap[bb]? = w.heap[bb]?) : MapRaw w' b bb n g := by
  obtain ⟨_, _, cap, cur, e1, e2, r⟩ := h
  have e1' := h1.trans e1
  have e2' := h2.trans e2
  exact ⟨(Array.getElem?_eq_some_iff.1 e1').1, (Array.getElem?_eq_some_iff.1 e2').1, cap, cur, e1', e2', r⟩
theorem MapRaw.drewN (h : MapRaw w b bb n g) (m : Nat) : MapRaw (w.drewN m) b bb n g := h.of_blocks rfl rfl
theorem MapRaw.drew (h : MapRaw w b bb n g) : MapRaw w.drew b bb n g := h.of_blocks rfl rfl
theorem MapRaw.set (h : MapRaw w b bb n g) {i : Nat} (hi : i < (n + 7) / 8) (v : Nat) : MapRaw (w.setCell ⟨bb, i, none⟩ (.int .u8 (v : Int))) b bb n (setN g i v) := by
  have hne := h.ne
  obtain ⟨h0, h1, cap, cur, e1, e2, hs, hc⟩ := h
  have e3 := heap_setCell_same w bb i cur 5 (.int .u8 (v : Int)) e2
  have e4 := heap_setCell_other w ⟨bb, i, none⟩ b (.int .u8 (v : Int)) hne
  refine ⟨by simpa [World.setCell] using h0, by simpa [World.setCell] using h1, cap, _, e4.trans e1, e3, by simpa using hs, fun j hj => ?_⟩
  rw [Array.getElem?_setIfInBounds]
  unfold setN
  by_cases e : i = j
  · subst e; rw [if_pos rfl, if_pos (by omega), if_pos rfl]
  · rw [if_neg e, if_neg (fun e' => e e'.symm)]; exact hc j hj
theorem MapRaw.congr (h : MapRaw w b bb n g) {g' : Nat → Nat} (hk : ∀ i, i < (n + 7) / 8 → g i = g' i) : MapRaw w b bb n g' := by
  obtain ⟨h0, h1, cap, cur, e1, e2, hs, hc⟩ := h
  exact ⟨h0, h1, cap, cur, e1, e2, hs, fun i hi => by rw [← hk i hi]; exact hc i hi⟩
end
/-- the byte of the bits in leaves of bytes f -/
def rawB (f : Nat → Nat) (i : Nat) : Nat := f (i / 128 * 256 + (128 + i % 128))
/-- the bits of leaves of bytes f -/
def fromK (f : Nat → Nat) (n : Nat) : Nat → Bool := fun p => decide (p < n) && (rawB f (p / 8)).testBit (p % 8)
theorem fromK_out (f : Nat → Nat) (n : Nat) : ∀ p, n ≤ p → fromK f n p = false := fun p hp => by unfold fromK; rw [decide_eq_false (by omega)]; rfl
theorem fromK_full (f : Nat → Nat) (n i : Nat) (hf : ∀ i, f i < 256) (h : 8 * i + 8 ≤ n) : rawB f i = byteVal (fromK f n) i :=
  byteVal_of (hf _) fun j hj => by
    unfold fromK
    rw [decide_eq_true (by omega), show (8 * i + j) / 8 = i by omega, show (8 * i + j) % 8 = j by omega]; rfl
theorem low_mask : ∀ V : Fin 256, ∀ q : Fin 8, V.val &&& (2 ^ q.val - 1) < 256 ∧ bits .and .u8 (V.val : Int) ((2 ^ q.val - 1 : Nat) : Int) = ((V.val &&& (2 ^ q.val - 1) : Nat) : Int) ∧
    ∀ j : Fin 8, (V.val &&& (2 ^ q.val - 1)).testBit j.val = (decide (j.val < q.val) && V.val.testBit j.val) := by decide +kernel
theorem fromK_last (f : Nat → Nat) (n i : Nat) (hf : ∀ i, f i < 256) (h1 : 8 * i < n) (h2 : n < 8 * i + 8) : (rawB f i &&& (2 ^ (n % 8) - 1)) = byteVal (fromK f n) i := by
  obtain ⟨k1, _, k2⟩ := low_mask ⟨rawB f i, hf _⟩ ⟨n % 8, by omega⟩
  refine byteVal_of k1 fun j hj => ?_
  have := k2 ⟨j, hj⟩
  simp only at this
  rw [this]
  unfold fromK
  rw [show (8 * i + j) / 8 = i by omega, show (8 * i + j) % 8 = j by omega]
  congr 1
  rw [decide_eq_decide]
  omega
def fromTo (f : Nat → Nat) (q : Nat) : Nat → Nat := fun i => if i < q then rawB f i else 0
theorem fromTo_step (f : Nat → Nat) (q i : Nat) : setN (fromTo f q) q (rawB f q) i = fromTo f (q + 1) i := by
  unfold setN fromTo
  by_cases h : i = q
  · rw [if_pos h, if_pos (by omega), h]
  · rw [if_neg h]
    by_cases h2 : i < q
    · rw [if_pos h2, if_pos (by omega)]
    · rw [if_neg h2, if_neg (by omega)]
/-- are these the leaves of a map of n bits? -/
def leafOk (n m : Nat) (f : Nat → Nat) : Bool := bsame (nLeaves n) m (leafAll (fromK f n) n) f
def FromPost (size : Int) (m : Nat) (f : Nat → Nat) (w : World) (e : Ending) (w' : World) : Prop :=
  ((size < 1 ∨ 8192 < size) ∧ e = .returned (.tuple #[.pointer none, .int .i64 1]) ∧ Below w.heap.size w w') ∨
  (1 ≤ size ∧ size ≤ 8192 ∧ leafOk size.toNat m f = false ∧ e = .returned (.tuple #[.pointer none, .int .i64 111]) ∧ Below w.heap.size w w') ∨
  (1 ≤ size ∧ size ≤ 8192 ∧ leafOk size.toNat m f = true ∧ ∃ b bb, e = .returned (.tuple #[.pointer (some ⟨b, 0, none⟩), .int .i64 0]) ∧ w.heap.size ≤ b ∧ w.heap.size ≤ bb ∧ MapAt w' b bb size.toNat (fromK f size.toNat) ∧ Below w.heap.size w w')
theorem mask_wrap' : ∀ q : Fin 8, IntKind.u8.wrap (IntKind.u8.wrap (2 ^ q.val) - 1) = ((2 ^ q.val - 1 : Nat) : Int) := by decide +kernel
set_option maxRecDepth 100000 in
set_option maxHeartbeats 2000000 in
theorem froml_any (size : Int) (a : Option Addr) (m cap : Nat) (f : Nat → Nat) (w : World) (h : Blks w a m f) (hm : m ≤ maxLen) (hf : ∀ i, f i < 256) :
    Calls Try.prog 47 #[.int .i64 size, .slice a m cap] w (FromPost size m f w) := by
  unfold maxLen at hm
  have HN := Lib.hid (new_any size w)
  by_cases hs : size < 1 ∨ 8192 < size
  · have HS := Lib.hid hs
    have HN2 : Hid (Calls Try.prog 49 #[.int .i64 size] w fun e w' => e = .returned (.tuple #[.pointer none, .int .i64 1]) ∧ w = w') := Lib.hid (HN.out.mono fun e w' h => by
      rcases h with ⟨_, h2, h3⟩ | ⟨h1, h2, _⟩
      · exact ⟨h2, h3⟩
      · have := HS.out; omega)
    clear HN hs h
    go_enter Try.func47, Try.ntmps47
    go_wp2_with (go_at_call 49; refine HN2.out.mono ?_; rintro e w' ⟨rfl, rfl⟩)
    go_ret2
    exact .inl ⟨HS.out, rfl, Below.refl _ _⟩
  obtain ⟨n, rfl⟩ := Int.eq_ofNat_of_zero_le (by omega : 0 ≤ size)
  have hn1 : 1 ≤ n := by omega
  have hn2 : n ≤ 8192 := by omega
  have HN2 : Hid (Calls Try.prog 49 #[.int .i64 (n : Int)] w fun e w' => ∃ b bb, e = .returned (.tuple #[.pointer (some ⟨b, 0, none⟩), .int .i64 0]) ∧ w.heap.size ≤ b ∧ w.heap.size ≤ bb ∧ MapAt w' b bb n zeroK ∧ Below w.heap.size w w') := Lib.hid (HN.out.mono fun e w' h => by
    rcases h with ⟨h1, _⟩ | ⟨_, _, b, bb, h2⟩
    · omega
    · exact ⟨b, bb, h2⟩)
  clear HN hs
  have H := Lib.hid h
  have HF := Lib.hid hf
  clear h hf
  have HL := Lib.hid (fun w' => leaves_n n w' hn2)
  by_cases hml : m = nLeaves n
  case neg =>
    have hd : ((m : Int) != (nLeaves n : Int)) = true := by simp; omega
    have HO : Hid (leafOk n m f = false) := Lib.hid (by unfold leafOk bsame; rw [decide_eq_false (fun e => hml e.symm)]; rfl)
    clear hml
    go_enter Try.func47, Try.ntmps47
    go_wp2_with fail
    refine HN2.out.mono ?_
    rintro e w1 ⟨b, bb, rfl, hb, hbb, hM, hB⟩
    have HB := Lib.hid hB
    clear hM hB HN2
    go_wp2_with fail
    refine (HL.out _).mono ?_
    rintro e w' ⟨rfl, rfl⟩
    go_wp2_with fail
    go_ret2
    exact .inr (.inl ⟨by omega, by omega, HO.out, rfl, HB.out⟩)
  have hL8 : nLeaves n ≤ 8 := by unfold nLeaves; omega
  have hL9 : (n + 7) / 8 ≤ 128 * nLeaves n := by unfold nLeaves; omega
  have HML := Lib.hid hml.symm
  rw [← hml] at hL8 hL9
  clear hml
  go_enter Try.func47, Try.ntmps47
  go_wp2_with fail
  refine HN2.out.mono ?_
  rintro e w1 ⟨b, bb, rfl, hb, hbb, hM, hB⟩
  have HB := Lib.hid hB
  have HBB := Lib.hid hbb
  have HBb := Lib.hid hb
  have HR := Lib.hid (hM.raw.congr (g' := fromTo f 0) (fun i _ => by rw [byteVal_zero]; unfold fromTo; rw [if_neg (by omega)]))
  clear hM hB HN2
  go_wp2_with fail
  have HL2 := HL.out w1
  rw [HML.out] at HL2
  refine HL2.mono ?_
  clear HL2 HL
  rintro e w' ⟨rfl, rfl⟩
  obtain ⟨cap', h0, h1⟩ := HR.out.head
  obtain ⟨M, hMn⟩ : ∃ M, (n + 7) / 8 = M := ⟨_, rfl⟩
  have hM1 : 1 ≤ M := by omega
  have hM2 : M ≤ 1024 := by omega
  have hM3 : 8 * M < n + 8 := by omega
  rw [hMn] at h1 hL9
  have HMN := Lib.hid hMn
  clear hMn
  go_wp2_with fail
  clear h0 h1
  go_loopw [27] (fun i w9 => ∃ q : Nat, q ≤ M ∧ i = .int .i64 q ∧ MapRaw w9 b bb n (fromTo f q) ∧ Below w.heap.size w w9) (fun i _ => M - (intOf i).toNat)
  case atStart => exact ⟨0, by omega, rfl, HR.out, HB.out⟩
  case round =>
    obtain ⟨q, hq, rfl, hR, hB'⟩ := hrel
    obtain ⟨w9, rfl⟩ : ∃ w9 : World, w9 = wr := ⟨_, rfl⟩
    have HR2 := Lib.hid hR
    have HB2 := Lib.hid hB'
    clear hR hB' HR HB
    obtain ⟨cap2, h0, h1⟩ := HR2.out.head
    rw [HMN.out] at h1
    by_cases hlt : q < M
    · obtain ⟨b1, o1, rfl, hb1, k1⟩ := (H.out.below HB2.out) (by omega)
      have c1 := k1 (q / 128 * 256 + (128 + q % 128)) (by omega)
      have c2 := HR2.out.byte (i := q) (by rw [HMN.out]; exact hlt)
      have f2 := HR2.out.free q
      have hc1 : w9.cell? ⟨b1, o1 + q / 128 * 256 + (128 + q % 128), none⟩ = some (.int .u8 (rawB f q : Int)) := by rw [Nat.add_assoc]; exact c1
      have HS := Lib.hid ((HR2.out.drew.set (by rw [HMN.out]; exact hlt) (rawB f q)).congr (g' := fromTo f (q + 1)) (fun i _ => fromTo_step f q i))
      have hd : q / 128 < m := by omega
      clear k1 c1
      go_wp2_with fail
      have e1 : IntKind.i64.wrap ((q : Int) / 128) = (q : Int) / 128 := IntWalk.i64_in _ (by omega)
      have e2 : (q : Int).tmod 128 = (q : Int) % 128 := Int.tmod_eq_emod_of_nonneg (by omega)
      have e3 : IntKind.i64.wrap (128 + (q : Int) % 128) = 128 + (q : Int) % 128 := IntWalk.i64_in _ (by omega)
      have e4 : 0 ≤ (q : Int) / 128 := by omega
      have e5 : (q : Int) / 128 < (m : Int) := by omega
      have e6 : ((q : Int) / 128).toNat = q / 128 := by omega
      have e7 : 0 ≤ 128 + (q : Int) % 128 := by omega
      have e8 : 128 + (q : Int) % 128 < 256 := by omega
      have e9 : (128 + (q : Int) % 128).toNat = 128 + q % 128 := by omega
      have h1 : w9.drew.cell? ⟨b, 1, none⟩ = _ := h1
      have c2 : w9.drew.cell? ⟨bb, q, none⟩ = _ := c2
      have f2 : w9.drew.frozen? ⟨bb, q, none⟩ = _ := f2
      have hc1 : w9.drew.cell? ⟨b1, o1 + q / 128 * 256 + (128 + q % 128), none⟩ = _ := hc1
      refine wp_region_still_tail 15 (by kernel_rfl) (by kernel_rfl) ?_
      simp only [List.take_succ_cons, List.take_zero, List.drop_succ_cons, List.drop_zero]
      rw [show ({ heap := w9.heap, tape := w9.tape, drawn := w9.drawn + 1, os := w9.os, output := w9.output } : World) = w9.drew from rfl]
      have HBd := Lib.hid HB2.out.drew
      generalize w9.drew = w10 at *
      repeat still_step
      refine wpStill_nil ?_
      clear e1 e2 e3 e4 e5 e6 e7 e8 e9
      go_wp2_with fail
      exact ⟨⟨q + 1, by omega, by go_num, HS.out, HBd.out.setCell HBB.out _⟩, by simp [intOf]; omega⟩
    · obtain rfl : q = M := by omega
      by_cases h8 : n % 8 = 0
      · have HM : Hid (MapAt w9 b bb n (fromK f n)) := Lib.hid (HR2.out.map (by omega) hn2 (fromK_out f n) (fun i hi => by
          unfold fromTo
          rw [HMN.out] at hi
          rw [if_pos hi]
          exact fromK_full f n i HF.out (by omega)))
        have h8' : ((n : Int) % 8 != 0) = false := by simp; omega
        have HB3 := Lib.hid HB2.out
        clear HR2 HB2 h8
        go_wp2_with fail
        cases hlo : leafOk n m f
        all_goals
          have HO := Lib.hid hlo
          clear hlo
          refine (leaves_any b bb n (fromK f n) _ HM.out).mono ?_
          rintro e W1 ⟨g, rfl, hg, hRB, hB1⟩
          have HBl := Lib.hid hRB.blks
          have HB4 := Lib.hid (below_trans' HB3.out hB1)
          have HM4 := Lib.hid (HM.out.below hB1)
          have HA := Lib.hid (H.out.below HB4.out)
          clear hg hRB hB1
          go_wp2_with fail
          refine (bequal_any _ _ _ _ _ _ _ _ _ HBl.out HA.out (by unfold nLeaves maxLen; omega)).mono ?_
          rintro e W2 ⟨he, nq, rfl⟩
          rw [show bsame (nLeaves n) m (leafAll (fromK f n) n) f = _ from HO.out] at he
          subst he
          go_wp2_with fail
          go_ret2
          first
            | exact .inr (.inl ⟨by omega, by omega, HO.out, rfl, below_drewN HB4.out _⟩)
            | exact .inr (.inr ⟨by omega, by omega, HO.out, b, bb, rfl, HBb.out, HBB.out, HM4.out.drewN _, below_drewN HB4.out _⟩)
      · have h8' : ((n : Int) % 8 != 0) = true := by simp; omega
        have c2 := HR2.out.byte (i := q - 1) (by rw [HMN.out]; omega)
        rw [show fromTo f q (q - 1) = rawB f (q - 1) by unfold fromTo; rw [if_pos (by omega)]] at c2
        have f2 := HR2.out.free (q - 1)
        go_wp2_with fail
        have h1 : w9.drew.cell? ⟨b, 1, none⟩ = _ := h1
        have c2 : w9.drew.cell? ⟨bb, q - 1, none⟩ = _ := c2
        have f2 : w9.drew.frozen? ⟨bb, q - 1, none⟩ = _ := f2
        have e1 : IntKind.i64.wrap ((q : Int) - 1) = (q : Int) - 1 := IntWalk.i64_in _ (by omega)
        have e2 : (n : Int).tmod 8 = (n : Int) % 8 := Int.tmod_eq_emod_of_nonneg (by omega)
        have e3 : 0 ≤ (q : Int) - 1 := by omega
        have e3' : 1 ≤ (q : Int) := by omega
        have e3'' : 1 ≤ q := by omega
        have e4 : (q : Int) - 1 < (q : Int) := by omega
        have e5 : ((q : Int) - 1).toNat = q - 1 := by omega
        have e6 : 0 ≤ (n : Int) % 8 := by omega
        have e7 : (n : Int) % 8 < 8 := by omega
        have e8 : ((n : Int) % 8).toNat = n % 8 := by omega
        refine wp_region_still_tail 18 (by kernel_rfl) (by kernel_rfl) ?_
        simp only [List.take_succ_cons, List.take_zero, List.drop_succ_cons, List.drop_zero]
        rw [show ({ heap := w9.heap, tape := w9.tape, drawn := w9.drawn + 1, os := w9.os, output := w9.output } : World) = w9.drew from rfl]
        have HBd := Lib.hid HB2.out.drew
        have HRd := Lib.hid HR2.out.drew
        clear HR2 HB2
        generalize w9.drew = w10 at *
        repeat still_step
        have em := (low_mask ⟨rawB f (q - 1), HF.out _⟩ ⟨n % 8, by omega⟩).2.1
        simp only [← mask_wrap' ⟨n % 8, by omega⟩] at em
        rw [em]
        refine wpStill_nil ?_
        clear em e1 e2 e3 e3' e3'' e4 e5 e6 e7 e8
        have hlast := fromK_last f n (q - 1) HF.out (by have := HMN.out; omega) (by have := HMN.out; omega)
        generalize (rawB f (q - 1) &&& (2 ^ (n % 8) - 1)) = V at *
        have HM : Hid (MapAt (w10.setCell ⟨bb, q - 1, none⟩ (.int .u8 (V : Int))) b bb n (fromK f n)) := Lib.hid ((HRd.out.set (i := q - 1) (by rw [HMN.out]; omega) _).map (by omega) hn2 (fromK_out f n) (fun i hi => by
          rw [HMN.out] at hi
          unfold setN fromTo
          by_cases e : i = q - 1
          · rw [if_pos e, e]; exact hlast
          · rw [if_neg e, if_pos hi]
            exact fromK_full f n i HF.out (by have := HMN.out; omega)))
        have HB3 := Lib.hid (HBd.out.setCell (p := ⟨bb, q - 1, none⟩) HBB.out (.int .u8 (V : Int)))
        clear hlast HRd HBd
        go_wp2_with fail
        cases hlo : leafOk n m f
        all_goals
          have HO := Lib.hid hlo
          clear hlo
          refine (leaves_any b bb n (fromK f n) _ HM.out).mono ?_
          rintro e W1 ⟨g, rfl, hg, hRB, hB1⟩
          have HBl := Lib.hid hRB.blks
          have HB4 := Lib.hid (below_trans' HB3.out hB1)
          have HM4 := Lib.hid (HM.out.below hB1)
          have HA := Lib.hid (H.out.below HB4.out)
          clear hg hRB hB1
          go_wp2_with fail
          refine (bequal_any _ _ _ _ _ _ _ _ _ HBl.out HA.out (by unfold nLeaves maxLen; omega)).mono ?_
          rintro e W2 ⟨he, nq, rfl⟩
          rw [show bsame (nLeaves n) m (leafAll (fromK f n) n) f = _ from HO.out] at he
          subst he
          go_wp2_with fail
          go_ret2
          first
            | exact .inr (.inl ⟨by omega, by omega, HO.out, rfl, below_drewN HB4.out _⟩)
            | exact .inr (.inr ⟨by omega, by omega, HO.out, b, bb, rfl, HBb.out, HBB.out, HM4.out.drewN _, below_drewN HB4.out _⟩)
end Go.Proofs.Ytffdklcpkkcohaa
