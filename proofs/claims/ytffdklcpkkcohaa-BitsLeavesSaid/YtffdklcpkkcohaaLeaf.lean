/- Contracts of the bits' leaves: Leaves. -/
import Derived.Test.YtffdklcpkkcohaaWord
import Derived.Lib.LazyBuf
import Derived.StillTailTactics
namespace Go.Proofs.Ytffdklcpkkcohaa
open Go.RowKit
theorem RowB.setCells {g t m : Nat} : ∀ (l : List Nat) (o : Nat) (w : World) (f : Nat → Nat), RowB w g t m f → o + l.length ≤ m → RowB (w.setCells g o (l.map fun (v : Nat) => Value.int .u8 (v : Int))) g t m (fun i => if o ≤ i ∧ i < o + l.length then l.getD (i - o) 0 else f i)
  | [], o, w, f, h, _ => h.congr (fun i _ => by rw [if_neg (by simp)])
  | v :: r, o, w, f, h, hm => by
    have hm' : o + (r.length + 1) ≤ m := hm
    have ih := RowB.setCells r (o + 1) _ _ (h.set (p := o) (by omega) v) (by omega)
    refine RowB.congr (by exact ih) (fun i _ => ?_)
    show (if o + 1 ≤ i ∧ i < o + 1 + r.length then r.getD (i - (o + 1)) 0 else setN f o v i) = if o ≤ i ∧ i < o + (r.length + 1) then (v :: r).getD (i - o) 0 else f i
    unfold setN
    by_cases h1 : i = o
    · subst h1
      rw [if_neg (by omega), if_pos rfl, if_pos (by omega), Nat.sub_self]; rfl
    · by_cases h2 : o + 1 ≤ i ∧ i < o + 1 + r.length
      · rw [if_pos h2, if_pos (by omega), show i - o = (i - (o + 1)) + 1 by omega]; rfl
      · rw [if_neg h2, if_neg h1, if_neg (by omega)]
theorem conv4 (w : World) (g : Nat) (f : Nat → Nat) (hf : ∀ i, f i < 256) (a0 : w.cell? ⟨g, 0, none⟩ = some (.int .u8 (f 0 : Nat))) (a1 : w.cell? ⟨g, 1, none⟩ = some (.int .u8 (f 1 : Nat))) (a2 : w.cell? ⟨g, 2, none⟩ = some (.int .u8 (f 2 : Nat))) (a3 : w.cell? ⟨g, 3, none⟩ = some (.int .u8 (f 3 : Nat))) :
    (convert 119 9 (.slice (some ⟨g, 0, none⟩) 4 4)).run Try.prog w = .ok (.string ⟨#[UInt8.ofNat (f 0), UInt8.ofNat (f 1), UInt8.ofNat (f 2), UInt8.ofNat (f 3)]⟩) w := by
  have ht : ∀ i, (UInt8.ofNat (f i)).toNat = f i := fun i => by show f i % 256 = f i; exact Nat.mod_eq_of_lt (hf i)
  refine run_convert_bytes_back (P := Try.prog) w 119 9 5 ⟨g, 0, none⟩ 4 [UInt8.ofNat (f 0), UInt8.ofNat (f 1), UInt8.ofNat (f 2), UInt8.ofNat (f 3)] Try.underlying119 Try.underlying5 Try.underlying9 (fun j hj => ?_)
  rw [Addr.add_mid]
  have hj' : j < 4 := hj
  rcases (show j = 0 ∨ j = 1 ∨ j = 2 ∨ j = 3 by omega) with rfl | rfl | rfl | rfl
  · simpa [ht] using a0
  · simpa [ht] using a1
  · simpa [ht] using a2
  · simpa [ht] using a3
def hdL (p : Nat) : List Nat := [98, 105, 116, 115, byteOf p 0, byteOf p 1, byteOf p 2, byteOf p 3]
def hdS (p : Nat) : ByteArray := (⟨#[98, 105, 116, 115]⟩ : ByteArray) ++ ⟨#[UInt8.ofNat (byteOf p 0), UInt8.ofNat (byteOf p 1), UInt8.ofNat (byteOf p 2), UInt8.ofNat (byteOf p 3)]⟩
theorem hdS_cells (p : Nat) : ((hdS p).data.toList.map fun x => Value.int .u8 (x.toNat : Int)) = (hdL p).map fun (v : Nat) => Value.int .u8 (v : Int) := by
  have ht : ∀ i, (UInt8.ofNat (byteOf p i)).toNat = byteOf p i := fun i => by show byteOf p i % 256 = byteOf p i; exact Nat.mod_eq_of_lt (byteOf_lt p i)
  simp [hdS, hdL, ByteArray.data_append, ht]
theorem hdS_size (p : Nat) : (hdS p).size = 8 := by simp [hdS, ByteArray.size_append]; rfl
theorem size5 (w : World) : (Go.sizeOf 5).run Try.prog w = .ok 1 w := by kernel_rfl
def hdByte (k j : Nat) : Nat := if j = 0 then 98 else if j = 1 then 105 else if j = 2 then 116 else if j = 3 then 115 else if j < 8 then byteOf k (j - 4) else 0
def headTo (p i : Nat) : Nat := if i / 256 < p then hdByte (i / 256) (i % 256) else 0
/-- the bytes of the leaves of a map of bits K, when so many of its bytes are laid -/
def leafTo (K : Nat → Bool) (m i : Nat) : Nat := if i % 256 < 128 then hdByte (i / 256) (i % 256) else if 128 * (i / 256) + (i % 256 - 128) < m then byteVal K (128 * (i / 256) + (i % 256 - 128)) else 0
def leafAll (K : Nat → Bool) (n i : Nat) : Nat := leafTo K ((n + 7) / 8) i
theorem hdByte_big (k j : Nat) (h : 8 ≤ j) : hdByte k j = 0 := by
  unfold hdByte
  rw [if_neg (by omega), if_neg (by omega), if_neg (by omega), if_neg (by omega), if_neg (by omega)]
theorem headTo_leaf (K : Nat → Bool) (L i : Nat) (h : i < 256 * L) : headTo L i = leafTo K 0 i := by
  unfold headTo leafTo
  rw [if_pos (by omega)]
  by_cases hj : i % 256 < 128
  · rw [if_pos hj]
  · rw [if_neg hj, if_neg (by omega), hdByte_big _ _ (by omega)]
theorem headTo_step (p i : Nat) : (if p * 256 ≤ i ∧ i < p * 256 + (hdL p).length then (hdL p).getD (i - p * 256) 0 else headTo p i) = headTo (p + 1) i := by
  have hl : (hdL p).length = 8 := rfl
  rw [hl]
  unfold headTo
  by_cases h : p * 256 ≤ i ∧ i < p * 256 + 8
  · rw [if_pos h, if_pos (by omega), show i / 256 = p by omega, show i % 256 = i - p * 256 by omega]
    obtain ⟨j, hj, e⟩ : ∃ j, j < 8 ∧ i - p * 256 = j := ⟨_, by omega, rfl⟩
    rw [e]
    rcases (show j = 0 ∨ j = 1 ∨ j = 2 ∨ j = 3 ∨ j = 4 ∨ j = 5 ∨ j = 6 ∨ j = 7 by omega) with rfl | rfl | rfl | rfl | rfl | rfl | rfl | rfl <;> rfl
  · rw [if_neg h]
    by_cases h2 : i / 256 < p
    · rw [if_pos h2, if_pos (by omega)]
    · rw [if_neg h2]
      by_cases h3 : i / 256 < p + 1
      · rw [if_pos h3, hdByte_big _ _ (by omega)]
      · rw [if_neg h3]
theorem leafTo_step (K : Nat → Bool) (p i : Nat) : setN (leafTo K p) (p / 128 * 256 + (128 + p % 128)) (byteVal K p) i = leafTo K (p + 1) i := by
  unfold setN leafTo
  by_cases h : i = p / 128 * 256 + (128 + p % 128)
  · rw [if_pos h, if_neg (by omega), if_pos (by omega), show 128 * (i / 256) + (i % 256 - 128) = p by omega]
  · rw [if_neg h]
    by_cases h1 : i % 256 < 128
    · rw [if_pos h1, if_pos h1]
    · rw [if_neg h1, if_neg h1]
      by_cases h2 : 128 * (i / 256) + (i % 256 - 128) < p
      · rw [if_pos h2, if_pos (by omega)]
      · rw [if_neg h2, if_neg (by omega)]
theorem only_setCells {a : World} {g : Nat} : ∀ (l : List Value) (o : Nat) (w : World), a.grownBy w (some g) → a.grownBy (w.setCells g o l) (some g)
  | [], _, _, h => h
  | v :: r, o, _, h => only_setCells r (o + 1) _ (only_setCell h (p := ⟨g, o, none⟩) (.inl rfl) v)
theorem below_setCells {a : World} {g B : Nat} (hg : B ≤ g) : ∀ (l : List Value) (o : Nat) (w : World), Below B a w → Below B a (w.setCells g o l)
  | [], _, _, h => h
  | v :: r, o, _, h => below_setCells hg r (o + 1) _ (h.setCell (p := ⟨g, o, none⟩) hg v)
def zero256 : Array Value := Array.replicate 256 (.int .u8 0)
theorem info78 : (Try.prog.info? 78).map (fun i => (i.zero, i.size, i.bytes)) = some (some (.agg zero256), 256, 256) := by kernel_rfl
theorem make73 (m : Nat) (h2 : m ≤ 8192) (w : World) : (Instr.makeSlice 73 (.int .i64 (m : Int)) (.int .i64 (m : Int))).run Try.prog w =
    .ok (.slice (some ⟨w.heap.size, 0, none⟩) m m) (w.alloc (.cells (madeCells zero256 (m * 256)) 78)) := by
  obtain ⟨i0, hi, hz0, hz1, hz2⟩ := info_parts info78
  have hr := run_make (P := Try.prog) w 73 78 i0 (.agg zero256) Try.underlying73 hi hz0 .i64 .i64 (m : Int) (m : Int) (by omega) (by omega) (by rw [hz2]; omega) (by omega)
  rw [hz1] at hr
  rw [Int.toNat_natCast] at hr
  exact hr
theorem blocks_made (w : World) (m : Nat) : RowB (w.alloc (.cells (madeCells zero256 (m * 256)) 78)) w.heap.size 78 (256 * m) (fun _ => 0) := by
  refine ⟨by simp, _, heap_alloc_new w _, by rw [size_madeCells]; omega, fun i hi => ?_⟩
  rw [Array.getElem?_eq_getElem (by rw [size_madeCells]; omega)]
  simp [madeCells, zero256, Nat.mod_lt]
def nLeaves (n : Nat) : Nat := (n + 1023) / 1024
theorem leaves_n (n : Nat) (w : World) (hn : n ≤ 8192) : Calls Try.prog 81 #[.int .i64 n] w fun e w' => e = .returned (.int .i64 (nLeaves n : Nat)) ∧ w = w' := by
  go_enter Try.func81, Try.ntmps81
  go_wp2
  go_ret
  exact ⟨ret_int (by unfold nLeaves; omega), rfl⟩
set_option maxRecDepth 100000 in
set_option maxHeartbeats 2000000 in
theorem leaves_any (b bb n : Nat) (K : Nat → Bool) (w : World) (hm : MapAt w b bb n K) :
    Calls Try.prog 45 #[.pointer (some ⟨b, 0, none⟩)] w fun e w' => ∃ g, e = .returned (.slice (some ⟨g, 0, none⟩) (nLeaves n) (nLeaves n)) ∧ w.heap.size ≤ g ∧ RowB w' g 78 (256 * nLeaves n) (leafAll K n) ∧ Below w.heap.size w w' := by
  have hn := hm.2.2.2.1
  obtain ⟨cap, h0, h1⟩ := hm.head
  have HM := Lib.hid hm
  clear hm
  have hmk := make73 (nLeaves n) (by unfold nLeaves; omega)
  have hl : nLeaves n ≤ 8 := by unfold nLeaves; omega
  have HL := Lib.hid (leaves_n n w hn)
  have HB0 := Lib.hid ((Below.refl w.heap.size w).alloc (Nat.le_refl _) (.cells (madeCells zero256 (nLeaves n * 256)) 78))
  have HR0 := Lib.hid (blocks_made w (nLeaves n))
  have HM0 := Lib.hid (HM.out.alloc (.cells (madeCells zero256 (nLeaves n * 256)) 78))
  obtain ⟨L, hLn⟩ : ∃ L, nLeaves n = L := ⟨_, rfl⟩
  rw [hLn] at hmk hl HL HB0 HR0 HM0 ⊢
  have HLN := Lib.hid hLn
  clear hLn
  go_enter Try.func45, Try.ntmps45
  go_wp2_with fail
  refine HL.out.mono ?_
  clear HL
  rintro e w' ⟨rfl, rfl⟩
  go_wp2_with fail
  generalize w.alloc (.cells (madeCells zero256 (L * 256)) 78) = w0 at *
  go_loopw [18] (fun i wr => ∃ p : Nat, p ≤ L ∧ i = .int .i64 p ∧ RowB wr w.heap.size 78 (256 * L) (headTo p) ∧ MapAt wr b bb n K ∧ Below w.heap.size w wr) (fun i _ => L - (intOf i).toNat)
  case atStart => exact ⟨0, by omega, rfl, HR0.out.congr (fun i _ => by unfold headTo; rw [if_neg (by omega)]), HM0.out, HB0.out⟩
  case round =>
    obtain ⟨p, hp, rfl, hR, hM, hB⟩ := hrel
    have HR := Lib.hid hR
    have HM1 := Lib.hid hM
    have HB := Lib.hid hB
    clear hR hM hB HR0 HM0 HB0
    by_cases hlt : p < L
    · go_wp2_with fail
      refine (bytes32_any p _ (by omega)).mono ?_
      rintro e w2 ⟨rfl, hB⟩
      have HR2 := Lib.hid (HR.out.below hB)
      have HM2 := Lib.hid (HM1.out.below hB)
      have HB2 := Lib.hid (below_trans' HB.out hB)
      clear hB HR HM1 HB
      go_wp2_with fail
      have hz : RowB (w2.alloc (.cells #[.int .u8 (byteOf p 0 : Nat), .int .u8 (byteOf p 1 : Nat), .int .u8 (byteOf p 2 : Nat), .int .u8 (byteOf p 3 : Nat)] 125)) w2.heap.size 125 4 (byteOf p) := by
        refine ⟨by simp, _, heap_alloc_new w2 _, rfl, fun i hi => ?_⟩
        rcases (show i = 0 ∨ i = 1 ∨ i = 2 ∨ i = 3 by omega) with rfl | rfl | rfl | rfl <;> rfl
      have a0 := hz.cell (i := 0) (by omega)
      have a1 := hz.cell (i := 1) (by omega)
      have a2 := hz.cell (i := 2) (by omega)
      have a3 := hz.cell (i := 3) (by omega)
      clear hz
      have HR3 := Lib.hid (((HR2.out.alloc (.cells #[.int .u8 (byteOf p 0 : Nat), .int .u8 (byteOf p 1 : Nat), .int .u8 (byteOf p 2 : Nat), .int .u8 (byteOf p 3 : Nat)] 125)).drew))
      have HM3 := Lib.hid (((HM2.out.alloc (.cells #[.int .u8 (byteOf p 0 : Nat), .int .u8 (byteOf p 1 : Nat), .int .u8 (byteOf p 2 : Nat), .int .u8 (byteOf p 3 : Nat)] 125)).drew))
      have HB3 := Lib.hid (((HB2.out.alloc HB2.out.size (.cells #[.int .u8 (byteOf p 0 : Nat), .int .u8 (byteOf p 1 : Nat), .int .u8 (byteOf p 2 : Nat), .int .u8 (byteOf p 3 : Nat)] 125)).drew))
      clear HR2 HM2 HB2
      generalize hw3 : w2.alloc (.cells #[.int .u8 (byteOf p 0 : Nat), .int .u8 (byteOf p 1 : Nat), .int .u8 (byteOf p 2 : Nat), .int .u8 (byteOf p 3 : Nat)] 125) = w3 at *
      clear hw3
      have a0 : w3.drew.cell? ⟨w2.heap.size, 0, none⟩ = some (.int .u8 (byteOf p 0 : Nat)) := a0
      have a1 : w3.drew.cell? ⟨w2.heap.size, 1, none⟩ = some (.int .u8 (byteOf p 1 : Nat)) := a1
      have a2 : w3.drew.cell? ⟨w2.heap.size, 2, none⟩ = some (.int .u8 (byteOf p 2 : Nat)) := a2
      have a3 : w3.drew.cell? ⟨w2.heap.size, 3, none⟩ = some (.int .u8 (byteOf p 3 : Nat)) := a3
      refine wp_region_still_tail 7 (by kernel_rfl) (by kernel_rfl) ?_
      simp only [List.take_succ_cons, List.take_zero, List.drop_succ_cons, List.drop_zero]
      rw [show ({ heap := w3.heap, tape := w3.tape, drawn := w3.drawn + 1, os := w3.os, output := w3.output } : World) = w3.drew from rfl]
      generalize w3.drew = w4 at *
      have hcv := conv4 w4 w2.heap.size (byteOf p) (fun i => byteOf_lt p i) a0 a1 a2 a3
      generalize w2.heap.size = G at *
      repeat still_step
      refine wpStill_nil ?_
      have hcp := run_copy_string (P := Try.prog) w4 119 9 3 5 w.heap.size (p * 256) 256 256 (hdS p) Try.underlying119 size5 (by rw [hdS_size]; omega) (fun j hj => by rw [HR3.out.cell (by rw [hdS_size] at hj; omega)]; rfl) (fun j hj => HR3.out.free _)
      rw [hdS_cells, hdS_size] at hcp
      have hS := RowB.setCells (hdL p) (p * 256) w4 _ HR3.out (by show p * 256 + 8 ≤ 256 * L; omega)
      have hG := only_setCells ((hdL p).map fun (v : Nat) => Value.int .u8 (v : Int)) (p * 256) w4 (only_refl w4 (some w.heap.size))
      have hM5 := HM3.out.only hG (fun e => by injection e with e; have := HM.out.1; omega) (fun e => by injection e with e; have := HM.out.2.1; omega)
      have hB5 := below_setCells (Nat.le_refl w.heap.size) ((hdL p).map fun (v : Nat) => Value.int .u8 (v : Int)) (p * 256) w4 HB3.out
      unfold hdS at hcp
      generalize w4.setCells w.heap.size (p * 256) ((hdL p).map fun (v : Nat) => Value.int .u8 (v : Int)) = w5 at *
      have HS := Lib.hid hS
      have HM5 := Lib.hid hM5
      have HB5 := Lib.hid hB5
      clear hS hM5 hB5 hG
      go_wp2_with fail
      exact ⟨⟨p + 1, by omega, by go_num, HS.out.congr (fun i _ => headTo_step p i), HM5.out, HB5.out⟩, by simp [intOf]; omega⟩
    · obtain rfl : p = L := by omega
      have HL2 := Lib.hid (HR.out.congr (fun i hi => headTo_leaf K p i hi))
      clear HR
      obtain ⟨cap', h0', h1'⟩ := HM1.out.head
      clear h0 h1
      have HPL : (n + 7) / 8 ≤ 128 * p := by have := HLN.out; unfold nLeaves at this; omega
      clear hmk
      obtain ⟨m, hmn⟩ : ∃ m, (n + 7) / 8 = m := ⟨_, rfl⟩
      have hm' : m ≤ 1024 := by omega
      rw [hmn] at h1' HPL
      have HMN := Lib.hid hmn
      clear hmn
      go_wp2_with fail
      go_loopw [38] (fun i w9 => ∃ q : Nat, q ≤ m ∧ i = .int .i64 q ∧ RowB w9 w.heap.size 78 (256 * p) (leafTo K q) ∧ MapAt w9 b bb n K ∧ Below w.heap.size w w9) (fun i _ => m - (intOf i).toNat)
      case atStart => exact ⟨0, by omega, rfl, HL2.out, HM1.out, HB.out⟩
      case round =>
        obtain ⟨q, hq, rfl, hR, hM, hB⟩ := hrel
        obtain ⟨w9, rfl⟩ : ∃ w9 : World, w9 = wr := ⟨_, rfl⟩
        have HR := Lib.hid hR
        have HM1 := Lib.hid hM
        have HB := Lib.hid hB
        clear hR hM hB HL2 h0' h1'
        by_cases hlt : q < m
        · have c1 := HM1.out.byte (i := q) (by have := HMN.out; omega)
          have hd : q / 128 < p := by omega
          have hf := HR.out.free (q / 128 * 256 + (128 + q % 128))
          have hc := HR.out.cell (i := q / 128 * 256 + (128 + q % 128)) (by omega)
          have HS := Lib.hid ((HR.out.set (p := q / 128 * 256 + (128 + q % 128)) (by omega) (byteVal K q)).congr (fun i _ => leafTo_step K q i))
          have HG := Lib.hid (only_setCell (only_refl w9 (some w.heap.size)) (p := ⟨w.heap.size, q / 128 * 256 + (128 + q % 128), none⟩) (.inl rfl) (.int .u8 (byteVal K q : Nat)))
          go_wp2_with fail
          exact ⟨⟨q + 1, by omega, by go_num, HS.out, HM1.out.only HG.out (fun e => by injection e with e; have := HM.out.1; omega) (fun e => by injection e with e; have := HM.out.2.1; omega), HB.out.setCell (Nat.le_refl _) _⟩, by simp [intOf]; omega⟩
        · obtain rfl : q = m := by omega
          have hR := HR.out.congr (f' := leafAll K n) (fun i _ => by unfold leafAll; rw [HMN.out])
          clear HR
          have HR := Lib.hid hR
          clear hR
          go_wp2_with fail
          go_ret
          exact ⟨_, rfl, Nat.le_refl _, HR.out, HB.out⟩
end Go.Proofs.Ytffdklcpkkcohaa
