/- Contracts: a piece. -/
import Derived.Test.YtpbjdbdlfobpmaaGreatDgU
import Derived.StillTailTactics
import Derived.Laws.IdiomCopy
namespace Go.Proofs.YtpbjdbdlfobpmaaGreat
open Go.RowKit Go.Eng
def z8 : List Int := [0, 0, 0, 0, 0, 0, 0, 0]
def z16 : List Int := [0, 0, 0, 0, 0, 0, 0, 0, 0, 0, 0, 0, 0, 0, 0, 0]
theorem setCells_row (w : World) (g : Nat) (l m : List Int) (h : RowU w g (l ++ m)) (k : List Int) (hk : k.length = l.length) : RowU (w.setCells g 0 (k.map (Value.int .u32))) g (k ++ m) := by
  obtain ⟨a1, _⟩ := heap_setCells (k.map (Value.int .u32)) 0 w g (uI (l ++ m)) 253 (0, 0) h
  refine a1.trans ?_
  congr 2
  apply Array.ext_getElem?
  intro i
  rw [layC_at _ _ _ (by simp [uI_size]; omega)]
  simp only [List.length_map, Nat.zero_add, Nat.zero_le, true_and, Nat.sub_zero]
  by_cases h1 : i < k.length
  · rw [if_pos h1]
    simp only [uI, List.getElem?_toArray, List.getElem?_map, List.getElem?_append_left h1]
  · rw [if_neg h1]
    simp only [uI, List.getElem?_toArray, List.getElem?_map]
    rw [List.getElem?_append_right (by omega), List.getElem?_append_right (by omega), hk]
theorem only_new (w w1 w2 : World) (b : Nat) (h : w.grownBy w1 (some b)) (hs : w2.heap.size = w1.heap.size) (ho : w2.os = w1.os) (ht : w2.tape = w1.tape) (hp : w2.output = w1.output) (hb : ∀ j, j < w.heap.size → w2.heap[j]? = w1.heap[j]?) : w.grownBy w2 (some b) :=
  ⟨ho.trans h.os, ht.trans h.tape, hp.trans h.output, by rw [hs]; exact h.size, fun i hi hne => (hb i hi).trans (h.block i hi hne)⟩
def osF (f : Nat → Int) : List Int := [o32 (f 0) (f 1) (f 2) (f 3), o32 (f 4) (f 5) (f 6) (f 7), o32 (f 8) (f 9) (f 10) (f 11), o32 (f 12) (f 13) (f 14) (f 15), o32 (f 16) (f 17) (f 18) (f 19), o32 (f 20) (f 21) (f 22) (f 23), o32 (f 24) (f 25) (f 26) (f 27), o32 (f 28) (f 29) (f 30) (f 31)]
def sP (l : List Int) (f : Nat → Int) (p : Nat) : List Int := l ++ ((osF f).take p ++ z8.drop p)
theorem set_right {l m : List Int} (h : l.length = 8) (p : Nat) (x : Int) : (l ++ m).set (8 + p) x = l ++ m.set p x := by
  rw [List.set_append, if_neg (by omega), show 8 + p - l.length = p by omega]
theorem arr182 (g o c : Nat) (W : World) : (Instr.arrayAt 182 (.slice (some ⟨g, o, none⟩) 4 c)).run Tryz.prog W = .ok (.pointer (some ⟨g, o, none⟩)) W := by
  simp [Instr.arrayAt, run_underlying Tryz.underlying182]
theorem sP_len (l : List Int) (f : Nat → Int) (h : l.length = 8) {p : Nat} (_hp : p ≤ 8) : (sP l f p).length = 16 := by
  simp [sP, osF, z8, h]; omega
def xorI (a b c : Int) : Int := bits .xor .u32 a (bits .xor .u32 b c)
/-- the words behind a piece -/
def outI (l s : List Int) (p : Nat) : List Int := (List.range 8).map fun i => if i < p then xorI (l.getD i 0) (s.getD i 0) (s.getD (i + 8) 0) else l.getD i 0
def pieceI (l : List Int) (f : Nat → Int) : List Int := outI l (rounds6 (l ++ osF f)) 8
theorem outI_set (l s : List Int) {p : Nat} (_hp : p < 8) : (outI l s p).set p (xorI (l.getD p 0) (s.getD p 0) (s.getD (p + 8) 0)) = outI l s (p + 1) := by
  apply List.ext_getElem?
  intro i
  by_cases h8 : i < 8
  · rw [List.getElem?_set]
    by_cases h : p = i
    · subst h
      rw [if_pos rfl, if_pos (by simp [outI]; omega)]
      simp [outI, h8]
    · rw [if_neg h]
      simp only [outI, List.getElem?_map, List.getElem?_range h8, Option.map_some]
      by_cases h2 : i < p
      · rw [if_pos h2, if_pos (by omega)]
      · rw [if_neg h2, if_neg (by omega)]
  · rw [List.getElem?_eq_none (by simp [outI]; omega), List.getElem?_eq_none (by simp [outI]; omega)]
theorem outI_zero (l s : List Int) (h : l.length = 8) : outI l s 0 = l := by
  apply List.ext_getElem?
  intro i
  by_cases h8 : i < 8
  · simp [outI, h8, List.getD_eq_getElem?_getD, h]
  · rw [List.getElem?_eq_none (by simp [outI]; omega), List.getElem?_eq_none (by omega)]
theorem outI_at (l s : List Int) {p : Nat} (hp : p < 8) : (outI l s p).getD p 0 = l.getD p 0 := by
  simp [outI, List.getD_eq_getElem?_getD, hp]
set_option maxRecDepth 100000 in
set_option maxHeartbeats 1000000 in
theorem piece_any (b g off cap : Nat) (l : List Int) (v : Value) (n : Int) (f : Nat → Int) (w : World) (hh : HS w b l v n) (hcap : 32 ≤ cap) (hb : ∀ i, i < 32 → w.cell? ⟨g, off + i, none⟩ = some (.int .u8 (f i))) :
    Calls Tryz.prog 141 #[.pointer (some ⟨b, 0, none⟩), .slice (some ⟨g, off, none⟩) 32 cap] w fun e w' => (∃ x, e = .returned x) ∧ HS w' b (pieceI l f) v n ∧ w.grownBy w' (some b) := by
  have hbg : b < w.heap.size := hh.lt
  have hgg : g < w.heap.size := by
    have := hb 0 (by omega)
    unfold World.cell? at this
    cases hq : w.heap[g]? with
    | none => simp only [hq] at this; cases this
    | some o => exact (Array.getElem?_eq_some_iff.1 hq).1
  have HZ := Lib.hid (RowU.new w z16)
  have HH := Lib.hid ((hh.alloc (.cells (uI z16) 253)).drew)
  have HG := Lib.hid (only_drew (only_alloc (only_refl w (some b)) (.cells (uI z16) 253)))
  have HB := Lib.hid (fun i (hi : i < 32) => (show (w.alloc (.cells (uI z16) 253)).drew.cell? ⟨g, off + i, none⟩ = _ from (World.cell?_of_block (w := w) (RowKit.Below.heap_alloc w (.cells (uI z16) 253) g hgg)).trans (hb i hi)))
  have HL := Lib.hid hh.1
  have HCAP := Lib.hid hcap
  have HGG := Lib.hid hgg
  clear hcap
  have hw1 := fun i (hi : i < 8) => HH.out.word hi
  have hcp := run_copy_cells (P := Tryz.prog) (w.alloc (.cells (uI z16) 253)).drew 109 109 3 37 w.heap.size 0 16 16 ⟨b, 0, none⟩ 8 8 (l.map (Value.int .u32)) Tryz.underlying109 (by kernel_rfl) (by rw [List.length_map, HL.out]; rfl) (fun j u hj => by
    have hlt : j < l.length := by
      have := (List.getElem?_eq_some_iff.1 hj).1
      simpa using this
    rw [Addr.add_mid, Nat.zero_add, hw1 j (by have := HL.out; omega)]
    rw [List.getElem?_map, List.getElem?_eq_getElem hlt] at hj
    rw [← hj]
    simp [List.getD_eq_getElem?_getD, hlt]) (fun j hj => by
    have := HZ.out.cell (i := j) (by rw [List.length_map, HL.out] at hj; exact Nat.lt_trans hj (by decide))
    rw [Nat.zero_add]
    rw [show (w.alloc (.cells (uI z16) 253)).drew.cell? ⟨w.heap.size, j, none⟩ = _ from this]; rfl) (fun j _ => HZ.out.free _) (fun u hu => by
    obtain ⟨x, _, rfl⟩ := List.mem_map.1 hu; rfl)
  have hrow := setCells_row (w.alloc (.cells (uI z16) 253)).drew w.heap.size z8 z8 HZ.out l HL.out
  obtain ⟨_, a2, a3, a4, a5, a6⟩ := heap_setCells (l.map (Value.int .u32)) 0 (w.alloc (.cells (uI z16) 253)).drew w.heap.size (uI z16) 253 (0, 0) HZ.out
  have hh3 := HH.out.of_block (a2 b (by omega))
  have hg3 := only_new w _ _ b HG.out a3 a4 a5 a6 (fun j hj => a2 j (by omega))
  have hb3 : ∀ i, i < 32 → ((w.alloc (.cells (uI z16) 253)).drew.setCells w.heap.size 0 (l.map (Value.int .u32))).cell? ⟨g, off + i, none⟩ = some (.int .u8 (f i)) := fun i hi => (show _ = (w.alloc (.cells (uI z16) 253)).drew.cell? ⟨g, off + i, none⟩ from World.cell?_of_block (a2 g (by omega))).trans (HB.out i hi)
  rw [List.length_map, HL.out] at hcp
  generalize hwn : (w.alloc (.cells (uI z16) 253)).drew.setCells w.heap.size 0 (l.map (Value.int .u32)) = w3 at *
  have HR3 := Lib.hid hrow
  have HH3 := Lib.hid hh3
  have HG3 := Lib.hid hg3
  have HB3 := Lib.hid hb3
  have HBG := Lib.hid hbg
  clear a2 a3 a4 a5 a6 hrow hh3 hg3 hb3 hw1 HB HG HH HZ hb hh hgg hbg hwn
  go_enter Tryz.func141, Tryz.ntmps141
  go_wp2_with fail
  refine wp_region_still_tail 5 (by kernel_rfl) (by kernel_rfl) ?_
  simp only [List.take_succ_cons, List.take_zero, List.drop_succ_cons, List.drop_zero]
  repeat still_step
  refine wpStill_nil ?_
  change wpList _ _ _ _ _ (w.alloc (.cells (uI z16) 253)).drew
  generalize (w.alloc (.cells (uI z16) 253)).drew = w2 at *
  go_wp2_with fail
  go_loopw [13] (fun i wr => ∃ (p : Nat) (q : Int), q = p ∧ p ≤ 8 ∧ i = .int .i64 q ∧ RowU wr w.heap.size (sP l f p) ∧ HS wr b l v n ∧ w.grownBy wr (some b) ∧ ∀ i, i < 32 → wr.cell? ⟨g, off + i, none⟩ = some (.int .u8 (f i))) (fun i _ => 8 - (intOf i).toNat)
  case atStart => exact ⟨0, 0, rfl, by omega, rfl, HR3.out, HH3.out, HG3.out, HB3.out⟩
  case round =>
    obtain ⟨p, q, hq, hp, rfl, hR, hH, hG, hB⟩ := hrel
    have hsl := sP_len l f HL.out hp
    rcases (show p = 0 ∨ p = 1 ∨ p = 2 ∨ p = 3 ∨ p = 4 ∨ p = 5 ∨ p = 6 ∨ p = 7 ∨ p = 8 by omega) with rfl | rfl | rfl | rfl | rfl | rfl | rfl | rfl | rfl
    · obtain rfl : q = 0 := hq
      have c0 : wr.cell? ⟨g, off, none⟩ = some (.int .u8 (f 0)) := hB 0 (by omega)
      have c1 : wr.cell? ⟨g, off + 1, none⟩ = some (.int .u8 (f 1)) := hB 1 (by omega)
      have c2 : wr.cell? ⟨g, off + 2, none⟩ = some (.int .u8 (f 2)) := hB 2 (by omega)
      have c3 : wr.cell? ⟨g, off + 3, none⟩ = some (.int .u8 (f 3)) := hB 3 (by omega)
      have hne : ¬ cap = 0 := by have := HCAP.out; omega
      have hle : (4 : Int) ≤ (cap : Int) := by have := HCAP.out; omega
      have harr := arr182 g (off) cap
      have fr : wr.frozen? ⟨w.heap.size, 8, none⟩ = false := hR.free 8
      have d1 : wr.cell? ⟨w.heap.size, 8, none⟩ = _ := hR.cell (i := 8) (by rw [hsl]; decide)
      have HR := Lib.hid hR
      have HH := Lib.hid hH
      have HG := Lib.hid hG
      have HB := Lib.hid hB
      have HC := Lib.hid (fun W => of32_any (f 0) (f 1) (f 2) (f 3) W)
      clear hR hH hG hB hsl hp HR3 HH3 HG3 HB3
      go_wp2_with fail
      refine (HC.out _).mono ?_
      rintro e w4 ⟨rfl, hb4⟩
      have hR4 := HR.out.below hb4
      have fr4 : w4.frozen? ⟨w.heap.size, 8, none⟩ = false := hR4.free 8
      have d4 : w4.cell? ⟨w.heap.size, 8, none⟩ = _ := hR4.cell (i := 8) (by rw [sP_len l f HL.out (by decide)]; decide)
      have hS4 := hR4.set 8 (o32 (f 0) (f 1) (f 2) (f 3))
      have hst : (sP l f 0).set 8 (o32 (f 0) (f 1) (f 2) (f 3)) = sP l f 1 := set_right HL.out 0 _
      rw [hst] at hS4
      have hH4 := (HH.out.below hb4).of_block (w' := w4.setCell ⟨w.heap.size, 8, none⟩ (.int .u32 (o32 (f 0) (f 1) (f 2) (f 3)))) (RowKit.Below.heap_setCell w4 _ _ b (by have := HBG.out; simp; omega))
      have hG4 := only_setCell (p := ⟨w.heap.size, 8, none⟩) (only_below HG.out hb4) (.inr (Nat.le_refl _)) (.int .u32 (o32 (f 0) (f 1) (f 2) (f 3)))
      have hB4 : ∀ i, i < 32 → (w4.setCell ⟨w.heap.size, 8, none⟩ (.int .u32 (o32 (f 0) (f 1) (f 2) (f 3)))).cell? ⟨g, off + i, none⟩ = some (.int .u8 (f i)) := fun i hi =>
        (show _ = wr.cell? ⟨g, off + i, none⟩ from World.cell?_of_block ((RowKit.Below.heap_setCell w4 _ _ g (by have := HGG.out; simp; omega)).trans (hb4.block g (Nat.lt_of_lt_of_le HGG.out HG.out.size)))).trans (HB.out i hi)
      have HS4 := Lib.hid hS4
      have HH4 := Lib.hid hH4
      have HG4 := Lib.hid hG4
      have HB4 := Lib.hid hB4
      clear hS4 hH4 hG4 hB4 hR4 hst hb4 HB HG HH HR
      go_wp2_with fail
      exact ⟨⟨1, 1, rfl, by omega, rfl, HS4.out, HH4.out, HG4.out, HB4.out⟩, by simp [intOf]⟩
    · obtain rfl : q = 1 := hq
      have c0 : wr.cell? ⟨g, off + 4, none⟩ = some (.int .u8 (f 4)) := hB 4 (by omega)
      have c1 : wr.cell? ⟨g, off + 5, none⟩ = some (.int .u8 (f 5)) := hB 5 (by omega)
      have c2 : wr.cell? ⟨g, off + 6, none⟩ = some (.int .u8 (f 6)) := hB 6 (by omega)
      have c3 : wr.cell? ⟨g, off + 7, none⟩ = some (.int .u8 (f 7)) := hB 7 (by omega)
      have hne : ¬ cap = 4 := by have := HCAP.out; omega
      have hle : (8 : Int) ≤ (cap : Int) := by have := HCAP.out; omega
      have harr := arr182 g (off + 4) (cap - 4)
      have fr : wr.frozen? ⟨w.heap.size, 9, none⟩ = false := hR.free 9
      have d1 : wr.cell? ⟨w.heap.size, 9, none⟩ = _ := hR.cell (i := 9) (by rw [hsl]; decide)
      have HR := Lib.hid hR
      have HH := Lib.hid hH
      have HG := Lib.hid hG
      have HB := Lib.hid hB
      have HC := Lib.hid (fun W => of32_any (f 4) (f 5) (f 6) (f 7) W)
      clear hR hH hG hB hsl hp HR3 HH3 HG3 HB3
      go_wp2_with fail
      refine (HC.out _).mono ?_
      rintro e w4 ⟨rfl, hb4⟩
      have hR4 := HR.out.below hb4
      have fr4 : w4.frozen? ⟨w.heap.size, 9, none⟩ = false := hR4.free 9
      have d4 : w4.cell? ⟨w.heap.size, 9, none⟩ = _ := hR4.cell (i := 9) (by rw [sP_len l f HL.out (by decide)]; decide)
      have hS4 := hR4.set 9 (o32 (f 4) (f 5) (f 6) (f 7))
      have hst : (sP l f 1).set 9 (o32 (f 4) (f 5) (f 6) (f 7)) = sP l f 2 := set_right HL.out 1 _
      rw [hst] at hS4
      have hH4 := (HH.out.below hb4).of_block (w' := w4.setCell ⟨w.heap.size, 9, none⟩ (.int .u32 (o32 (f 4) (f 5) (f 6) (f 7)))) (RowKit.Below.heap_setCell w4 _ _ b (by have := HBG.out; simp; omega))
      have hG4 := only_setCell (p := ⟨w.heap.size, 9, none⟩) (only_below HG.out hb4) (.inr (Nat.le_refl _)) (.int .u32 (o32 (f 4) (f 5) (f 6) (f 7)))
      have hB4 : ∀ i, i < 32 → (w4.setCell ⟨w.heap.size, 9, none⟩ (.int .u32 (o32 (f 4) (f 5) (f 6) (f 7)))).cell? ⟨g, off + i, none⟩ = some (.int .u8 (f i)) := fun i hi =>
        (show _ = wr.cell? ⟨g, off + i, none⟩ from World.cell?_of_block ((RowKit.Below.heap_setCell w4 _ _ g (by have := HGG.out; simp; omega)).trans (hb4.block g (Nat.lt_of_lt_of_le HGG.out HG.out.size)))).trans (HB.out i hi)
      have HS4 := Lib.hid hS4
      have HH4 := Lib.hid hH4
      have HG4 := Lib.hid hG4
      have HB4 := Lib.hid hB4
      clear hS4 hH4 hG4 hB4 hR4 hst hb4 HB HG HH HR
      go_wp2_with fail
      exact ⟨⟨2, 2, rfl, by omega, rfl, HS4.out, HH4.out, HG4.out, HB4.out⟩, by simp [intOf]⟩
    · obtain rfl : q = 2 := hq
      have c0 : wr.cell? ⟨g, off + 8, none⟩ = some (.int .u8 (f 8)) := hB 8 (by omega)
      have c1 : wr.cell? ⟨g, off + 9, none⟩ = some (.int .u8 (f 9)) := hB 9 (by omega)
      have c2 : wr.cell? ⟨g, off + 10, none⟩ = some (.int .u8 (f 10)) := hB 10 (by omega)
      have c3 : wr.cell? ⟨g, off + 11, none⟩ = some (.int .u8 (f 11)) := hB 11 (by omega)
      have hne : ¬ cap = 8 := by have := HCAP.out; omega
      have hle : (12 : Int) ≤ (cap : Int) := by have := HCAP.out; omega
      have harr := arr182 g (off + 8) (cap - 8)
      have fr : wr.frozen? ⟨w.heap.size, 10, none⟩ = false := hR.free 10
      have d1 : wr.cell? ⟨w.heap.size, 10, none⟩ = _ := hR.cell (i := 10) (by rw [hsl]; decide)
      have HR := Lib.hid hR
      have HH := Lib.hid hH
      have HG := Lib.hid hG
      have HB := Lib.hid hB
      have HC := Lib.hid (fun W => of32_any (f 8) (f 9) (f 10) (f 11) W)
      clear hR hH hG hB hsl hp HR3 HH3 HG3 HB3
      go_wp2_with fail
      refine (HC.out _).mono ?_
      rintro e w4 ⟨rfl, hb4⟩
      have hR4 := HR.out.below hb4
      have fr4 : w4.frozen? ⟨w.heap.size, 10, none⟩ = false := hR4.free 10
      have d4 : w4.cell? ⟨w.heap.size, 10, none⟩ = _ := hR4.cell (i := 10) (by rw [sP_len l f HL.out (by decide)]; decide)
      have hS4 := hR4.set 10 (o32 (f 8) (f 9) (f 10) (f 11))
      have hst : (sP l f 2).set 10 (o32 (f 8) (f 9) (f 10) (f 11)) = sP l f 3 := set_right HL.out 2 _
      rw [hst] at hS4
      have hH4 := (HH.out.below hb4).of_block (w' := w4.setCell ⟨w.heap.size, 10, none⟩ (.int .u32 (o32 (f 8) (f 9) (f 10) (f 11)))) (RowKit.Below.heap_setCell w4 _ _ b (by have := HBG.out; simp; omega))
      have hG4 := only_setCell (p := ⟨w.heap.size, 10, none⟩) (only_below HG.out hb4) (.inr (Nat.le_refl _)) (.int .u32 (o32 (f 8) (f 9) (f 10) (f 11)))
      have hB4 : ∀ i, i < 32 → (w4.setCell ⟨w.heap.size, 10, none⟩ (.int .u32 (o32 (f 8) (f 9) (f 10) (f 11)))).cell? ⟨g, off + i, none⟩ = some (.int .u8 (f i)) := fun i hi =>
        (show _ = wr.cell? ⟨g, off + i, none⟩ from World.cell?_of_block ((RowKit.Below.heap_setCell w4 _ _ g (by have := HGG.out; simp; omega)).trans (hb4.block g (Nat.lt_of_lt_of_le HGG.out HG.out.size)))).trans (HB.out i hi)
      have HS4 := Lib.hid hS4
      have HH4 := Lib.hid hH4
      have HG4 := Lib.hid hG4
      have HB4 := Lib.hid hB4
      clear hS4 hH4 hG4 hB4 hR4 hst hb4 HB HG HH HR
      go_wp2_with fail
      exact ⟨⟨3, 3, rfl, by omega, rfl, HS4.out, HH4.out, HG4.out, HB4.out⟩, by simp [intOf]⟩
    · obtain rfl : q = 3 := hq
      have c0 : wr.cell? ⟨g, off + 12, none⟩ = some (.int .u8 (f 12)) := hB 12 (by omega)
      have c1 : wr.cell? ⟨g, off + 13, none⟩ = some (.int .u8 (f 13)) := hB 13 (by omega)
      have c2 : wr.cell? ⟨g, off + 14, none⟩ = some (.int .u8 (f 14)) := hB 14 (by omega)
      have c3 : wr.cell? ⟨g, off + 15, none⟩ = some (.int .u8 (f 15)) := hB 15 (by omega)
      have hne : ¬ cap = 12 := by have := HCAP.out; omega
      have hle : (16 : Int) ≤ (cap : Int) := by have := HCAP.out; omega
      have harr := arr182 g (off + 12) (cap - 12)
      have fr : wr.frozen? ⟨w.heap.size, 11, none⟩ = false := hR.free 11
      have d1 : wr.cell? ⟨w.heap.size, 11, none⟩ = _ := hR.cell (i := 11) (by rw [hsl]; decide)
      have HR := Lib.hid hR
      have HH := Lib.hid hH
      have HG := Lib.hid hG
      have HB := Lib.hid hB
      have HC := Lib.hid (fun W => of32_any (f 12) (f 13) (f 14) (f 15) W)
      clear hR hH hG hB hsl hp HR3 HH3 HG3 HB3
      go_wp2_with fail
      refine (HC.out _).mono ?_
      rintro e w4 ⟨rfl, hb4⟩
      have hR4 := HR.out.below hb4
      have fr4 : w4.frozen? ⟨w.heap.size, 11, none⟩ = false := hR4.free 11
      have d4 : w4.cell? ⟨w.heap.size, 11, none⟩ = _ := hR4.cell (i := 11) (by rw [sP_len l f HL.out (by decide)]; decide)
      have hS4 := hR4.set 11 (o32 (f 12) (f 13) (f 14) (f 15))
      have hst : (sP l f 3).set 11 (o32 (f 12) (f 13) (f 14) (f 15)) = sP l f 4 := set_right HL.out 3 _
      rw [hst] at hS4
      have hH4 := (HH.out.below hb4).of_block (w' := w4.setCell ⟨w.heap.size, 11, none⟩ (.int .u32 (o32 (f 12) (f 13) (f 14) (f 15)))) (RowKit.Below.heap_setCell w4 _ _ b (by have := HBG.out; simp; omega))
      have hG4 := only_setCell (p := ⟨w.heap.size, 11, none⟩) (only_below HG.out hb4) (.inr (Nat.le_refl _)) (.int .u32 (o32 (f 12) (f 13) (f 14) (f 15)))
      have hB4 : ∀ i, i < 32 → (w4.setCell ⟨w.heap.size, 11, none⟩ (.int .u32 (o32 (f 12) (f 13) (f 14) (f 15)))).cell? ⟨g, off + i, none⟩ = some (.int .u8 (f i)) := fun i hi =>
        (show _ = wr.cell? ⟨g, off + i, none⟩ from World.cell?_of_block ((RowKit.Below.heap_setCell w4 _ _ g (by have := HGG.out; simp; omega)).trans (hb4.block g (Nat.lt_of_lt_of_le HGG.out HG.out.size)))).trans (HB.out i hi)
      have HS4 := Lib.hid hS4
      have HH4 := Lib.hid hH4
      have HG4 := Lib.hid hG4
      have HB4 := Lib.hid hB4
      clear hS4 hH4 hG4 hB4 hR4 hst hb4 HB HG HH HR
      go_wp2_with fail
      exact ⟨⟨4, 4, rfl, by omega, rfl, HS4.out, HH4.out, HG4.out, HB4.out⟩, by simp [intOf]⟩
    · obtain rfl : q = 4 := hq
      have c0 : wr.cell? ⟨g, off + 16, none⟩ = some (.int .u8 (f 16)) := hB 16 (by omega)
      have c1 : wr.cell? ⟨g, off + 17, none⟩ = some (.int .u8 (f 17)) := hB 17 (by omega)
      have c2 : wr.cell? ⟨g, off + 18, none⟩ = some (.int .u8 (f 18)) := hB 18 (by omega)
      have c3 : wr.cell? ⟨g, off + 19, none⟩ = some (.int .u8 (f 19)) := hB 19 (by omega)
      have hne : ¬ cap = 16 := by have := HCAP.out; omega
      have hle : (20 : Int) ≤ (cap : Int) := by have := HCAP.out; omega
      have harr := arr182 g (off + 16) (cap - 16)
      have fr : wr.frozen? ⟨w.heap.size, 12, none⟩ = false := hR.free 12
      have d1 : wr.cell? ⟨w.heap.size, 12, none⟩ = _ := hR.cell (i := 12) (by rw [hsl]; decide)
      have HR := Lib.hid hR
      have HH := Lib.hid hH
      have HG := Lib.hid hG
      have HB := Lib.hid hB
      have HC := Lib.hid (fun W => of32_any (f 16) (f 17) (f 18) (f 19) W)
      clear hR hH hG hB hsl hp HR3 HH3 HG3 HB3
      go_wp2_with fail
      refine (HC.out _).mono ?_
      rintro e w4 ⟨rfl, hb4⟩
      have hR4 := HR.out.below hb4
      have fr4 : w4.frozen? ⟨w.heap.size, 12, none⟩ = false := hR4.free 12
      have d4 : w4.cell? ⟨w.heap.size, 12, none⟩ = _ := hR4.cell (i := 12) (by rw [sP_len l f HL.out (by decide)]; decide)
      have hS4 := hR4.set 12 (o32 (f 16) (f 17) (f 18) (f 19))
      have hst : (sP l f 4).set 12 (o32 (f 16) (f 17) (f 18) (f 19)) = sP l f 5 := set_right HL.out 4 _
      rw [hst] at hS4
      have hH4 := (HH.out.below hb4).of_block (w' := w4.setCell ⟨w.heap.size, 12, none⟩ (.int .u32 (o32 (f 16) (f 17) (f 18) (f 19)))) (RowKit.Below.heap_setCell w4 _ _ b (by have := HBG.out; simp; omega))
      have hG4 := only_setCell (p := ⟨w.heap.size, 12, none⟩) (only_below HG.out hb4) (.inr (Nat.le_refl _)) (.int .u32 (o32 (f 16) (f 17) (f 18) (f 19)))
      have hB4 : ∀ i, i < 32 → (w4.setCell ⟨w.heap.size, 12, none⟩ (.int .u32 (o32 (f 16) (f 17) (f 18) (f 19)))).cell? ⟨g, off + i, none⟩ = some (.int .u8 (f i)) := fun i hi =>
        (show _ = wr.cell? ⟨g, off + i, none⟩ from World.cell?_of_block ((RowKit.Below.heap_setCell w4 _ _ g (by have := HGG.out; simp; omega)).trans (hb4.block g (Nat.lt_of_lt_of_le HGG.out HG.out.size)))).trans (HB.out i hi)
      have HS4 := Lib.hid hS4
      have HH4 := Lib.hid hH4
      have HG4 := Lib.hid hG4
      have HB4 := Lib.hid hB4
      clear hS4 hH4 hG4 hB4 hR4 hst hb4 HB HG HH HR
      go_wp2_with fail
      exact ⟨⟨5, 5, rfl, by omega, rfl, HS4.out, HH4.out, HG4.out, HB4.out⟩, by simp [intOf]⟩
    · obtain rfl : q = 5 := hq
      have c0 : wr.cell? ⟨g, off + 20, none⟩ = some (.int .u8 (f 20)) := hB 20 (by omega)
      have c1 : wr.cell? ⟨g, off + 21, none⟩ = some (.int .u8 (f 21)) := hB 21 (by omega)
      have c2 : wr.cell? ⟨g, off + 22, none⟩ = some (.int .u8 (f 22)) := hB 22 (by omega)
      have c3 : wr.cell? ⟨g, off + 23, none⟩ = some (.int .u8 (f 23)) := hB 23 (by omega)
      have hne : ¬ cap = 20 := by have := HCAP.out; omega
      have hle : (24 : Int) ≤ (cap : Int) := by have := HCAP.out; omega
      have harr := arr182 g (off + 20) (cap - 20)
      have fr : wr.frozen? ⟨w.heap.size, 13, none⟩ = false := hR.free 13
      have d1 : wr.cell? ⟨w.heap.size, 13, none⟩ = _ := hR.cell (i := 13) (by rw [hsl]; decide)
      have HR := Lib.hid hR
      have HH := Lib.hid hH
      have HG := Lib.hid hG
      have HB := Lib.hid hB
      have HC := Lib.hid (fun W => of32_any (f 20) (f 21) (f 22) (f 23) W)
      clear hR hH hG hB hsl hp HR3 HH3 HG3 HB3
      go_wp2_with fail
      refine (HC.out _).mono ?_
      rintro e w4 ⟨rfl, hb4⟩
      have hR4 := HR.out.below hb4
      have fr4 : w4.frozen? ⟨w.heap.size, 13, none⟩ = false := hR4.free 13
      have d4 : w4.cell? ⟨w.heap.size, 13, none⟩ = _ := hR4.cell (i := 13) (by rw [sP_len l f HL.out (by decide)]; decide)
      have hS4 := hR4.set 13 (o32 (f 20) (f 21) (f 22) (f 23))
      have hst : (sP l f 5).set 13 (o32 (f 20) (f 21) (f 22) (f 23)) = sP l f 6 := set_right HL.out 5 _
      rw [hst] at hS4
      have hH4 := (HH.out.below hb4).of_block (w' := w4.setCell ⟨w.heap.size, 13, none⟩ (.int .u32 (o32 (f 20) (f 21) (f 22) (f 23)))) (RowKit.Below.heap_setCell w4 _ _ b (by have := HBG.out; simp; omega))
      have hG4 := only_setCell (p := ⟨w.heap.size, 13, none⟩) (only_below HG.out hb4) (.inr (Nat.le_refl _)) (.int .u32 (o32 (f 20) (f 21) (f 22) (f 23)))
      have hB4 : ∀ i, i < 32 → (w4.setCell ⟨w.heap.size, 13, none⟩ (.int .u32 (o32 (f 20) (f 21) (f 22) (f 23)))).cell? ⟨g, off + i, none⟩ = some (.int .u8 (f i)) := fun i hi =>
        (show _ = wr.cell? ⟨g, off + i, none⟩ from World.cell?_of_block ((RowKit.Below.heap_setCell w4 _ _ g (by have := HGG.out; simp; omega)).trans (hb4.block g (Nat.lt_of_lt_of_le HGG.out HG.out.size)))).trans (HB.out i hi)
      have HS4 := Lib.hid hS4
      have HH4 := Lib.hid hH4
      have HG4 := Lib.hid hG4
      have HB4 := Lib.hid hB4
      clear hS4 hH4 hG4 hB4 hR4 hst hb4 HB HG HH HR
      go_wp2_with fail
      exact ⟨⟨6, 6, rfl, by omega, rfl, HS4.out, HH4.out, HG4.out, HB4.out⟩, by simp [intOf]⟩
    · obtain rfl : q = 6 := hq
      have c0 : wr.cell? ⟨g, off + 24, none⟩ = some (.int .u8 (f 24)) := hB 24 (by omega)
      have c1 : wr.cell? ⟨g, off + 25, none⟩ = some (.int .u8 (f 25)) := hB 25 (by omega)
      have c2 : wr.cell? ⟨g, off + 26, none⟩ = some (.int .u8 (f 26)) := hB 26 (by omega)
      have c3 : wr.cell? ⟨g, off + 27, none⟩ = some (.int .u8 (f 27)) := hB 27 (by omega)
      have hne : ¬ cap = 24 := by have := HCAP.out; omega
      have hle : (28 : Int) ≤ (cap : Int) := by have := HCAP.out; omega
      have harr := arr182 g (off + 24) (cap - 24)
      have fr : wr.frozen? ⟨w.heap.size, 14, none⟩ = false := hR.free 14
      have d1 : wr.cell? ⟨w.heap.size, 14, none⟩ = _ := hR.cell (i := 14) (by rw [hsl]; decide)
      have HR := Lib.hid hR
      have HH := Lib.hid hH
      have HG := Lib.hid hG
      have HB := Lib.hid hB
      have HC := Lib.hid (fun W => of32_any (f 24) (f 25) (f 26) (f 27) W)
      clear hR hH hG hB hsl hp HR3 HH3 HG3 HB3
      go_wp2_with fail
      refine (HC.out _).mono ?_
      rintro e w4 ⟨rfl, hb4⟩
      have hR4 := HR.out.below hb4
      have fr4 : w4.frozen? ⟨w.heap.size, 14, none⟩ = false := hR4.free 14
      have d4 : w4.cell? ⟨w.heap.size, 14, none⟩ = _ := hR4.cell (i := 14) (by rw [sP_len l f HL.out (by decide)]; decide)
      have hS4 := hR4.set 14 (o32 (f 24) (f 25) (f 26) (f 27))
      have hst : (sP l f 6).set 14 (o32 (f 24) (f 25) (f 26) (f 27)) = sP l f 7 := set_right HL.out 6 _
      rw [hst] at hS4
      have hH4 := (HH.out.below hb4).of_block (w' := w4.setCell ⟨w.heap.size, 14, none⟩ (.int .u32 (o32 (f 24) (f 25) (f 26) (f 27)))) (RowKit.Below.heap_setCell w4 _ _ b (by have := HBG.out; simp; omega))
      have hG4 := only_setCell (p := ⟨w.heap.size, 14, none⟩) (only_below HG.out hb4) (.inr (Nat.le_refl _)) (.int .u32 (o32 (f 24) (f 25) (f 26) (f 27)))
      have hB4 : ∀ i, i < 32 → (w4.setCell ⟨w.heap.size, 14, none⟩ (.int .u32 (o32 (f 24) (f 25) (f 26) (f 27)))).cell? ⟨g, off + i, none⟩ = some (.int .u8 (f i)) := fun i hi =>
        (show _ = wr.cell? ⟨g, off + i, none⟩ from World.cell?_of_block ((RowKit.Below.heap_setCell w4 _ _ g (by have := HGG.out; simp; omega)).trans (hb4.block g (Nat.lt_of_lt_of_le HGG.out HG.out.size)))).trans (HB.out i hi)
      have HS4 := Lib.hid hS4
      have HH4 := Lib.hid hH4
      have HG4 := Lib.hid hG4
      have HB4 := Lib.hid hB4
      clear hS4 hH4 hG4 hB4 hR4 hst hb4 HB HG HH HR
      go_wp2_with fail
      exact ⟨⟨7, 7, rfl, by omega, rfl, HS4.out, HH4.out, HG4.out, HB4.out⟩, by simp [intOf]⟩
    · obtain rfl : q = 7 := hq
      have c0 : wr.cell? ⟨g, off + 28, none⟩ = some (.int .u8 (f 28)) := hB 28 (by omega)
      have c1 : wr.cell? ⟨g, off + 29, none⟩ = some (.int .u8 (f 29)) := hB 29 (by omega)
      have c2 : wr.cell? ⟨g, off + 30, none⟩ = some (.int .u8 (f 30)) := hB 30 (by omega)
      have c3 : wr.cell? ⟨g, off + 31, none⟩ = some (.int .u8 (f 31)) := hB 31 (by omega)
      have hne : ¬ cap = 28 := by have := HCAP.out; omega
      have hle : (32 : Int) ≤ (cap : Int) := by have := HCAP.out; omega
      have harr := arr182 g (off + 28) (cap - 28)
      have fr : wr.frozen? ⟨w.heap.size, 15, none⟩ = false := hR.free 15
      have d1 : wr.cell? ⟨w.heap.size, 15, none⟩ = _ := hR.cell (i := 15) (by rw [hsl]; decide)
      have HR := Lib.hid hR
      have HH := Lib.hid hH
      have HG := Lib.hid hG
      have HB := Lib.hid hB
      have HC := Lib.hid (fun W => of32_any (f 28) (f 29) (f 30) (f 31) W)
      clear hR hH hG hB hsl hp HR3 HH3 HG3 HB3
      go_wp2_with fail
      refine (HC.out _).mono ?_
      rintro e w4 ⟨rfl, hb4⟩
      have hR4 := HR.out.below hb4
      have fr4 : w4.frozen? ⟨w.heap.size, 15, none⟩ = false := hR4.free 15
      have d4 : w4.cell? ⟨w.heap.size, 15, none⟩ = _ := hR4.cell (i := 15) (by rw [sP_len l f HL.out (by decide)]; decide)
      have hS4 := hR4.set 15 (o32 (f 28) (f 29) (f 30) (f 31))
      have hst : (sP l f 7).set 15 (o32 (f 28) (f 29) (f 30) (f 31)) = sP l f 8 := set_right HL.out 7 _
      rw [hst] at hS4
      have hH4 := (HH.out.below hb4).of_block (w' := w4.setCell ⟨w.heap.size, 15, none⟩ (.int .u32 (o32 (f 28) (f 29) (f 30) (f 31)))) (RowKit.Below.heap_setCell w4 _ _ b (by have := HBG.out; simp; omega))
      have hG4 := only_setCell (p := ⟨w.heap.size, 15, none⟩) (only_below HG.out hb4) (.inr (Nat.le_refl _)) (.int .u32 (o32 (f 28) (f 29) (f 30) (f 31)))
      have hB4 : ∀ i, i < 32 → (w4.setCell ⟨w.heap.size, 15, none⟩ (.int .u32 (o32 (f 28) (f 29) (f 30) (f 31)))).cell? ⟨g, off + i, none⟩ = some (.int .u8 (f i)) := fun i hi =>
        (show _ = wr.cell? ⟨g, off + i, none⟩ from World.cell?_of_block ((RowKit.Below.heap_setCell w4 _ _ g (by have := HGG.out; simp; omega)).trans (hb4.block g (Nat.lt_of_lt_of_le HGG.out HG.out.size)))).trans (HB.out i hi)
      have HS4 := Lib.hid hS4
      have HH4 := Lib.hid hH4
      have HG4 := Lib.hid hG4
      have HB4 := Lib.hid hB4
      clear hS4 hH4 hG4 hB4 hR4 hst hb4 HB HG HH HR
      go_wp2_with fail
      exact ⟨⟨8, 8, rfl, by omega, rfl, HS4.out, HH4.out, HG4.out, HB4.out⟩, by simp [intOf]⟩
    · obtain rfl : q = 8 := hq
      have hL16 : (l ++ osF f).length = 16 := by simp [HL.out, osF]
      have hsp : sP l f 8 = l ++ osF f := by simp [sP, osF, z8]
      rw [hsp] at hR
      have HC := fun W => rounds_any (l ++ osF f) hL16 W
      have HP : pieceI l f = outI l (rounds6 (l ++ osF f)) 8 := rfl
      generalize l ++ osF f = L at *
      obtain ⟨x0, x1, x2, x3, x4, x5, x6, x7, x8, x9, x10, x11, x12, x13, x14, x15, rfl⟩ := list16 hL16
      have d0 : wr.cell? ⟨w.heap.size, 0, none⟩ = some (.int .u32 x0) := hR.cell (i := 0) (by simp)
      have d1 : wr.cell? ⟨w.heap.size, 1, none⟩ = some (.int .u32 x1) := hR.cell (i := 1) (by simp)
      have d2 : wr.cell? ⟨w.heap.size, 2, none⟩ = some (.int .u32 x2) := hR.cell (i := 2) (by simp)
      have d3 : wr.cell? ⟨w.heap.size, 3, none⟩ = some (.int .u32 x3) := hR.cell (i := 3) (by simp)
      have d4 : wr.cell? ⟨w.heap.size, 4, none⟩ = some (.int .u32 x4) := hR.cell (i := 4) (by simp)
      have d5 : wr.cell? ⟨w.heap.size, 5, none⟩ = some (.int .u32 x5) := hR.cell (i := 5) (by simp)
      have d6 : wr.cell? ⟨w.heap.size, 6, none⟩ = some (.int .u32 x6) := hR.cell (i := 6) (by simp)
      have d7 : wr.cell? ⟨w.heap.size, 7, none⟩ = some (.int .u32 x7) := hR.cell (i := 7) (by simp)
      have d8 : wr.cell? ⟨w.heap.size, 8, none⟩ = some (.int .u32 x8) := hR.cell (i := 8) (by simp)
      have d9 : wr.cell? ⟨w.heap.size, 9, none⟩ = some (.int .u32 x9) := hR.cell (i := 9) (by simp)
      have d10 : wr.cell? ⟨w.heap.size, 10, none⟩ = some (.int .u32 x10) := hR.cell (i := 10) (by simp)
      have d11 : wr.cell? ⟨w.heap.size, 11, none⟩ = some (.int .u32 x11) := hR.cell (i := 11) (by simp)
      have d12 : wr.cell? ⟨w.heap.size, 12, none⟩ = some (.int .u32 x12) := hR.cell (i := 12) (by simp)
      have d13 : wr.cell? ⟨w.heap.size, 13, none⟩ = some (.int .u32 x13) := hR.cell (i := 13) (by simp)
      have d14 : wr.cell? ⟨w.heap.size, 14, none⟩ = some (.int .u32 x14) := hR.cell (i := 14) (by simp)
      have d15 : wr.cell? ⟨w.heap.size, 15, none⟩ = some (.int .u32 x15) := hR.cell (i := 15) (by simp)
      have HR := Lib.hid hR
      have HH := Lib.hid hH
      have HG := Lib.hid hG
      have HC := Lib.hid HC
      clear hR hH hG hB hsl hp HR3 HH3 HG3 HB3 hsp
      go_wp2_with fail
      refine (HC.out _).mono ?_
      rintro e w5 ⟨rfl, hb5⟩
      have hY : (rounds6 [x0, x1, x2, x3, x4, x5, x6, x7, x8, x9, x10, x11, x12, x13, x14, x15]).length = 16 := rfl
      have hsz : (uI (rounds6 [x0, x1, x2, x3, x4, x5, x6, x7, x8, x9, x10, x11, x12, x13, x14, x15])).size = 16 := rfl
      have hR5 := HR.out.below hb5
      have hH5 := HH.out.below hb5
      have hG5 := only_below HG.out hb5
      clear d0 d1 d2 d3 d4 d5 d6 d7 d8 d9 d10 d11 d12 d13 d14 d15 HC HR HH HG hb5
      generalize rounds6 [x0, x1, x2, x3, x4, x5, x6, x7, x8, x9, x10, x11, x12, x13, x14, x15] = Y at *
      have HR := Lib.hid hR5
      have HH := Lib.hid hH5
      have HG := Lib.hid hG5
      clear hR5 hH5 hG5
      have hst : (storeCells ⟨w.heap.size, 0, none⟩ (uI Y).toList).run Tryz.prog w5 = .ok () (w5.setCells w.heap.size 0 (Y.map (Value.int .u32))) := by
        have := run_storeCells_cells (P := Tryz.prog) w.heap.size 0 (Y.map (Value.int .u32)) 0 w5 (fun j hj => by
          rw [List.length_map, hY] at hj
          rw [Nat.zero_add, HR.out.cell (i := j) (by simpa using hj)]; rfl) (fun j _ => HR.out.free _) (fun u hu => by
          obtain ⟨x, _, rfl⟩ := List.mem_map.1 hu; rfl)
        simpa [uI] using this
      have hR6 := setCells_row w5 w.heap.size _ [] (by rw [List.append_nil]; exact HR.out) Y (by rw [hY]; rfl)
      rw [List.append_nil] at hR6
      obtain ⟨_, a2, a3, a4, a5, a6⟩ := heap_setCells (Y.map (Value.int .u32)) 0 w5 w.heap.size _ 253 (0, 0) HR.out
      have hH6 := HH.out.of_block (a2 b (by have := HBG.out; omega))
      have hG6 := only_new w _ _ b HG.out a3 a4 a5 a6 (fun j hj => a2 j (by omega))
      clear a2 a3 a4 a5 a6
      generalize w5.setCells w.heap.size 0 (Y.map (Value.int .u32)) = w6 at *
      have HR6 := Lib.hid hR6
      have HH6 := Lib.hid hH6
      have HG6 := Lib.hid hG6
      have HY := Lib.hid hY
      have HPP := Lib.hid HP
      clear hR6 hH6 hG6 HR HH HG hY HP
      go_wp2_with fail
      go_loopw [35] (fun i wr => ∃ (p : Nat) (q : Int), q = p ∧ p ≤ 8 ∧ i = .int .i64 q ∧ RowU wr w.heap.size Y ∧ HS wr b (outI l Y p) v n ∧ w.grownBy wr (some b)) (fun i _ => 8 - (intOf i).toNat)
      case atStart => exact ⟨0, 0, rfl, by omega, rfl, HR6.out, by rw [outI_zero l Y HL.out]; exact HH6.out, HG6.out⟩
      case round =>
        obtain ⟨p, q, hq, hp, rfl, hR, hH, hG⟩ := hrel
        rcases (show p = 0 ∨ p = 1 ∨ p = 2 ∨ p = 3 ∨ p = 4 ∨ p = 5 ∨ p = 6 ∨ p = 7 ∨ p = 8 by omega) with rfl | rfl | rfl | rfl | rfl | rfl | rfl | rfl | rfl
        · obtain rfl : q = 0 := hq
          have hwr : IntKind.i64.wrap 8 = 8 := by decide
          have c1 : wr.drew.cell? ⟨b, 0, none⟩ = some (.int .u32 (l.getD 0 0)) := by
            have := hH.word (i := 0) (by decide)
            rw [outI_at l Y (by decide)] at this
            exact this
          have c2 : wr.drew.cell? ⟨w.heap.size, 0, none⟩ = _ := hR.cell (i := 0) (by rw [HY.out]; decide)
          have c3 : wr.drew.cell? ⟨w.heap.size, 8, none⟩ = _ := hR.cell (i := 8) (by rw [HY.out]; decide)
          have f1 : wr.drew.frozen? ⟨b, 0, none⟩ = false := hH.free (i := 0) (by decide)
          have hS : HS (wr.drew.setCell ⟨b, 0, none⟩ (.int .u32 (bits .xor .u32 (l.getD 0 0) (bits .xor .u32 (Y.getD 0 0) (Y.getD 8 0))))) b (outI l Y 1) v n := by
            have := hH.drew.setWord (p := 0) (by decide) (xorI (l.getD 0 0) (Y.getD 0 0) (Y.getD 8 0))
            rw [outI_set l Y (p := 0) (by decide)] at this
            exact this
          have hR7 : RowU (wr.drew.setCell ⟨b, 0, none⟩ (.int .u32 (bits .xor .u32 (l.getD 0 0) (bits .xor .u32 (Y.getD 0 0) (Y.getD 8 0))))) w.heap.size Y := hR.drew.of_block (RowKit.Below.heap_setCell wr.drew ⟨b, 0, none⟩ _ w.heap.size (by have := HBG.out; simp; omega))
          have hG7 := only_setCell (p := ⟨b, 0, none⟩) (only_drew hG) (.inl rfl) (.int .u32 (bits .xor .u32 (l.getD 0 0) (bits .xor .u32 (Y.getD 0 0) (Y.getD 8 0))))
          have HS7 := Lib.hid hS
          have HR7 := Lib.hid hR7
          have HG7 := Lib.hid hG7
          generalize l.getD 0 0 = y1 at *
          generalize Y.getD 0 0 = y2 at *
          generalize Y.getD 8 0 = y3 at *
          clear hR hH hG hS hR7 hG7 HR6 HH6 HG6 hp
          go_wp2_with fail
          refine wp_region_still_tail 18 (by kernel_rfl) (by kernel_rfl) ?_
          simp only [List.take_succ_cons, List.take_zero, List.drop_succ_cons, List.drop_zero]
          rw [show ({ heap := wr.heap, tape := wr.tape, drawn := wr.drawn + 1, os := wr.os, output := wr.output } : World) = wr.drew from rfl]
          generalize wr.drew = w7 at *
          repeat still_step
          refine wpStill_nil ?_
          go_wp2_with fail
          exact ⟨⟨1, 1, rfl, by omega, rfl, HR7.out, HS7.out, HG7.out⟩, by simp [intOf]⟩
        · obtain rfl : q = 1 := hq
          have hwr : IntKind.i64.wrap 9 = 9 := by decide
          have c1 : wr.drew.cell? ⟨b, 1, none⟩ = some (.int .u32 (l.getD 1 0)) := by
            have := hH.word (i := 1) (by decide)
            rw [outI_at l Y (by decide)] at this
            exact this
          have c2 : wr.drew.cell? ⟨w.heap.size, 1, none⟩ = _ := hR.cell (i := 1) (by rw [HY.out]; decide)
          have c3 : wr.drew.cell? ⟨w.heap.size, 9, none⟩ = _ := hR.cell (i := 9) (by rw [HY.out]; decide)
          have f1 : wr.drew.frozen? ⟨b, 1, none⟩ = false := hH.free (i := 1) (by decide)
          have hS : HS (wr.drew.setCell ⟨b, 1, none⟩ (.int .u32 (bits .xor .u32 (l.getD 1 0) (bits .xor .u32 (Y.getD 1 0) (Y.getD 9 0))))) b (outI l Y 2) v n := by
            have := hH.drew.setWord (p := 1) (by decide) (xorI (l.getD 1 0) (Y.getD 1 0) (Y.getD 9 0))
            rw [outI_set l Y (p := 1) (by decide)] at this
            exact this
          have hR7 : RowU (wr.drew.setCell ⟨b, 1, none⟩ (.int .u32 (bits .xor .u32 (l.getD 1 0) (bits .xor .u32 (Y.getD 1 0) (Y.getD 9 0))))) w.heap.size Y := hR.drew.of_block (RowKit.Below.heap_setCell wr.drew ⟨b, 1, none⟩ _ w.heap.size (by have := HBG.out; simp; omega))
          have hG7 := only_setCell (p := ⟨b, 1, none⟩) (only_drew hG) (.inl rfl) (.int .u32 (bits .xor .u32 (l.getD 1 0) (bits .xor .u32 (Y.getD 1 0) (Y.getD 9 0))))
          have HS7 := Lib.hid hS
          have HR7 := Lib.hid hR7
          have HG7 := Lib.hid hG7
          generalize l.getD 1 0 = y1 at *
          generalize Y.getD 1 0 = y2 at *
          generalize Y.getD 9 0 = y3 at *
          clear hR hH hG hS hR7 hG7 HR6 HH6 HG6 hp
          go_wp2_with fail
          refine wp_region_still_tail 18 (by kernel_rfl) (by kernel_rfl) ?_
          simp only [List.take_succ_cons, List.take_zero, List.drop_succ_cons, List.drop_zero]
          rw [show ({ heap := wr.heap, tape := wr.tape, drawn := wr.drawn + 1, os := wr.os, output := wr.output } : World) = wr.drew from rfl]
          generalize wr.drew = w7 at *
          repeat still_step
          refine wpStill_nil ?_
          go_wp2_with fail
          exact ⟨⟨2, 2, rfl, by omega, rfl, HR7.out, HS7.out, HG7.out⟩, by simp [intOf]⟩
        · obtain rfl : q = 2 := hq
          have hwr : IntKind.i64.wrap 10 = 10 := by decide
          have c1 : wr.drew.cell? ⟨b, 2, none⟩ = some (.int .u32 (l.getD 2 0)) := by
            have := hH.word (i := 2) (by decide)
            rw [outI_at l Y (by decide)] at this
            exact this
          have c2 : wr.drew.cell? ⟨w.heap.size, 2, none⟩ = _ := hR.cell (i := 2) (by rw [HY.out]; decide)
          have c3 : wr.drew.cell? ⟨w.heap.size, 10, none⟩ = _ := hR.cell (i := 10) (by rw [HY.out]; decide)
          have f1 : wr.drew.frozen? ⟨b, 2, none⟩ = false := hH.free (i := 2) (by decide)
          have hS : HS (wr.drew.setCell ⟨b, 2, none⟩ (.int .u32 (bits .xor .u32 (l.getD 2 0) (bits .xor .u32 (Y.getD 2 0) (Y.getD 10 0))))) b (outI l Y 3) v n := by
            have := hH.drew.setWord (p := 2) (by decide) (xorI (l.getD 2 0) (Y.getD 2 0) (Y.getD 10 0))
            rw [outI_set l Y (p := 2) (by decide)] at this
            exact this
          have hR7 : RowU (wr.drew.setCell ⟨b, 2, none⟩ (.int .u32 (bits .xor .u32 (l.getD 2 0) (bits .xor .u32 (Y.getD 2 0) (Y.getD 10 0))))) w.heap.size Y := hR.drew.of_block (RowKit.Below.heap_setCell wr.drew ⟨b, 2, none⟩ _ w.heap.size (by have := HBG.out; simp; omega))
          have hG7 := only_setCell (p := ⟨b, 2, none⟩) (only_drew hG) (.inl rfl) (.int .u32 (bits .xor .u32 (l.getD 2 0) (bits .xor .u32 (Y.getD 2 0) (Y.getD 10 0))))
          have HS7 := Lib.hid hS
          have HR7 := Lib.hid hR7
          have HG7 := Lib.hid hG7
          generalize l.getD 2 0 = y1 at *
          generalize Y.getD 2 0 = y2 at *
          generalize Y.getD 10 0 = y3 at *
          clear hR hH hG hS hR7 hG7 HR6 HH6 HG6 hp
          go_wp2_with fail
          refine wp_region_still_tail 18 (by kernel_rfl) (by kernel_rfl) ?_
          simp only [List.take_succ_cons, List.take_zero, List.drop_succ_cons, List.drop_zero]
          rw [show ({ heap := wr.heap, tape := wr.tape, drawn := wr.drawn + 1, os := wr.os, output := wr.output } : World) = wr.drew from rfl]
          generalize wr.drew = w7 at *
          repeat still_step
          refine wpStill_nil ?_
          go_wp2_with fail
          exact ⟨⟨3, 3, rfl, by omega, rfl, HR7.out, HS7.out, HG7.out⟩, by simp [intOf]⟩
        · obtain rfl : q = 3 := hq
          have hwr : IntKind.i64.wrap 11 = 11 := by decide
          have c1 : wr.drew.cell? ⟨b, 3, none⟩ = some (.int .u32 (l.getD 3 0)) := by
            have := hH.word (i := 3) (by decide)
            rw [outI_at l Y (by decide)] at this
            exact this
          have c2 : wr.drew.cell? ⟨w.heap.size, 3, none⟩ = _ := hR.cell (i := 3) (by rw [HY.out]; decide)
          have c3 : wr.drew.cell? ⟨w.heap.size, 11, none⟩ = _ := hR.cell (i := 11) (by rw [HY.out]; decide)
          have f1 : wr.drew.frozen? ⟨b, 3, none⟩ = false := hH.free (i := 3) (by decide)
          have hS : HS (wr.drew.setCell ⟨b, 3, none⟩ (.int .u32 (bits .xor .u32 (l.getD 3 0) (bits .xor .u32 (Y.getD 3 0) (Y.getD 11 0))))) b (outI l Y 4) v n := by
            have := hH.drew.setWord (p := 3) (by decide) (xorI (l.getD 3 0) (Y.getD 3 0) (Y.getD 11 0))
            rw [outI_set l Y (p := 3) (by decide)] at this
            exact this
          have hR7 : RowU (wr.drew.setCell ⟨b, 3, none⟩ (.int .u32 (bits .xor .u32 (l.getD 3 0) (bits .xor .u32 (Y.getD 3 0) (Y.getD 11 0))))) w.heap.size Y := hR.drew.of_block (RowKit.Below.heap_setCell wr.drew ⟨b, 3, none⟩ _ w.heap.size (by have := HBG.out; simp; omega))
          have hG7 := only_setCell (p := ⟨b, 3, none⟩) (only_drew hG) (.inl rfl) (.int .u32 (bits .xor .u32 (l.getD 3 0) (bits .xor .u32 (Y.getD 3 0) (Y.getD 11 0))))
          have HS7 := Lib.hid hS
          have HR7 := Lib.hid hR7
          have HG7 := Lib.hid hG7
          generalize l.getD 3 0 = y1 at *
          generalize Y.getD 3 0 = y2 at *
          generalize Y.getD 11 0 = y3 at *
          clear hR hH hG hS hR7 hG7 HR6 HH6 HG6 hp
          go_wp2_with fail
          refine wp_region_still_tail 18 (by kernel_rfl) (by kernel_rfl) ?_
          simp only [List.take_succ_cons, List.take_zero, List.drop_succ_cons, List.drop_zero]
          rw [show ({ heap := wr.heap, tape := wr.tape, drawn := wr.drawn + 1, os := wr.os, output := wr.output } : World) = wr.drew from rfl]
          generalize wr.drew = w7 at *
          repeat still_step
          refine wpStill_nil ?_
          go_wp2_with fail
          exact ⟨⟨4, 4, rfl, by omega, rfl, HR7.out, HS7.out, HG7.out⟩, by simp [intOf]⟩
        · obtain rfl : q = 4 := hq
          have hwr : IntKind.i64.wrap 12 = 12 := by decide
          have c1 : wr.drew.cell? ⟨b, 4, none⟩ = some (.int .u32 (l.getD 4 0)) := by
            have := hH.word (i := 4) (by decide)
            rw [outI_at l Y (by decide)] at this
            exact this
          have c2 : wr.drew.cell? ⟨w.heap.size, 4, none⟩ = _ := hR.cell (i := 4) (by rw [HY.out]; decide)
          have c3 : wr.drew.cell? ⟨w.heap.size, 12, none⟩ = _ := hR.cell (i := 12) (by rw [HY.out]; decide)
          have f1 : wr.drew.frozen? ⟨b, 4, none⟩ = false := hH.free (i := 4) (by decide)
          have hS : HS (wr.drew.setCell ⟨b, 4, none⟩ (.int .u32 (bits .xor .u32 (l.getD 4 0) (bits .xor .u32 (Y.getD 4 0) (Y.getD 12 0))))) b (outI l Y 5) v n := by
            have := hH.drew.setWord (p := 4) (by decide) (xorI (l.getD 4 0) (Y.getD 4 0) (Y.getD 12 0))
            rw [outI_set l Y (p := 4) (by decide)] at this
            exact this
          have hR7 : RowU (wr.drew.setCell ⟨b, 4, none⟩ (.int .u32 (bits .xor .u32 (l.getD 4 0) (bits .xor .u32 (Y.getD 4 0) (Y.getD 12 0))))) w.heap.size Y := hR.drew.of_block (RowKit.Below.heap_setCell wr.drew ⟨b, 4, none⟩ _ w.heap.size (by have := HBG.out; simp; omega))
          have hG7 := only_setCell (p := ⟨b, 4, none⟩) (only_drew hG) (.inl rfl) (.int .u32 (bits .xor .u32 (l.getD 4 0) (bits .xor .u32 (Y.getD 4 0) (Y.getD 12 0))))
          have HS7 := Lib.hid hS
          have HR7 := Lib.hid hR7
          have HG7 := Lib.hid hG7
          generalize l.getD 4 0 = y1 at *
          generalize Y.getD 4 0 = y2 at *
          generalize Y.getD 12 0 = y3 at *
          clear hR hH hG hS hR7 hG7 HR6 HH6 HG6 hp
          go_wp2_with fail
          refine wp_region_still_tail 18 (by kernel_rfl) (by kernel_rfl) ?_
          simp only [List.take_succ_cons, List.take_zero, List.drop_succ_cons, List.drop_zero]
          rw [show ({ heap := wr.heap, tape := wr.tape, drawn := wr.drawn + 1, os := wr.os, output := wr.output } : World) = wr.drew from rfl]
          generalize wr.drew = w7 at *
          repeat still_step
          refine wpStill_nil ?_
          go_wp2_with fail
          exact ⟨⟨5, 5, rfl, by omega, rfl, HR7.out, HS7.out, HG7.out⟩, by simp [intOf]⟩
        · obtain rfl : q = 5 := hq
          have hwr : IntKind.i64.wrap 13 = 13 := by decide
          have c1 : wr.drew.cell? ⟨b, 5, none⟩ = some (.int .u32 (l.getD 5 0)) := by
            have := hH.word (i := 5) (by decide)
            rw [outI_at l Y (by decide)] at this
            exact this
          have c2 : wr.drew.cell? ⟨w.heap.size, 5, none⟩ = _ := hR.cell (i := 5) (by rw [HY.out]; decide)
          have c3 : wr.drew.cell? ⟨w.heap.size, 13, none⟩ = _ := hR.cell (i := 13) (by rw [HY.out]; decide)
          have f1 : wr.drew.frozen? ⟨b, 5, none⟩ = false := hH.free (i := 5) (by decide)
          have hS : HS (wr.drew.setCell ⟨b, 5, none⟩ (.int .u32 (bits .xor .u32 (l.getD 5 0) (bits .xor .u32 (Y.getD 5 0) (Y.getD 13 0))))) b (outI l Y 6) v n := by
            have := hH.drew.setWord (p := 5) (by decide) (xorI (l.getD 5 0) (Y.getD 5 0) (Y.getD 13 0))
            rw [outI_set l Y (p := 5) (by decide)] at this
            exact this
          have hR7 : RowU (wr.drew.setCell ⟨b, 5, none⟩ (.int .u32 (bits .xor .u32 (l.getD 5 0) (bits .xor .u32 (Y.getD 5 0) (Y.getD 13 0))))) w.heap.size Y := hR.drew.of_block (RowKit.Below.heap_setCell wr.drew ⟨b, 5, none⟩ _ w.heap.size (by have := HBG.out; simp; omega))
          have hG7 := only_setCell (p := ⟨b, 5, none⟩) (only_drew hG) (.inl rfl) (.int .u32 (bits .xor .u32 (l.getD 5 0) (bits .xor .u32 (Y.getD 5 0) (Y.getD 13 0))))
          have HS7 := Lib.hid hS
          have HR7 := Lib.hid hR7
          have HG7 := Lib.hid hG7
          generalize l.getD 5 0 = y1 at *
          generalize Y.getD 5 0 = y2 at *
          generalize Y.getD 13 0 = y3 at *
          clear hR hH hG hS hR7 hG7 HR6 HH6 HG6 hp
          go_wp2_with fail
          refine wp_region_still_tail 18 (by kernel_rfl) (by kernel_rfl) ?_
          simp only [List.take_succ_cons, List.take_zero, List.drop_succ_cons, List.drop_zero]
          rw [show ({ heap := wr.heap, tape := wr.tape, drawn := wr.drawn + 1, os := wr.os, output := wr.output } : World) = wr.drew from rfl]
          generalize wr.drew = w7 at *
          repeat still_step
          refine wpStill_nil ?_
          go_wp2_with fail
          exact ⟨⟨6, 6, rfl, by omega, rfl, HR7.out, HS7.out, HG7.out⟩, by simp [intOf]⟩
        · obtain rfl : q = 6 := hq
          have hwr : IntKind.i64.wrap 14 = 14 := by decide
          have c1 : wr.drew.cell? ⟨b, 6, none⟩ = some (.int .u32 (l.getD 6 0)) := by
            have := hH.word (i := 6) (by decide)
            rw [outI_at l Y (by decide)] at this
            exact this
          have c2 : wr.drew.cell? ⟨w.heap.size, 6, none⟩ = _ := hR.cell (i := 6) (by rw [HY.out]; decide)
          have c3 : wr.drew.cell? ⟨w.heap.size, 14, none⟩ = _ := hR.cell (i := 14) (by rw [HY.out]; decide)
          have f1 : wr.drew.frozen? ⟨b, 6, none⟩ = false := hH.free (i := 6) (by decide)
          have hS : HS (wr.drew.setCell ⟨b, 6, none⟩ (.int .u32 (bits .xor .u32 (l.getD 6 0) (bits .xor .u32 (Y.getD 6 0) (Y.getD 14 0))))) b (outI l Y 7) v n := by
            have := hH.drew.setWord (p := 6) (by decide) (xorI (l.getD 6 0) (Y.getD 6 0) (Y.getD 14 0))
            rw [outI_set l Y (p := 6) (by decide)] at this
            exact this
          have hR7 : RowU (wr.drew.setCell ⟨b, 6, none⟩ (.int .u32 (bits .xor .u32 (l.getD 6 0) (bits .xor .u32 (Y.getD 6 0) (Y.getD 14 0))))) w.heap.size Y := hR.drew.of_block (RowKit.Below.heap_setCell wr.drew ⟨b, 6, none⟩ _ w.heap.size (by have := HBG.out; simp; omega))
          have hG7 := only_setCell (p := ⟨b, 6, none⟩) (only_drew hG) (.inl rfl) (.int .u32 (bits .xor .u32 (l.getD 6 0) (bits .xor .u32 (Y.getD 6 0) (Y.getD 14 0))))
          have HS7 := Lib.hid hS
          have HR7 := Lib.hid hR7
          have HG7 := Lib.hid hG7
          generalize l.getD 6 0 = y1 at *
          generalize Y.getD 6 0 = y2 at *
          generalize Y.getD 14 0 = y3 at *
          clear hR hH hG hS hR7 hG7 HR6 HH6 HG6 hp
          go_wp2_with fail
          refine wp_region_still_tail 18 (by kernel_rfl) (by kernel_rfl) ?_
          simp only [List.take_succ_cons, List.take_zero, List.drop_succ_cons, List.drop_zero]
          rw [show ({ heap := wr.heap, tape := wr.tape, drawn := wr.drawn + 1, os := wr.os, output := wr.output } : World) = wr.drew from rfl]
          generalize wr.drew = w7 at *
          repeat still_step
          refine wpStill_nil ?_
          go_wp2_with fail
          exact ⟨⟨7, 7, rfl, by omega, rfl, HR7.out, HS7.out, HG7.out⟩, by simp [intOf]⟩
        · obtain rfl : q = 7 := hq
          have hwr : IntKind.i64.wrap 15 = 15 := by decide
          have c1 : wr.drew.cell? ⟨b, 7, none⟩ = some (.int .u32 (l.getD 7 0)) := by
            have := hH.word (i := 7) (by decide)
            rw [outI_at l Y (by decide)] at this
            exact this
          have c2 : wr.drew.cell? ⟨w.heap.size, 7, none⟩ = _ := hR.cell (i := 7) (by rw [HY.out]; decide)
          have c3 : wr.drew.cell? ⟨w.heap.size, 15, none⟩ = _ := hR.cell (i := 15) (by rw [HY.out]; decide)
          have f1 : wr.drew.frozen? ⟨b, 7, none⟩ = false := hH.free (i := 7) (by decide)
          have hS : HS (wr.drew.setCell ⟨b, 7, none⟩ (.int .u32 (bits .xor .u32 (l.getD 7 0) (bits .xor .u32 (Y.getD 7 0) (Y.getD 15 0))))) b (outI l Y 8) v n := by
            have := hH.drew.setWord (p := 7) (by decide) (xorI (l.getD 7 0) (Y.getD 7 0) (Y.getD 15 0))
            rw [outI_set l Y (p := 7) (by decide)] at this
            exact this
          have hR7 : RowU (wr.drew.setCell ⟨b, 7, none⟩ (.int .u32 (bits .xor .u32 (l.getD 7 0) (bits .xor .u32 (Y.getD 7 0) (Y.getD 15 0))))) w.heap.size Y := hR.drew.of_block (RowKit.Below.heap_setCell wr.drew ⟨b, 7, none⟩ _ w.heap.size (by have := HBG.out; simp; omega))
          have hG7 := only_setCell (p := ⟨b, 7, none⟩) (only_drew hG) (.inl rfl) (.int .u32 (bits .xor .u32 (l.getD 7 0) (bits .xor .u32 (Y.getD 7 0) (Y.getD 15 0))))
          have HS7 := Lib.hid hS
          have HR7 := Lib.hid hR7
          have HG7 := Lib.hid hG7
          generalize l.getD 7 0 = y1 at *
          generalize Y.getD 7 0 = y2 at *
          generalize Y.getD 15 0 = y3 at *
          clear hR hH hG hS hR7 hG7 HR6 HH6 HG6 hp
          go_wp2_with fail
          refine wp_region_still_tail 18 (by kernel_rfl) (by kernel_rfl) ?_
          simp only [List.take_succ_cons, List.take_zero, List.drop_succ_cons, List.drop_zero]
          rw [show ({ heap := wr.heap, tape := wr.tape, drawn := wr.drawn + 1, os := wr.os, output := wr.output } : World) = wr.drew from rfl]
          generalize wr.drew = w7 at *
          repeat still_step
          refine wpStill_nil ?_
          go_wp2_with fail
          exact ⟨⟨8, 8, rfl, by omega, rfl, HR7.out, HS7.out, HG7.out⟩, by simp [intOf]⟩
        · obtain rfl : q = 8 := hq
          have HHF := Lib.hid hH
          have HGF := Lib.hid hG
          clear hR hH hG HR6 HH6 HG6 hp
          go_wp2
          go_end0
          exact ⟨⟨_, rfl⟩, by rw [HPP.out]; exact HHF.out, HGF.out⟩
end Go.Proofs.YtpbjdbdlfobpmaaGreat
