/- Contracts: a text is taken. -/
import Derived.Test.YtpbjdbdlfobpmaaGreatDgW
namespace Go.Proofs.YtpbjdbdlfobpmaaGreat
open Go.RowKit Go.Eng
theorem pieces_nil (b : Nat) (w : World) : Calls Tryz.prog 140 #[.pointer (some ⟨b, 0, none⟩), .slice none 0 0] w fun e w' => e = .returned (.slice none 0 0) ∧ w = w' := by
  go_enter Tryz.func140, Tryz.ntmps140
  go_wp2
  go_loopw [1] (fun x wr => x = .slice none 0 0 ∧ wr = w) (fun _ _ => 0)
  case atStart => exact ⟨rfl, rfl⟩
  case round =>
    obtain ⟨rfl, rfl⟩ := hrel
    go_wp2
    go_ret
    exact ⟨rfl, rfl⟩
/-- byte i of a text -/
def bf (s : ByteArray) (i : Nat) : Int := ((s.data.toList.getD i 0).toNat : Int)
theorem bytes_cell (s : ByteArray) (r : Array Value) {i : Nat} (hi : i < s.size) : ((Array.map (fun b => Value.int .u8 (b.toNat : Int)) s.data).extract 0 s.size ++ r)[i]? = some (.int .u8 (bf s i)) := by
  have hd : i < s.data.size := hi
  rw [Array.getElem?_append_left (by simp; omega)]
  simp only [Array.getElem?_extract, Nat.zero_add, Nat.sub_zero, Array.getElem?_map, Array.size_map]
  rw [if_pos (by have : s.data.size = s.size := rfl; omega), Array.getElem?_eq_getElem hd]
  simp only [Option.map_some, bf, List.getD_eq_getElem?_getD, Array.getElem?_toList, Array.getElem?_eq_getElem hd, Option.getD_some]
/-- what a hasher holds behind a text: what is left over -/
def Held (w : World) (lo : Nat) (v : Value) (k : Nat) (f : Nat → Int) : Prop :=
  (k = 0 ∧ v = .slice none 0 0) ∨ ∃ g o c, v = .slice (some ⟨g, o, none⟩) k c ∧ lo ≤ g ∧ k ≤ c ∧ Bys w g o k f
set_option maxRecDepth 100000 in
set_option maxHeartbeats 1000000 in
theorem write_any (b : Nat) (l : List Int) (s : ByteArray) (w : World) (hs : s.size ≤ 1000000) (hh : HS w b l (.slice none 0 0) 0) :
    Calls Tryz.prog 138 #[.pointer (some ⟨b, 0, none⟩), .string s] w fun e w' => (∃ x, e = .returned x) ∧ w.grownBy w' (some b) ∧
      ∃ v, HS w' b (piecesI l (bf s) (s.size / 32)) v s.size ∧ Held w' w.heap.size v (s.size % 32) (fun i => bf s (32 * (s.size / 32) + i)) := by
  have c8 := hh.held
  have c9 := hh.num
  have f8 := hh.free (i := 8) (by decide)
  have f9 := hh.free (i := 9) (by decide)
  by_cases he : s = ByteArray.empty
  · subst he
    have HH := Lib.hid (hh.setNum 0)
    have hG0 := only_setCell (p := ⟨b, 9, none⟩) (only_refl w (some b)) (.inl rfl) (.int .i64 0)
    have HG := Lib.hid hG0
    clear hs hG0
    have HH8 := Lib.hid hh
    clear hh
    go_enter Tryz.func138, Tryz.ntmps138
    go_wp2_with (go_at_call 140; refine (pieces_nil b _).mono ?_; rintro e w' ⟨rfl, rfl⟩)
    go_end0
    exact ⟨⟨_, rfl⟩, only_setCell HG.out (.inl rfl) _, _, HH.out.setHeld (.slice none 0 0), .inl ⟨rfl, rfl⟩⟩
  · have hpos : 0 < s.size := by
      rcases Nat.eq_zero_or_pos s.size with h | h
      · exfalso; apply he
        obtain ⟨⟨l⟩⟩ := s
        have : l.length = 0 := h
        rw [List.length_eq_zero_iff.1 this]; rfl
      · exact h
    have hcap : ¬ 281474976710656 < Builtin.nextslicecap s.size 0 * Tryz.t5.bytes := by
      have : Builtin.nextslicecap s.size 0 = s.size := by unfold Builtin.nextslicecap; rw [if_pos (by omega)]
      rw [this, show Tryz.t5.bytes = 1 from rfl]; omega
    have hH1 := hh.setNum s.size
    have hG1 := only_setCell (p := ⟨b, 9, none⟩) (only_refl w (some b)) (.inl rfl) (.int .i64 s.size)
    have hsz1 : (w.setCell ⟨b, 9, none⟩ (.int .i64 s.size)).heap.size = w.heap.size := by simp [World.setCell]
    have hbl : b < w.heap.size := hh.lt
    have HCUT : ∀ r : Array Value, Hid (Bys (((w.setCell ⟨b, 9, none⟩ (.int .i64 s.size)).alloc (.cells ((Array.map (fun b => Value.int .u8 (b.toNat : Int)) s.data).extract 0 s.size ++ r) 5)).drew) w.heap.size 0 s.size (bf s)) := fun r => by
      refine ⟨by show w.heap.size < ((w.setCell _ _).alloc _).heap.size; rw [World.size_alloc, hsz1]; omega, fun i hi => ?_⟩
      have hg := heap_alloc_new (w.setCell ⟨b, 9, none⟩ (.int .i64 s.size)) (.cells ((Array.map (fun b => Value.int .u8 (b.toNat : Int)) s.data).extract 0 s.size ++ r) 5)
      rw [hsz1] at hg
      rw [Nat.zero_add]
      show ((w.setCell ⟨b, 9, none⟩ (.int .i64 s.size)).alloc _).cell? _ = _
      rw [cell_of_row _ w.heap.size i _ 5 (0, 0) hg]
      exact bytes_cell s r hi
    have HCAP : Hid (s.size ≤ grownCap w s.size 0 5 ∧ grownCap w s.size 0 5 ≤ 9223372036854775807) := ⟨grownCap_ge w s.size 0 5, grownCap_le_maxLen w s.size 0 5 (by unfold maxLen; omega)⟩
    unfold grownCap at HCAP
    have HH := Lib.hid hH1
    have HG := Lib.hid hG1
    have HBL := Lib.hid hbl
    have HS1 := Lib.hid hsz1
    clear hh hH1 hG1 hbl hsz1
    go_enter Tryz.func138, Tryz.ntmps138
    go_wp2_with fail
    generalize (Question.appendCap s.size 0 5).cut (w.tape w.drawn (Question.appendCap s.size 0 5)) = K at *
    have hB := (HCUT (Builtin.zeroCells #[Value.int IntKind.u8 0] (K - s.size))).out
    have hH2 := (HH.out.alloc (.cells ((Array.map (fun b => Value.int .u8 (b.toNat : Int)) s.data).extract 0 s.size ++ Builtin.zeroCells #[Value.int IntKind.u8 0] (K - s.size)) 5)).drew
    have hG2 := only_drew (only_alloc HG.out (.cells ((Array.map (fun b => Value.int .u8 (b.toNat : Int)) s.data).extract 0 s.size ++ Builtin.zeroCells #[Value.int IntKind.u8 0] (K - s.size)) 5))
    have hcut := HCAP.out
    clear HCUT HCAP HH HG
    generalize ((w.setCell ⟨b, 9, none⟩ (.int .i64 s.size)).alloc (.cells ((Array.map (fun b => Value.int .u8 (b.toNat : Int)) s.data).extract 0 s.size ++ Builtin.zeroCells #[Value.int IntKind.u8 0] (K - s.size)) 5)).drew = w2 at *
    refine (pieces_any b w.heap.size 0 s.size K l _ s.size (bf s) w2 hcut.1 hcut.2 (by have := HBL.out; omega) hH2 hB).mono ?_
    rintro e w3 ⟨o', c', rfl, ho, hc, hH3, hG3⟩
    have f8' := hH3.free (i := 8) (by decide)
    have c8' := hH3.held
    have HH := Lib.hid (hH3.setHeld (.slice (some ⟨w.heap.size, o', none⟩) (s.size % 32) c'))
    have HG := Lib.hid (only_setCell (p := ⟨b, 8, none⟩) (only_trans hG2 hG3) (.inl rfl) (.slice (some ⟨w.heap.size, o', none⟩) (s.size % 32) c'))
    have hB3 := hB.only hG3 (fun e => by have := HBL.out; injection e; omega)
    have HB := Lib.hid (hB3.of_block (w' := w3.setCell ⟨b, 8, none⟩ (.slice (some ⟨w.heap.size, o', none⟩) (s.size % 32) c')) (by simp [World.setCell]) (RowKit.Below.heap_setCell w3 ⟨b, 8, none⟩ _ w.heap.size (by have := HBL.out; simp; omega)))
    have HO := Lib.hid ho
    have HC := Lib.hid hc
    clear hH3 hG3 hB3 ho hc hB hH2 hG2
    go_wp2
    go_end0
    refine ⟨⟨_, rfl⟩, HG.out, _, HH.out, ?_⟩
    by_cases h0 : s.size % 32 = 0
    · exact .inr ⟨w.heap.size, o', c', rfl, Nat.le_refl _, HC.out, HB.out.1, fun i hi => by omega⟩
    · have ho := HO.out.resolve_right h0
      subst ho
      refine .inr ⟨w.heap.size, _, c', rfl, Nat.le_refl _, HC.out, HB.out.1, fun i hi => ?_⟩
      have := HB.out.2 (32 * (s.size / 32) + i) (by omega)
      simp only [Nat.zero_add] at this ⊢
      exact this
end Go.Proofs.YtpbjdbdlfobpmaaGreat
