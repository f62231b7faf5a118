/- Contracts of package fd's methods: Seek, Clone, All, Len, Uses. -/
import Derived.Test.YtegeonompkgpeaaFd2
namespace Go.Proofs.Ytegeonompkgpeaa
open Go.RowKit

def seekFrom (st : Nat → Fd) (fd wh size : Int) : Int := if wh = 0 then 0 else if wh = 1 then (getX st fd).pos else size
def seekE (st : Nat → Fd) (fd by' wh size : Int) : Int :=
  if getE st fd ≠ 0 then getE st fd else if wh < 0 ∨ 2 < wh ∨ size < 0 ∨ 1048576 < size then 1
  else if by' < - seekFrom st fd wh size ∨ 1048576 - seekFrom st fd wh size < by' then 233 else 0
def seekN (st : Nat → Fd) (fd by' wh size : Int) : Int := if seekE st fd by' wh size = 0 then seekFrom st fd wh size + by' else 0
def SeekPost (b : Nat) (st : Nat → Fd) (fd by' wh size : Int) (w : World) (e : Ending) (w' : World) : Prop :=
  e = .returned (.tuple #[.int .i64 (seekN st fd by' wh size), .int .i64 (seekE st fd by' wh size)]) ∧ w.grownBy w' (some b) ∧
  FdsAt w' b (if seekE st fd by' wh size = 0 then upd st fd.toNat (setP (st fd.toNat) (seekN st fd by' wh size)) else st)
def PosOk (st : Nat → Fd) : Prop := ∀ i, i < 64 → 0 ≤ (st i).pos ∧ (st i).pos ≤ 1048576

/-- the ways that change nothing -/
theorem seek_no (b : Nat) (st : Nat → Fd) (fd by' wh size : Int) (w w' : World) (E : Int) (hf : FdsAt w' b st) (ho : w.grownBy w' (some b)) (hE : seekE st fd by' wh size = E) (hn : E ≠ 0) :
    SeekPost b st fd by' wh size w (.returned (.tuple #[.int .i64 0, .int .i64 E])) w' := by
  refine ⟨by simp [seekN, hE, hn], ho, ?_⟩
  rw [hE, if_neg hn]; exact hf

theorem seek_yes (b : Nat) (st : Nat → Fd) (k : Nat) (by' wh size : Int) (w w' : World) (F : Int) (hF : seekFrom st k wh size = F) (hf : FdsAt w' b (upd st k ⟨(st k).ino, (st k).flags, F + by'⟩)) (ho : w.grownBy w' (some b)) (hE : seekE st k by' wh size = 0) :
    SeekPost b st k by' wh size w (.returned (.tuple #[.int .i64 (F + by'), .int .i64 0])) w' := by
  refine ⟨by simp [seekN, hE, hF], ho, ?_⟩
  rw [if_pos hE]; simp only [seekN, hE, if_true, hF, Int.toNat_natCast]; exact hf

theorem idx65_0 (x y z : Value) (w : World) : (Instr.index 65 (.agg #[x, y, z]) (.int .i64 0)).run Try.prog w = .ok x w := by kernel_rfl
theorem idx65_1 (x y z : Value) (w : World) : (Instr.index 65 (.agg #[x, y, z]) (.int .i64 1)).run Try.prog w = .ok y w := by kernel_rfl
theorem idx65_2 (x y z : Value) (w : World) : (Instr.index 65 (.agg #[x, y, z]) (.int .i64 2)).run Try.prog w = .ok z w := by kernel_rfl
set_option maxHeartbeats 1000000 in
theorem seek_any (b : Nat) (st : Nat → Fd) (fd by' wh size : Int) (w : World) (hf : FdsAt w b st) (hpos : PosOk st) :
    Calls Try.prog 21 #[.pointer (some ⟨b, 0, none⟩), .int .i64 fd, .int .i64 by', .int .i64 wh, .int .i64 size] w (SeekPost b st fd by' wh size w) := by
  by_cases h0 : getE st fd = 0
  · have h0' : (getE st fd != 0) = false := by simp [h0]
    obtain ⟨k, rfl, hk, hi, hx⟩ := getE_ok h0
    have hp0 := (hpos k hk).1
    have hp1 := (hpos k hk).2
    clear hpos
    by_cases hA : wh < 0
    · have hE : seekE st k by' wh size = 1 := by simp [seekE, h0, hA]
      have HE := Lib.hid hE
      clear h0 hx hi hE
      go_enter Try.func21, Try.ntmps21
      go_wp2_with (go_at_call 20; refine (get_x b st _ _ hf).mono ?_; rintro e w1 ⟨rfl, hb⟩)
      go_ret2
      exact seek_no _ _ _ _ _ _ _ _ 1 ((hf.below hb).alloc _) (only_alloc (only_of_below hb _) _) HE.out (by decide)
    by_cases hB : 2 < wh
    · have hE : seekE st k by' wh size = 1 := by simp [seekE, h0, hB]
      have HE := Lib.hid hE
      clear h0 hx hi hE
      go_enter Try.func21, Try.ntmps21
      go_wp2_with (go_at_call 20; refine (get_x b st _ _ hf).mono ?_; rintro e w1 ⟨rfl, hb⟩)
      go_ret2
      exact seek_no _ _ _ _ _ _ _ _ 1 ((hf.below hb).alloc _) (only_alloc (only_of_below hb _) _) HE.out (by decide)
    by_cases hC : size < 0
    · have hE : seekE st k by' wh size = 1 := by simp [seekE, h0, hC]
      have HE := Lib.hid hE
      clear h0 hx hi hE
      go_enter Try.func21, Try.ntmps21
      go_wp2_with (go_at_call 20; refine (get_x b st _ _ hf).mono ?_; rintro e w1 ⟨rfl, hb⟩)
      go_ret2
      exact seek_no _ _ _ _ _ _ _ _ 1 ((hf.below hb).alloc _) (only_alloc (only_of_below hb _) _) HE.out (by decide)
    by_cases hD : 1048576 < size
    · have hE : seekE st k by' wh size = 1 := by simp [seekE, h0, hD]
      have HE := Lib.hid hE
      clear h0 hx hi hE
      go_enter Try.func21, Try.ntmps21
      go_wp2_with (go_at_call 20; refine (get_x b st _ _ hf).mono ?_; rintro e w1 ⟨rfl, hb⟩)
      go_ret2
      exact seek_no _ _ _ _ _ _ _ _ 1 ((hf.below hb).alloc _) (only_alloc (only_of_below hb _) _) HE.out (by decide)
    have hR : ¬ (wh < 0 ∨ 2 < wh ∨ size < 0 ∨ 1048576 < size) := by omega
    have hE0 : ∀ F, seekFrom st k wh size = F → seekE st k by' wh size = if by' < - F ∨ 1048576 - F < by' then 233 else 0 := by
      intro F hF; unfold seekE; rw [if_neg (by simp [h0]), if_neg hR, hF]
    have hW : wh = 0 ∨ wh = 1 ∨ wh = 2 := by omega
    clear hR
    have i0 := idx65_0
    have i1 := idx65_1
    have i2 := idx65_2
    rcases hW with rfl | rfl | rfl
    · have hF : seekFrom st k 0 size = 0 := rfl
      have HF := Lib.hid hF
      have HE0 := Lib.hid (hE0 _ hF)
      clear h0 hx hi hF hE0 hA hB
      by_cases hY : by' < 0
      · go_enter Try.func21, Try.ntmps21
        go_wp2_with (go_at_call 20; refine (get_x b st _ _ hf).mono ?_; rintro e w1 ⟨rfl, hb⟩; have hf1 := hf.below hb; have hlt := hf1.1)
        go_ret2
        exact seek_no _ _ _ _ _ _ _ _ 233 ((hf.below hb).alloc _) (only_alloc (only_of_below hb _) _) (by rw [HE0.out, if_pos (by omega)]) (by decide)
      by_cases hZ : 1048576 < by'
      · go_enter Try.func21, Try.ntmps21
        go_wp2_with (go_at_call 20; refine (get_x b st _ _ hf).mono ?_; rintro e w1 ⟨rfl, hb⟩; have hf1 := hf.below hb; have hlt := hf1.1)
        go_ret2
        exact seek_no _ _ _ _ _ _ _ _ 233 ((hf.below hb).alloc _) (only_alloc (only_of_below hb _) _) (by rw [HE0.out, if_pos (by omega)]) (by decide)
      go_enter Try.func21, Try.ntmps21
      go_wp2_with (go_at_call 20; refine (get_x b st _ _ hf).mono ?_; rintro e w1 ⟨rfl, hb⟩; have hf1 := hf.below hb; obtain ⟨c0, c1, c2⟩ := hf1.cells hk; have f2 := hf1.free (k * 3 + 2); have hlt := hf1.1)
      go_ret2
      have hE : seekE st k by' 0 size = 0 := by rw [HE0.out, if_neg (by omega)]
      have hN : seekN st k by' 0 size = by' := by simp [seekN, hE, HF.out]
      refine ⟨?_, only_alloc (only_setCell (only_of_below hb _) (.inl rfl) _) _, ?_⟩
      · rw [hN, hE]; rfl
      · rw [if_pos hE, hN]; exact (hf1.setPos hk _).alloc _
    · have hF : seekFrom st k 1 size = (st k).pos := by simp [seekFrom, hx]
      have HF := Lib.hid hF
      have HE0 := Lib.hid (hE0 _ hF)
      clear h0 hi hF hE0 hA hB
      have HX := Lib.hid hx
      clear hx
      have hxp : (getX st k).pos = (st k).pos := by rw [HX.out]
      generalize hP : (st k).pos = P at *
      have HP := Lib.hid hP
      clear hP
      by_cases hY : by' < -P
      · go_enter Try.func21, Try.ntmps21
        go_wp2_with (go_at_call 20; refine (get_x b st _ _ hf).mono ?_; rintro e w1 ⟨rfl, hb⟩; have hf1 := hf.below hb; have hlt := hf1.1)
        go_ret2
        exact seek_no _ _ _ _ _ _ _ _ 233 ((hf.below hb).alloc _) (only_alloc (only_of_below hb _) _) (by rw [HE0.out, if_pos (by omega)]) (by decide)
      by_cases hZ : 1048576 - P < by'
      · go_enter Try.func21, Try.ntmps21
        go_wp2_with (go_at_call 20; refine (get_x b st _ _ hf).mono ?_; rintro e w1 ⟨rfl, hb⟩; have hf1 := hf.below hb; have hlt := hf1.1)
        go_ret2
        exact seek_no _ _ _ _ _ _ _ _ 233 ((hf.below hb).alloc _) (only_alloc (only_of_below hb _) _) (by rw [HE0.out, if_pos (by omega)]) (by decide)
      go_enter Try.func21, Try.ntmps21
      go_wp2_with (go_at_call 20; refine (get_x b st _ _ hf).mono ?_; rintro e w1 ⟨rfl, hb⟩; have hf1 := hf.below hb; obtain ⟨c0, c1, c2⟩ := hf1.cells hk; have f2 := hf1.free (k * 3 + 2); have hlt := hf1.1)
      go_ret2
      have hE : seekE st k by' 1 size = 0 := by rw [HE0.out, if_neg (by omega)]
      have hN : seekN st k by' 1 size = P + by' := by simp [seekN, hE, HF.out]
      refine ⟨?_, only_alloc (only_setCell (only_of_below hb _) (.inl rfl) _) _, ?_⟩
      · rw [hN, hE]; rfl
      · rw [if_pos hE, hN]; exact (hf1.setPos hk _).alloc _
    · have hF : seekFrom st k 2 size = size := rfl
      have HF := Lib.hid hF
      have HE0 := Lib.hid (hE0 _ hF)
      clear h0 hx hi hF hE0 hA hB
      by_cases hY : by' < -size
      · go_enter Try.func21, Try.ntmps21
        go_wp2_with (go_at_call 20; refine (get_x b st _ _ hf).mono ?_; rintro e w1 ⟨rfl, hb⟩; have hf1 := hf.below hb; have hlt := hf1.1)
        go_ret2
        exact seek_no _ _ _ _ _ _ _ _ 233 ((hf.below hb).alloc _) (only_alloc (only_of_below hb _) _) (by rw [HE0.out, if_pos (by omega)]) (by decide)
      by_cases hZ : 1048576 - size < by'
      · go_enter Try.func21, Try.ntmps21
        go_wp2_with (go_at_call 20; refine (get_x b st _ _ hf).mono ?_; rintro e w1 ⟨rfl, hb⟩; have hf1 := hf.below hb; have hlt := hf1.1)
        go_ret2
        exact seek_no _ _ _ _ _ _ _ _ 233 ((hf.below hb).alloc _) (only_alloc (only_of_below hb _) _) (by rw [HE0.out, if_pos (by omega)]) (by decide)
      go_enter Try.func21, Try.ntmps21
      go_wp2_with (go_at_call 20; refine (get_x b st _ _ hf).mono ?_; rintro e w1 ⟨rfl, hb⟩; have hf1 := hf.below hb; obtain ⟨c0, c1, c2⟩ := hf1.cells hk; have f2 := hf1.free (k * 3 + 2); have hlt := hf1.1)
      go_ret2
      have hE : seekE st k by' 2 size = 0 := by rw [HE0.out, if_neg (by omega)]
      have hN : seekN st k by' 2 size = size + by' := by simp [seekN, hE, HF.out]
      refine ⟨?_, only_alloc (only_setCell (only_of_below hb _) (.inl rfl) _) _, ?_⟩
      · rw [hN, hE]; rfl
      · rw [if_pos hE, hN]; exact (hf1.setPos hk _).alloc _
  · have h0' : (getE st fd != 0) = true := by simp [h0]
    have hE : seekE st fd by' wh size = getE st fd := by simp [seekE, h0]
    have HE := Lib.hid hE
    have H0 := Lib.hid h0
    clear h0 hE
    go_enter Try.func21, Try.ntmps21
    go_wp2_with (go_at_call 20; refine (get_x b st _ _ hf).mono ?_; rintro e w1 ⟨rfl, hb⟩)
    go_ret2
    exact seek_no _ _ _ _ _ _ _ _ _ ((hf.below hb).alloc _) (only_alloc (only_of_below hb _) _) HE.out H0.out
end Go.Proofs.Ytegeonompkgpeaa
