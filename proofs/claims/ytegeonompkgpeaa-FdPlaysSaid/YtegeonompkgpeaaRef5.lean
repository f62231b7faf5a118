/- The reference's Seek. -/
import Derived.Test.YtegeonompkgpeaaRef4
namespace Go.Proofs.Ytegeonompkgpeaa
open Go.RowKit

theorem RefSt.drew {w : World} {v st} (h : RefSt w v st) : RefSt w.drew v st := by
  obtain ⟨g, cap, L, rfl, h1, h2⟩ := h; exact ⟨g, cap, L, rfl, h1.of_block rfl, h2⟩
def RSeekPost (st : Nat → Fd) (fd by' wh size : Int) (w : World) (e : Ending) (w' : World) : Prop :=
  ∃ v', e = .returned (.tuple #[v', .int .i64 (seekN st fd by' wh size), .int .i64 (seekE st fd by' wh size)]) ∧
    RefSt w' v' (if seekE st fd by' wh size = 0 then upd st fd.toNat (setP (st fd.toNat) (seekN st fd by' wh size)) else st) ∧ Below w.heap.size w w'
theorem rseek_no (v : Value) (st : Nat → Fd) (fd by' wh size : Int) (w w' : World) (E : Int) (hf : RefSt w' v st) (ho : Below w.heap.size w w') (hE : seekE st fd by' wh size = E) (hn : E ≠ 0) :
    RSeekPost st fd by' wh size w (.returned (.tuple #[v, .int .i64 0, .int .i64 E])) w' := by
  refine ⟨v, by simp [seekN, hE, hn], ?_, ho⟩
  rw [hE, if_neg hn]; exact hf
set_option maxHeartbeats 1000000 in
theorem rseek_any (v : Value) (st : Nat → Fd) (fd by' wh size : Int) (w : World) (hf : RefSt w v st) (hpos : PosOk st) :
    Calls Try.prog 31 #[v, .int .i64 fd, .int .i64 by', .int .i64 wh, .int .i64 size] w (RSeekPost st fd by' wh size w) := by
  by_cases h0 : getE st fd = 0
  · have h0' : (getE st fd != 0) = false := by simp [h0]
    obtain ⟨k, rfl, hk, hi, hx⟩ := getE_ok h0
    have hp0 := (hpos k hk).1
    have hp1 := (hpos k hk).2
    clear hpos
    by_cases hR : wh < 0 ∨ 2 < wh ∨ size < 0 ∨ 1048576 < size
    · have hE : seekE st k by' wh size = 1 := by simp [seekE, h0, hR]
      have HE := Lib.hid hE
      clear h0 hx hi hE
      rcases hR with hA | hA | hA | hA
      all_goals
        first | skip | (by_cases hB : wh < 0 <;> by_cases hC : 2 < wh)
        go_enter Try.func31, Try.ntmps31
        go_wp2_with (go_at_call 32; refine (rget_st v st _ _ hf).mono ?_; rintro e w1 ⟨rfl, hb⟩; have HB := Lib.hid hb; have hsz := hb.size; clear hb)
        all_goals go_ret3
        all_goals exact rseek_no v _ _ _ _ _ _ _ 1 ((hf.below HB.out).alloc _) (HB.out.alloc hsz _) HE.out (by decide)
    have hE0 : ∀ F, seekFrom st k wh size = F → seekE st k by' wh size = if by' < - F ∨ 1048576 - F < by' then 233 else 0 := by
      intro F hF; unfold seekE; rw [if_neg (by simp [h0]), if_neg hR, hF]
    have hW : wh = 0 ∨ wh = 1 ∨ wh = 2 := by omega
    have hC : ¬ size < 0 := by omega
    have hD : ¬ 1048576 < size := by omega
    clear hR
    have H0 := Lib.hid (show (getE st k == 0) = true by simp [h0])
    have HI := Lib.hid hi
    have hF : ∃ F, seekFrom st k wh size = F ∧ (wh = 0 → F = 0) ∧ (wh = 1 → F = (st k).pos) ∧ (wh = 2 → F = size) := by
      rcases hW with rfl | rfl | rfl
      · exact ⟨_, rfl, fun _ => rfl, fun h => absurd h (by decide), fun h => absurd h (by decide)⟩
      · exact ⟨_, rfl, fun h => absurd h (by decide), fun _ => by simp [seekFrom, hx], fun h => absurd h (by decide)⟩
      · exact ⟨_, rfl, fun h => absurd h (by decide), fun h => absurd h (by decide), fun _ => rfl⟩
    obtain ⟨F, hF, hF0, hF1, hF2⟩ := hF
    have HE0 := Lib.hid (hE0 _ hF)
    have HF := Lib.hid hF
    have hxp : (getX st k).pos = (st k).pos := by rw [hx]
    have HX := Lib.hid hx
    clear h0 hi hE0 hF hx
    generalize hP : (st k).pos = P at *
    have HP := Lib.hid hP
    clear hP
    rcases hW with rfl | rfl | rfl
    · have h : F = 0 := hF0 rfl
      subst h
      clear hF0 hF1 hF2
      by_cases hY : by' < 0 ∨ 1048576 < by'
      · rcases hY with hY | hY
        all_goals
          go_enter Try.func31, Try.ntmps31
          go_wp2_with (go_at_call 32; refine (rget_st v st _ _ hf).mono ?_; rintro e w1 ⟨rfl, hb⟩; have HB := Lib.hid hb; have hsz := hb.size; clear hb)
          go_ret3
          exact rseek_no v _ _ _ _ _ _ _ 233 ((hf.below HB.out).alloc _) (HB.out.alloc hsz _) (by rw [HE0.out, if_pos (by omega)]) (by decide)
      · have hY1 : ¬ by' < 0 := by omega
        have hY2 : ¬ 1048576 < by' := by omega
        have hE : seekE st k by' 0 size = 0 := by rw [HE0.out, if_neg (by omega)]
        have hN : seekN st k by' 0 size = by' := by simp [seekN, hE, HF.out]
        have HE := Lib.hid hE
        have HN := Lib.hid hN
        clear hY hE hN
        go_enter Try.func31, Try.ntmps31
        go_wp2_with (go_at_call 32; refine (rget_st v st _ _ hf).mono ?_; rintro e w1 ⟨rfl, hb⟩; have HB := Lib.hid hb; have hsz := hb.size; clear hb)
        go_region_with (go_at_call 34; rw [H0.out, HX.out]; go_must (refine (lay_st v st k ⟨true, (st k).ino, (st k).flags, by'⟩ (setP (st k) (by')) _ (by exact ((hf.below HB.out).alloc _).drew) hk (.inl ⟨rfl, rfl, HI.out⟩)).mono ?_); rintro e w2 ⟨v2, rfl, hr, hb⟩; have hc3 := hb.cell (p := ⟨w1.heap.size, 3, none⟩) (by simp); have HR := Lib.hid hr; have HB2 := Lib.hid hb; clear hr hb)
        all_goals go_wp2
        all_goals go_ret3
        all_goals
          refine ⟨v2, by rw [HE.out, HN.out]; rfl, ?_, below_trans' (HB.out.alloc hsz _).drew HB2.out⟩
          rw [if_pos HE.out, HN.out]; exact HR.out
    · have h : F = P := hF1 rfl
      subst h
      clear hF0 hF1 hF2
      by_cases hY : by' < -F ∨ 1048576 - F < by'
      · rcases hY with hY | hY
        all_goals
          go_enter Try.func31, Try.ntmps31
          go_wp2_with (go_at_call 32; refine (rget_st v st _ _ hf).mono ?_; rintro e w1 ⟨rfl, hb⟩; have HB := Lib.hid hb; have hsz := hb.size; clear hb)
          go_ret3
          exact rseek_no v _ _ _ _ _ _ _ 233 ((hf.below HB.out).alloc _) (HB.out.alloc hsz _) (by rw [HE0.out, if_pos (by omega)]) (by decide)
      · have hY1 : ¬ by' < -F := by omega
        have hY2 : ¬ 1048576 - F < by' := by omega
        have hE : seekE st k by' 1 size = 0 := by rw [HE0.out, if_neg (by omega)]
        have hN : seekN st k by' 1 size = F + by' := by simp [seekN, hE, HF.out]
        have HE := Lib.hid hE
        have HN := Lib.hid hN
        clear hY hE hN
        go_enter Try.func31, Try.ntmps31
        go_wp2_with (go_at_call 32; refine (rget_st v st _ _ hf).mono ?_; rintro e w1 ⟨rfl, hb⟩; have HB := Lib.hid hb; have hsz := hb.size; clear hb)
        go_region_with (go_at_call 34; rw [H0.out, HX.out]; go_must (refine (lay_st v st k ⟨true, (st k).ino, (st k).flags, F + by'⟩ (setP (st k) (F + by')) _ (by exact ((hf.below HB.out).alloc _).drew) hk (.inl ⟨rfl, rfl, HI.out⟩)).mono ?_); rintro e w2 ⟨v2, rfl, hr, hb⟩; have hc3 := hb.cell (p := ⟨w1.heap.size, 3, none⟩) (by simp); have HR := Lib.hid hr; have HB2 := Lib.hid hb; clear hr hb)
        all_goals go_wp2
        all_goals go_ret3
        all_goals
          refine ⟨v2, by rw [HE.out, HN.out]; rfl, ?_, below_trans' (HB.out.alloc hsz _).drew HB2.out⟩
          rw [if_pos HE.out, HN.out]; exact HR.out
    · have h : F = size := hF2 rfl
      subst h
      clear hF0 hF1 hF2
      by_cases hY : by' < -F ∨ 1048576 - F < by'
      · rcases hY with hY | hY
        all_goals
          go_enter Try.func31, Try.ntmps31
          go_wp2_with (go_at_call 32; refine (rget_st v st _ _ hf).mono ?_; rintro e w1 ⟨rfl, hb⟩; have HB := Lib.hid hb; have hsz := hb.size; clear hb)
          go_ret3
          exact rseek_no v _ _ _ _ _ _ _ 233 ((hf.below HB.out).alloc _) (HB.out.alloc hsz _) (by rw [HE0.out, if_pos (by omega)]) (by decide)
      · have hY1 : ¬ by' < -F := by omega
        have hY2 : ¬ 1048576 - F < by' := by omega
        have hE : seekE st k by' 2 F = 0 := by rw [HE0.out, if_neg (by omega)]
        have hN : seekN st k by' 2 F = F + by' := by simp [seekN, hE, HF.out]
        have HE := Lib.hid hE
        have HN := Lib.hid hN
        clear hY hE hN
        go_enter Try.func31, Try.ntmps31
        go_wp2_with (go_at_call 32; refine (rget_st v st _ _ hf).mono ?_; rintro e w1 ⟨rfl, hb⟩; have HB := Lib.hid hb; have hsz := hb.size; clear hb)
        go_region_with (go_at_call 34; rw [H0.out, HX.out]; go_must (refine (lay_st v st k ⟨true, (st k).ino, (st k).flags, F + by'⟩ (setP (st k) (F + by')) _ (by exact ((hf.below HB.out).alloc _).drew) hk (.inl ⟨rfl, rfl, HI.out⟩)).mono ?_); rintro e w2 ⟨v2, rfl, hr, hb⟩; have hc3 := hb.cell (p := ⟨w1.heap.size, 3, none⟩) (by simp); have HR := Lib.hid hr; have HB2 := Lib.hid hb; clear hr hb)
        all_goals go_wp2
        all_goals go_ret3
        all_goals
          refine ⟨v2, by rw [HE.out, HN.out]; rfl, ?_, below_trans' (HB.out.alloc hsz _).drew HB2.out⟩
          rw [if_pos HE.out, HN.out]; exact HR.out
  · have h0' : (getE st fd != 0) = true := by simp [h0]
    have hE : seekE st fd by' wh size = getE st fd := by simp [seekE, h0]
    have HE := Lib.hid hE
    have H0 := Lib.hid h0
    clear h0 hE
    go_enter Try.func31, Try.ntmps31
    go_wp2_with (go_at_call 32; refine (rget_st v st _ _ hf).mono ?_; rintro e w1 ⟨rfl, hb⟩; have HB := Lib.hid hb; have hsz := hb.size; clear hb)
    go_ret3
    exact rseek_no v _ _ _ _ _ _ _ _ ((hf.below HB.out).alloc _) (HB.out.alloc hsz _) HE.out H0.out
end Go.Proofs.Ytegeonompkgpeaa
