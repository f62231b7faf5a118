/- The reference's functions in terms of the descriptors that the program holds. -/
import Derived.Test.YtegeonompkgpeaaRef3
import Derived.Test.YtegeonompkgpeaaFd3
import Derived.Deep.QuietTactic
import Derived.BigQuiet
import Derived.Deep.RegionWith
namespace Go.Proofs.Ytegeonompkgpeaa
open Go.RowKit

/-- the list L says what st says -/
def RelAt (x : Fd) : Option Ro → Prop
  | some o => (o.on = true ∧ x = ⟨o.ino, o.flags, o.pos⟩ ∧ o.ino ≠ 0) ∨ (o.on = false ∧ x = .none)
  | none => x = .none
def Rel (st : Nat → Fd) (L : List Ro) : Prop := L.length ≤ 64 ∧ ∀ i, i < 64 → RelAt (st i) L[i]?
theorem rel_zero : Rel zeroSt [] := ⟨by simp, fun i _ => by simp [RelAt, zeroSt]⟩
theorem rel_get {st : Nat → Fd} {L : List Ro} (h : Rel st L) (fd : Int) : rgetE L fd = getE st fd ∧ rgetX L fd = ⟨getE st fd == 0, (getX st fd).ino, (getX st fd).flags, (getX st fd).pos⟩ := by
  unfold rgetE rgetX getE getX
  by_cases h0 : fd < 0
  · simp [h0, Fd.none, Ro.zero]
  obtain ⟨k, rfl⟩ := Int.eq_ofNat_of_zero_le (by omega : 0 ≤ fd)
  by_cases h1 : 64 ≤ k
  · rw [if_neg h0, if_neg h0, if_pos (by omega), if_pos (by omega)]
    have : L[k]? = none := List.getElem?_eq_none (by have := h.1; omega)
    simp [this, Fd.none, Ro.zero]
  · have hk := h.2 k (by omega)
    rw [if_neg h0, if_neg h0]
    simp only [Int.toNat_natCast]
    cases hL : L[k]? with
    | none =>
      rw [hL] at hk
      have hk' : st k = .none := hk
      simp [hk', Fd.none, Ro.zero]
    | some o =>
      rw [hL] at hk
      rcases hk with ⟨a, b, c⟩ | ⟨a, b⟩
      · have h3 : ¬ ((k : Int) < 0 ∨ 64 ≤ (k : Int) ∨ (st k).ino = 0) := by rw [b]; simp only; omega
        simp only [a, if_true]
        rw [if_neg h3, if_neg h3, b]
        exact ⟨rfl, by cases o; simp_all⟩
      · have h3 : ((k : Int) < 0 ∨ 64 ≤ (k : Int) ∨ (st k).ino = 0) := by rw [b]; simp [Fd.none]
        simp only [a, if_neg (by decide : ¬ false = true)]
        rw [if_pos h3, if_pos h3]
        exact ⟨rfl, by simp [Fd.none, Ro.zero]⟩
theorem rel_ino {st : Nat → Fd} {L : List Ro} (h : Rel st L) {j : Nat} (hj : j < 64) : (st j).ino ≠ 0 ↔ ∃ o, L[j]? = some o ∧ o.on = true := by
  have := h.2 j hj
  cases hL : L[j]? with
  | none => rw [hL] at this; have hk' : st j = .none := this; simp [hk', Fd.none]
  | some o =>
    rw [hL] at this
    rcases this with ⟨a, b, c⟩ | ⟨a, b⟩
    · rw [b]; simp [a, c]
    · rw [b]; simp [a, Fd.none]
theorem rel_lay {st : Nat → Fd} {L : List Ro} (h : Rel st L) {k : Nat} (hk : k < 64) (x : Ro) (y : Fd) (hx : (x.on = true ∧ y = ⟨x.ino, x.flags, x.pos⟩ ∧ x.ino ≠ 0) ∨ (x.on = false ∧ y = .none)) : Rel (upd st k y) (layL L k x) := by
  have hl := h.1
  refine ⟨by simp [layL, padL]; omega, fun i hi => ?_⟩
  have hlen : (padL L (k + 1 - L.length)).length = L.length + (k + 1 - L.length) := padL_len _ _
  unfold layL upd
  by_cases e : i = k
  · subst e
    rw [if_pos rfl, List.getElem?_set_self (by omega)]
    exact hx
  · rw [if_neg e, List.getElem?_set_ne (fun e' => e e'.symm)]
    have hi' := h.2 i hi
    unfold padL
    by_cases hiL : i < L.length
    · rw [List.getElem?_append_left hiL]; exact hi'
    · rw [List.getElem?_eq_none (by omega)] at hi'
      rw [List.getElem?_append_right (by omega), List.getElem?_replicate]
      split
      · exact .inr ⟨rfl, hi'⟩
      · exact hi'

/-- the slice v is a list that says what st says -/
def RefSt (w : World) (v : Value) (st : Nat → Fd) : Prop := ∃ g cap L, v = .slice (some ⟨g, 0, none⟩) L.length cap ∧ RefAt w g cap L ∧ Rel st L
theorem RefSt.below {w w' : World} {v st} (h : RefSt w v st) (hb : Below w.heap.size w w') : RefSt w' v st := by
  obtain ⟨g, cap, L, rfl, h1, h2⟩ := h; exact ⟨g, cap, L, rfl, h1.below hb, h2⟩
theorem RefSt.alloc {w : World} {v st} (h : RefSt w v st) (o : Obj) : RefSt (w.alloc o) v st := by
  obtain ⟨g, cap, L, rfl, h1, h2⟩ := h; exact ⟨g, cap, L, rfl, h1.alloc o, h2⟩
theorem RefSt.drewN {w : World} {v st} (h : RefSt w v st) (n : Nat) : RefSt (w.drewN n) v st := by
  obtain ⟨g, cap, L, rfl, h1, h2⟩ := h; exact ⟨g, cap, L, rfl, h1.drewN n, h2⟩
theorem rget_st (v : Value) (st : Nat → Fd) (fd : Int) (w : World) (hf : RefSt w v st) :
    Calls Try.prog 32 #[v, .int .i64 fd] w fun e w' => e = .returned (.tuple #[.agg #[.bool (getE st fd == 0), .int .i64 (getX st fd).ino, .int .i64 (getX st fd).flags, .int .i64 (getX st fd).pos], .int .i64 (getE st fd)]) ∧ Below w.heap.size w w' := by
  obtain ⟨g, cap, L, rfl, h1, h2⟩ := hf
  refine (rget_any g cap L fd w h1).mono ?_
  rintro e w' ⟨rfl, hb⟩
  obtain ⟨e1, e2⟩ := rel_get h2 fd
  exact ⟨by rw [e1, e2]; rfl, hb⟩
theorem lowest_st (v : Value) (st : Nat → Fd) (w : World) (hf : RefSt w v st) :
    Calls Try.prog 33 #[v] w fun e w' => ((∃ k : Nat, Least st k ∧ e = .returned (.int .i64 k)) ∨ (Full st ∧ e = .returned (.int .i64 (-1)))) ∧ w = w' := by
  obtain ⟨g, cap, L, rfl, h1, h2⟩ := hf
  refine (lowest_any g cap L w h1 h2.1).mono ?_
  rintro e w' ⟨rfl, ⟨k, hk, hl, rfl⟩ | ⟨hl, rfl⟩⟩
  · refine ⟨.inl ⟨k, ⟨hk, ?_, fun j hj => (rel_ino h2 (by omega)).2 (hl.1 j hj)⟩, rfl⟩, rfl⟩
    apply Classical.byContradiction
    intro hc
    obtain ⟨o, ho, ho'⟩ := (rel_ino h2 hk).1 hc
    rw [hl.2 o ho] at ho'; cases ho'
  · exact ⟨.inr ⟨fun j hj => (rel_ino h2 hj).2 (hl j hj), rfl⟩, rfl⟩
theorem lay_st (v : Value) (st : Nat → Fd) (k : Nat) (x : Ro) (y : Fd) (w : World) (hf : RefSt w v st) (hk : k < 64) (hx : (x.on = true ∧ y = ⟨x.ino, x.flags, x.pos⟩ ∧ x.ino ≠ 0) ∨ (x.on = false ∧ y = .none)) :
    Calls Try.prog 34 #[v, .int .i64 k, .agg #[.bool x.on, .int .i64 x.ino, .int .i64 x.flags, .int .i64 x.pos]] w fun e w' => ∃ v', e = .returned v' ∧ RefSt w' v' (upd st k y) ∧ Below w.heap.size w w' := by
  obtain ⟨g, cap, L, rfl, h1, h2⟩ := hf
  refine (lay_any g cap L k x w h1 h2.1 hk).mono ?_
  rintro e w' ⟨g', cap', rfl, hg, hr, hb⟩
  exact ⟨_, rfl, ⟨g', cap', _, rfl, hr, rel_lay h2 hk x y hx⟩, hb⟩

/-- closing, moving .. a list: what comes out -/
def RPutPost (v : Value) (st : Nat → Fd) (x : Fd) (w : World) (e : Ending) (w' : World) : Prop :=
  ((∃ (k : Nat) (v' : Value), Least st k ∧ e = .returned (.tuple #[v', .int .i64 k, .int .i64 0]) ∧ RefSt w' v' (upd st k x)) ∨
  (Full st ∧ e = .returned (.tuple #[v, .int .i64 0, .int .i64 230]))) ∧ Below w.heap.size w w'
def ROpenPost (v : Value) (st : Nat → Fd) (ino flags : Int) (w : World) (e : Ending) (w' : World) : Prop :=
  (openE ino flags ≠ 0 ∧ e = .returned (.tuple #[v, .int .i64 0, .int .i64 (openE ino flags)]) ∧ Below w.heap.size w w') ∨
  (openE ino flags = 0 ∧ RPutPost v st ⟨ino, flags, 0⟩ w e w')
set_option maxHeartbeats 1000000 in
theorem rput_any (v : Value) (st : Nat → Fd) (ino flags : Int) (w : World) (hf : RefSt w v st) :
    Calls Try.prog 27 #[v, .int .i64 ino, .int .i64 flags] w (ROpenPost v st ino flags w) := by
  cases hm : mayB flags
  · have he : openE ino flags = 232 := by simp [openE, check_may, hm]
    have HE := Lib.hid he
    clear he
    go_enter Try.func27, Try.ntmps27
    go_wp2_with (go_at_call 7; refine (may_any _ _).mono ?_; rintro e w' ⟨rfl, rfl⟩)
    go_ret3
    exact .inl ⟨by rw [HE.out]; decide, by rw [HE.out]; rfl, Below.refl _ _⟩
  · by_cases h1 : ino < 1
    · have he : openE ino flags = 1 := by simp [openE, check_may, hm, h1]
      have HE := Lib.hid he
      clear he
      go_enter Try.func27, Try.ntmps27
      go_wp2_with (go_at_call 7; refine (may_any _ _).mono ?_; rintro e w' ⟨rfl, rfl⟩)
      go_ret3
      exact .inl ⟨by rw [HE.out]; decide, by rw [HE.out]; rfl, Below.refl _ _⟩
    by_cases h2 : 4096 < ino
    · have he : openE ino flags = 1 := by simp [openE, check_may, hm, h2]
      have HE := Lib.hid he
      clear he
      go_enter Try.func27, Try.ntmps27
      go_wp2_with (go_at_call 7; refine (may_any _ _).mono ?_; rintro e w' ⟨rfl, rfl⟩)
      go_ret3
      exact .inl ⟨by rw [HE.out]; decide, by rw [HE.out]; rfl, Below.refl _ _⟩
    have he : openE ino flags = 0 := by simp [openE, check_may, hm]; omega
    have HE := Lib.hid he
    clear he
    go_enter Try.func27, Try.ntmps27
    go_wp2_with (first | (go_at_call 7; refine (may_any _ _).mono ?_; rintro e w' ⟨rfl, rfl⟩) | (go_at_call 33; refine (lowest_st v st _ hf).mono ?_; rintro e w' ⟨⟨k, hl, rfl⟩ | ⟨hl, rfl⟩, rfl⟩ <;> (have HL := Lib.hid hl; clear hl)) | (go_at_call 34; go_must (refine (lay_st v st k ⟨true, ino, flags, 0⟩ ⟨ino, flags, 0⟩ _ hf HL.out.1 (.inl ⟨rfl, rfl, by simp; omega⟩)).mono ?_); rintro e w2 ⟨v2, rfl, hr, hb⟩; have HR := Lib.hid hr; have HB := Lib.hid hb; clear hr hb))
    · go_ret3
      exact .inr ⟨HE.out, .inl ⟨k, v2, HL.out, rfl, HR.out⟩, HB.out⟩
    · go_ret3
      exact .inr ⟨HE.out, .inr ⟨HL.out, rfl⟩, Below.refl _ _⟩

def RClosePost (st : Nat → Fd) (fd : Int) (w : World) (e : Ending) (w' : World) : Prop :=
  ∃ v', e = .returned (.tuple #[v', .int .i64 (getE st fd)]) ∧ RefSt w' v' (if getE st fd = 0 then upd st fd.toNat .none else st) ∧ Below w.heap.size w w'
set_option maxHeartbeats 400000 in
theorem rclose_any (v : Value) (st : Nat → Fd) (fd : Int) (w : World) (hf : RefSt w v st) :
    Calls Try.prog 28 #[v, .int .i64 fd] w (RClosePost st fd w) := by
  by_cases h0 : getE st fd = 0
  · have h0' : (getE st fd != 0) = false := by simp [h0]
    obtain ⟨k, rfl, hk, hi, hx⟩ := getE_ok h0
    have H0 := Lib.hid h0
    clear h0 hx hi
    go_enter Try.func28, Try.ntmps28
    go_wp2_with (first | (go_at_call 32; refine (rget_st v st _ _ hf).mono ?_; rintro e w1 ⟨rfl, hb⟩; have HB := Lib.hid hb; have hsz := hb.size; clear hb) | (go_at_call 34; go_must (refine (lay_st v st k ⟨false, 0, 0, 0⟩ .none _ ((hf.below HB.out).alloc _) hk (.inr ⟨rfl, rfl⟩)).mono ?_); rintro e w2 ⟨v2, rfl, hr, hb⟩; have HR := Lib.hid hr; have HB2 := Lib.hid hb; clear hr hb))
    go_ret2
    refine ⟨v2, by rw [H0.out]; rfl, ?_, below_trans' (HB.out.alloc hsz _) HB2.out⟩
    rw [if_pos H0.out]; exact HR.out
  · have h0' : (getE st fd != 0) = true := by simp [h0]
    have H0 := Lib.hid h0
    clear h0
    go_enter Try.func28, Try.ntmps28
    go_wp2_with (go_at_call 32; refine (rget_st v st _ _ hf).mono ?_; rintro e w1 ⟨rfl, hb⟩; have HB := Lib.hid hb; have hsz := hb.size; clear hb)
    go_ret2
    refine ⟨v, rfl, ?_, HB.out.alloc hsz _⟩
    rw [if_neg H0.out]; exact (hf.below HB.out).alloc _

def RMovePost (st : Nat → Fd) (fd p : Int) (w : World) (e : Ending) (w' : World) : Prop :=
  ∃ v', e = .returned (.tuple #[v', .int .i64 (moveE st fd p)]) ∧ RefSt w' v' (if moveE st fd p = 0 then upd st fd.toNat (setP (st fd.toNat) p) else st) ∧ Below w.heap.size w w'
set_option maxHeartbeats 400000 in
theorem rmove_any (v : Value) (st : Nat → Fd) (fd p : Int) (w : World) (hf : RefSt w v st) :
    Calls Try.prog 29 #[v, .int .i64 fd, .int .i64 p] w (RMovePost st fd p w) := by
  by_cases h0 : getE st fd = 0
  · have h0' : (getE st fd != 0) = false := by simp [h0]
    obtain ⟨k, rfl, hk, hi, hx⟩ := getE_ok h0
    by_cases hp : p < 0 ∨ 1048576 < p
    · have hm : moveE st k p = 233 := by simp [moveE, h0, hp]
      have HM := Lib.hid hm
      clear h0 hx hi hm
      rcases hp with hp | hp
      all_goals
        go_enter Try.func29, Try.ntmps29
        go_wp2_with (go_at_call 32; refine (rget_st v st _ _ hf).mono ?_; rintro e w1 ⟨rfl, hb⟩; have HB := Lib.hid hb; have hsz := hb.size; clear hb)
        go_ret2
        refine ⟨v, by rw [HM.out]; rfl, ?_, HB.out.alloc hsz _⟩
        rw [if_neg (by rw [HM.out]; decide)]; exact (hf.below HB.out).alloc _
    · have hm : moveE st k p = 0 := by simp [moveE, h0, hp]
      have HM := Lib.hid hm
      have hp1 : ¬ p < 0 := by omega
      have hp2 : ¬ 1048576 < p := by omega
      have H0 := Lib.hid (show (getE st k == 0) = true by simp [h0])
      have HX := Lib.hid hx
      have HI := Lib.hid hi
      clear h0 hx hi hp hm
      go_enter Try.func29, Try.ntmps29
      go_wp2_with (first | (go_at_call 32; refine (rget_st v st _ _ hf).mono ?_; rintro e w1 ⟨rfl, hb⟩; have HB := Lib.hid hb; have hsz := hb.size; clear hb) | (go_at_call 34; rw [H0.out, HX.out]; go_must (refine (lay_st v st k ⟨true, (st k).ino, (st k).flags, p⟩ (setP (st k) p) _ ((hf.below HB.out).alloc _) hk (.inl ⟨rfl, rfl, HI.out⟩)).mono ?_); rintro e w2 ⟨v2, rfl, hr, hb⟩; have HR := Lib.hid hr; have HB2 := Lib.hid hb; clear hr hb))
      go_ret2
      refine ⟨v2, by rw [HM.out]; rfl, ?_, below_trans' (HB.out.alloc hsz _) HB2.out⟩
      rw [if_pos HM.out]; exact HR.out
  · have h0' : (getE st fd != 0) = true := by simp [h0]
    have hm : moveE st fd p = getE st fd := by simp [moveE, h0]
    have HM := Lib.hid hm
    have H0 := Lib.hid h0
    clear h0 hm
    go_enter Try.func29, Try.ntmps29
    go_wp2_with (go_at_call 32; refine (rget_st v st _ _ hf).mono ?_; rintro e w1 ⟨rfl, hb⟩; have HB := Lib.hid hb; have hsz := hb.size; clear hb)
    go_ret2
    refine ⟨v, by rw [HM.out]; rfl, ?_, HB.out.alloc hsz _⟩
    rw [if_neg (by rw [HM.out]; exact H0.out)]; exact (hf.below HB.out).alloc _

def RDupPost (v : Value) (st : Nat → Fd) (fd : Int) (w : World) (e : Ending) (w' : World) : Prop :=
  (getE st fd ≠ 0 ∧ e = .returned (.tuple #[v, .int .i64 0, .int .i64 231]) ∧ Below w.heap.size w w') ∨
  (getE st fd = 0 ∧ RPutPost v st (getX st fd) w e w')
set_option maxHeartbeats 400000 in
theorem rdup_any (v : Value) (st : Nat → Fd) (fd : Int) (w : World) (hf : RefSt w v st) :
    Calls Try.prog 30 #[v, .int .i64 fd] w (RDupPost v st fd w) := by
  by_cases h0 : getE st fd = 0
  · have h0' : (getE st fd != 0) = false := by simp [h0]
    obtain ⟨q, rfl, hq, hi, hx⟩ := getE_ok h0
    have H0 := Lib.hid (show (getE st q == 0) = true by simp [h0])
    have HZ := Lib.hid h0
    have HX := Lib.hid hx
    have HI := Lib.hid hi
    clear h0 hx hi
    go_enter Try.func30, Try.ntmps30
    go_wp2_with (first | (go_at_call 32; refine (rget_st v st _ _ hf).mono ?_; rintro e w1 ⟨rfl, hb⟩; have HB := Lib.hid hb; have hsz := hb.size; clear hb) | (go_at_call 33; refine (lowest_st v st _ ((hf.below HB.out).alloc _)).mono ?_; rintro e w' ⟨⟨k, hl, rfl⟩ | ⟨hl, rfl⟩, rfl⟩ <;> (have HL := Lib.hid hl; clear hl)) | (go_at_call 34; rw [H0.out, HX.out]; go_must (refine (lay_st v st k ⟨true, (st q).ino, (st q).flags, (st q).pos⟩ (st q) _ ((hf.below HB.out).alloc _) HL.out.1 (.inl ⟨rfl, rfl, HI.out⟩)).mono ?_); rintro e w2 ⟨v2, rfl, hr, hb⟩; have HR := Lib.hid hr; have HB2 := Lib.hid hb; clear hr hb))
    · go_ret3
      exact .inr ⟨HZ.out, .inl ⟨k, v2, HL.out, rfl, by rw [HX.out]; exact HR.out⟩, below_trans' (HB.out.alloc hsz _) HB2.out⟩
    · go_ret3
      exact .inr ⟨HZ.out, .inr ⟨HL.out, rfl⟩, HB.out.alloc hsz _⟩
  · have h0' : (getE st fd != 0) = true := by simp [h0]
    have hm := getE_no h0
    have HM := Lib.hid hm
    have H0 := Lib.hid h0
    clear h0 hm
    go_enter Try.func30, Try.ntmps30
    go_wp2_with (go_at_call 32; refine (rget_st v st _ _ hf).mono ?_; rintro e w1 ⟨rfl, hb⟩; have HB := Lib.hid hb; have hsz := hb.size; clear hb)
    go_ret3
    exact .inl ⟨H0.out, by rw [HM.out]; rfl, HB.out.alloc hsz _⟩

end Go.Proofs.Ytegeonompkgpeaa
