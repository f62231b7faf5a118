/- One thing done to the descriptors and to the reference's list: both answer alike, and stand alike behind it. -/
import Derived.Test.YtegeonompkgpeaaRef5
import Derived.Test.YtegeonompkgpeaaFd5
namespace Go.Proofs.Ytegeonompkgpeaa
open Go.RowKit

open Classical in
noncomputable def putN (st : Nat → Fd) : Nat := if h : ∃ k, Least st k then Classical.choose h else 0
open Classical in
noncomputable def putE (st : Nat → Fd) : Int := if ∃ k, Least st k then 0 else 230
open Classical in
noncomputable def putSt (st : Nat → Fd) (x : Fd) : Nat → Fd := if ∃ k, Least st k then upd st (putN st) x else st
theorem least_uniq {st : Nat → Fd} {a b : Nat} (h : Least st a) (k : Least st b) : a = b := by
  have h1 : ¬ a < b := fun hc => k.2.2 a hc h.2.1
  have h2 : ¬ b < a := fun hc => h.2.2 b hc k.2.1
  omega
theorem putN_least {st : Nat → Fd} {k : Nat} (h : Least st k) : putN st = k ∧ putE st = 0 ∧ ∀ x, putSt st x = upd st k x := by
  have hex : ∃ k, Least st k := ⟨k, h⟩
  have e : putN st = k := by unfold putN; rw [dif_pos hex]; exact least_uniq (Classical.choose_spec hex) h
  exact ⟨e, by unfold putE; rw [if_pos hex], fun x => by unfold putSt; rw [if_pos hex, e]⟩
theorem putN_full {st : Nat → Fd} (h : Full st) : putN st = 0 ∧ putE st = 230 ∧ ∀ x, putSt st x = st := by
  have hex : ¬ ∃ k, Least st k := fun ⟨k, hk⟩ => h k hk.1 hk.2.1
  exact ⟨by unfold putN; rw [dif_neg hex], by unfold putE; rw [if_neg hex], fun x => by unfold putSt; rw [if_neg hex]⟩
theorem PutPost.f {b : Nat} {st : Nat → Fd} {x : Fd} {w : World} {e : Ending} {w' : World} (h : PutPost b st x w e w') :
    e = .returned (.tuple #[.int .i64 (putN st), .int .i64 (putE st)]) ∧ FdsAt w' b (putSt st x) ∧ w.grownBy w' (some b) := by
  rcases h with ⟨k, hl, rfl, h1, h2⟩ | ⟨hl, rfl, h1, h2⟩
  · obtain ⟨a, c, d⟩ := putN_least hl
    rw [a, c, d]; exact ⟨rfl, h1, h2⟩
  · obtain ⟨a, c, d⟩ := putN_full hl
    rw [a, c, d]; exact ⟨rfl, h1, h2⟩
theorem RPutPost.f {v : Value} {st : Nat → Fd} {x : Fd} {w : World} {e : Ending} {w' : World} (hv : RefSt w v st) (h : RPutPost v st x w e w') :
    ∃ v', e = .returned (.tuple #[v', .int .i64 (putN st), .int .i64 (putE st)]) ∧ RefSt w' v' (putSt st x) ∧ Below w.heap.size w w' := by
  obtain ⟨⟨k, v', hl, rfl, h1⟩ | ⟨hl, rfl⟩, hb⟩ := h
  · obtain ⟨a, c, d⟩ := putN_least hl
    rw [a, c, d]; exact ⟨v', rfl, h1, hb⟩
  · obtain ⟨a, c, d⟩ := putN_full hl
    rw [a, c, d]; exact ⟨v, rfl, hv.below hb, hb⟩
noncomputable def openN (st : Nat → Fd) (ino F : Int) : Int := if openE ino F = 0 then putN st else 0
noncomputable def openR (st : Nat → Fd) (ino F : Int) : Int := if openE ino F = 0 then putE st else openE ino F
noncomputable def openSt (st : Nat → Fd) (ino F : Int) : Nat → Fd := if openE ino F = 0 then putSt st ⟨ino, F, 0⟩ else st
theorem open_f (b : Nat) (st : Nat → Fd) (ino F : Int) (w : World) (hf : FdsAt w b st) :
    Calls Try.prog 13 #[.pointer (some ⟨b, 0, none⟩), .int .i64 ino, .int .i64 F] w fun e w' => e = .returned (.tuple #[.int .i64 (openN st ino F), .int .i64 (openR st ino F)]) ∧ FdsAt w' b (openSt st ino F) ∧ w.grownBy w' (some b) := by
  refine (open_any b st ino F w hf).mono ?_
  unfold openN openR openSt
  rintro e w' (⟨h, rfl, rfl⟩ | ⟨h, hp⟩)
  · rw [if_neg h, if_neg h, if_neg h]; exact ⟨rfl, hf, only_refl _ _⟩
  · rw [if_pos h, if_pos h, if_pos h]; exact hp.f
theorem rput_f (v : Value) (st : Nat → Fd) (ino F : Int) (w : World) (hf : RefSt w v st) :
    Calls Try.prog 27 #[v, .int .i64 ino, .int .i64 F] w fun e w' => ∃ v', e = .returned (.tuple #[v', .int .i64 (openN st ino F), .int .i64 (openR st ino F)]) ∧ RefSt w' v' (openSt st ino F) ∧ Below w.heap.size w w' := by
  refine (rput_any v st ino F w hf).mono ?_
  unfold openN openR openSt
  rintro e w' (⟨h, rfl, hb⟩ | ⟨h, hp⟩)
  · rw [if_neg h, if_neg h, if_neg h]; exact ⟨v, rfl, hf.below hb, hb⟩
  · rw [if_pos h, if_pos h, if_pos h]; exact hp.f hf
noncomputable def dupN (st : Nat → Fd) (fd : Int) : Int := if getE st fd = 0 then putN st else 0
noncomputable def dupR (st : Nat → Fd) (fd : Int) : Int := if getE st fd = 0 then putE st else 231
noncomputable def dupSt (st : Nat → Fd) (fd : Int) : Nat → Fd := if getE st fd = 0 then putSt st (getX st fd) else st
theorem dup_f (b : Nat) (st : Nat → Fd) (fd : Int) (w : World) (hf : FdsAt w b st) :
    Calls Try.prog 14 #[.pointer (some ⟨b, 0, none⟩), .int .i64 fd] w fun e w' => e = .returned (.tuple #[.int .i64 (dupN st fd), .int .i64 (dupR st fd)]) ∧ FdsAt w' b (dupSt st fd) ∧ w.grownBy w' (some b) := by
  refine (dup_any b st fd w hf).mono ?_
  unfold dupN dupR dupSt
  rintro e w' (⟨h, rfl, h1, h2⟩ | ⟨h, hp⟩)
  · rw [if_neg h, if_neg h, if_neg h]; exact ⟨rfl, h2, h1⟩
  · rw [if_pos h, if_pos h, if_pos h]; exact hp.f
theorem rdup_f (v : Value) (st : Nat → Fd) (fd : Int) (w : World) (hf : RefSt w v st) :
    Calls Try.prog 30 #[v, .int .i64 fd] w fun e w' => ∃ v', e = .returned (.tuple #[v', .int .i64 (dupN st fd), .int .i64 (dupR st fd)]) ∧ RefSt w' v' (dupSt st fd) ∧ Below w.heap.size w w' := by
  refine (rdup_any v st fd w hf).mono ?_
  unfold dupN dupR dupSt
  rintro e w' (⟨h, rfl, hb⟩ | ⟨h, hp⟩)
  · rw [if_neg h, if_neg h, if_neg h]; exact ⟨v, rfl, hf.below hb, hb⟩
  · rw [if_pos h, if_pos h, if_pos h]; exact hp.f hf
def closeSt (st : Nat → Fd) (fd : Int) : Nat → Fd := if getE st fd = 0 then upd st fd.toNat .none else st
theorem close_f (b : Nat) (st : Nat → Fd) (fd : Int) (w : World) (hf : FdsAt w b st) :
    Calls Try.prog 16 #[.pointer (some ⟨b, 0, none⟩), .int .i64 fd] w fun e w' => e = .returned (.int .i64 (getE st fd)) ∧ FdsAt w' b (closeSt st fd) ∧ w.grownBy w' (some b) :=
  (close_any b st fd w hf).mono fun _ _ ⟨h1, h2, h3⟩ => ⟨h1, h3, h2⟩
theorem rclose_f (v : Value) (st : Nat → Fd) (fd : Int) (w : World) (hf : RefSt w v st) :
    Calls Try.prog 28 #[v, .int .i64 fd] w fun e w' => ∃ v', e = .returned (.tuple #[v', .int .i64 (getE st fd)]) ∧ RefSt w' v' (closeSt st fd) ∧ Below w.heap.size w w' := rclose_any v st fd w hf
def moveSt (st : Nat → Fd) (fd p : Int) : Nat → Fd := if moveE st fd p = 0 then upd st fd.toNat (setP (st fd.toNat) p) else st
theorem move_f (b : Nat) (st : Nat → Fd) (fd p : Int) (w : World) (hf : FdsAt w b st) :
    Calls Try.prog 22 #[.pointer (some ⟨b, 0, none⟩), .int .i64 fd, .int .i64 p] w fun e w' => e = .returned (.int .i64 (moveE st fd p)) ∧ FdsAt w' b (moveSt st fd p) ∧ w.grownBy w' (some b) :=
  (move_any b st fd p w hf).mono fun _ _ ⟨h1, h2, h3⟩ => ⟨h1, h3, h2⟩
theorem rmove_f (v : Value) (st : Nat → Fd) (fd p : Int) (w : World) (hf : RefSt w v st) :
    Calls Try.prog 29 #[v, .int .i64 fd, .int .i64 p] w fun e w' => ∃ v', e = .returned (.tuple #[v', .int .i64 (moveE st fd p)]) ∧ RefSt w' v' (moveSt st fd p) ∧ Below w.heap.size w w' := rmove_any v st fd p w hf
def seekSt (st : Nat → Fd) (fd by' wh size : Int) : Nat → Fd := if seekE st fd by' wh size = 0 then upd st fd.toNat (setP (st fd.toNat) (seekN st fd by' wh size)) else st
theorem seek_f (b : Nat) (st : Nat → Fd) (fd by' wh size : Int) (w : World) (hf : FdsAt w b st) (hp : PosOk st) :
    Calls Try.prog 21 #[.pointer (some ⟨b, 0, none⟩), .int .i64 fd, .int .i64 by', .int .i64 wh, .int .i64 size] w fun e w' => e = .returned (.tuple #[.int .i64 (seekN st fd by' wh size), .int .i64 (seekE st fd by' wh size)]) ∧ FdsAt w' b (seekSt st fd by' wh size) ∧ w.grownBy w' (some b) :=
  (seek_any b st fd by' wh size w hf hp).mono fun _ _ ⟨h1, h2, h3⟩ => ⟨h1, h3, h2⟩
theorem rseek_f (v : Value) (st : Nat → Fd) (fd by' wh size : Int) (w : World) (hf : RefSt w v st) (hp : PosOk st) :
    Calls Try.prog 31 #[v, .int .i64 fd, .int .i64 by', .int .i64 wh, .int .i64 size] w fun e w' => ∃ v', e = .returned (.tuple #[v', .int .i64 (seekN st fd by' wh size), .int .i64 (seekE st fd by' wh size)]) ∧ RefSt w' v' (seekSt st fd by' wh size) ∧ Below w.heap.size w w' := rseek_any v st fd by' wh size w hf hp

theorem pos_upd {st : Nat → Fd} {k : Nat} {x : Fd} (h : PosOk st) (hx : 0 ≤ x.pos ∧ x.pos ≤ 1048576) : PosOk (upd st k x) := by
  intro i hi; unfold upd; split
  · exact hx
  · exact h i hi
theorem pos_put {st : Nat → Fd} {x : Fd} (h : PosOk st) (hx : 0 ≤ x.pos ∧ x.pos ≤ 1048576) : PosOk (putSt st x) := by
  unfold putSt; split
  · exact pos_upd h hx
  · exact h
theorem pos_open {st : Nat → Fd} {ino F : Int} (h : PosOk st) : PosOk (openSt st ino F) := by
  unfold openSt; split
  · exact pos_put h ⟨by simp, by simp⟩
  · exact h
theorem pos_dup {st : Nat → Fd} {fd : Int} (h : PosOk st) : PosOk (dupSt st fd) := by
  unfold dupSt; split
  · rename_i h0
    obtain ⟨k, rfl, hk, _, hx⟩ := getE_ok h0
    rw [hx]; exact pos_put h (h k hk)
  · exact h
theorem pos_close {st : Nat → Fd} {fd : Int} (h : PosOk st) : PosOk (closeSt st fd) := by
  unfold closeSt; split
  · exact pos_upd h ⟨by simp [Fd.none], by simp [Fd.none]⟩
  · exact h
theorem pos_move {st : Nat → Fd} {fd p : Int} (h : PosOk st) : PosOk (moveSt st fd p) := by
  unfold moveSt; split
  · rename_i h0
    refine pos_upd h ?_
    unfold moveE at h0
    split at h0
    · contradiction
    · split at h0
      · cases h0
      · simp only [setP]; omega
  · exact h
theorem pos_seek {st : Nat → Fd} {fd by' wh size : Int} (h : PosOk st) : PosOk (seekSt st fd by' wh size) := by
  unfold seekSt; split
  · rename_i h0
    refine pos_upd h ?_
    simp only [setP, seekN, h0, if_true]
    unfold seekE at h0
    split at h0
    · contradiction
    · split at h0
      · cases h0
      · split at h0
        · cases h0
        · omega
  · exact h

theorem fds_ref_ne {w : World} {b g cap : Nat} {st : Nat → Fd} {L : List Ro} (h : FdsAt w b st) (k : RefAt w g cap L) : g ≠ b := by
  rintro rfl
  obtain ⟨_, cs, h1, _⟩ := h
  obtain ⟨_, cur, k1, _⟩ := k
  rw [h1] at k1
  cases k1
theorem RefSt.only {w w' : World} {v : Value} {b : Nat} {st st' : Nat → Fd} (h : RefSt w v st) (hf : FdsAt w b st') (hg : w.grownBy w' (some b)) : RefSt w' v st := by
  obtain ⟨g, cap, L, rfl, h1, h2⟩ := h
  exact ⟨g, cap, L, rfl, h1.only hg (fun e => fds_ref_ne hf h1 (by injection e)), h2⟩

/-- both stand alike -/
def Pair (w : World) (b : Nat) (v : Value) (st : Nat → Fd) : Prop := FdsAt w b st ∧ RefSt w v st ∧ PosOk st
def OnePost (b : Nat) (w : World) (e : Ending) (w' : World) : Prop := ∃ st' v', e = .returned (.tuple #[v', .bool true]) ∧ Pair w' b v' st' ∧ w.grownBy w' (some b)
theorem box5 {w : World} {n : Nat} {a b c d e : Value} {t : TypeId} (h : w.heap[n]? = some (.cells #[a, b, c, d, e] t (0, 0))) :
    w.cell? ⟨n, 0, none⟩ = some a ∧ w.cell? ⟨n, 1, none⟩ = some b ∧ w.cell? ⟨n, 2, none⟩ = some c ∧ w.cell? ⟨n, 3, none⟩ = some d ∧ w.cell? ⟨n, 4, none⟩ = some e := by
  refine ⟨?_, ?_, ?_, ?_, ?_⟩ <;> rw [cell_of_row w n _ _ t (0, 0) h] <;> rfl
theorem one_end {w w1 w2 : World} {b : Nat} {v' : Value} {st' : Nat → Fd} {o : Obj} (hf : FdsAt w1 b st') (hg : (w.alloc o).grownBy w1 (some b)) (hr : RefSt w2 v' st') (hb : Below w1.heap.size w1 w2) (hp : PosOk st') :
    OnePost b w (.returned (.tuple #[v', .bool true])) w2 :=
  ⟨st', v', rfl, ⟨hf.below hb, hr, hp⟩, only_below (only_trans (only_alloc (only_refl w _) o) hg) hb⟩
set_option maxHeartbeats 1000000 in
theorem one_any (b : Nat) (v : Value) (st : Nat → Fd) (K fd A B C : Int) (w : World) (hp : Pair w b v st) :
    Calls Try.prog 18 #[.pointer (some ⟨b, 0, none⟩), v, .agg #[.int .i64 K, .int .i64 fd, .int .i64 A, .int .i64 B, .int .i64 C]] w (OnePost b w) := by
  obtain ⟨hf, hr, hpos⟩ := hp
  have hb := hf.1
  have HPOS := Lib.hid hpos
  clear hpos
  by_cases h0 : K = 0
  · subst h0
    go_enter Try.func18, Try.ntmps18
    go_wp2_with (first | (go_at_call 13; refine (open_f b st _ _ _ (hf.alloc _)).mono ?_; rintro e w1 ⟨rfl, hf1, hg1⟩; have hbx := hg1.block w.heap.size (by simp) (by simp; omega); rw [heap_alloc_new] at hbx; obtain ⟨c0, c1, c2, c3, c4⟩ := box5 hbx; have HF1 := Lib.hid hf1; have HG1 := Lib.hid hg1; clear hf1 hg1 hbx) | (go_at_call 27; go_must (refine (rput_f v st _ _ _ ((hr.alloc _).only (hf.alloc _) HG1.out)).mono ?_); rintro e w2 ⟨v2, rfl, hr2, hb2⟩; have HR2 := Lib.hid hr2; have HB2 := Lib.hid hb2; clear hr2 hb2))
    go_ret2
    exact one_end HF1.out HG1.out HR2.out HB2.out (pos_open HPOS.out)
  by_cases h1 : K = 1
  · subst h1
    clear h0
    go_enter Try.func18, Try.ntmps18
    go_wp2_with (first | (go_at_call 16; refine (close_f b st _ _ (hf.alloc _)).mono ?_; rintro e w1 ⟨rfl, hf1, hg1⟩; have hbx := hg1.block w.heap.size (by simp) (by simp; omega); rw [heap_alloc_new] at hbx; obtain ⟨c0, c1, c2, c3, c4⟩ := box5 hbx; have HF1 := Lib.hid hf1; have HG1 := Lib.hid hg1; clear hf1 hg1 hbx) | (go_at_call 28; go_must (refine (rclose_f v st _ _ ((hr.alloc _).only (hf.alloc _) HG1.out)).mono ?_); rintro e w2 ⟨v2, rfl, hr2, hb2⟩; have HR2 := Lib.hid hr2; have HB2 := Lib.hid hb2; clear hr2 hb2))
    go_ret2
    exact one_end HF1.out HG1.out HR2.out HB2.out (pos_close HPOS.out)
  by_cases h2 : K = 2
  · subst h2
    clear h0 h1
    go_enter Try.func18, Try.ntmps18
    go_wp2_with (first | (go_at_call 22; refine (move_f b st _ _ _ (hf.alloc _)).mono ?_; rintro e w1 ⟨rfl, hf1, hg1⟩; have hbx := hg1.block w.heap.size (by simp) (by simp; omega); rw [heap_alloc_new] at hbx; obtain ⟨c0, c1, c2, c3, c4⟩ := box5 hbx; have HF1 := Lib.hid hf1; have HG1 := Lib.hid hg1; clear hf1 hg1 hbx) | (go_at_call 29; go_must (refine (rmove_f v st _ _ _ ((hr.alloc _).only (hf.alloc _) HG1.out)).mono ?_); rintro e w2 ⟨v2, rfl, hr2, hb2⟩; have HR2 := Lib.hid hr2; have HB2 := Lib.hid hb2; clear hr2 hb2))
    go_ret2
    exact one_end HF1.out HG1.out HR2.out HB2.out (pos_move HPOS.out)
  by_cases h3 : K = 3
  · subst h3
    clear h0 h1 h2
    go_enter Try.func18, Try.ntmps18
    go_wp2_with (first | (go_at_call 14; refine (dup_f b st _ _ (hf.alloc _)).mono ?_; rintro e w1 ⟨rfl, hf1, hg1⟩; have hbx := hg1.block w.heap.size (by simp) (by simp; omega); rw [heap_alloc_new] at hbx; obtain ⟨c0, c1, c2, c3, c4⟩ := box5 hbx; have HF1 := Lib.hid hf1; have HG1 := Lib.hid hg1; clear hf1 hg1 hbx) | (go_at_call 30; go_must (refine (rdup_f v st _ _ ((hr.alloc _).only (hf.alloc _) HG1.out)).mono ?_); rintro e w2 ⟨v2, rfl, hr2, hb2⟩; have HR2 := Lib.hid hr2; have HB2 := Lib.hid hb2; clear hr2 hb2))
    go_ret2
    exact one_end HF1.out HG1.out HR2.out HB2.out (pos_dup HPOS.out)
  by_cases h4 : K = 4
  · subst h4
    clear h0 h1 h2 h3
    go_enter Try.func18, Try.ntmps18
    go_wp2_with (first | (go_at_call 21; refine (seek_f b st _ _ _ _ _ (hf.alloc _) HPOS.out).mono ?_; rintro e w1 ⟨rfl, hf1, hg1⟩; have hbx := hg1.block w.heap.size (by simp) (by simp; omega); rw [heap_alloc_new] at hbx; obtain ⟨c0, c1, c2, c3, c4⟩ := box5 hbx; have HF1 := Lib.hid hf1; have HG1 := Lib.hid hg1; clear hf1 hg1 hbx) | (go_at_call 31; go_must (refine (rseek_f v st _ _ _ _ _ ((hr.alloc _).only (hf.alloc _) HG1.out) HPOS.out).mono ?_); rintro e w2 ⟨v2, rfl, hr2, hb2⟩; have HR2 := Lib.hid hr2; have HB2 := Lib.hid hb2; clear hr2 hb2))
    go_ret2
    exact one_end HF1.out HG1.out HR2.out HB2.out (pos_seek HPOS.out)
  · have g0 : (K == 0) = false := by simp [h0]
    have g1 : (K == 1) = false := by simp [h1]
    have g2 : (K == 2) = false := by simp [h2]
    have g3 : (K == 3) = false := by simp [h3]
    have g4 : (K == 4) = false := by simp [h4]
    clear h0 h1 h2 h3 h4
    go_enter Try.func18, Try.ntmps18
    go_wp2
    go_ret2
    exact ⟨st, v, rfl, ⟨hf.alloc _, hr.alloc _, HPOS.out⟩, only_alloc (only_refl _ _) _⟩
end Go.Proofs.Ytegeonompkgpeaa
