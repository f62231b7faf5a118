/- Contracts of package fd's methods that call others. -/
import Derived.Test.YtegeonompkgpeaaFd
import Derived.Deep.MidRow
import Derived.Laws.OwnMore
namespace Go.Proofs.Ytegeonompkgpeaa
open Go.RowKit

theorem reads_any (a : Int) (w : World) :
    Calls Try.prog 10 #[.int .i64 a] w fun e w' => e = .returned (.bool (checkF a == 0 && hasB a 1)) ∧ w = w' := by
  cases h : (checkF a == 0) <;> cases h1 : hasB a 1
  all_goals
    have H := Lib.hid h1
    clear h1
    go_enter Try.func10, Try.ntmps10
    go_wp2_with (first | (go_at_call 9; refine (check_any _ _).mono ?_; rintro e w' ⟨rfl, rfl⟩) | (go_at_call 25; refine (has_b _ _ _).mono ?_; rintro e w' ⟨rfl, rfl⟩))
    go_ret
    exact ⟨ret_bool (by simp <;> exact H.out), rfl⟩
theorem writes_any (a : Int) (w : World) :
    Calls Try.prog 11 #[.int .i64 a] w fun e w' => e = .returned (.bool (checkF a == 0 && hasB a 2)) ∧ w = w' := by
  cases h : (checkF a == 0) <;> cases h1 : hasB a 2
  all_goals
    have H := Lib.hid h1
    clear h1
    go_enter Try.func11, Try.ntmps11
    go_wp2_with (first | (go_at_call 9; refine (check_any _ _).mono ?_; rintro e w' ⟨rfl, rfl⟩) | (go_at_call 25; refine (has_b _ _ _).mono ?_; rintro e w' ⟨rfl, rfl⟩))
    go_ret
    exact ⟨ret_bool (by simp <;> exact H.out), rfl⟩

def zeroSt : Nat → Fd := fun _ => .none
def fdsCells : Array Value := Array.replicate 192 (.int .i64 0)
theorem build52 (w : World) : (zeroValue 52).run Try.prog w = .ok (.agg fdsCells) w := by kernel_rfl
theorem fdsAt_new (w : World) : FdsAt (w.alloc (.cells fdsCells 52)) w.heap.size zeroSt := by
  refine ⟨by simp, fdsCells, heap_alloc_new w _, by simp [fdsCells], fun i hi => ?_⟩
  simp only [fdsCells, Array.getElem?_replicate, zeroSt, Fd.none]
  rw [if_pos (by omega), if_pos (by omega), if_pos (by omega)]
  exact ⟨rfl, rfl, rfl⟩
def NewPost (w : World) (e : Ending) (w' : World) : Prop := ∃ b, e = .returned (.pointer (some ⟨b, 0, none⟩)) ∧ w.heap.size ≤ b ∧ FdsAt w' b zeroSt ∧ Below w.heap.size w w'
theorem new_any (w : World) : Calls Try.prog 12 #[] w (NewPost w) := by
  go_enter Try.func12, Try.ntmps12
  have h1 := build52
  go_wp2
  go_ret
  exact ⟨_, rfl, Nat.le_refl _, fdsAt_new w, (Below.refl _ _).alloc (Nat.le_refl _) _⟩

/-- Open: what it answers by the flags and the inode -/
def openE (ino flags : Int) : Int := if checkF flags ≠ 0 then checkF flags else if ino < 1 ∨ 4096 < ino then 1 else 0
def OpenPost (b : Nat) (st : Nat → Fd) (ino flags : Int) (w : World) (e : Ending) (w' : World) : Prop :=
  (openE ino flags ≠ 0 ∧ e = .returned (.tuple #[.int .i64 0, .int .i64 (openE ino flags)]) ∧ w = w') ∨
  (openE ino flags = 0 ∧ PutPost b st ⟨ino, flags, 0⟩ w e w')
set_option maxHeartbeats 400000 in
theorem open_any (b : Nat) (st : Nat → Fd) (ino flags : Int) (w : World) (hf : FdsAt w b st) :
    Calls Try.prog 13 #[.pointer (some ⟨b, 0, none⟩), .int .i64 ino, .int .i64 flags] w (OpenPost b st ino flags w) := by
  by_cases hc : checkF flags = 0
  · have hc' : (checkF flags != 0) = false := by simp [hc]
    by_cases h1 : ino < 1
    · have he : openE ino flags = 1 := by simp [openE, hc, h1]
      have HE := Lib.hid he
      clear he hc
      go_enter Try.func13, Try.ntmps13
      go_wp2_with (go_at_call 9; refine (check_any _ _).mono ?_; rintro e w' ⟨rfl, rfl⟩)
      go_ret2
      exact .inl ⟨by rw [HE.out]; decide, by rw [HE.out]; rfl, rfl⟩
    by_cases h2 : 4096 < ino
    · have he : openE ino flags = 1 := by simp [openE, hc, h2]
      have HE := Lib.hid he
      clear he hc
      go_enter Try.func13, Try.ntmps13
      go_wp2_with (go_at_call 9; refine (check_any _ _).mono ?_; rintro e w' ⟨rfl, rfl⟩)
      go_ret2
      exact .inl ⟨by rw [HE.out]; decide, by rw [HE.out]; rfl, rfl⟩
    have he : openE ino flags = 0 := by simp [openE, hc]; omega
    have HE := Lib.hid he
    clear he hc
    go_enter Try.func13, Try.ntmps13
    go_wp2_with (first | (go_at_call 9; refine (check_any _ _).mono ?_; rintro e w' ⟨rfl, rfl⟩) | (go_at_call 26; refine (put_any b st ⟨ino, flags, 0⟩ _ hf).mono ?_; rintro e w' (⟨k, hl, rfl, hp⟩ | ⟨hl, rfl, hp⟩)))
    · have HL := Lib.hid hl
      have HP := Lib.hid hp
      clear hl hp
      go_wp2
      go_ret2
      exact .inr ⟨HE.out, .inl ⟨k, HL.out, rfl, HP.out⟩⟩
    · have HL := Lib.hid hl
      have HP := Lib.hid hp
      clear hl hp
      go_wp2
      go_ret2
      exact .inr ⟨HE.out, .inr ⟨HL.out, rfl, HP.out⟩⟩
  · have hc' : (checkF flags != 0) = true := by simp [hc]
    have he : openE ino flags = checkF flags := by simp [openE, hc]
    have HE := Lib.hid he
    have HC := Lib.hid hc
    clear he hc
    go_enter Try.func13, Try.ntmps13
    go_wp2_with (go_at_call 9; refine (check_any _ _).mono ?_; rintro e w' ⟨rfl, rfl⟩)
    go_ret2
    exact .inl ⟨by rw [HE.out]; exact HC.out, by rw [HE.out]; rfl, rfl⟩

theorem get_x (b : Nat) (st : Nat → Fd) (fd : Int) (w : World) (hf : FdsAt w b st) :
    Calls Try.prog 20 #[.pointer (some ⟨b, 0, none⟩), .int .i64 fd] w fun e w' => e = .returned (.tuple #[.agg #[.int .i64 (getX st fd).ino, .int .i64 (getX st fd).flags, .int .i64 (getX st fd).pos], .int .i64 (getE st fd)]) ∧ Below w.heap.size w w' := get_any b st fd w hf
theorem getE_ok {st : Nat → Fd} {fd : Int} (h : getE st fd = 0) : ∃ k : Nat, fd = k ∧ k < 64 ∧ (st k).ino ≠ 0 ∧ getX st fd = st k := by
  unfold getE at h
  split at h
  · cases h
  · rename_i h1
    obtain ⟨k, rfl⟩ := Int.eq_ofNat_of_zero_le (by omega : 0 ≤ fd)
    have h2 : ¬ ((k : Int) < 0 ∨ 64 ≤ (k : Int) ∨ (st (k : Int).toNat).ino = 0) := h1
    simp only [Int.toNat_natCast, not_or] at h1
    exact ⟨k, rfl, by omega, h1.2.2, by unfold getX; rw [if_neg h2]; rfl⟩
theorem getE_no {st : Nat → Fd} {fd : Int} (h : getE st fd ≠ 0) : getE st fd = 231 := by
  unfold getE at h ⊢
  split <;> simp_all

def ClosePost (b : Nat) (st : Nat → Fd) (fd : Int) (w : World) (e : Ending) (w' : World) : Prop :=
  e = .returned (.int .i64 (getE st fd)) ∧ w.grownBy w' (some b) ∧ FdsAt w' b (if getE st fd = 0 then upd st fd.toNat .none else st)
set_option maxHeartbeats 400000 in
theorem close_any (b : Nat) (st : Nat → Fd) (fd : Int) (w : World) (hf : FdsAt w b st) :
    Calls Try.prog 16 #[.pointer (some ⟨b, 0, none⟩), .int .i64 fd] w (ClosePost b st fd w) := by
  by_cases h0 : getE st fd = 0
  · have h0' : (getE st fd == 0) = true := by simp [h0]
    obtain ⟨k, rfl, hk, hi, hx⟩ := getE_ok h0
    have H0 := Lib.hid h0
    clear h0 hx hi
    go_enter Try.func16, Try.ntmps16
    go_wp2_with (go_at_call 20; refine (get_x b st _ _ hf).mono ?_; rintro e w1 ⟨rfl, hb⟩; have hf1 := hf.below hb; obtain ⟨c0, c1, c2⟩ := hf1.cells hk; have f0 := hf1.free (k * 3); have f1 := hf1.free (k * 3 + 1); have f2 := hf1.free (k * 3 + 2); have hlt := hf1.1)
    go_ret
    have hb1 := only_of_below hb (some b)
    refine ⟨rfl, ?_, ?_⟩
    · exact only_alloc (only_trans hb1 (only_set3 _ _ _ _ _ _ _ _)) _
    · rw [if_pos H0.out]
      exact (hf1.set3 hk .none).alloc _
  · have h0' : (getE st fd == 0) = false := by simp [h0]
    have H0 := Lib.hid h0
    clear h0
    go_enter Try.func16, Try.ntmps16
    go_wp2_with (go_at_call 20; refine (get_x b st _ _ hf).mono ?_; rintro e w1 ⟨rfl, hb⟩)
    go_ret
    refine ⟨rfl, only_alloc (only_of_below hb _) _, ?_⟩
    rw [if_neg H0.out]
    exact (hf.below hb).alloc _

def moveE (st : Nat → Fd) (fd p : Int) : Int := if getE st fd ≠ 0 then getE st fd else if p < 0 ∨ 1048576 < p then 233 else 0
def setP (x : Fd) (p : Int) : Fd := ⟨x.ino, x.flags, p⟩
def MovePost (b : Nat) (st : Nat → Fd) (fd p : Int) (w : World) (e : Ending) (w' : World) : Prop :=
  e = .returned (.int .i64 (moveE st fd p)) ∧ w.grownBy w' (some b) ∧ FdsAt w' b (if moveE st fd p = 0 then upd st fd.toNat (setP (st fd.toNat) p) else st)
set_option maxHeartbeats 400000 in
theorem move_any (b : Nat) (st : Nat → Fd) (fd p : Int) (w : World) (hf : FdsAt w b st) :
    Calls Try.prog 22 #[.pointer (some ⟨b, 0, none⟩), .int .i64 fd, .int .i64 p] w (MovePost b st fd p w) := by
  by_cases h0 : getE st fd = 0
  · have h0' : (getE st fd != 0) = false := by simp [h0]
    obtain ⟨k, rfl, hk, hi, hx⟩ := getE_ok h0
    by_cases hp : p < 0 ∨ 1048576 < p
    · have hm : moveE st k p = 233 := by simp [moveE, h0, hp]
      have HM := Lib.hid hm
      clear h0 hx hi hm
      rcases hp with hp | hp
      all_goals
        go_enter Try.func22, Try.ntmps22
        go_wp2_with (go_at_call 20; refine (get_x b st _ _ hf).mono ?_; rintro e w1 ⟨rfl, hb⟩)
        go_ret
        refine ⟨by rw [HM.out]; rfl, only_alloc (only_of_below hb _) _, ?_⟩
        rw [HM.out]
        exact (hf.below hb).alloc _
    · have hm : moveE st k p = 0 := by simp [moveE, h0, hp]
      have HM := Lib.hid hm
      clear h0 hx hi hm
      have hp1 : ¬ p < 0 := by omega
      have hp2 : ¬ 1048576 < p := by omega
      clear hp
      go_enter Try.func22, Try.ntmps22
      go_wp2_with (go_at_call 20; refine (get_x b st _ _ hf).mono ?_; rintro e w1 ⟨rfl, hb⟩; have hf1 := hf.below hb; obtain ⟨c0, c1, c2⟩ := hf1.cells hk; have f2 := hf1.free (k * 3 + 2); have hlt := hf1.1)
      go_ret
      have hb1 := only_of_below hb (some b)
      refine ⟨by rw [HM.out]; rfl, ?_, ?_⟩
      · exact only_alloc (only_setCell hb1 (.inl rfl) _) _
      · rw [HM.out]
        exact (hf1.setPos hk p).alloc _
  · have h0' : (getE st fd != 0) = true := by simp [h0]
    have hm : moveE st fd p = getE st fd := by simp [moveE, h0]
    have HM := Lib.hid hm
    have H0 := Lib.hid h0
    clear h0 hm
    go_enter Try.func22, Try.ntmps22
    go_wp2_with (go_at_call 20; refine (get_x b st _ _ hf).mono ?_; rintro e w1 ⟨rfl, hb⟩)
    go_ret
    refine ⟨by rw [HM.out]; rfl, only_alloc (only_of_below hb _) _, ?_⟩
    rw [HM.out, if_neg H0.out]
    exact (hf.below hb).alloc _

def DupPost (b : Nat) (st : Nat → Fd) (fd : Int) (w : World) (e : Ending) (w' : World) : Prop :=
  (getE st fd ≠ 0 ∧ e = .returned (.tuple #[.int .i64 0, .int .i64 231]) ∧ w.grownBy w' (some b) ∧ FdsAt w' b st) ∨
  (getE st fd = 0 ∧ PutPost b st (getX st fd) w e w')
theorem PutPost.left {b : Nat} {st : Nat → Fd} {x : Fd} {w w1 : World} {e : Ending} {w' : World} (h : PutPost b st x w1 e w') (hb : w.grownBy w1 (some b)) : PutPost b st x w e w' := by
  rcases h with ⟨k, h1, h2, h3, h4⟩ | ⟨h1, h2, h3, h4⟩
  · exact .inl ⟨k, h1, h2, h3, only_trans hb h4⟩
  · exact .inr ⟨h1, h2, h3, only_trans hb h4⟩
set_option maxHeartbeats 400000 in
theorem dup_any (b : Nat) (st : Nat → Fd) (fd : Int) (w : World) (hf : FdsAt w b st) :
    Calls Try.prog 14 #[.pointer (some ⟨b, 0, none⟩), .int .i64 fd] w (DupPost b st fd w) := by
  by_cases h0 : getE st fd = 0
  · have h0' : (getE st fd != 0) = false := by simp [h0]
    have H0 := Lib.hid h0
    clear h0
    go_enter Try.func14, Try.ntmps14
    go_wp2_with (first | (go_at_call 20; refine (get_x b st _ _ hf).mono ?_; rintro e w1 ⟨rfl, hb⟩) | (go_at_call 26; refine (put_any b st (getX st fd) _ ((hf.below (by assumption)).alloc _)).mono ?_; rintro e w2 (⟨k, hl, rfl, hp⟩ | ⟨hl, rfl, hp⟩)))
    · have HL := Lib.hid hl
      have HP := Lib.hid hp
      have HB := Lib.hid hb
      clear hl hp hb
      go_wp2
      go_ret2
      exact .inr ⟨H0.out, .inl ⟨k, HL.out, rfl, HP.out.1, only_trans (only_alloc (only_of_below HB.out _) _) HP.out.2⟩⟩
    · have HL := Lib.hid hl
      have HP := Lib.hid hp
      have HB := Lib.hid hb
      clear hl hp hb
      go_wp2
      go_ret2
      exact .inr ⟨H0.out, .inr ⟨HL.out, rfl, HP.out.1, only_trans (only_alloc (only_of_below HB.out _) _) HP.out.2⟩⟩
  · have h0' : (getE st fd != 0) = true := by simp [h0]
    have hm := getE_no h0
    have HM := Lib.hid hm
    have H0 := Lib.hid h0
    clear h0 hm
    go_enter Try.func14, Try.ntmps14
    go_wp2_with (go_at_call 20; refine (get_x b st _ _ hf).mono ?_; rintro e w1 ⟨rfl, hb⟩)
    go_ret2
    exact .inl ⟨H0.out, by rw [HM.out]; rfl, only_alloc (only_of_below hb _) _, (hf.below hb).alloc _⟩

end Go.Proofs.Ytegeonompkgpeaa
