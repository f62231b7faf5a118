/- Contracts of package fd's functions: what each call answers and what becomes of the block that holds the descriptors. -/
import Derived.Test.YtegeonompkgpeaaProg
import Derived.Test.YtegeonompkgpeaaBase
import Derived.Outline
import Derived.WalkLawsBesides
import Derived.WalkSpells
import Derived.RegionTactic
import Derived.ChangeAlike
namespace Go.Proofs.Ytegeonompkgpeaa
open Go.RowKit

theorem has_any (a b : Int) (w : World) :
    Calls Try.prog 25 #[.int .i64 a, .int .i64 b] w fun e w' => e = .returned (.bool (bits .and .i64 a b != 0)) ∧ w = w' := by
  go_enter Try.func25, Try.ntmps25
  go_wp2
  go_ret
  exact ⟨rfl, rfl⟩
def hasB (a b : Int) : Bool := bits .and .i64 a b != 0
theorem has_b (a b : Int) (w : World) :
    Calls Try.prog 25 #[.int .i64 a, .int .i64 b] w fun e w' => e = .returned (.bool (hasB a b)) ∧ w = w' := has_any a b w
def checkF (f : Int) : Int :=
  if f < 1 ∨ 63 < f then 232 else
  if (!hasB f 1 && !hasB f 2) then 232 else
  if (hasB f 8 && !hasB f 4) then 232 else
  if (hasB f 48 && !hasB f 2) then 232 else 0
set_option maxHeartbeats 400000 in
theorem check_any (a : Int) (w : World) :
    Calls Try.prog 9 #[.int .i64 a] w fun e w' => e = .returned (.int .i64 (checkF a)) ∧ w = w' := by
  by_cases h1 : a < 1
  · go_enter Try.func9, Try.ntmps9
    go_wp2
    go_ret
    exact ⟨ret_int (by simp [checkF, h1]), rfl⟩
  by_cases h2 : 63 < a
  · go_enter Try.func9, Try.ntmps9
    go_wp2
    go_ret
    exact ⟨ret_int (by simp [checkF, h2]), rfl⟩
  cases e1 : hasB a 1 <;> cases e2 : hasB a 2 <;> cases e3 : hasB a 4 <;> cases e4 : hasB a 8 <;> cases e5 : hasB a 48
  all_goals
    go_enter Try.func9, Try.ntmps9
    go_wp2_with (go_at_call 25; refine (has_b _ _ _).mono ?_; rintro e w' ⟨rfl, rfl⟩)
    go_ret
    exact ⟨ret_int (by simp [checkF, h1, h2, e1, e2, e3, e4, e5]), rfl⟩

/-- an open descriptor's description; ino 0: it is not open -/
structure Fd where
  ino : Int
  flags : Int
  pos : Int
def Fd.none : Fd := ⟨0, 0, 0⟩
def Fd.val (x : Fd) : Value := .agg #[.int .i64 x.ino, .int .i64 x.flags, .int .i64 x.pos]
/-- block b holds the descriptors st -/
def FdsAt (w : World) (b : Nat) (st : Nat → Fd) : Prop :=
  b < w.heap.size ∧ ∃ cs, w.heap[b]? = some (.cells cs 52 (0, 0)) ∧ cs.size = 192 ∧
    ∀ i, i < 64 → cs[i * 3]? = some (.int .i64 (st i).ino) ∧ cs[i * 3 + 1]? = some (.int .i64 (st i).flags) ∧ cs[i * 3 + 2]? = some (.int .i64 (st i).pos)
def upd (st : Nat → Fd) (k : Nat) (x : Fd) : Nat → Fd := fun i => if i = k then x else st i
theorem FdsAt.cells {w b st} (h : FdsAt w b st) {i : Nat} (hi : i < 64) : w.cell? ⟨b, i * 3, none⟩ = some (.int .i64 (st i).ino) ∧ w.cell? ⟨b, i * 3 + 1, none⟩ = some (.int .i64 (st i).flags) ∧ w.cell? ⟨b, i * 3 + 2, none⟩ = some (.int .i64 (st i).pos) := by
  obtain ⟨_, cs, h1, h2, h3⟩ := h
  obtain ⟨a, b, c⟩ := h3 i hi
  simp [World.cell?, h1, a, b, c]
theorem FdsAt.free {w b st} (h : FdsAt w b st) (k : Nat) : w.frozen? ⟨b, k, none⟩ = false := by
  obtain ⟨_, cs, h1, h2, h3⟩ := h
  simp [World.frozen?, h1]
theorem FdsAt.of_block {w w' : World} {b st} (h : FdsAt w b st) (hb : w'.heap[b]? = w.heap[b]?) : FdsAt w' b st := by
  obtain ⟨hlt, cs, h1, h2⟩ := h
  have h' : w'.heap[b]? = some (.cells cs 52 (0, 0)) := hb.trans h1
  exact ⟨(Array.getElem?_eq_some_iff.1 h').1, cs, h', h2⟩
theorem FdsAt.below {w w' : World} {b st} (h : FdsAt w b st) (hb : Below w.heap.size w w') : FdsAt w' b st := h.of_block (hb.block b h.1)
theorem FdsAt.only {w w' : World} {b st row} (h : FdsAt w b st) (hb : w.grownBy w' row) (hne : some b ≠ row) : FdsAt w' b st := h.of_block (hb.block b h.1 hne)
theorem FdsAt.drewN {w : World} {b st} (h : FdsAt w b st) (n : Nat) : FdsAt (w.drewN n) b st := h.of_block rfl
theorem FdsAt.drew {w : World} {b st} (h : FdsAt w b st) : FdsAt w.drew b st := h.of_block rfl
theorem FdsAt.alloc {w : World} {b st} (h : FdsAt w b st) (o : Obj) : FdsAt (w.alloc o) b st := h.of_block (Below.heap_alloc w o b h.1)
theorem FdsAt.congr {w : World} {b st st'} (h : FdsAt w b st) (he : ∀ i, i < 64 → st i = st' i) : FdsAt w b st' := by
  obtain ⟨h0, cs, h1, h2, h3⟩ := h
  exact ⟨h0, cs, h1, h2, fun i hi => by rw [← he i hi]; exact h3 i hi⟩
theorem FdsAt.set3 {w : World} {b st} (h : FdsAt w b st) {k : Nat} (hk : k < 64) (x : Fd) :
    FdsAt (((w.setCell ⟨b, k * 3, none⟩ (.int .i64 x.ino)).setCell ⟨b, k * 3 + 1, none⟩ (.int .i64 x.flags)).setCell ⟨b, k * 3 + 2, none⟩ (.int .i64 x.pos)) b (upd st k x) := by
  obtain ⟨h0, cs, h1, h2, h3⟩ := h
  have e1 := heap_setCell_same w b (k * 3) cs 52 (.int .i64 x.ino) h1
  have e2 := heap_setCell_same _ b (k * 3 + 1) _ 52 (.int .i64 x.flags) e1
  have e3 := heap_setCell_same _ b (k * 3 + 2) _ 52 (.int .i64 x.pos) e2
  refine ⟨by simpa [World.setCell] using h0, _, e3, by simp [h2], fun i hi => ?_⟩
  obtain ⟨a, b, c⟩ := h3 i hi
  by_cases hik : i = k
  · subst hik
    simp only [upd, if_true, Array.getElem?_setIfInBounds, Array.size_setIfInBounds, h2]
    rw [if_neg (by omega), if_neg (by omega), if_pos (by omega), if_neg (by omega), if_pos (by omega), if_pos (by omega)]
    exact ⟨rfl, rfl, rfl⟩
  · simp only [upd, hik, if_false, Array.getElem?_setIfInBounds, Array.size_setIfInBounds, h2]
    simp only [show ¬ k * 3 + 2 = i * 3 by omega, show ¬ k * 3 + 1 = i * 3 by omega, show ¬ k * 3 = i * 3 by omega, show ¬ k * 3 + 2 = i * 3 + 1 by omega, show ¬ k * 3 + 1 = i * 3 + 1 by omega, show ¬ k * 3 = i * 3 + 1 by omega, show ¬ k * 3 + 2 = i * 3 + 2 by omega, show ¬ k * 3 + 1 = i * 3 + 2 by omega, show ¬ k * 3 = i * 3 + 2 by omega, if_false]
    exact ⟨a, b, c⟩
theorem FdsAt.setPos {w : World} {b st} (h : FdsAt w b st) {k : Nat} (hk : k < 64) (p : Int) :
    FdsAt (w.setCell ⟨b, k * 3 + 2, none⟩ (.int .i64 p)) b (upd st k ⟨(st k).ino, (st k).flags, p⟩) := by
  obtain ⟨h0, cs, h1, h2, h3⟩ := h
  have e3 := heap_setCell_same _ b (k * 3 + 2) _ 52 (.int .i64 p) h1
  refine ⟨by simpa [World.setCell] using h0, _, e3, by simp [h2], fun i hi => ?_⟩
  obtain ⟨a, b, c⟩ := h3 i hi
  by_cases hik : i = k
  · subst hik
    simp only [upd, if_true, Array.getElem?_setIfInBounds, h2]
    simp only [show ¬ i * 3 + 2 = i * 3 by omega, show ¬ i * 3 + 2 = i * 3 + 1 by omega, show i * 3 + 2 < 192 by omega, if_false, if_true]
    exact ⟨a, b, trivial⟩
  · simp only [upd, hik, if_false, Array.getElem?_setIfInBounds, h2]
    simp only [show ¬ k * 3 + 2 = i * 3 by omega, show ¬ k * 3 + 2 = i * 3 + 1 by omega, show ¬ k * 3 + 2 = i * 3 + 2 by omega, if_false]
    exact ⟨a, b, c⟩
theorem only_set3 (w : World) (b i j k : Nat) (x y z : Value) : w.grownBy (((w.setCell ⟨b, i, none⟩ x).setCell ⟨b, j, none⟩ y).setCell ⟨b, k, none⟩ z) (some b) :=
  only_setCell (p := ⟨b, k, none⟩) (only_setCell (p := ⟨b, j, none⟩) (only_setCell (p := ⟨b, i, none⟩) (only_refl w (some b)) (.inl rfl) x) (.inl rfl) y) (.inl rfl) z

/-- the least number that is not open -/
def Least (st : Nat → Fd) (k : Nat) : Prop := k < 64 ∧ (st k).ino = 0 ∧ ∀ j, j < k → (st j).ino ≠ 0
def Full (st : Nat → Fd) : Prop := ∀ j, j < 64 → (st j).ino ≠ 0
def PutPost (b : Nat) (st : Nat → Fd) (x : Fd) (w : World) (e : Ending) (w' : World) : Prop :=
  (∃ k : Nat, Least st k ∧ e = .returned (.tuple #[.int .i64 k, .int .i64 0]) ∧ FdsAt w' b (upd st k x) ∧ w.grownBy w' (some b)) ∨
  (Full st ∧ e = .returned (.tuple #[.int .i64 0, .int .i64 230]) ∧ FdsAt w' b st ∧ w.grownBy w' (some b))

set_option maxHeartbeats 400000 in
theorem put_any (b : Nat) (st : Nat → Fd) (x : Fd) (w : World) (hf : FdsAt w b st) :
    Calls Try.prog 26 #[.pointer (some ⟨b, 0, none⟩), .agg #[.int .i64 x.ino, .int .i64 x.flags, .int .i64 x.pos]] w (PutPost b st x w) := by
  have hb : b < w.heap.size := hf.1
  go_enter Try.func26, Try.ntmps26
  go_wp2
  go_loop [9] (fun i => ∃ k : Nat, k ≤ 64 ∧ i = .int .i64 k ∧ ∀ j, j < k → (st j).ino ≠ 0) (fun i => 64 - (intOf i).toNat)
  case atStart => exact ⟨0, by omega, rfl, by simp⟩
  case round =>
    obtain ⟨k, hk, rfl, hall⟩ := hrel
    have HALL := Lib.hid hall
    clear hall
    by_cases hlt : k < 64
    · obtain ⟨c0, c1, c2⟩ := hf.cells hlt
      have f0 := hf.free (k * 3)
      have f1 := hf.free (k * 3 + 1)
      have f2 := hf.free (k * 3 + 2)
      by_cases hz : (st k).ino = 0
      · have hz' : ((st k).ino == 0) = true := by simp [hz]
        have HZ := Lib.hid hz
        clear hz
        go_wp2
        go_region
        go_wp2
        refine bodyPost_ret (v := .tuple #[.int .i64 k, .int .i64 0]) (by simp [results, Try.results26, go_sem]) rfl ?_
        have h3 := hf.set3 hlt x
        have o3 := only_set3 w b (k * 3) (k * 3 + 1) (k * 3 + 2) (.int .i64 x.ino) (.int .i64 x.flags) (.int .i64 x.pos)
        exact .inl ⟨k, ⟨hlt, HZ.out, HALL.out⟩, rfl, (h3.alloc _).drew, only_drew (only_alloc o3 _)⟩
      · have hz' : ((st k).ino == 0) = false := by simp [hz]
        clear hz
        go_wp2
        go_round
        case rel => exact ⟨k+1, by omega, by go_num, by intro j hj; have := HALL.out j; by_cases e : j = k; subst e; simpa using hz'; exact this (by omega)⟩
        case measure => simp [intOf]; omega
    · go_wp2
      refine bodyPost_ret (v := .tuple #[.int .i64 0, .int .i64 230]) (by simp [results, Try.results26, go_sem]) rfl ?_
      exact .inr ⟨fun j hj => HALL.out j (by omega), rfl, hf.alloc _, only_alloc (only_refl _ _) _⟩

def getE (st : Nat → Fd) (fd : Int) : Int := if fd < 0 ∨ 64 ≤ fd ∨ (st fd.toNat).ino = 0 then 231 else 0
def getX (st : Nat → Fd) (fd : Int) : Fd := if fd < 0 ∨ 64 ≤ fd ∨ (st fd.toNat).ino = 0 then .none else st fd.toNat
def GetPost (st : Nat → Fd) (fd : Int) (w : World) (e : Ending) (w' : World) : Prop :=
  e = .returned (.tuple #[(getX st fd).val, .int .i64 (getE st fd)]) ∧ Below w.heap.size w w'

set_option maxHeartbeats 400000 in
theorem get_any (b : Nat) (st : Nat → Fd) (fd : Int) (w : World) (hf : FdsAt w b st) :
    Calls Try.prog 20 #[.pointer (some ⟨b, 0, none⟩), .int .i64 fd] w (GetPost st fd w) := by
  have hb : b < w.heap.size := hf.1
  by_cases h0 : fd < 0
  · have hx : getX st fd = ⟨0, 0, 0⟩ := by simp [getX, h0, Fd.none]
    have he : getE st fd = 231 := by simp [getE, h0]
    have HX := Lib.hid hx
    have HE := Lib.hid he
    clear hx he
    go_enter Try.func20, Try.ntmps20
    go_wp2
    refine bodyPost_ret (v := .tuple #[.agg #[.int .i64 0, .int .i64 0, .int .i64 0], .int .i64 231]) (by simp [results, Try.results20, go_sem]) rfl ?_
    exact ⟨by rw [HX.out, HE.out]; rfl, (Below.refl _ _).alloc (Nat.le_refl _) _⟩
  by_cases h1 : 64 ≤ fd
  · have hx : getX st fd = ⟨0, 0, 0⟩ := by simp [getX, h1, Fd.none]
    have he : getE st fd = 231 := by simp [getE, h1]
    have HX := Lib.hid hx
    have HE := Lib.hid he
    clear hx he
    go_enter Try.func20, Try.ntmps20
    go_wp2
    refine bodyPost_ret (v := .tuple #[.agg #[.int .i64 0, .int .i64 0, .int .i64 0], .int .i64 231]) (by simp [results, Try.results20, go_sem]) rfl ?_
    exact ⟨by rw [HX.out, HE.out]; rfl, (Below.refl _ _).alloc (Nat.le_refl _) _⟩
  obtain ⟨k, rfl⟩ := Int.eq_ofNat_of_zero_le (by omega : 0 ≤ fd)
  have hlt : k < 64 := by omega
  obtain ⟨c0, c1, c2⟩ := hf.cells hlt
  by_cases hz : (st k).ino = 0
  · have hx : getX st k = ⟨0, 0, 0⟩ := by simp [getX, hz, Fd.none]
    have he : getE st k = 231 := by simp [getE, hz]
    have HX := Lib.hid hx
    have HE := Lib.hid he
    have hz' : ((st k).ino == 0) = true := by simp [hz]
    clear hx he hz
    go_enter Try.func20, Try.ntmps20
    go_wp2
    refine bodyPost_ret (v := .tuple #[.agg #[.int .i64 0, .int .i64 0, .int .i64 0], .int .i64 231]) (by simp [results, Try.results20, go_sem]) rfl ?_
    exact ⟨by rw [HX.out, HE.out]; rfl, (Below.refl _ _).alloc (Nat.le_refl _) _⟩
  · have hx : getX st k = st k := by simp [getX, hz]; omega
    have he : getE st k = 0 := by simp [getE, hz]; omega
    have HX := Lib.hid hx
    have HE := Lib.hid he
    have hz' : ((st k).ino == 0) = false := by simp [hz]
    clear hx he hz
    go_enter Try.func20, Try.ntmps20
    go_wp2
    refine bodyPost_ret (v := .tuple #[.agg #[.int .i64 (st k).ino, .int .i64 (st k).flags, .int .i64 (st k).pos], .int .i64 0]) (by simp [results, Try.results20, go_sem]) rfl ?_
    exact ⟨by rw [HX.out, HE.out]; rfl, (Below.refl _ _).alloc (Nat.le_refl _) _⟩

end Go.Proofs.Ytegeonompkgpeaa
