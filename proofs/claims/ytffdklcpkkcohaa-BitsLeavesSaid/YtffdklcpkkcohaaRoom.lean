/- Contracts of package room's functions. -/
import Derived.Test.YtffdklcpkkcohaaBlaw
namespace Go.Proofs.Ytffdklcpkkcohaa
open Go.RowKit
/-- block g holds the first n of the numbers s -/
def IntsAt (w : World) (g n : Nat) (s : Nat → Int) : Prop :=
  g < w.heap.size ∧ n ≤ 8192 ∧ ∃ cur, w.heap[g]? = some (.cells cur 3 (0, 0)) ∧ n ≤ cur.size ∧ ∀ i, i < n → cur[i]? = some (.int .i64 (s i))
def setS (s : Nat → Int) (p : Nat) (v : Int) : Nat → Int := fun i => if i = p then v else s i
section
variable {w w' : World} {g n : Nat} {s : Nat → Int}
theorem IntsAt.of_block (h : IntsAt w g n s) (hb : w'.heap[g]? = w.heap[g]?) : IntsAt w' g n s := by
  obtain ⟨_, hn, cur, h1, h2⟩ := h
  have h' := hb.trans h1
  exact ⟨(Array.getElem?_eq_some_iff.1 h').1, hn, cur, h', h2⟩
theorem IntsAt.below (h : IntsAt w g n s) (hb : Below w.heap.size w w') : IntsAt w' g n s := h.of_block (hb.block g h.1)
theorem IntsAt.only {row : Option Nat} (h : IntsAt w g n s) (hb : w.grownBy w' row) (hne : some g ≠ row) : IntsAt w' g n s := h.of_block (hb.block g h.1 hne)
theorem IntsAt.alloc (h : IntsAt w g n s) (o : Obj) : IntsAt (w.alloc o) g n s := h.of_block (Below.heap_alloc w o g h.1)
theorem IntsAt.drewN (h : IntsAt w g n s) (m : Nat) : IntsAt (w.drewN m) g n s := h.of_block rfl
theorem IntsAt.drew (h : IntsAt w g n s) : IntsAt w.drew g n s := h.of_block rfl
theorem IntsAt.cell (h : IntsAt w g n s) {i : Nat} (hi : i < n) : w.cell? ⟨g, i, none⟩ = some (.int .i64 (s i)) := by
  obtain ⟨_, _, cur, h1, _, h3⟩ := h
  rw [cell_of_row w g i _ 3 (0, 0) h1]; exact h3 i hi
theorem IntsAt.free (h : IntsAt w g n s) (i : Nat) : w.frozen? ⟨g, i, none⟩ = false := by
  obtain ⟨_, _, cur, h1, _⟩ := h
  simp [World.frozen?, h1]
theorem IntsAt.set (h : IntsAt w g n s) {p : Nat} (hp : p < n) (v : Int) : IntsAt (w.setCell ⟨g, p, none⟩ (.int .i64 v)) g n (setS s p v) := by
  obtain ⟨h0, hn, cur, h1, h2, h3⟩ := h
  have e := heap_setCell_same w g p cur 3 (.int .i64 v) h1
  refine ⟨by simpa [World.setCell] using h0, hn, _, e, by simpa using h2, fun i hi => ?_⟩
  rw [Array.getElem?_setIfInBounds]
  unfold setS
  by_cases ei : p = i
  · subst ei; rw [if_pos rfl, if_pos (by omega), if_pos rfl]
  · rw [if_neg ei, if_neg (fun e' => ei e'.symm)]; exact h3 i hi
theorem IntsAt.congr (h : IntsAt w g n s) {s' : Nat → Int} (hk : ∀ i, i < n → s i = s' i) : IntsAt w g n s' := by
  obtain ⟨h0, hn, cur, h1, h2, h3⟩ := h
  exact ⟨h0, hn, cur, h1, h2, fun i hi => by rw [← hk i hi]; exact h3 i hi⟩
end
/-- block b is a room of n blocks with the states s; these lie in block bb -/
structure RoomAt (w : World) (b bb n : Nat) (s : Nat → Int) : Prop where
  head : ∃ cap, w.heap[b]? = some (.cells #[.slice (some ⟨bb, 0, none⟩) n cap] 114 (0, 0))
  row : IntsAt w bb n s
  least : 16 ≤ n
section
variable {w w' : World} {b bb n : Nat} {s s' : Nat → Int}
theorem RoomAt.lt (h : RoomAt w b bb n s) : b < w.heap.size := by obtain ⟨_, h1⟩ := h.head; exact (Array.getElem?_eq_some_iff.1 h1).1
theorem RoomAt.most (h : RoomAt w b bb n s) : n ≤ 8192 := h.row.2.1
theorem RoomAt.of_blocks (h : RoomAt w b bb n s) (h1 : w'.heap[b]? = w.heap[b]?) (h2 : w'.heap[bb]? = w.heap[bb]?) : RoomAt w' b bb n s := by
  obtain ⟨cap, e⟩ := h.head
  exact ⟨⟨cap, h1.trans e⟩, h.row.of_block h2, h.least⟩
theorem RoomAt.below (h : RoomAt w b bb n s) (hb : Below w.heap.size w w') : RoomAt w' b bb n s := h.of_blocks (hb.block b h.lt) (hb.block bb h.row.1)
theorem RoomAt.only {row : Option Nat} (h : RoomAt w b bb n s) (hb : w.grownBy w' row) (h1 : some b ≠ row) (h2 : some bb ≠ row) : RoomAt w' b bb n s := h.of_blocks (hb.block b h.lt h1) (hb.block bb h.row.1 h2)
theorem RoomAt.alloc (h : RoomAt w b bb n s) (o : Obj) : RoomAt (w.alloc o) b bb n s := h.of_blocks (Below.heap_alloc w o b h.lt) (Below.heap_alloc w o bb h.row.1)
theorem RoomAt.drewN (h : RoomAt w b bb n s) (m : Nat) : RoomAt (w.drewN m) b bb n s := h.of_blocks rfl rfl
theorem RoomAt.drew (h : RoomAt w b bb n s) : RoomAt w.drew b bb n s := h.of_blocks rfl rfl
theorem RoomAt.ne (h : RoomAt w b bb n s) : b ≠ bb := by
  rintro rfl
  obtain ⟨cap, e1⟩ := h.head
  obtain ⟨_, _, cur, e2, _⟩ := h.row
  rw [e1] at e2; cases e2
theorem RoomAt.cell (h : RoomAt w b bb n s) : ∃ cap, w.cell? ⟨b, 0, none⟩ = some (.slice (some ⟨bb, 0, none⟩) n cap) := by
  obtain ⟨cap, e1⟩ := h.head
  exact ⟨cap, by rw [cell_of_row w b 0 _ 114 (0, 0) e1]; rfl⟩
theorem RoomAt.set (h : RoomAt w b bb n s) {p : Nat} (hp : p < n) (v : Int) : RoomAt (w.setCell ⟨bb, p, none⟩ (.int .i64 v)) b bb n (setS s p v) := by
  obtain ⟨cap, e1⟩ := h.head
  exact ⟨⟨cap, (Below.heap_setCell _ _ _ _ h.ne).trans e1⟩, h.row.set hp v, h.least⟩
theorem RoomAt.congr (h : RoomAt w b bb n s) (hk : ∀ i, i < n → s i = s' i) : RoomAt w b bb n s' := ⟨h.head, h.row.congr hk, h.least⟩
end
/-! empty -/
def freeS : Nat → Int := fun i => if i = 0 then 0 else 1
theorem info3 : (Try.prog.info? 3).map (fun i => (i.zero, i.size, i.bytes)) = some (some (.int .i64 0), 1, 8) := by kernel_rfl
theorem make22 (m : Nat) (h2 : m ≤ 8192) (w : World) : (Instr.makeSlice 22 (.int .i64 (m : Int)) (.int .i64 (m : Int))).run Try.prog w =
    .ok (.slice (some ⟨w.heap.size, 0, none⟩) m m) (w.alloc (.cells (madeCells #[.int .i64 0] m) 3)) := by
  obtain ⟨i0, hi, hz0, hz1, hz2⟩ := info_parts info3
  have hr := run_make (P := Try.prog) w 22 3 i0 (.int .i64 0) Try.underlying22 hi hz0 .i64 .i64 (m : Int) (m : Int) (by omega) (by omega) (by rw [hz2]; omega) (by omega)
  rw [hz1] at hr
  rw [Int.toNat_natCast, Nat.mul_one] at hr
  exact hr
theorem ints_made (w : World) (n : Nat) (h : n ≤ 8192) : IntsAt (w.alloc (.cells (madeCells #[.int .i64 0] n) 3)) w.heap.size n (fun _ => 0) := by
  refine ⟨by simp, h, _, heap_alloc_new w _, by simp [madeCells], fun i hi => ?_⟩
  rw [Array.getElem?_eq_getElem (by rw [size_madeCells]; exact hi), ← Array.getElem_toList]
  simp only [toList_madeCells_one]
  simp
def midS (p : Nat) : Nat → Int := fun i => if 1 ≤ i ∧ i < p then 1 else 0
theorem midS_set (p : Nat) (hp : 1 ≤ p) (i : Nat) : setS (midS p) p 1 i = midS (p + 1) i := by
  unfold setS midS
  by_cases e : i = p
  · subst e; rw [if_pos rfl, if_pos (by omega)]
  · rw [if_neg e]
    by_cases h : 1 ≤ i ∧ i < p
    · rw [if_pos h, if_pos (by omega)]
    · rw [if_neg h, if_neg (by omega)]
theorem midS_one (i : Nat) : midS 1 i = 0 := by unfold midS; rw [if_neg (by omega)]
theorem midS_all (n i : Nat) (h : i < n) : midS n i = freeS i := by
  unfold midS freeS
  by_cases e : i = 0
  · rw [if_pos e, if_neg (by omega)]
  · rw [if_neg e, if_pos (by omega)]
def EmptyPost (n : Int) (w : World) (e : Ending) (w' : World) : Prop :=
  ((n < 16 ∨ 8192 < n) ∧ e = .returned (.tuple #[.pointer none, .int .i64 120]) ∧ w = w') ∨
  (∃ m b bb : Nat, n = m ∧ e = .returned (.tuple #[.pointer (some ⟨b, 0, none⟩), .int .i64 0]) ∧ w.heap.size ≤ b ∧ w.heap.size ≤ bb ∧ RoomAt w' b bb m freeS ∧ Below w.heap.size w w')
set_option maxHeartbeats 1000000 in
theorem empty_any (n : Int) (w : World) : Calls Try.prog 71 #[.int .i64 n] w (EmptyPost n w) := by
  by_cases h1 : n < 16
  · go_enter Try.func71, Try.ntmps71
    go_wp2
    go_ret2
    exact .inl ⟨.inl h1, rfl, rfl⟩
  by_cases h2 : 8192 < n
  · go_enter Try.func71, Try.ntmps71
    go_wp2
    go_ret2
    exact .inl ⟨.inr h2, rfl, rfl⟩
  obtain ⟨m, rfl⟩ := Int.eq_ofNat_of_zero_le (by omega : 0 ≤ n)
  have hm := make22 m (by omega)
  have hi := ints_made w m (by omega)
  have hB := ((Below.refl w.heap.size w).alloc (Nat.le_refl _) (.cells (madeCells #[.int .i64 0] m) 3)).alloc (by simp) (.cells #[.slice (some ⟨w.heap.size, 0, none⟩) m m] 114)
  have hR : RoomAt ((w.alloc (.cells (madeCells #[.int .i64 0] m) 3)).alloc (.cells #[.slice (some ⟨w.heap.size, 0, none⟩) m m] 114)) (w.heap.size + 1) w.heap.size m (midS 1) :=
    ⟨⟨m, heap_alloc2_new w _ _⟩, (hi.alloc _).congr (fun i _ => (midS_one i).symm), by omega⟩
  have HB := Lib.hid hB
  have HR := Lib.hid hR
  clear hi hB hR
  go_enter Try.func71, Try.ntmps71
  go_wp2_with fail
  go_loopw [5] (fun i wr => ∃ p : Nat, 1 ≤ p ∧ p ≤ m ∧ i = .int .i64 p ∧ RoomAt wr (w.heap.size + 1) w.heap.size m (midS p) ∧ Below w.heap.size w wr) (fun i _ => m - (intOf i).toNat)
  case atStart => exact ⟨1, by omega, by omega, rfl, HR.out, HB.out⟩
  case round =>
    obtain ⟨p, hp1, hp, rfl, hR, hB⟩ := hrel
    obtain ⟨cap, hc⟩ := hR.cell
    have HR2 := Lib.hid hR
    have HB2 := Lib.hid hB
    clear hB HR HB
    by_cases hlt : p < m
    · have c1 := hR.row.cell hlt
      have f1 := hR.row.free p
      have hS := hR.set hlt 1
      have HS := Lib.hid (hS.congr (fun i _ => midS_set p hp1 i))
      clear hS hR
      go_wp2
      go_roundw
      case rel => exact ⟨p + 1, by omega, by omega, by go_num, HS.out, HB2.out.setCell (by exact Nat.le_refl _) _⟩
      case measure => simp [intOf]; omega
    · clear hR
      go_wp2
      go_ret2
      obtain rfl : p = m := by omega
      refine .inr ⟨p, _, _, rfl, rfl, by omega, by omega, HR2.out.congr (fun i hi => midS_all p i hi), HB2.out⟩
/-! State, Blocks, Index, Take -/
def stI (n : Nat) (s : Nat → Int) (at_ : Nat) : Int := if at_ < n then s at_ else 0
section
variable (b bb n : Nat) (s : Nat → Int) (w : World)
theorem state_any (p : Nat) (hp : p < 4294967296) (hr : RoomAt w b bb n s) : Calls Try.prog 26 #[.pointer (some ⟨b, 0, none⟩), .int .u32 p] w fun e w' => e = .returned (.int .i64 (stI n s p)) ∧ w = w' := by
  have hn := hr.most
  obtain ⟨cap, hc⟩ := hr.cell
  by_cases h : p < n
  · have c1 := hr.row.cell h
    have hs : stI n s p = s p := by unfold stI; rw [if_pos h]
    have HS := Lib.hid hs
    clear hs
    go_enter Try.func26, Try.ntmps26
    go_wp2
    go_ret
    exact ⟨ret_int HS.out.symm, rfl⟩
  · have hs : stI n s p = 0 := by unfold stI; rw [if_neg h]
    have HS := Lib.hid hs
    clear hs
    go_enter Try.func26, Try.ntmps26
    go_wp2
    go_ret
    exact ⟨ret_int HS.out.symm, rfl⟩
theorem rblocks_any (hr : RoomAt w b bb n s) : Calls Try.prog 58 #[.pointer (some ⟨b, 0, none⟩)] w fun e w' => e = .returned (.int .i64 n) ∧ w = w' := by
  obtain ⟨cap, hc⟩ := hr.cell
  go_enter Try.func58, Try.ntmps58
  go_wp2
  go_ret
  exact ⟨rfl, rfl⟩
set_option maxHeartbeats 400000 in
theorem index_any (g cap : Nat) (v : Int) (hi : IntsAt w g n s) : Calls Try.prog 73 #[.slice (some ⟨g, 0, none⟩) n cap, .int .i64 v] w fun e w' => e = .returned (.int .i64 (findI n (fun i => s i == v) 0 true)) ∧ w = w' := by
  have hn := hi.2.1
  go_enter Try.func73, Try.ntmps73
  go_wp2
  go_loop [8] (fun i => ∃ p : Nat, p ≤ n ∧ i = .int .i64 p ∧ findI n (fun i => s i == v) 0 true = findR (fun i => s i == v) true (n - p) p) (fun i => n - (intOf i).toNat)
  case atStart => exact ⟨0, by omega, rfl, rfl⟩
  case round =>
    obtain ⟨p, hp, rfl, hfi⟩ := hrel
    by_cases hlt : p < n
    · rw [findR_step _ true n p hlt] at hfi
      have c1 := hi.cell hlt
      have HF := Lib.hid hfi
      clear hfi
      by_cases he : v = s p
      · have t1 : (v == s p) = true := by simp [he]
        have HE := Lib.hid he
        clear he
        go_wp2
        go_ret
        exact ⟨ret_int (by rw [HF.out, if_pos (by simp [← HE.out])]), rfl⟩
      · have t1 : (v == s p) = false := by simp [he]
        have HE := Lib.hid he
        clear he
        go_wp2
        go_round
        case rel => exact ⟨p + 1, by omega, by go_num, by rw [HF.out, if_neg (by simp; exact fun e => HE.out e.symm)]⟩
        case measure => simp [intOf]; omega
    · rw [findR_end _ true n p (by omega)] at hfi
      have HF := Lib.hid hfi
      clear hfi
      go_wp2
      go_ret
      exact ⟨ret_int HF.out.symm, rfl⟩
end
/-- the least free block -/
def TakePost (b bb n : Nat) (s : Nat → Int) (w : World) (e : Ending) (w' : World) : Prop :=
  ((∀ i, i < n → s i ≠ 1) ∧ e = .returned (.tuple #[.int .u32 0, .int .i64 3]) ∧ w = w') ∨
  (∃ p : Nat, p < n ∧ s p = 1 ∧ (∀ i, i < p → s i ≠ 1) ∧ e = .returned (.tuple #[.int .u32 p, .int .i64 0]) ∧ RoomAt w' b bb n (setS s p 3) ∧ w.grownBy w' (some bb))
set_option maxHeartbeats 400000 in
theorem take_any (b bb n : Nat) (s : Nat → Int) (w : World) (hr : RoomAt w b bb n s) : Calls Try.prog 29 #[.pointer (some ⟨b, 0, none⟩)] w (TakePost b bb n s w) := by
  have hn := hr.most
  obtain ⟨cap, hc⟩ := hr.cell
  have HI := Lib.hid (index_any n s w bb cap 1 hr.row)
  rcases findI_one n (fun i => s i == 1) 0 true with ⟨q, h1, h2, h3, h4, h5⟩ | ⟨h1, h2⟩
  · have c1 := hr.row.cell h3
    have f1 := hr.row.free q
    have HR := Lib.hid (hr.set h3 3)
    simp only [beq_iff_eq] at h4
    rw [show ((0 : Nat) : Int) = 0 from rfl] at h1
    rw [h1] at HI
    have H4 := Lib.hid h4
    have H5 := Lib.hid h5
    clear hr h1 h4 h5
    go_enter Try.func29, Try.ntmps29
    go_wp2_with fail
    refine HI.out.mono ?_
    rintro e w1 ⟨rfl, rfl⟩
    go_wp2
    go_ret2
    exact .inr ⟨q, h3, H4.out, fun i hi => by have := H5.out i (Nat.zero_le _) hi; simpa using this, rfl, HR.out, only_setCell (only_refl _ _) (.inl rfl) _⟩
  · rw [show ((0 : Nat) : Int) = 0 from rfl] at h1
    rw [h1] at HI
    have H2 := Lib.hid h2
    clear hr h1 h2
    go_enter Try.func29, Try.ntmps29
    go_wp2_with fail
    refine HI.out.mono ?_
    rintro e w1 ⟨rfl, rfl⟩
    go_wp2
    go_ret2
    exact .inl ⟨fun i hi => by have := H2.out i (Nat.zero_le _) hi; simpa using this, rfl, rfl⟩
end Go.Proofs.Ytffdklcpkkcohaa
