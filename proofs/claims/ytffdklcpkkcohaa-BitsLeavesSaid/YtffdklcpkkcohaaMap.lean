/- Contracts of package bits' functions on one map. -/
import Derived.Test.YtffdklcpkkcohaaProg
import Derived.Test.YtffdklcpkkcohaaBase
import Derived.Test.YtffdklcpkkcohaaBitsMath
import Derived.Outline
import Derived.WalkLawsBesides
import Derived.WalkSpells
import Derived.RegionTactic
import Derived.ChangeAlike
import Derived.Deep.MidRow
import Derived.Laws.OwnMore
import Derived.Deep.QuietTactic
import Derived.BigQuiet
import Derived.Deep.RegionWith
namespace Go.Proofs.Ytffdklcpkkcohaa
open Go.RowKit

/-- block b is a map of n bits k; its bytes lie in block bb -/
def MapAt (w : World) (b bb n : Nat) (k : Nat → Bool) : Prop :=
  b < w.heap.size ∧ bb < w.heap.size ∧ 1 ≤ n ∧ n ≤ 8192 ∧ (∀ p, n ≤ p → k p = false) ∧ ∃ cap cur, w.heap[b]? = some (.cells #[.int .i64 n, .slice (some ⟨bb, 0, none⟩) ((n + 7) / 8) cap] 121 (0, 0)) ∧
    w.heap[bb]? = some (.cells cur 5 (0, 0)) ∧ (n + 7) / 8 ≤ cur.size ∧ ∀ i, i < (n + 7) / 8 → cur[i]? = some (.int .u8 (byteVal k i))
section
variable {w w' : World} {b bb n : Nat} {k : Nat → Bool}
theorem MapAt.of_blocks (h : MapAt w b bb n k) (h1 : w'.heap[b]? = w.heap[b]?) (h2 : w'.heap[bb]? = w.heap[bb]?) : MapAt w' b bb n k := by
  obtain ⟨_, _, hn, hn', hk, cap, cur, e1, e2, r⟩ := h
  have e1' := h1.trans e1
  have e2' := h2.trans e2
  exact ⟨(Array.getElem?_eq_some_iff.1 e1').1, (Array.getElem?_eq_some_iff.1 e2').1, hn, hn', hk, cap, cur, e1', e2', r⟩
theorem MapAt.below (h : MapAt w b bb n k) (hb : Below w.heap.size w w') : MapAt w' b bb n k := h.of_blocks (hb.block b h.1) (hb.block bb h.2.1)
theorem MapAt.only {row : Option Nat} (h : MapAt w b bb n k) (hb : w.grownBy w' row) (h1 : some b ≠ row) (h2 : some bb ≠ row) : MapAt w' b bb n k := h.of_blocks (hb.block b h.1 h1) (hb.block bb h.2.1 h2)
theorem MapAt.alloc (h : MapAt w b bb n k) (o : Obj) : MapAt (w.alloc o) b bb n k := h.of_blocks (Below.heap_alloc w o b h.1) (Below.heap_alloc w o bb h.2.1)
theorem MapAt.drewN (h : MapAt w b bb n k) (m : Nat) : MapAt (w.drewN m) b bb n k := h.of_blocks rfl rfl
theorem MapAt.drew (h : MapAt w b bb n k) : MapAt w.drew b bb n k := h.of_blocks rfl rfl
theorem MapAt.ne (h : MapAt w b bb n k) : b ≠ bb := by
  rintro rfl
  obtain ⟨_, _, _, _, _, cap, cur, e1, e2, _⟩ := h
  rw [e1] at e2; cases e2
theorem MapAt.head (h : MapAt w b bb n k) : ∃ cap, w.cell? ⟨b, 0, none⟩ = some (.int .i64 n) ∧ w.cell? ⟨b, 1, none⟩ = some (.slice (some ⟨bb, 0, none⟩) ((n + 7) / 8) cap) := by
  obtain ⟨_, _, _, _, _, cap, cur, e1, e2, _⟩ := h
  exact ⟨cap, by rw [cell_of_row w b 0 _ 121 (0, 0) e1]; rfl, by rw [cell_of_row w b 1 _ 121 (0, 0) e1]; rfl⟩
theorem MapAt.byte (h : MapAt w b bb n k) {i : Nat} (hi : i < (n + 7) / 8) : w.cell? ⟨bb, i, none⟩ = some (.int .u8 (byteVal k i)) := by
  obtain ⟨_, _, _, _, _, cap, cur, e1, e2, _, h3⟩ := h
  rw [cell_of_row w bb i _ 5 (0, 0) e2]; exact h3 i hi
theorem MapAt.free (h : MapAt w b bb n k) (i : Nat) : w.frozen? ⟨bb, i, none⟩ = false := by
  obtain ⟨_, _, _, _, _, cap, cur, e1, e2, _⟩ := h
  simp [World.frozen?, e2]
theorem MapAt.set (h : MapAt w b bb n k) {p : Nat} (hp : p < n) (v : Bool) : MapAt (w.setCell ⟨bb, p / 8, none⟩ (.int .u8 (byteVal (setK k p v) (p / 8)))) b bb n (setK k p v) := by
  have hne := h.ne
  obtain ⟨h0, h1, hn, hn', hk, cap, cur, e1, e2, hs, hc⟩ := h
  have e3 := heap_setCell_same w bb (p / 8) cur 5 (.int .u8 (byteVal (setK k p v) (p / 8))) e2
  have e4 := heap_setCell_other w ⟨bb, p / 8, none⟩ b (.int .u8 (byteVal (setK k p v) (p / 8))) hne
  refine ⟨by simpa [World.setCell] using h0, by simpa [World.setCell] using h1, hn, hn', fun q hq => by unfold setK; rw [if_neg (by omega)]; exact hk q hq, cap, _, e4.trans e1, e3, by simpa using hs, fun i hi => ?_⟩
  rw [Array.getElem?_setIfInBounds]
  by_cases e : p / 8 = i
  · subst e; rw [if_pos rfl, if_pos (by omega)]
  · rw [if_neg e, byteVal_other k p i v (fun e' => e e'.symm)]; exact hc i hi
theorem MapAt.congr (h : MapAt w b bb n k) {k' : Nat → Bool} (hk : ∀ p, k p = k' p) : MapAt w b bb n k' := by
  have : k = k' := funext hk
  subst this; exact h
end

/-! New -/
def zeroK : Nat → Bool := fun _ => false
theorem byteVal_zero (i : Nat) : byteVal zeroK i = 0 := rfl
def NewPost (n : Int) (w : World) (e : Ending) (w' : World) : Prop :=
  ((n < 1 ∨ 8192 < n) ∧ e = .returned (.tuple #[.pointer none, .int .i64 1]) ∧ w = w') ∨
  (1 ≤ n ∧ n ≤ 8192 ∧ ∃ b bb, e = .returned (.tuple #[.pointer (some ⟨b, 0, none⟩), .int .i64 0]) ∧ w.heap.size ≤ b ∧ w.heap.size ≤ bb ∧ MapAt w' b bb n.toNat zeroK ∧ Below w.heap.size w w')
theorem info5 : (Try.prog.info? 5).map (fun i => (i.zero, i.size, i.bytes)) = some (some (.int .u8 0), 1, 1) := by kernel_rfl
theorem mapAt_made (w : World) (n : Nat) (h1 : 1 ≤ n) (h2 : n ≤ 8192) (cap : Nat) :
    MapAt ((w.alloc (.cells (madeCells #[.int .u8 0] ((n + 7) / 8)) 5)).alloc (.cells #[.int .i64 n, .slice (some ⟨w.heap.size, 0, none⟩) ((n + 7) / 8) cap] 121)) (w.heap.size + 1) w.heap.size n zeroK := by
  refine ⟨by simp, by simp; omega, h1, h2, fun _ _ => rfl, cap, _, heap_alloc2_new w _ _, heap_alloc2_old w _ _, by simp [madeCells], fun i hi => ?_⟩
  rw [byteVal_zero, Array.getElem?_eq_getElem (by rw [size_madeCells]; exact hi), ← Array.getElem_toList]
  simp only [toList_madeCells_one]
  simp
theorem make119 (m : Nat) (h2 : m ≤ 8192) (w : World) : (Instr.makeSlice 119 (.int .i64 (((m : Int) + 7) / 8)) (.int .i64 (((m : Int) + 7) / 8))).run Try.prog w =
    .ok (.slice (some ⟨w.heap.size, 0, none⟩) ((m + 7) / 8) ((m + 7) / 8)) (w.alloc (.cells (madeCells #[.int .u8 0] ((m + 7) / 8)) 5)) := by
  obtain ⟨i0, hi, hz0, hz1, hz2⟩ := info_parts info5
  have hr := run_make (P := Try.prog) w 119 5 i0 (.int .u8 0) Try.underlying119 hi hz0 .i64 .i64 (((m : Int) + 7) / 8) (((m : Int) + 7) / 8) (by omega) (by omega) (by rw [hz2]; omega) (by omega)
  rw [hz1] at hr
  have e : ((((m : Int) + 7) / 8)).toNat = (m + 7) / 8 := by omega
  rw [e, Nat.mul_one] at hr
  exact hr
theorem new_any (n : Int) (w : World) : Calls Try.prog 49 #[.int .i64 n] w (NewPost n w) := by
  by_cases h1 : n < 1
  · go_enter Try.func49, Try.ntmps49
    go_wp2
    go_ret2
    exact .inl ⟨.inl h1, rfl, rfl⟩
  by_cases h2 : 8192 < n
  · go_enter Try.func49, Try.ntmps49
    go_wp2
    go_ret2
    exact .inl ⟨.inr h2, rfl, rfl⟩
  obtain ⟨m, rfl⟩ := Int.eq_ofNat_of_zero_le (by omega : 0 ≤ n)
  have hm := make119 m (by omega)
  go_enter Try.func49, Try.ntmps49
  go_wp2
  go_ret2
  exact .inr ⟨by omega, by omega, _, _, rfl, by omega, by omega, mapAt_made w m (by omega) (by omega) _, ((Below.refl _ _).alloc (Nat.le_refl _) _).alloc (by simp) _⟩

/-! Size, in, Has, Set, Clear -/
section
variable (b bb n : Nat) (k : Nat → Bool) (w : World)
theorem size_any (hm : MapAt w b bb n k) : Calls Try.prog 50 #[.pointer (some ⟨b, 0, none⟩)] w fun e w' => e = .returned (.int .i64 n) ∧ w = w' := by
  obtain ⟨cap, h0, h1⟩ := hm.head
  go_enter Try.func50, Try.ntmps50
  go_wp2
  go_ret
  exact ⟨rfl, rfl⟩
theorem in_yes (p : Nat) (hm : MapAt w b bb n k) (hp : p < n) : Calls Try.prog 68 #[.pointer (some ⟨b, 0, none⟩), .int .i64 p] w fun e w' => e = .returned (.bool true) ∧ w = w' := by
  have hn := hm.2.2.2.1
  go_enter Try.func68, Try.ntmps68
  go_wp2_with (go_at_call 50; refine (size_any b bb n k _ hm).mono ?_; rintro e w' ⟨rfl, rfl⟩)
  go_ret
  exact ⟨ret_bool (by simp <;> omega), rfl⟩
theorem in_no (p : Int) (hm : MapAt w b bb n k) (hp : p < 0 ∨ (n : Int) ≤ p) : Calls Try.prog 68 #[.pointer (some ⟨b, 0, none⟩), .int .i64 p] w fun e w' => e = .returned (.bool false) ∧ w = w' := by
  have hn := hm.2.2.2.1
  rcases hp with hp | hp
  · go_enter Try.func68, Try.ntmps68
    go_wp2_with (go_at_call 50; refine (size_any b bb n k _ hm).mono ?_; rintro e w' ⟨rfl, rfl⟩)
    go_ret
    exact ⟨rfl, rfl⟩
  · by_cases h0 : p < 0
    · omega
    go_enter Try.func68, Try.ntmps68
    go_wp2_with (go_at_call 50; refine (size_any b bb n k _ hm).mono ?_; rintro e w' ⟨rfl, rfl⟩)
    go_ret
    exact ⟨ret_bool (by simp <;> omega), rfl⟩
theorem pow_cast : ∀ q : Fin 8, ((2 : Int) ^ q.val % 256) = ((2 ^ q.val : Nat) : Int) := by decide +kernel
theorem div_cast (V q : Nat) : ((V : Int) / 2 ^ q) = ((V / 2 ^ q : Nat) : Int) := by simp
theorem has_in (p : Nat) (hm : MapAt w b bb n k) (hp : p < n) : Calls Try.prog 52 #[.pointer (some ⟨b, 0, none⟩), .int .i64 p] w fun e w' => e = .returned (.bool (k p)) ∧ w = w' := by
  have hn := hm.2.2.2.1
  obtain ⟨cap, h0, h1⟩ := hm.head
  have hc := hm.byte (i := p / 8) (by omega)
  have hV := byteVal_lt k (p / 8)
  have hbit : (byteVal k (p / 8)).testBit (p % 8) = k p := by rw [byteVal_bit k _ _ (by omega), show 8 * (p / 8) + p % 8 = p by omega]
  have ha := (u8_ops ⟨_, hV⟩ ⟨p % 8, by omega⟩).1
  have e7 := and_seven p (by omega)
  simp only [hbit] at ha
  rw [← div_cast] at ha
  generalize byteVal k (p / 8) = V at *
  have hq : p % 8 < 8 := by omega
  generalize p % 8 = q at *
  clear hbit
  cases hk : k p
  · rw [hk] at ha
    have ha' : bits .and .u8 ((V : Int) / 2 ^ q) 1 = 0 := ha
    clear ha hk
    go_enter Try.func52, Try.ntmps52
    go_wp2_with (go_at_call 68; refine (in_yes b bb n k _ p hm hp).mono ?_; rintro e w' ⟨rfl, rfl⟩)
    go_ret
    exact ⟨rfl, rfl⟩
  · rw [hk] at ha
    have ha' : bits .and .u8 ((V : Int) / 2 ^ q) 1 = 1 := ha
    clear ha hk
    go_enter Try.func52, Try.ntmps52
    go_wp2_with (go_at_call 68; refine (in_yes b bb n k _ p hm hp).mono ?_; rintro e w' ⟨rfl, rfl⟩)
    go_ret
    exact ⟨rfl, rfl⟩
theorem has_out (p : Int) (hm : MapAt w b bb n k) (hp : p < 0 ∨ (n : Int) ≤ p) : Calls Try.prog 52 #[.pointer (some ⟨b, 0, none⟩), .int .i64 p] w fun e w' => e = .returned (.bool false) ∧ w = w' := by
  go_enter Try.func52, Try.ntmps52
  go_wp2_with (go_at_call 68; refine (in_no b bb n k _ p hm hp).mono ?_; rintro e w' ⟨rfl, rfl⟩)
  go_ret
  exact ⟨rfl, rfl⟩
/-- is there a one at a place? -/
def hasI (n : Nat) (k : Nat → Bool) (p : Int) : Bool := decide (0 ≤ p) && decide (p < n) && k p.toNat
theorem has_any (p : Int) (hm : MapAt w b bb n k) : Calls Try.prog 52 #[.pointer (some ⟨b, 0, none⟩), .int .i64 p] w fun e w' => e = .returned (.bool (hasI n k p)) ∧ w = w' := by
  by_cases h : p < 0 ∨ (n : Int) ≤ p
  · refine (has_out b bb n k w p hm h).mono ?_
    rintro e w' ⟨rfl, rfl⟩
    refine ⟨ret_bool ?_, rfl⟩
    rcases h with h | h
    · rw [hasI, decide_eq_false (by omega)]; rfl
    · rw [hasI, decide_eq_false (show ¬ p < n by omega)]; simp
  · obtain ⟨q, rfl⟩ := Int.eq_ofNat_of_zero_le (by omega : 0 ≤ p)
    refine (has_in b bb n k w q hm (by omega)).mono ?_
    rintro e w' ⟨rfl, rfl⟩
    refine ⟨ret_bool ?_, rfl⟩
    rw [hasI, decide_eq_true (by omega), decide_eq_true (by omega)]; rfl

/-- what a Set leaves -/
def putI (n : Nat) (k : Nat → Bool) (p : Int) (v : Bool) : Nat → Bool := if 0 ≤ p ∧ p < n then setK k p.toNat v else k
theorem set_same (k : Nat → Bool) (p : Nat) : ∀ i, setK k p (k p) i = k i := by
  intro i; unfold setK; split
  · rename_i h; rw [h]
  · rfl
def SetPost (b bb n : Nat) (k : Nat → Bool) (p : Int) (w : World) (e : Ending) (w' : World) : Prop :=
  e = .returned (.bool (decide (0 ≤ p) && decide (p < n) && !k p.toNat)) ∧ MapAt w' b bb n (putI n k p true) ∧ w.grownBy w' (some bb)
set_option maxHeartbeats 400000 in
theorem set_any (p : Int) (hm : MapAt w b bb n k) : Calls Try.prog 43 #[.pointer (some ⟨b, 0, none⟩), .int .i64 p] w (SetPost b bb n k p w) := by
  have hn := hm.2.2.2.1
  by_cases h : p < 0 ∨ (n : Int) ≤ p
  · have e0 : putI n k p true = k := by unfold putI; rw [if_neg (by omega)]
    have e1 : (decide (0 ≤ p) && decide (p < n) && !k p.toNat) = false := by
      rcases h with h | h
      · rw [decide_eq_false (by omega)]; rfl
      · rw [decide_eq_false (show ¬ p < n by omega)]; simp
    have E0 := Lib.hid e0
    have E1 := Lib.hid e1
    clear e0 e1
    go_enter Try.func43, Try.ntmps43
    go_wp2_with (go_at_call 68; refine (in_no b bb n k _ p hm h).mono ?_; rintro e w' ⟨rfl, rfl⟩)
    go_ret
    exact ⟨by rw [E1.out]; rfl, by rw [E0.out]; exact hm, only_refl _ _⟩
  obtain ⟨p, rfl⟩ := Int.eq_ofNat_of_zero_le (by omega : 0 ≤ p)
  have hp : p < n := by omega
  have e0 : putI n k p true = setK k p true := by unfold putI; rw [if_pos (by omega)]; rfl
  have e1 : (decide (0 ≤ (p : Int)) && decide ((p : Int) < n) && !k (p : Int).toNat) = !k p := by rw [decide_eq_true (by omega), decide_eq_true (by omega)]; rfl
  have E0 := Lib.hid e0
  have E1 := Lib.hid e1
  clear e0 e1 h
  have HH := Lib.hid (has_in b bb n k w p hm hp)
  cases hk : k p
  · rw [hk] at HH E1
    obtain ⟨cap, h0, h1⟩ := hm.head
    have hc := hm.byte (i := p / 8) (by omega)
    have hf := hm.free (p / 8)
    have hV := byteVal_lt k (p / 8)
    have ha := (u8_ops ⟨_, hV⟩ ⟨p % 8, by omega⟩).2.1
    have hset := byteVal_set k p
    have hM := hm.set hp true
    rw [← hset] at hM
    have hbb := hm.2.1
    simp only at ha
    rw [← pow_cast ⟨p % 8, by omega⟩] at ha
    simp only at ha
    have e7 := and_seven p (by omega)
    generalize byteVal k (p / 8) = V at *
    have hq : p % 8 < 8 := by omega
    generalize p % 8 = q at *
    generalize V ||| 2 ^ q = V' at *
    have HM := Lib.hid hM
    clear hset hM hk
    go_enter Try.func43, Try.ntmps43
    go_wp2_with (first | (go_at_call 68; refine (in_yes b bb n k _ p hm hp).mono ?_; rintro e w' ⟨rfl, rfl⟩) | (go_at_call 52; refine HH.out.mono ?_; rintro e w' ⟨rfl, rfl⟩))
    go_region
    go_wp2
    go_ret
    exact ⟨by rw [E1.out]; rfl, by rw [E0.out]; exact HM.out.drew, only_drew (only_setCell (only_refl _ _) (.inl rfl) _)⟩
  · rw [hk] at HH E1
    have hM := hm.congr (k' := setK k p true) (fun i => by have := set_same k p i; rw [hk] at this; exact this.symm)
    have HM := Lib.hid hM
    clear hM hk
    go_enter Try.func43, Try.ntmps43
    go_wp2_with (first | (go_at_call 68; refine (in_yes b bb n k _ p hm hp).mono ?_; rintro e w' ⟨rfl, rfl⟩) | (go_at_call 52; refine HH.out.mono ?_; rintro e w' ⟨rfl, rfl⟩))
    go_ret
    exact ⟨by rw [E1.out]; rfl, by rw [E0.out]; exact HM.out, only_refl _ _⟩
def ClearPost (b bb n : Nat) (k : Nat → Bool) (p : Int) (w : World) (e : Ending) (w' : World) : Prop :=
  e = .returned (.bool (hasI n k p)) ∧ MapAt w' b bb n (putI n k p false) ∧ w.grownBy w' (some bb)
set_option maxHeartbeats 400000 in
theorem clear_any (p : Int) (hm : MapAt w b bb n k) : Calls Try.prog 44 #[.pointer (some ⟨b, 0, none⟩), .int .i64 p] w (ClearPost b bb n k p w) := by
  have hn := hm.2.2.2.1
  have HH := Lib.hid (has_any b bb n k w p hm)
  cases hh : hasI n k p
  · rw [hh] at HH
    have hM : MapAt w b bb n (putI n k p false) := by
      unfold putI
      split
      · rename_i h
        refine hm.congr fun i => ?_
        have : k p.toNat = false := by rw [hasI, decide_eq_true h.1, decide_eq_true h.2] at hh; simpa using hh
        have h2 := set_same k p.toNat i; rw [this] at h2; exact h2.symm
      · exact hm
    have HM := Lib.hid hM
    have H0 := Lib.hid hh
    clear hM hh
    go_enter Try.func44, Try.ntmps44
    go_wp2_with (go_at_call 52; refine HH.out.mono ?_; rintro e w' ⟨rfl, rfl⟩)
    go_ret
    exact ⟨by rw [H0.out]; rfl, HM.out, only_refl _ _⟩
  · rw [hh] at HH
    have h2 : 0 ≤ p ∧ p < n := by
      unfold hasI at hh
      simp only [Bool.and_eq_true, decide_eq_true_eq] at hh
      exact hh.1
    obtain ⟨p, rfl⟩ := Int.eq_ofNat_of_zero_le h2.1
    have hp : p < n := by omega
    have e0 : putI n k p false = setK k p false := by unfold putI; rw [if_pos (by omega)]; rfl
    have E0 := Lib.hid e0
    have H0 := Lib.hid hh
    clear e0 h2 hh
    obtain ⟨cap, h0, h1⟩ := hm.head
    have hc := hm.byte (i := p / 8) (by omega)
    have hf := hm.free (p / 8)
    have hV := byteVal_lt k (p / 8)
    have ha := (u8_ops ⟨_, hV⟩ ⟨p % 8, by omega⟩).2.2
    have hset := byteVal_clear k p
    have hM := hm.set hp false
    rw [← hset] at hM
    have hbb := hm.2.1
    simp only at ha
    rw [← pow_cast ⟨p % 8, by omega⟩] at ha
    simp only at ha
    have e7 := and_seven p (by omega)
    generalize byteVal k (p / 8) = V at *
    have hq : p % 8 < 8 := by omega
    generalize p % 8 = q at *
    generalize V &&& (255 - 2 ^ q) = V' at *
    have HM := Lib.hid hM
    clear hset hM
    go_enter Try.func44, Try.ntmps44
    go_wp2_with (go_at_call 52; refine HH.out.mono ?_; rintro e w' ⟨rfl, rfl⟩)
    go_region
    go_wp2
    go_ret
    exact ⟨by rw [H0.out]; rfl, by rw [E0.out]; exact HM.out.drew, only_drew (only_setCell (only_refl _ _) (.inl rfl) _)⟩
end
end Go.Proofs.Ytffdklcpkkcohaa
