/- Contracts of package fd's methods: Clone, All, Len, Uses. -/
import Derived.Test.YtegeonompkgpeaaFd2
import Derived.Deep.WholeRow
namespace Go.Proofs.Ytegeonompkgpeaa
open Go.RowKit

def ClonePost (st : Nat → Fd) (w : World) (e : Ending) (w' : World) : Prop := ∃ b', e = .returned (.pointer (some ⟨b', 0, none⟩)) ∧ w.heap.size ≤ b' ∧ FdsAt w' b' st ∧ Below w.heap.size w w'
theorem fdsAt_made {w : World} {b : Nat} {st : Nat → Fd} {cs : Array Value} (h : w.heap[b]? = some (.cells cs 52 (0, 0))) (h2 : cs.size = 192)
    (h3 : ∀ i, i < 64 → cs[i * 3]? = some (.int .i64 (st i).ino) ∧ cs[i * 3 + 1]? = some (.int .i64 (st i).flags) ∧ cs[i * 3 + 2]? = some (.int .i64 (st i).pos)) : FdsAt w b st :=
  ⟨(Array.getElem?_eq_some_iff.1 h).1, cs, h, h2, h3⟩
theorem oneCell_of {cs : Array Value} {st : Nat → Fd} (h2 : cs.size = 192)
    (h3 : ∀ i, i < 64 → cs[i * 3]? = some (.int .i64 (st i).ino) ∧ cs[i * 3 + 1]? = some (.int .i64 (st i).flags) ∧ cs[i * 3 + 2]? = some (.int .i64 (st i).pos)) : cs.all (·.oneCell') = true := by
  rw [Array.all_eq_true]
  intro i hi
  obtain ⟨a, b, c⟩ := h3 (i / 3) (by omega)
  have h : i = i / 3 * 3 ∨ i = i / 3 * 3 + 1 ∨ i = i / 3 * 3 + 2 := by omega
  have e : cs[i]? = some cs[i] := Array.getElem?_eq_getElem hi
  rcases h with h | h | h
  · rw [← h, e] at a; injection a with a; rw [a]; rfl
  · rw [← h, e] at b; injection b with b; rw [b]; rfl
  · rw [← h, e] at c; injection c with c; rw [c]; rfl
theorem clone_any (b : Nat) (st : Nat → Fd) (w : World) (hf : FdsAt w b st) :
    Calls Try.prog 17 #[.pointer (some ⟨b, 0, none⟩)] w (ClonePost st w) := by
  obtain ⟨hlt, cs, hh, h2, h3⟩ := hf
  have hi : (Try.prog.info? 52).map (·.size) = some cs.size := by rw [h2]; kernel_rfl
  have hs := run_storeCells_new (P := Try.prog) w 52 fdsCells cs hi (by rw [h2]; simp [fdsCells]) (oneCell_of h2 h3)
  have HI := Lib.hid hi
  have H3 := Lib.hid h3
  have H2 := Lib.hid h2
  clear h2 h3 hi
  go_enter Try.func17, Try.ntmps17
  have hz := build52
  go_wp2_with (refine wpList_load_row rfl 52 (.tmp 7) rfl b rfl 52 cs (0, 0) _ hh Try.underlying52 rfl HI.out ?_)
  go_ret
  exact ⟨_, rfl, Nat.le_refl _, fdsAt_made (heap_alloc_new w _) H2.out H3.out, (Below.refl _ _).alloc (Nat.le_refl _) _⟩

/-- the numbers below k that are open -/
def openL (st : Nat → Fd) (k : Nat) : List Int := ((List.range k).filter (fun i => (st i).ino != 0)).map Int.ofNat
theorem openL_succ (st : Nat → Fd) (k : Nat) : openL st (k + 1) = openL st k ++ (if (st k).ino = 0 then [] else [(k : Int)]) := by
  unfold openL
  rw [List.range_succ, List.filter_append, List.map_append]
  by_cases h : (st k).ino = 0 <;> simp [h]
theorem openL_len (st : Nat → Fd) (k : Nat) : (openL st k).length ≤ k := by
  unfold openL
  rw [List.length_map]
  exact Nat.le_trans (List.length_filter_le _ _) (Nat.le_of_eq List.length_range)
abbrev i64s (l : List Int) : List Value := l.map (Value.int .i64)
def AllPost (st : Nat → Fd) (w : World) (e : Ending) (w' : World) : Prop :=
  ∃ v, e = .returned v ∧ w'.ownsRow w.heap.size 3 1 v (openL st 64).length (i64s (openL st 64)) ∧ Below w.heap.size w w'
theorem part42 {cs : Array Value} {st : Nat → Fd} {k : Nat} (hk : k < 64) (h2 : cs.size = 192)
    (h3 : cs[k * 3]? = some (.int .i64 (st k).ino) ∧ cs[k * 3 + 1]? = some (.int .i64 (st k).flags) ∧ cs[k * 3 + 2]? = some (.int .i64 (st k).pos)) :
    cs.extract (k * 3) (k * 3 + 3) = #[.int .i64 (st k).ino, .int .i64 (st k).flags, .int .i64 (st k).pos] := by
  apply Array.ext_getElem?
  intro i
  rw [Array.getElem?_extract]
  have : min (k * 3 + 3) cs.size - k * 3 = 3 := by omega
  rw [this]
  match i with
  | 0 => simpa using h3.1
  | 1 => simpa using h3.2.1
  | 2 => simpa using h3.2.2
  | i + 3 => rw [if_neg (by omega)]; simp
theorem info3 : (Try.prog.info? 3).map (fun i => (i.zero, i.size, i.bytes)) = some (some (.int .i64 0), 1, 8) := by kernel_rfl
theorem info42 : (Try.prog.info? 42).map (·.size) = some 3 := by kernel_rfl
theorem idx50 {cs : Array Value} {st : Nat → Fd} {k : Nat} (hk : k < 64) (h2 : cs.size = 192)
    (h3 : cs[k * 3]? = some (.int .i64 (st k).ino) ∧ cs[k * 3 + 1]? = some (.int .i64 (st k).flags) ∧ cs[k * 3 + 2]? = some (.int .i64 (st k).pos)) (w : World) :
    (Instr.index 50 (.agg cs) (.int .i64 k)).run Try.prog w = .ok (.agg #[.int .i64 (st k).ino, .int .i64 (st k).flags, .int .i64 (st k).pos]) w := by
  have he := part42 hk h2 h3
  have hu := Try.underlying50
  have hu' := Try.underlying42
  cases hq : Try.prog.info? 42 with
  | none => have := info42; simp [hq] at this
  | some i =>
    have hs : i.size = 3 := by have := info42; simpa [hq] using this
    simp [Instr.index, asIntOf, run_underlying hu, part, isAgg, run_underlying hu', sizeOf, typeInfo, hq, hs, he, hk]

theorem openL_own {st : Nat → Fd} {k : Nat} {w : World} {B : Nat} {v : Value} (hs : openL st (k + 1) = openL st k ++ (if (st k).ino = 0 then [] else [(k : Int)])) (hz : ¬ (st k).ino = 0)
    (h : w.ownsRow B 3 1 v ((openL st k).length + 1) (i64s (openL st k) ++ [.int .i64 k])) : w.ownsRow B 3 1 v (openL st (k + 1)).length (i64s (openL st (k + 1))) := by
  rw [hs, if_neg hz]
  simpa [i64s] using h
set_option maxHeartbeats 400000 in
theorem all_any (b : Nat) (st : Nat → Fd) (w : World) (hf : FdsAt w b st) :
    Calls Try.prog 24 #[.pointer (some ⟨b, 0, none⟩)] w (AllPost st w) := by
  obtain ⟨hlt, cs, hh, h2, h3⟩ := hf
  have hi : (Try.prog.info? 50).map (·.size) = some cs.size := by rw [h2]; kernel_rfl
  have HI := Lib.hid hi
  have H3 := Lib.hid h3
  have H2 := Lib.hid h2
  clear h2 h3 hi
  obtain ⟨i0, hi, hz0, hz1, hz2⟩ := info_parts info3
  go_enter Try.func24, Try.ntmps24
  go_wp2_with (refine wpList_load_row rfl 50 (.tmp 10) rfl b rfl 52 cs (0, 0) _ hh Try.underlying50 rfl HI.out ?_)
  go_loopw [3, 12] (fun v i wr => ∃ k : Nat, k ≤ 64 ∧ i = .int .i64 k ∧ wr.ownsRow w.heap.size 3 1 v (openL st k).length (i64s (openL st k)) ∧ Below w.heap.size w wr) (fun _ i _ => 64 - (intOf i).toNat)
  case atStart => exact ⟨0, by omega, rfl, by simpa [openL] using World.ownsRow_nil w w.heap.size 3 1, Below.refl _ _⟩
  case round =>
    obtain ⟨k, hk, rfl, hown, hbel⟩ := hrel
    by_cases hk64 : k < 64
    · have hidx := idx50 hk64 H2.out (H3.out k hk64)
      have HS := Lib.hid (openL_succ st k)
      have hL := openL_len st k
      have hsz := hbel.size
      by_cases hz : (st k).ino = 0
      · have hz' : ((st k).ino != 0) = false := by simp [hz]
        have HZ := Lib.hid hz
        clear hz
        go_wp2
        go_roundw
        case rel => exact ⟨k + 1, by omega, by go_num, by rw [HS.out, if_pos HZ.out, List.append_nil]; exact hown.alloc _, hbel.alloc hbel.size _⟩
        case measure => simp [intOf]; omega
      · have hz' : ((st k).ino != 0) = true := by simp [hz]
        have HZ := Lib.hid hz
        clear hz
        go_wp2_with (at_builtin; refine wpList_append_own _ rfl _ _ 48 rfl w.heap.size 3 i0 (.int .i64 0) 1 8 Try.underlying48 hi hz0 hz1 hz2 rfl (by decide) _ _ _ rfl ((hown.alloc _).alloc _) ⟨wr.heap.size + 1, 0, none⟩ 1 1 [.int .i64 k] rfl rfl (cell_one_at (wr.alloc _) _ _ _ (by simp)) (fun u hu => by simp at hu; subst hu; rfl) (by unfold maxLen; omega) (by omega) (by simp; omega) ?_; intro v' w1 hown1 hgrow1 _; have hb1 : Below w.heap.size w w1 := ((hbel.alloc hsz _).alloc (by simp; omega) _).grown hgrow1 (by simp; omega) (fun q hq => (hown.lt q hq).1); have hw1 : w1.ownsRow w.heap.size 3 1 v' (openL st (k + 1)).length (i64s (openL st (k + 1))) := openL_own HS.out HZ.out hown1; clear hown hown1 hgrow1)
        go_roundw
        case rel => exact ⟨k + 1, by omega, by go_num, hw1, hb1⟩
        case measure => simp [intOf]; omega
    · go_wp2
      go_ret
      have : k = 64 := by omega
      subst this
      exact ⟨_, rfl, hown, hbel⟩
end Go.Proofs.Ytegeonompkgpeaa
