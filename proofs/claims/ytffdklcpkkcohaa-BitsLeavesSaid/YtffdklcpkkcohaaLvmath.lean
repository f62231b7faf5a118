/- The leaves of a map, spoilt: what is at hand for the law BitsLeaves. -/
import Derived.Test.YtffdklcpkkcohaaRfl
import Derived.Test.YtffdklcpkkcohaaBlaw
namespace Go.Proofs.Ytffdklcpkkcohaa
open Go.RowKit
theorem info78' : (Try.prog.info? 78).map (fun i => (i.zero, i.size, i.bytes)) = some (some (.agg zero256), 256, 256) := by kernel_rfl
theorem leaf_lt (K : Nat → Bool) (n i : Nat) : leafAll K n i < 256 := by
  unfold leafAll leafTo
  have h1 : ∀ k j, hdByte k j < 256 := fun k j => by
    unfold hdByte
    repeat' split
    all_goals first | omega | exact byteOf_lt _ _
  split
  · exact h1 _ _
  · split
    · exact byteVal_lt _ _
    · omega
theorem raw_leaf (k : Nat → Bool) (n i : Nat) (h : i < (n + 7) / 8) : rawB (leafAll k n) i = byteVal k i := by
  unfold rawB leafAll leafTo
  rw [if_neg (by omega), if_pos (by omega)]
  exact congrArg (byteVal k) (by omega)
theorem from_leaf (k : Nat → Bool) (n : Nat) (hk : ∀ p, n ≤ p → k p = false) : fromK (leafAll k n) n = k := by
  funext p
  unfold fromK
  by_cases h : p < n
  · rw [decide_eq_true h, raw_leaf k n (p / 8) (by omega), byteVal_bit k _ _ (by omega), show 8 * (p / 8) + p % 8 = p by omega]; rfl
  · rw [decide_eq_false h, hk p (by omega)]; rfl
theorem leafOk_leaf (k : Nat → Bool) (n : Nat) (hk : ∀ p, n ≤ p → k p = false) : leafOk n (nLeaves n) (leafAll k n) = true := by
  unfold leafOk bsame
  rw [from_leaf k n hk, decide_eq_true rfl, Bool.true_and, sameTo_iff]
  intro i _; rfl
theorem cut_all (k : Nat → Bool) (n : Nat) (hk : ∀ p, n ≤ p → k p = false) : cutK n k = k := by
  funext p
  unfold cutK
  by_cases h : p < n
  · rw [decide_eq_true h]; rfl
  · rw [hk p (by omega)]; simp
theorem lcells_congr {f g : Nat → Nat} {m : Nat} (h : ∀ i, i < 256 * m → f i = g i) : lcells f m = lcells g m := by
  apply List.ext_getElem?
  intro i
  by_cases hi : i < 256 * m
  · rw [lcells_at f m i hi, lcells_at g m i hi, h i hi]
  · rw [List.getElem?_eq_none (by rw [lcells_len]; omega), List.getElem?_eq_none (by rw [lcells_len]; omega)]
theorem lcells_set (f : Nat → Nat) (m p v : Nat) (hp : p < 256 * m) : (lcells f m).set p (.int .u8 (v : Int)) = lcells (setN f p v) m := by
  apply List.ext_getElem?
  intro i
  rw [List.getElem?_set]
  by_cases hi : i < 256 * m
  · have h1 := lcells_at f m i hi
    have h2 := lcells_at (setN f p v) m i hi
    rw [h2]
    by_cases e : p = i
    · subst e; rw [if_pos rfl, if_pos (by rw [lcells_len]; exact hi)]; unfold setN; rw [if_pos rfl]
    · rw [if_neg e, h1]; unfold setN; rw [if_neg (fun (h : i = p) => e h.symm)]
  · rw [if_neg (by omega), List.getElem?_eq_none (by rw [lcells_len]; omega), List.getElem?_eq_none (by rw [lcells_len]; omega)]
theorem own_set {w : World} {B e : Nat} {g c m p v : Nat} {f : Nat → Nat} (h : w.ownsRow B e 256 (.slice (some ⟨g, 0, none⟩) m c) m (lcells f m)) (hp : p < 256 * m) :
    (w.setCell ⟨g, p, none⟩ (.int .u8 (v : Int))).ownsRow B e 256 (.slice (some ⟨g, 0, none⟩) m c) m (lcells (setN f p v) m) := by
  rcases h.2 with ⟨e0, _⟩ | ⟨g', cap', cur, e0, hb, hg, hn, hm, hs, ht⟩
  · cases e0
  · injection e0 with e1 _ e3
    injection e1 with e1
    injection e1 with e1
    subst e1; subst e3
    refine ⟨by rw [lcells_len]; omega, .inr ⟨g, c, cur.setIfInBounds p (.int .u8 (v : Int)), rfl, hb, heap_setCell_same w g p cur e (.int .u8 (v : Int)) hg, hn, hm, by simpa using hs, ?_⟩⟩
    rw [Array.toList_setIfInBounds, List.take_set, ht]
    exact lcells_set f m p v hp
theorem own_free {w : World} {B e : Nat} {g c m : Nat} {xs : List Value} (h : w.ownsRow B e 256 (.slice (some ⟨g, 0, none⟩) m c) m xs) (p : Nat) : w.frozen? ⟨g, p, none⟩ = false := by
  rcases h.2 with ⟨e0, _⟩ | ⟨g', cap', cur, e0, hb, hg, _⟩
  · cases e0
  · injection e0 with e1 _ e3
    injection e1 with e1
    injection e1 with e1
    subst e1
    simp [World.frozen?, hg]
theorem hd4_list : hd4.toList = blkCells (headQ 0 0) 0 := by
  have hs : hd4.size = 256 := by unfold hd4; rw [zero77]; simp
  apply List.ext_getElem?
  intro i
  by_cases hi : i < 256
  · rw [Array.getElem?_toList, hd4_at 0 i hi, blkCells_at _ _ _ hi]; simp
  · rw [Array.getElem?_toList, Array.getElem?_eq_none (by omega), List.getElem?_eq_none (by rw [blkCells_len]; omega)]
def moreF (f : Nat → Nat) (m : Nat) : Nat → Nat := fun i => if i < 256 * m then f i else headQ 0 0 (i - 256 * m)
theorem moreF_lt {f : Nat → Nat} (h : ∀ i, f i < 256) (m i : Nat) : moreF f m i < 256 := by
  unfold moreF
  split
  · exact h i
  · unfold headQ hdByte
    repeat' split
    all_goals first | omega | exact byteOf_lt _ _
theorem moreF_cells (f : Nat → Nat) (m : Nat) : lcells f m ++ hd4.toList = lcells (moreF f m) (m + 1) := by
  have h1 : lcells f m = lcells (moreF f m) m := lcells_congr fun i hi => by unfold moreF; rw [if_pos hi]
  have h2 : blkCells (headQ 0 0) 0 = blkCells (moreF f m) m := by
    unfold blkCells
    apply List.map_congr_left
    intro j _
    unfold moreF
    rw [if_neg (by omega), show m * 256 + j - 256 * m = 0 * 256 + j by omega]
  rw [lcells_succ, hd4_list, h1, h2]
theorem xor_any : ∀ V : Fin 256, (V.val ^^^ 128) < 256 ∧ bits .xor .u8 (V.val : Int) 128 = ((V.val ^^^ 128 : Nat) : Int) := by decide +kernel
theorem setN_lt {f : Nat → Nat} (h : ∀ i, f i < 256) (p : Nat) {v : Nat} (hv : v < 256) (i : Nat) : setN f p v i < 256 := by
  unfold setN
  split
  · exact hv
  · exact h i
theorem wp_load_mid {a : Act} {w : World} {K : Act → World → Prop} {Q : Exit → Act → World → Prop} {o : Oper} (ty : TypeId) (x : Operand) (b off : Nat) (cs : List Value) (ho : o.op = .load ty x) (hx : a.eval x = .pointer (some ⟨b, off, none⟩))
    (hld : (loadVar ty ⟨b, off, none⟩).run Try.prog w = .ok (.agg cs.toArray) w) (hK : K (a.put o.dst (.agg cs.toArray)) w) : Oper.wp Try.prog o a w K Q := by
  unfold Oper.wp execOp
  simp only [ho, hx, Instr.loadAt, Instr.sureAddr, Sem.run_bind, Sem.run_pure, Result.andThen_ok, hld]
  exact hK
end Go.Proofs.Ytffdklcpkkcohaa
