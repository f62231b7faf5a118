/- a set of blocks that a call has made: a map of bools. -/
import Derived.Maps.Own
import Derived.Maps.OwnSet
import Derived.Maps.Ext
import Derived.Test.YtffdklcpkkcohaaRoom5
namespace Go.Proofs.Ytffdklcpkkcohaa
open Go.RowKit
theorem key46 (p : Nat) (hp : p < 4294967296) : keyOf Try.prog 46 (.int .u32 p) = some (.int .u32 p) :=
  Maps.keyOf_int_mk Try.underlying46 (by simp [Lit.wf, IntKind.min, IntKind.max, IntKind.signed, IntKind.bits]; omega)
theorem plainElem_bool_inv {H : Type} {P : Program} {e : TypeId} (he : P.underlying e = some .bool) {v : Value} {z : DataW H × List MemPlace} (h : plainElem P e v = some z) : ∃ x, v = .bool x ∧ z = (.lit (.bool x), []) := by
  unfold plainElem at h
  rw [he] at h
  cases v <;> simp at h
  exact ⟨_, rfl, h.symm⟩
/-- block b is a map that holds true at just the blocks of T -/
def SetAt (w : World) (b m : Nat) (T : Nat → Bool) : Prop :=
  ∃ D : DataW Unit, w.ownsMap Try.prog 46 (plainElem Try.prog 4) b m D ∧ ∀ p : Nat, p < 4294967296 → D.atKey (.int .u32 p) (.lit (.bool false)) = .lit (.bool (T p))
section
variable {w w' : World} {b m : Nat} {T : Nat → Bool}
theorem setAt_made (w : World) : SetAt (w.alloc (.map #[] 0)) w.heap.size 0 (fun _ => false) :=
  ⟨_, World.ownsMap_made w Try.prog 46 _, fun _ _ => rfl⟩
theorem SetAt.kept {row : Option Nat} (h : SetAt w b m T) (hg : w.grownBy w' row) (hne : some b ≠ row) : SetAt w' b m T := by
  obtain ⟨D, h1, h2⟩ := h
  exact ⟨D, h1.kept hg hne, h2⟩
theorem SetAt.lt (h : SetAt w b m T) : b < w.heap.size := by obtain ⟨D, h1, _⟩ := h; exact h1.lt
theorem SetAt.below (h : SetAt w b m T) (hb : Below w.heap.size w w') : SetAt w' b m T := h.kept (only_of_below hb none) (by simp)
theorem SetAt.look (h : SetAt w b m T) (p : Nat) (hp : p < 4294967296) : (Instr.lookup 50 (.map (some b)) (.int .u32 p) false).run Try.prog w = .ok (.bool (T p)) w := by
  obtain ⟨D, h1, h2⟩ := h
  obtain ⟨v, ps, hrun, hv⟩ := h1.lookup (Maps.int_keyed Try.underlying46) Try.underlying50 (z := .bool false) (Try.zeroValue4 w) (plainElem_bool Try.underlying4 false) (key46 p hp)
  rw [h2 p hp] at hv
  obtain ⟨x, rfl, hx⟩ := plainElem_bool_inv Try.underlying4 hv
  simp only [Prod.mk.injEq, DataW.lit.injEq, Lit.bool.injEq] at hx
  rw [hx.1]
  exact hrun
theorem SetAt.put (h : SetAt w b m T) (hm : m < maxLen) (p : Nat) (hp : p < 4294967296) : ∃ w', (Instr.mapUpdate 50 (.map (some b)) (.int .u32 p) (.bool true)).run Try.prog w = .ok () w' ∧ SetAt w' b (m + 1) (setK T p true) ∧ w.grownBy w' (some b) := by
  obtain ⟨D, h1, h2⟩ := h
  obtain ⟨w', hrun, ho, hg⟩ := h1.update (Maps.int_keyed Try.underlying46) Try.underlying50 hm (key46 p hp) (plainElem_bool Try.underlying4 true)
  refine ⟨w', hrun, ⟨_, ho, fun q hq => ?_⟩, hg⟩
  unfold setK
  by_cases e : q = p
  · subst e
    rw [if_pos rfl]
    exact Maps.atKey_put_same h1.isMap ((Maps.int_keyed Try.underlying46).key (key46 q hq)) _ _
  · rw [if_neg e, ← h2 q hq]
    exact Maps.atKey_put_other (by simp; exact fun h => e (by omega)) _ _
end
end Go.Proofs.Ytffdklcpkkcohaa
