/- RoomMany: words of the walk. -/
import Derived.Test.YtffdklcpkkcohaaMany2
import Derived.Test.YtffdklcpkkcohaaLongest
import Derived.Test.YtffdklcpkkcohaaPlays
namespace Go.Proofs.Ytffdklcpkkcohaa
open Go.RowKit
/-- the law's argument in its box -/
def BoxI (wr : World) (k : Nat) (N : Int) (v : Value) : Prop := k < wr.heap.size ∧ wr.cell? ⟨k, 0, none⟩ = some (.int .i64 N) ∧ wr.cell? ⟨k, 1, none⟩ = some v
theorem BoxI.below {w w' : World} {k : Nat} {N : Int} {v : Value} (h : BoxI w k N v) (hb : Below w.heap.size w w') : BoxI w' k N v :=
  ⟨Nat.lt_of_lt_of_le h.1 hb.size, (hb.cell (p := ⟨k, 0, none⟩) h.1).trans h.2.1, (hb.cell (p := ⟨k, 1, none⟩) h.1).trans h.2.2⟩
theorem BoxI.only {w w' : World} {k bb : Nat} {N : Int} {v : Value} (h : BoxI w k N v) (hg : w.grownBy w' (some bb)) (hne : k ≠ bb) : BoxI w' k N v := by
  have e := hg.block k h.1 (fun e => by injection e with e; exact hne e)
  exact ⟨Nat.lt_of_lt_of_le h.1 hg.size, (World.cell?_of_block e).trans h.2.1, (World.cell?_of_block e).trans h.2.2⟩
theorem tkS_even (s : Nat → Int) {q q' : Nat} (h : (listS q s 1).length = (listS q' s 1).length) : ∀ i, tkS s q i = tkS s q' i := by
  have key : ∀ q q', q ≤ q' → (listS q s 1).length = (listS q' s 1).length → ∀ i, tkS s q i = tkS s q' i := by
    intro q q' hq h i
    obtain ⟨d, rfl⟩ : ∃ d, q' = q + d := ⟨q' - q, by omega⟩
    have h2 := (listS_even s 1 q d h).2
    unfold tkS
    by_cases a : i < q ∧ s i = 1
    · rw [if_pos a, if_pos ⟨by omega, a.2⟩]
    · rw [if_neg a, if_neg (fun b => by
        by_cases c : i < q
        · exact a ⟨c, b.2⟩
        · exact h2 i (by omega) b.1 b.2)]
  rcases Nat.le_total q q' with hq | hq
  · exact key q q' hq h
  · exact fun i => (key q' q hq h.symm i).symm
theorem tkS_nought {s : Nat → Int} (h : s 0 = 0) (q : Nat) : tkS s q 0 = 0 := by
  unfold tkS; rw [if_neg (fun e => by rw [h] at e; omega)]; exact h
theorem listS_lt (s : Nat → Int) {q q' : Nat} (h : (listS q s 1).length < (listS q' s 1).length) : q < q' := by
  apply Classical.byContradiction
  intro hc
  obtain ⟨d, rfl⟩ : ∃ d, q = q' + d := ⟨q - q', by omega⟩
  have := listS_mono s 1 q' d
  omega
def seenTo (f : Nat → Nat) (i t : Nat) : Bool := (List.range t).any fun j => f j == f i
theorem seenTo_succ (f : Nat → Nat) (i t : Nat) : seenTo f i (t + 1) = (seenTo f i t || f t == f i) := by simp [seenTo, List.range_succ]
end Go.Proofs.Ytffdklcpkkcohaa
