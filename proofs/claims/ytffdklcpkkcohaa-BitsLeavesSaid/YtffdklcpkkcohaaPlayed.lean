/- 'played' of the bits' laws: a map and a list of bools on which the same was done stand alike. -/
import Derived.Test.YtffdklcpkkcohaaBsays
namespace Go.Proofs.Ytffdklcpkkcohaa
open Go.RowKit

structure Act3 where
  kind : Int
  a : Int
  b : Int
/-- a slice of acts that came in -/
def Acts (w : World) (a : Option Addr) (len : Nat) (xs : Nat → Act3) : Prop :=
  0 < len → ∃ b0 off, a = some ⟨b0, off, none⟩ ∧ b0 < w.heap.size ∧ ∀ i, i < len →
    w.cell? ⟨b0, off + i * 3, none⟩ = some (.int .i64 (xs i).kind) ∧ w.cell? ⟨b0, off + i * 3 + 1, none⟩ = some (.int .i64 (xs i).a) ∧ w.cell? ⟨b0, off + i * 3 + 2, none⟩ = some (.int .i64 (xs i).b)
theorem Acts.below {w w' : World} {a : Option Addr} {len : Nat} {xs : Nat → Act3} (h : Acts w a len xs) (hb : Below w.heap.size w w') : Acts w' a len xs := by
  intro hn
  obtain ⟨b0, off, rfl, h0, hc⟩ := h hn
  refine ⟨b0, off, rfl, Nat.lt_of_lt_of_le h0 hb.size, fun i hi => ?_⟩
  obtain ⟨c0, c1, c2⟩ := hc i hi
  exact ⟨(hb.cell (p := ⟨b0, off + i * 3, none⟩) h0).trans c0, (hb.cell (p := ⟨b0, off + i * 3 + 1, none⟩) h0).trans c1, (hb.cell (p := ⟨b0, off + i * 3 + 2, none⟩) h0).trans c2⟩
theorem map_bools_ne {w : World} {b bb n g m : Nat} {k k' : Nat → Bool} (h : MapAt w b bb n k) (h' : BoolsAt w g m k') : g ≠ b ∧ g ≠ bb := by
  obtain ⟨_, _, _, _, _, cap, cur, e1, e2, _⟩ := h
  obtain ⟨_, _, cur', f1, _⟩ := h'
  constructor
  · rintro rfl; rw [e1] at f1; cases f1
  · rintro rfl; rw [e2] at f1; cases f1
section
variable (b bb n : Nat) (k : Nat → Bool) (w : World)
theorem set_in (p : Nat) (hp : p < n) (hm : MapAt w b bb n k) : Calls Try.prog 43 #[.pointer (some ⟨b, 0, none⟩), .int .i64 p] w fun e w' => e = .returned (.bool (!k p)) ∧ MapAt w' b bb n (setK k p true) ∧ w.grownBy w' (some bb) := by
  refine (set_any b bb n k w p hm).mono ?_
  rintro e w' ⟨rfl, h1, h2⟩
  refine ⟨ret_bool ?_, ?_, h2⟩
  · rw [decide_eq_true (by omega), decide_eq_true (by omega)]; rfl
  · unfold putI at h1; rw [if_pos (by omega)] at h1; exact h1
theorem set_out (p : Int) (hp : p < 0 ∨ (n : Int) ≤ p) (hm : MapAt w b bb n k) : Calls Try.prog 43 #[.pointer (some ⟨b, 0, none⟩), .int .i64 p] w fun e w' => e = .returned (.bool false) ∧ MapAt w' b bb n k ∧ w.grownBy w' (some bb) := by
  refine (set_any b bb n k w p hm).mono ?_
  rintro e w' ⟨rfl, h1, h2⟩
  refine ⟨ret_bool ?_, ?_, h2⟩
  · rcases hp with h | h
    · rw [decide_eq_false (by omega)]; rfl
    · rw [decide_eq_false (show ¬ p < n by omega)]; simp
  · unfold putI at h1; rw [if_neg (by omega)] at h1; exact h1
theorem clear_in (p : Nat) (hp : p < n) (hm : MapAt w b bb n k) : Calls Try.prog 44 #[.pointer (some ⟨b, 0, none⟩), .int .i64 p] w fun e w' => e = .returned (.bool (k p)) ∧ MapAt w' b bb n (setK k p false) ∧ w.grownBy w' (some bb) := by
  refine (clear_any b bb n k w p hm).mono ?_
  rintro e w' ⟨rfl, h1, h2⟩
  refine ⟨ret_bool (hasI_in n k p hp), ?_, h2⟩
  unfold putI at h1; rw [if_pos (by omega)] at h1; exact h1
theorem clear_out (p : Int) (hp : p < 0 ∨ (n : Int) ≤ p) (hm : MapAt w b bb n k) : Calls Try.prog 44 #[.pointer (some ⟨b, 0, none⟩), .int .i64 p] w fun e w' => e = .returned (.bool false) ∧ MapAt w' b bb n k ∧ w.grownBy w' (some bb) := by
  refine (clear_any b bb n k w p hm).mono ?_
  rintro e w' ⟨rfl, h1, h2⟩
  refine ⟨ret_bool ?_, ?_, h2⟩
  · rcases hp with h | h
    · rw [hasI, decide_eq_false (by omega)]; rfl
    · rw [hasI, decide_eq_false (show ¬ p < n by omega)]; simp
  · unfold putI at h1; rw [if_neg (by omega)] at h1; exact h1
theorem fill_in (f t : Nat) (h1 : f ≤ t) (h2 : t ≤ n) (hm : MapAt w b bb n k) : Calls Try.prog 53 #[.pointer (some ⟨b, 0, none⟩), .int .i64 f, .int .i64 t] w fun e w' => e = .returned (.int .i64 0) ∧ MapAt w' b bb n (fillK k f t) ∧ w.grownBy w' (some bb) := by
  refine (fill_any b bb n k w f t hm).mono ?_
  have ho : fillOk n f t = true := by unfold fillOk; rw [decide_eq_true (by omega), decide_eq_true (by omega), decide_eq_true (by omega)]; rfl
  rintro e w' ⟨rfl, h1, h2⟩
  unfold fillI at h1
  rw [ho] at h1 ⊢
  exact ⟨rfl, h1, h2⟩
theorem fill_out (f t : Int) (hbad : f < 0 ∨ t < f ∨ (n : Int) < t) (hm : MapAt w b bb n k) : Calls Try.prog 53 #[.pointer (some ⟨b, 0, none⟩), .int .i64 f, .int .i64 t] w fun e w' => e = .returned (.int .i64 90) ∧ MapAt w' b bb n k ∧ w.grownBy w' (some bb) := by
  refine (fill_any b bb n k w f t hm).mono ?_
  have ho : fillOk n f t = false := by
    unfold fillOk
    rcases hbad with h | h | h
    · rw [decide_eq_false (show ¬ 0 ≤ f by omega)]; rfl
    · rw [decide_eq_false (show ¬ f ≤ t by omega)]; simp
    · rw [decide_eq_false (show ¬ t ≤ n by omega)]; simp
  rintro e w' ⟨rfl, h1, h2⟩
  unfold fillI at h1
  rw [ho] at h1 ⊢
  exact ⟨rfl, h1, h2⟩
end
/-- how both stand -/
structure Both (w wr : World) (b bb g n : Nat) (k : Nat → Bool) : Prop where
  map : MapAt wr b bb n k
  bools : BoolsAt wr g n k
  newb : w.heap.size ≤ b
  newbb : w.heap.size ≤ bb
  newg : w.heap.size ≤ g
  below : Below w.heap.size w wr
section
variable {w wr w' : World} {b bb g n : Nat} {k k' : Nat → Bool}
theorem Both.drewN (h : Both w wr b bb g n k) (m : Nat) : Both w (wr.drewN m) b bb g n k := ⟨h.map.drewN m, h.bools.drewN m, h.newb, h.newbb, h.newg, below_drewN h.below m⟩
theorem Both.congr (h : Both w wr b bb g n k) (hk : ∀ i, k i = k' i) : Both w wr b bb g n k' := by
  have : k = k' := funext hk
  subst this; exact h
/-- behind a step on the map, and the same on the list -/
theorem Both.step (h : Both w wr b bb g n k) (_hm : MapAt w' b bb n k') (hg : wr.grownBy w' (some bb)) : BoolsAt w' g n k ∧ Below w.heap.size w w' :=
  ⟨h.bools.only hg (fun e => (map_bools_ne h.map h.bools).2 (by injection e)), h.below.grown hg h.below.size (fun q hq => by cases hq; exact h.newbb)⟩
theorem Both.set (h : Both w wr b bb g n k) (hm : MapAt w' b bb n k') (hg : wr.grownBy w' (some bb)) {p : Nat} {v : Bool} (hp : p < n) (hk : ∀ i, setK k p v i = k' i) : Both w (w'.setCell ⟨g, p, none⟩ (.bool v)) b bb g n k' := by
  obtain ⟨h1, h2⟩ := h.step hm hg
  have hne := map_bools_ne hm h1
  refine ⟨hm.of_blocks (Below.heap_setCell _ _ _ _ (fun e => hne.1 e.symm)) (Below.heap_setCell _ _ _ _ (fun e => hne.2 e.symm)), (h1.set hp v).congr (fun i _ => hk i), h.newb, h.newbb, h.newg, h2.setCell (by exact h.newg) _⟩
theorem Both.same (h : Both w wr b bb g n k) (hm : MapAt w' b bb n k) (hg : wr.grownBy w' (some bb)) : Both w w' b bb g n k := by
  obtain ⟨h1, h2⟩ := h.step hm hg
  exact ⟨hm, h1, h.newb, h.newbb, h.newg, h2⟩
/-- a copy is taken, the old one changed -/
theorem Both.turn {w1 : World} {b' bb' : Nat} {k2 : Nat → Bool} (h : Both w wr b bb g n k) (hm : MapAt w1 b' bb' n k) (hb : wr.heap.size ≤ b') (hbb : wr.heap.size ≤ bb') (hB : Below wr.heap.size wr w1) (_hm2 : MapAt w' b bb n k2) (hg : w1.grownBy w' (some bb)) : Both w w' b' bb' g n k := by
  have hs := h.below.size
  have hl := h.map.2.1
  have hm' := hm.only hg (fun e => by injection e; omega) (fun e => by injection e; omega)
  have hB1 := below_trans' h.below hB
  have hb1 := (h.bools.below hB).only hg (fun e => (map_bools_ne h.map h.bools).2 (by injection e))
  exact ⟨hm', hb1, by omega, by omega, h.newg, hB1.grown hg hB1.size (fun q hq => by cases hq; exact h.newbb)⟩
end
end Go.Proofs.Ytffdklcpkkcohaa
