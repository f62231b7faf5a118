/- What the abstract run says of the model: append, arm by arm. -/
import Derived.Test.YtpbjdbdlfobpmaaGreatEngR
namespace Go.Eng
open Go Go.RowKit
/-- what an operation's value, heap and world are then -/
def Ends (P : Program) (B : Nat → Prop) (ρ : Env) (w : World) (s : Sem Value) (x : AV) (h' : Hp) : Prop :=
  ∃ ρ' c w', s.run P w = .ok c w' ∧ ρ.le ρ' ∧ cv ρ' x = some c ∧ HR B ρ' h' w' ∧ Below B w w'
section
variable {Q : Tab} {B : Nat → Prop} {ρ : Env} {w : World} {h : Hp} (hQ : Q.Ok)
include hQ
theorem fitsA_ok {e size need : Nat} (hf : fitsA Q e size need = true) (hs : sizeA Q e = some size) :
    ∃ i z, Q.P.info? e = some i ∧ i.zero = some z ∧ z.cells.size = size ∧ i.size = size ∧ need ≤ 1000000 ∧ need * i.bytes ≤ 140737488355328 := by
  unfold fitsA at hf
  split at hf
  · rename_i z b hz hb
    simp only [Bool.and_eq_true, Nat.ble_eq, Nat.beq_eq] at hf
    obtain ⟨⟨h1, h2⟩, h3⟩ := hf
    obtain ⟨i, zv, k1, k2, k3⟩ := zeroA_ok hQ hz
    have hl := cvs_len (k3 (fun _ => none))
    obtain ⟨i2, k4, k5⟩ := sizeA_ok hQ hs
    rw [k1] at k4; cases k4
    unfold bytesE at hb
    split at hb
    · rename_i i3 h7
      cases hb
      rw [hQ.inf _ _ h7] at k1; cases k1
      simp at hl
      exact ⟨i, zv, hQ.inf _ _ h7, k2, by omega, k5, h2, h3⟩
    · cases hb
  · cases hf
/-- the arm that makes a new row -/
theorem grow_ok {h0 : Hp} (H : HR B ρ h w) (H0 : HR B ρ h0 w) {t tx ty e size n len cap : Nat} (ht : Q.P.underlying t = some (.slice e)) (htx : (∃ e', Q.P.underlying tx = some (.slice e')) ∨ Q.P.underlying tx = some .string) (hs : sizeA Q e = some size)
    (hf : fitsA Q e size (len + n) = true) {x y : AV} {base : Option Addr} {cy : Value} {old new : List AV} (hx : cv ρ x = some (.slice base len cap)) (hy : cv ρ y = some cy) (hlen : lenA x = some len) (hn : lenA y = some n)
    (hold : firstA h size len x = some old) (hnew : firstA h size n y = some new) (hg : cap < len + n) {r : Nat} {h' : Hp} (hr : newRowA h0 e size (old ++ new) = some (r, h')) :
    Ends Q.P B ρ w (Builtin.append_ #[t, tx] ty #[.slice base len cap, cy]) (.sl r 0 (len + n) none 0) h' := by
  obtain ⟨i, z, h1, h2, h3, h4, h5, h6⟩ := fitsA_ok hQ hf hs
  have hone := newRowA_one hr
  obtain ⟨news, k1, k2⟩ := src_ok (P := Q.P) H htx hy hn hnew (fun v hv => hone v (List.mem_append_right _ hv))
  obtain ⟨olds, k3, k4⟩ := firstA_ok (P := Q.P) H.drew hx hold
  have hol := firstA_len H hx hlen hold
  have hnl := firstA_len H hy hn hnew
  have hrun := run_append_grow_src (P := Q.P) w t tx ty e i z ht h1 h2 base len cap olds (by rw [h4]; exact k4) cy n news (by rw [h4]; exact k2) hg (by omega) (growslice_fits hg h6)
  have hge := grownCap_ge w (len + n) cap e
  have hc := cvs_app k3 k1
  have hcl := cvs_len hc
  have hcl' : (olds ++ news).length = (len + n) * size := by rw [hcl, List.length_append, hol, hnl, Nat.add_mul]
  have hsz : ((olds ++ news).toArray ++ Builtin.zeroCells z.cells (grownCap w (len + n) cap e - (len + n))).size = grownCap w (len + n) cap e * size := by
    rw [Array.size_append, zeroCells_size, h3, List.size_toArray, hcl', ← Nat.add_mul]
    congr 1; omega
  have key := newRowA_ok H0.drew hr hc ((olds ++ news).toArray ++ Builtin.zeroCells z.cells (grownCap w (len + n) cap e - (len + n))) (grownCap w (len + n) cap e) hsz
    (grownCap_le_maxLen w _ _ _ (by unfold maxLen; omega)) (fun j hj => by rw [Array.getElem?_append_left (by simpa using hj)]; simp) (by rw [Array.size_append]; simp)
  exact ⟨_, _, _, hrun, key.2.1, by simp only [cv, key.2.2.1]; rfl, key.1, (Below.refl _ _).drew.trans key.2.2.2⟩
/-- the arm that stays in its row -/
theorem stay_run {t tx ty e size n len cap b off : Nat} (ht : Q.P.underlying t = some (.slice e)) (hs : sizeA Q e = some size) {cy : Value} {news : List Value} (hsrc : Src Q.P size tx cy n news w) (hroom : len + n ≤ cap) {w' : World}
    (hst : (storeCells ⟨b, off + len * size, none⟩ news).run Q.P w = .ok () w') :
    (Builtin.append_ #[t, tx] ty #[.slice (some ⟨b, off, none⟩) len cap, cy]).run Q.P w = .ok (.slice (some ⟨b, off, none⟩) (len + n) cap) w' := by
  obtain ⟨i, hi, hsz⟩ := sizeA_ok hQ hs
  subst hsz
  rcases hsrc.kind with ⟨e', hk⟩ | hk <;> simp [Builtin.append_, run_underlying ht, run_underlying hk, sizeOf, typeInfo, hi, hsrc.len, hroom, hsrc.cells, Addr.add_lit, hst]
end
end Go.Eng
