/- What the abstract run says of the model: append, copy. -/
import Derived.Test.YtpbjdbdlfobpmaaGreatEngQ
import Derived.Deep.AppendSrc
import Derived.Laws.AppendOwn
namespace Go.Eng
open Go Go.RowKit
section
variable {P : Program} {B : Nat → Prop} {ρ : Env} {w : World} {h : Hp}
theorem firstV_ok {size n : Nat} {x : Value} {l : List AV} (e : firstV size n x = some l) : ∃ cs, cvs ρ l = some cs ∧ (Builtin.firstCells size n x).run P w = .ok ⟨cs⟩ w ∧ ∀ u ∈ cs, u.oneCell' = true := by
  unfold firstV at e
  split at e
  · cases e
    exact ⟨[], rfl, run_firstCells_none w size n 0 _, fun u hu => by cases hu⟩
  · rename_i s
    split at e
    · cases e
      refine ⟨(s.data.toList.take n).map fun b => Value.int .u8 b.toNat, ?_, ?_, fun u hu => ?_⟩
      · rw [bytesA_eq, takeF_eq]; exact ofVs_cv ρ _
      · simp only [Builtin.firstCells, Sem.run_pure]
        congr 1
        apply Array.ext'
        simp
      · obtain ⟨b, _, rfl⟩ := List.mem_map.1 hu; rfl
    · cases e
  · cases e
theorem firstA_ok (H : HR B ρ h w) {size n : Nat} {y : AV} {c : Value} {l : List AV} (hc : cv ρ y = some c) (e : firstA h size n y = some l) : ∃ cs, cvs ρ l = some cs ∧ (Builtin.firstCells size n c).run P w = .ok ⟨cs⟩ w := by
  unfold firstA at e
  split at e
  · rename_i r o m c' d
    obtain ⟨x, hx, rfl⟩ := cv_sl hc
    split at e
    · rename_i a1 a2 m' z tr hrow
      have hget := rowOf_some hrow
      obtain ⟨x2, k1, _, k3⟩ := H.live r _ hget rfl
      rw [hx] at k1; cases k1
      obtain ⟨cs, h1, h2, h3⟩ := RowR.cells k3 (n * size) o l e
      refine ⟨cs, h1, run_firstCells_some w size n ⟨x.b, o, none⟩ m _ cs h2 fun j v hv => ?_⟩
      rw [add_at]; exact h3 j v hv
    · cases e
  · simp only [cv] at hc; cases hc
    obtain ⟨cs, h1, h2, _⟩ := firstV_ok (P := P) (ρ := ρ) (w := w) e
    exact ⟨cs, h1, h2⟩
  · cases e
theorem HR.drew (H : HR B ρ h w) : HR B ρ h w.drew := H.world (fun _ _ => rfl) (Nat.le_refl _)
theorem firstA_len (H : HR B ρ h w) {size n : Nat} {y : AV} {c : Value} {l : List AV} (hc : cv ρ y = some c) (hn : lenA y = some n) (e : firstA h size n y = some l) : l.length = n * size := by
  unfold firstA at e
  split at e
  · rename_i r o m c' d
    split at e
    · rename_i a1 a2 m' z tr hrow
      have hget := rowOf_some hrow
      obtain ⟨x2, k1, _, k3⟩ := H.live r _ hget rfl
      obtain ⟨cs, h1, h2, h3⟩ := RowR.cells k3 (n * size) o l e
      rw [← cvs_len h1, h2]
    · cases e
  · unfold firstV at e
    unfold lenA lenV at hn
    split at e
    · cases e; cases hn; simp
    · split at e
      · rename_i s hs
        cases e
        have : size = 1 := by simpa using hs
        cases hn
        rw [bytesA_eq, takeF_eq, this]; simp
      · cases e
    · cases e
  · cases e
/-- what is appended, as the kit's laws ask for it -/
theorem src_ok (H : HR B ρ h w) {size n : Nat} {tx : TypeId} (ht : (∃ e', P.underlying tx = some (.slice e')) ∨ P.underlying tx = some .string) {y : AV} {c : Value} {l : List AV} (hc : cv ρ y = some c) (hn : lenA y = some n) (e : firstA h size n y = some l)
    (h1 : ∀ v ∈ l, v.one = true) : ∃ cs, cvs ρ l = some cs ∧ Src P size tx c n cs w := by
  obtain ⟨cs, k1, k2⟩ := firstA_ok (P := P) H hc e
  obtain ⟨cs', k3, k4⟩ := firstA_ok (P := P) H.drew hc e
  rw [k1] at k3; cases k3
  refine ⟨cs, k1, ht, fun w' => lenA_ok hc hn, k2, k4, by rw [cvs_len k1]; exact firstA_len H hc hn e, fun u hu => ?_⟩
  obtain ⟨i, hi, rfl⟩ := List.getElem_of_mem hu
  have hl := cvs_len k1
  obtain ⟨c', h2, h3⟩ := cvs_at k1 i (List.getElem?_eq_getElem (by omega))
  rw [List.getElem?_eq_getElem hi] at h2
  cases h2
  exact one_cv h3 (h1 _ (List.getElem_mem _))
theorem freshSl_some {n : Nat} {y : Option (Nat × Hp)} {x : AV} {h' : Hp} (e : freshSl n y = some (x, h')) : ∃ r, y = some (r, h') ∧ x = .sl r 0 n none 0 := by
  unfold freshSl at e
  split at e
  · cases e; exact ⟨_, rfl, rfl⟩
  · cases e
theorem newRowA_one {h h' : Hp} {e : TypeId} {es : Nat} {cells : List AV} {r : Nat} (hn : newRowA h e es cells = some (r, h')) : ∀ v ∈ cells, v.one = true := by
  unfold newRowA at hn
  rw [natF_eq] at hn
  split at hn
  · rename_i tr htr; exact (layAt_ok _ _ _ _ htr).2.1
  · cases hn
theorem layR_one {h h' : Hp} {r off : Nat} {l : List AV} {row : Row} (hn : layR h r off l row = some h') : ∀ v ∈ l, v.one = true := by
  obtain ⟨e0, es, n, z, tr⟩ := row
  simp only [layR] at hn
  split at hn
  · rename_i tr htr; exact (layAt_ok _ _ _ _ htr).2.1
  · cases hn
theorem zeroCells_size (z : Array Value) (n : Nat) : (Builtin.zeroCells z n).size = n * z.size := by simp [Builtin.zeroCells]
end
end Go.Eng
