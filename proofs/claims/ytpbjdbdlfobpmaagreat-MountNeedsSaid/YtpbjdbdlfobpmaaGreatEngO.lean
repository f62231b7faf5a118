/- What the abstract run says of the model: slice literals. -/
import Derived.Test.YtpbjdbdlfobpmaaGreatEngN
namespace Go.Eng
open Go Go.RowKit
section
variable {Q : Tab} {B : Nat → Prop} {ρ : Env} {fr : Fr} {a : Act} {w : World} {h : Hp} {o : Oper}
theorem cvs_rep {l : List AV} {cs : List Value} (hc : cvs ρ l = some cs) : ∀ n, cvs ρ ((List.replicate n l).flatten) = some ((List.replicate n cs).flatten)
  | 0 => rfl
  | n + 1 => by
    simp only [List.replicate_succ, List.flatten_cons]
    exact cvs_app hc (cvs_rep hc n)
theorem made_rep (z : Array Value) : ∀ n, (Array.range (n * z.size)).map (z[· % z.size]!) = ⟨(List.replicate n z.toList).flatten⟩ := by
  intro n
  apply Array.ext
  · simp
  · intro i h1 h2
    have hi : i < n * z.size := by simpa using h1
    have hz : 0 < z.size := by
      rcases Nat.eq_zero_or_pos z.size with h | h
      · rw [h, Nat.mul_zero] at hi; omega
      · exact h
    have hm : i % z.size < z.size := Nat.mod_lt _ hz
    have key : ∀ (n i : Nat), i < n * z.size → ((List.replicate n z.toList).flatten)[i]? = z[i % z.size]? := by
      intro n
      induction n with
      | zero => intro i hi; omega
      | succ n ih =>
        intro i hi
        simp only [List.replicate_succ, List.flatten_cons]
        by_cases h : i < z.size
        · rw [List.getElem?_append_left (by simpa using h), Nat.mod_eq_of_lt h]; simp
        · rw [List.getElem?_append_right (by simp; omega), ih _ (by simp; rw [Nat.succ_mul] at hi; omega)]
          congr 1
          simp only [Array.length_toList]
          rw [Nat.mod_eq_sub_mod (by omega : i ≥ z.size)]
    have k := key n i hi
    simp only [Array.getElem_map, Array.getElem_range]
    rw [getElem!_pos z (i % z.size) hm]
    rw [Array.getElem?_eq_getElem hm] at k
    rw [List.getElem?_eq_getElem (by simpa using h2)] at k
    simp only [Option.some.injEq] at k
    simpa using k.symm
theorem fill_len {pl : Nat → Option (Nat × Nat)} : ∀ {ps : List (Nat × AV)} {cells out : List AV}, fillA pl ps cells = some out → out.length = cells.length
  | [], cells, out, e => by simp only [fillA] at e; cases e; rfl
  | (i, x) :: r, cells, out, e => by
    simp only [fillA] at e
    split at e
    · cases e
    · rename_i off size hp
      split at e
      · rename_i h1 h2
        have h1 : x.cells.length = size := by simpa using h1
        have h2 : off + size ≤ cells.length := by simpa using h2
        rw [fill_len e]
        simp
        omega
      · cases e
variable (hQ : Q.Ok)
include hQ
theorem buildSlice_runs (hf : FR ρ fr a.tmps) {t : TypeId} {len : Nat} {parts : Array (Nat × Operand)} (ho : o.op = .buildSlice t len parts) {x : AV} {h' : Hp} (e : oBuildSlice Q fr h t len parts.toList = some (x, h')) : RunsB Q.P ρ h w (execOp a.eval o) x h' := by
  unfold oBuildSlice at e
  split at e
  · rename_i el hel
    split at e
    · rename_i s z ps hs hz hp
      obtain ⟨i, zv, h1, h2, h3⟩ := zeroA_ok hQ hz
      obtain ⟨i2, h4, h5⟩ := sizeA_ok hQ hs
      rw [h1] at h4; cases h4
      split at e
      · rename_i hcond
        simp only [Bool.and_eq_true, Nat.ble_eq, Nat.beq_eq, Nat.blt_eq] at hcond
        obtain ⟨⟨c1, c2⟩, c3⟩ := hcond
        split at e
        · rename_i cells hfill
          unfold asSl at e
          split at e
          · rename_i r h6 hn
            cases e
            have hzl := cvs_len (h3 ρ)
            have hzs : zv.cells.size = s := by simp at hzl; omega
            obtain ⟨cs, k1, k2⟩ := fill_ok (evalParts_cv hf hp) (cvs_rep (h3 ρ) len) hfill
            have hlen := cvs_len k2
            have hsz : cs.length = len * s := by
              have := fill_len hfill
              rw [hlen, this]; simp [c2]
            have hm := made_rep zv.cells len
            have hrun := run_buildSlice (P := Q.P) w t el len (parts.map fun (i, y) => (i, a.eval y)) ⟨cs⟩ i zv (elemOf_ok hQ hel) h1 h2 (by rw [h5]; omega) (by rw [h5]; omega) (by
              rw [h5, ← hzs, hm, hzs, Array.toList_map]
              exact k1)
            obtain ⟨obj, q1, q2, q3⟩ := newRowB hn k2 ⟨cs⟩ len (by simpa using hsz) (by
              have : len ≤ len * s := Nat.le_mul_of_pos_right _ (by
                rcases Nat.eq_zero_or_pos s with h | h
                · rw [h] at c3; omega
                · exact h)
              unfold maxLen; omega) (fun i _ => by simp) (by simp) w
            refine ⟨r, obj, _, len, .slice (some ⟨w.heap.size, 0, none⟩) len len, q1, q2, ?_, fun ρ' hle hr => ⟨?_, q3 ρ' hle⟩⟩
            · unfold execOp
              simp only [ho]
              rw [Sem.run_bind, hrun]
              rfl
            · simp only [cv, hr]
          · cases e
        · cases e
      · unfold buildNone at e
        split at e
        · split at e
          · have hparts : parts = #[] := by
              have := evalParts_cv hf hp
              obtain ⟨l⟩ := parts
              cases l with
              | nil => rfl
              | cons p q => exact this.elim
            unfold asSl at e
            split at e
            · rename_i r h6 hn
              cases e
              obtain ⟨obj, q1, q2, q3⟩ := newRowB (ρ := ρ) hn (cs := []) rfl #[] 0 (by simp) (by decide) (fun i hi => by simp at hi) (by simp) w
              refine ⟨r, obj, _, 0, .slice (some ⟨w.heap.size, 0, none⟩) 0 0, q1, q2, ?_, fun ρ' hle hr => ⟨?_, q3 ρ' hle⟩⟩
              · unfold execOp
                simp only [ho, hparts]
                simp [Instr.buildSlice, run_underlying (elemOf_ok hQ hel), run_sizeOf hQ hs, Instr.fill, run_newRow]
                rw [show Array.range 0 = #[] by decide]
                simp
              · simp only [cv, hr]
            · cases e
          · cases e
        · cases e
    · cases e
  · cases e
end
end Go.Eng
