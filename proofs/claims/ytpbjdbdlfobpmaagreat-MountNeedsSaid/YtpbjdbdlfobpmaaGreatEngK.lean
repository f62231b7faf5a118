/- What the abstract run says of the model: slices made. -/
import Derived.Test.YtpbjdbdlfobpmaaGreatEngJ
namespace Go.Eng
open Go Go.RowKit
section
variable {Q : Tab} {B : Nat → Prop} {ρ : Env} {fr : Fr} {a : Act} {w : World} {h : Hp} {o : Oper} (hQ : Q.Ok)
include hQ
theorem makeSlice_runs (hf : FR ρ fr a.tmps) {t : TypeId} {y z : Operand} (ho : o.op = .makeSlice t y z) {x : AV} {h' : Hp} (e : oMakeSlice Q h t (evalA y fr) (evalA z fr) = some (x, h')) : RunsB Q.P ρ h w (execOp a.eval o) x h' := by
  unfold oMakeSlice at e
  split at e
  · rename_i el l c hel hy hz
    have hl := evalA_cv hf hy
    have hc := evalA_cv hf hz
    simp only [cv] at hl hc
    unfold makeS at e
    split at e
    · rename_i zs s b hzs hs hb
      split at e
      · rename_i hcond
        simp only [Bool.and_eq_true, Nat.ble_eq, Nat.beq_eq, Nat.blt_eq] at hcond
        obtain ⟨⟨⟨⟨⟨c1, c2⟩, c3⟩, c4⟩, c5⟩, c6⟩ := hcond
        rw [natF_eq] at e
        unfold asSl at e
        split at e
        · rename_i r h1 hn
          cases e
          obtain ⟨i, zv, h2, h3, h4⟩ := zeroA_ok hQ hzs
          obtain ⟨i2, h5, h6⟩ := sizeA_ok hQ hs
          rw [h2] at h5; cases h5
          unfold bytesE at hb
          split at hb
          · rename_i i3 h7
            cases hb
            rw [hQ.inf _ _ h7] at h2; cases h2
            have hzl := cvs_len (h4 ρ)
            simp at hzl
            have hrun := run_makeSlice (P := Q.P) w t el i zv (elemOf_ok hQ hel) (hQ.inf _ _ h7) h3 .i64 .i64 (l : Int) (c : Int) (by omega) (by omega) (by rw [h6, Int.toNat_natCast]; exact c4) (by have : ((i.bytes * c : Nat) : Int) ≤ ((281474976710656 : Nat) : Int) := Int.ofNat_le.2 c5; rw [Int.natCast_mul] at this; exact this) (by omega)
            rw [h6] at hrun
            simp only [Int.toNat_natCast] at hrun
            have hsz : (madeCells zv.cells (c * s)).size = c * s := by simp [madeCells]
            refine ⟨r, _, .cells (madeCells zv.cells (c * s)) el, c, .slice (some ⟨w.heap.size, 0, none⟩) l c, hn, rfl, ?_, fun ρ' hle hr => ⟨?_, madeCells zv.cells (c * s), (0, 0), heap_alloc_new w _, fun i _ => by omega, by simp only; omega, by simp only; omega, by simp only; unfold maxLen; omega, fun j hj => ?_⟩⟩
            · unfold execOp
              simp only [ho, ← Option.some.inj hl, ← Option.some.inj hc]
              rw [Sem.run_bind]
              simp only [Int.ofNat_eq_natCast]
              rw [hrun]
              rfl
            · simp only [cv, hr]
            · simp only at hj
              have hm : j % s < s := Nat.mod_lt _ c6
              obtain ⟨v, h8, h9⟩ := cvs_at (h4 ρ') (j % s) (List.getElem?_eq_getElem (by omega))
              refine ⟨zs[j % s]'(by omega), v, ?_, h9, ?_⟩
              · simp only
                rw [cellAt_zero hj (by omega), show j % zs.length = j % s by rw [c3]]
                exact List.getElem?_eq_getElem _
              · have h8' : zv.cells[j % s]? = some v := by simpa using h8
                have : zv.cells.size = s := by omega
                simp only [madeCells, Array.getElem?_map, Array.getElem?_range, hj, if_true, Option.map_some, this]
                rw [getElem!_def, h8']
          · cases hb
        · cases e
      · cases e
    · cases e
  · cases e
end
end Go.Eng
