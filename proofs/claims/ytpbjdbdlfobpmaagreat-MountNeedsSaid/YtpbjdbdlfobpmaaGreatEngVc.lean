/- What the abstract run says of the model: strings. -/
import Derived.Test.YtpbjdbdlfobpmaaGreatEngVb
import Derived.Laws.IdiomStrings
import Derived.Lib.Strings
namespace Go.Eng
open Go Go.RowKit
theorem run_index_string {P : Program} {t : TypeId} {s : ByteArray} {i : Nat} {u : UInt8} {k : IntKind} (ht : P.underlying t = some .string) (hu : s.data.toList[i]? = some u) (w : World) :
    (Instr.index t (.string s) (.int k i)).run P w = .ok (.int .u8 u.toNat) w := by
  obtain ⟨⟨l⟩⟩ := s
  simp only at hu
  have hl : i < l.length := (List.getElem?_eq_some_iff.1 hu).1
  have hg : (⟨⟨l⟩⟩ : ByteArray)[i]? = some u := by
    have h1 : i < (⟨⟨l⟩⟩ : ByteArray).size := hl
    rw [getElem?_pos (⟨⟨l⟩⟩ : ByteArray) i h1]
    rw [List.getElem?_eq_getElem hl] at hu
    exact hu
  unfold Instr.index
  simp only [asIntOf, Sem.run_bind, Sem.run_pure, Result.andThen_ok, run_underlying ht w]
  have h0 : (0 : Int) ≤ (i : Int) := by omega
  simp only [h0, if_true, Int.toNat_natCast, hg]
  rfl
section
variable {Q : Tab} {B : Nat → Prop} {ρ : Env} {fr : Fr} {a : Act} {w : World} {h : Hp} {o : Oper}
theorem strV_cv {y : AV} {c : Value} {l : List UInt8} (e : strV y = some l) (hc : cv ρ y = some c) : ∃ s : ByteArray, c = .string s ∧ s.data.toList = l := by
  unfold strV at e
  split at e
  · cases e; simp only [cv] at hc; cases hc; exact ⟨_, rfl, rfl⟩
  · cases e
theorem bytesOf_cv : ∀ {l : List AV} {bs : List UInt8}, bytesOf? l = some bs → ∃ ns : List Int, cvs ρ l = some (ns.map (Value.int .u8)) ∧ ns.map (fun n => UInt8.ofNat n.toNat) = bs
  | [], bs, e => by simp only [bytesOf?] at e; cases e; exact ⟨[], rfl, rfl⟩
  | x :: r, bs, e => by
    simp only [bytesOf?] at e
    split at e
    · rename_i u hu
      split at e
      · rename_i l' hl
        cases e
        obtain ⟨ns, h1, h2⟩ := bytesOf_cv hl
        unfold byteOf? at hu
        split at hu
        · rename_i n
          cases hu
          exact ⟨n :: ns, cvs_mk rfl h1, by simp [h2]⟩
        · cases hu
      · cases e
    · cases e
theorem push_all : ∀ (ns : List Int) (r : ByteArray), ns.foldl (fun r n => r.push (UInt8.ofNat n.toNat)) r = ⟨r.data ++ (ns.map fun n => UInt8.ofNat n.toNat).toArray⟩
  | [], r => by simp
  | n :: ns, r => by
    simp only [List.foldl_cons]
    rw [push_all ns]
    simp [ByteArray.push]
variable (hQ : Q.Ok)
include hQ
theorem isStr_ok {t : TypeId} (e : isStr (Q.und t) = true) : Q.P.underlying t = some .string := by
  unfold isStr at e
  split at e
  · rename_i hd; exact hQ.und t _ hd
  · cases e
theorem index_runs (hf : FR ρ fr a.tmps) {t : TypeId} {y z : Operand} (ho : o.op = .index t y z) {x : AV} {h' : Hp} (e : oIndex Q fr o h t (evalA y fr) ((evalA z fr).bind numOf) = some (x, h')) : RunsQ Q.P ρ h w (execOp a.eval o) x h' := by
  unfold oIndex at e
  split at e
  · rename_i l i hl hi hst
    split at e
    · rename_i u hu
      cases e
      rw [nth_eq] at hu
      obtain ⟨v, hv, hs⟩ := Option.bind_eq_some_iff.1 hl
      obtain ⟨v', hv', hn⟩ := Option.bind_eq_some_iff.1 hi
      obtain ⟨s, h1, rfl⟩ := strV_cv hs (evalA_cv hf hv)
      obtain ⟨k, h2⟩ := numOf_cv hn (evalA_cv hf hv')
      refine RunsQ.same (c := .int .u8 u.toNat) ?_ rfl
      unfold execOp
      simp only [ho, h1, h2]
      rw [Sem.run_bind, run_index_string (isStr_ok hQ hst) hu]
      rfl
    · cases e
  · exact pure_runs hf (fun cs b => by rw [ho]; intro h; cases h) e
theorem slice_runs (H : HL ρ h w) (hf : FR ρ fr a.tmps) {t : TypeId} {y : Operand} {lo hi mx : Option Operand} (ho : o.op = .slice t y lo hi mx) {x : AV} {h' : Hp} (e : oSlice Q fr o h t lo hi mx (evalA y fr) = some (x, h')) : RunsQ Q.P ρ h w (execOp a.eval o) x h' := by
  have hpure : ∀ {x h'}, okv h (pureOp Q fr o) = some (x, h') → RunsQ Q.P ρ h w (execOp a.eval o) x h' := fun e => pure_runs hf (fun cs b => by rw [ho]; intro h; cases h) e
  unfold oSlice at e
  split at e
  · rename_i u hy
    unfold oSlice2 at e
    split at e
    · unfold oSliceS at e
      split at e
      · rename_i l hl hst
        split at e
        · rename_i lo' hi' hlo hhi
          obtain ⟨e1, rfl⟩ := okv_some e
          unfold slStrA at e1
          split at e1
          · rename_i p q r hb
            cases e1
            obtain ⟨s, h1, rfl⟩ := strV_cv hl (evalA_cv hf hy)
            have k1 := optA_ok hf hlo
            have k2 := optA_ok hf hhi
            have hb' := bounds3_ok (P := Q.P) (w := w) k1 k2 (mx := none) (mx' := none) trivial hb false s.size (by rw [Lib.size_eq]; exact Nat.le_refl _) (fun _ => Lib.size_eq s)
            rw [show s.data.toList.length = s.size from (Lib.size_eq s).symm] at hb'
            refine RunsQ.same (c := .string (s.extract p q)) ?_ ?_
            · unfold execOp
              simp only [ho, h1, Option.map_none]
              rw [Sem.run_bind]
              have ht := isStr_ok hQ hst
              simp only [Instr.sliceAt, Instr.slice, Sem.run_bind, run_underlying ht w, Result.andThen_ok]
              simp only [Option.isSome_none, Bool.false_eq_true, if_false, Sem.run_pure, Result.andThen_ok, Sem.run_bind, hb']
            · rw [takeF_eq, dropF_eq, ← Lib.extract_data]; rfl
          · cases e1
        · cases e
      · exact hpure e
    · split at e
      · rename_i lo' hi' mx' hlo hhi hmx
        obtain ⟨e1, rfl⟩ := okv_some e
        exact slice_named_runs hQ H hf ho hy hlo hhi hmx e1
      · cases e
  · cases e
/-- conversions, other than of a string to bytes -/
theorem convert_runs (H : HL ρ h w) (hf : FR ρ fr a.tmps) {s d : TypeId} {y : Operand} (ho : o.op = .convert s d y) (hns : ∀ b, evalA y fr ≠ some (.v (.string b))) {x : AV} {h' : Hp} (e : oConv Q fr o h s d (evalA y fr) = some (x, h')) : RunsQ Q.P ρ h w (execOp a.eval o) x h' := by
  have hpure : ∀ {x h'}, okv h (pureOp Q fr o) = some (x, h') → RunsQ Q.P ρ h w (execOp a.eval o) x h' := fun e => pure_runs hf (fun cs b => by rw [ho]; intro h; cases h) e
  unfold oConv at e
  split at e
  · rename_i u hy
    unfold oConv1 at e
    split at e
    · exact conv_num_runs hQ hf ho hy e
    · rename_i v
      unfold convV at e
      split at e
      · rename_i b; exact absurd hy (hns b)
      · exact hpure e
    · rename_i r off n c dd
      unfold slConv at e
      split at e
      · rename_i el hel
        split at e
        · rename_i hst
          unfold slStr at e
          split at e
          · rename_i e0 es m z tr hk hrow
            split at e
            · rename_i b hb
              cases e
              obtain ⟨xb, hxb, hp⟩ := cv_sl (evalA_cv hf hy)
              have hget := rowOf_some hrow
              obtain ⟨x2, q1, q2⟩ := H r _ hget rfl
              rw [hxb] at q1; cases q1
              unfold strOf at hb
              split at hb
              · rename_i l hl
                split at hb
                · rename_i bs hbs
                  cases hb
                  obtain ⟨cs, g1, g2, g3⟩ := RowR.cells (r := ⟨e0, es, m, z, tr⟩) q2 n off l hl
                  obtain ⟨ns, g4, g5⟩ := bytesOf_cv (ρ := ρ) hbs
                  rw [g4] at g1; cases g1
                  refine RunsQ.same (c := .string ⟨⟨bs⟩⟩) ?_ rfl
                  unfold execOp
                  simp only [ho, hp]
                  rw [Sem.run_bind, run_convert_bytes_string w s d el (some ⟨xb.b, off, none⟩) n _ (elemOf_ok hQ hel) (intKind_ok hQ hk) (isStr_ok hQ hst)]
                  have hl' := run_loadCells_list (P := Q.P) w ⟨xb.b, off, none⟩ (ns.map (Value.int .u8)) (fun j v hj => by rw [add_at]; exact g3 j v hj)
                  rw [g2] at hl'
                  rw [run_bytesToString w ⟨xb.b, off, none⟩ n _ ns hl', push_all, g5]
                  have he0 : ByteArray.empty.data = #[] := rfl
                  rw [he0]
                  simp [Sem.run_pure]
                · cases hb
              · cases hb
            · cases e
          · cases e
        · cases e
      · cases e
    · cases e
  · cases e
theorem convert_string_runs (H : HR B ρ h w) (hf : FR ρ fr a.tmps) {s d : TypeId} {y : Operand} (ho : o.op = .convert s d y) {b : ByteArray} (hy : evalA y fr = some (.v (.string b))) {x : AV} {h' : Hp} (e : oConv Q fr o h s d (evalA y fr) = some (x, h')) : Runs Q.P B ρ w (execOp a.eval o) x h' := by
  have hpure : ∀ {x h'}, okv h (pureOp Q fr o) = some (x, h') → RunsQ Q.P ρ h w (execOp a.eval o) x h' := fun e => pure_runs hf (fun cs b => by rw [ho]; intro h; cases h) e
  rw [hy] at e
  simp only [oConv, oConv1, convV] at e
  split at e
  · rename_i el hst hel
    unfold toBytes at e
    split at e
    · rename_i hk hle
      have hle : b.data.toList.length ≤ 1000000 := by simpa using hle
      obtain ⟨r, hr, rfl⟩ := freshSl_some e
      have hv := evalA_cv hf hy
      simp only [cv] at hv
      have hbs : b.size = b.data.toList.length := Lib.size_eq b
      have hge := grownCap_ge w b.size 0 el
      have hsz : (bytesRow b (grownCap w b.size 0 el)).size = grownCap w b.size 0 el := by
        unfold bytesRow
        rw [Array.size_append, Array.size_map, Array.size_replicate]
        have : b.data.size = b.size := rfl
        omega
      have hcs : cvs ρ (bytesA b.data.toList) = some (b.data.toList.map fun u => Value.int .u8 u.toNat) := by rw [bytesA_eq]; exact ofVs_cv ρ _
      have hd := H.drew
      have hrun := run_bytes_of_string (P := Q.P) w s d el b (isStr_ok hQ hst) (elemOf_ok hQ hel) (intKind_ok hQ hk)
      unfold newRowA at hr
      rw [natF_eq] at hr
      split at hr
      · rename_i tr htr
        have hlenA : (bytesA b.data.toList).length = b.data.toList.length := by rw [bytesA_eq]; simp
        have key := hd.alloc (k := grownCap w b.size 0 el) (.cells (bytesRow b (grownCap w b.size 0 el)) el ((bytesRow b (grownCap w b.size 0 el)).size, (bytesRow b (grownCap w b.size 0 el)).size + 1)) hr
          ⟨_, _, heap_alloc_new w.drew _, fun i hi => by simp only; omega, by simp only; rw [hlenA, hsz, ← hbs]; exact hge, by simp only; rw [hsz]; omega, grownCap_le_maxLen w _ _ _ (by unfold maxLen; omega), fun i hi => by
            simp only at hi
            have hle' := Env.set_le (x := ⟨w.drew.heap.size, grownCap w b.size 0 el⟩) (H.fresh r (by rw [(newA_get hr).1]; exact Nat.le_refl _)).1
            obtain ⟨c, h1, h2⟩ := cvs_at hcs i (List.getElem?_eq_getElem hi)
            refine ⟨(bytesA b.data.toList)[i], c, ?_, cv_mono hle' _ _ h2, ?_⟩
            · simp only
              rw [layR_cell htr i hi, if_pos (by omega), Nat.sub_zero, List.getElem?_eq_getElem hi]
            · unfold bytesRow
              rw [Array.getElem?_append_left (by simp; omega)]
              rw [← h1]
              simp⟩
        refine ⟨_, .slice (some ⟨w.heap.size, 0, none⟩) b.size (grownCap w b.size 0 el), _, .inl ?_, key.2.1, ?_, key.1, (Below.refl _ _).drew.trans key.2.2.2⟩
        · unfold execOp
          simp only [ho, ← Option.some.inj hv]
          rw [Sem.run_bind, hrun]
          rfl
        · rw [cv_sl_mk key.2.2.1]
          simp only [capOf, Nat.sub_zero, hbs]
          rfl
      · cases hr
    · cases e
  · exact (hpure e).runs H
end
end Go.Eng
