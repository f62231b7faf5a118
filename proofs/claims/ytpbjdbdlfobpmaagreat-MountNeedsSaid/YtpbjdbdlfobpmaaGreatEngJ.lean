/- What the abstract run says of the model: what is built. -/
import Derived.Test.YtpbjdbdlfobpmaaGreatEngI
import Derived.Great.BuildSlice
import Derived.Laws.Tables
import Derived.Laws.MakeOwn
namespace Go.Eng
open Go Go.RowKit
theorem cvs_take {ρ : Env} : ∀ (n : Nat) {l : List AV} {cs : List Value}, cvs ρ l = some cs → cvs ρ (l.take n) = some (cs.take n)
  | 0, l, cs, _ => by simp [cvs]
  | n + 1, [], cs, h => by rw [cvs_nil h]; simp [cvs]
  | n + 1, x :: r, cs, h => by
    obtain ⟨c, r', rfl, h1, h2⟩ := cvs_cons h
    simp only [List.take_succ_cons]
    exact cvs_mk h1 (cvs_take n h2)
theorem cvs_drop {ρ : Env} : ∀ (n : Nat) {l : List AV} {cs : List Value}, cvs ρ l = some cs → cvs ρ (l.drop n) = some (cs.drop n)
  | 0, l, cs, h => by simpa using h
  | n + 1, [], cs, h => by rw [cvs_nil h]; simp [cvs]
  | n + 1, x :: r, cs, h => by
    obtain ⟨c, r', rfl, h1, h2⟩ := cvs_cons h
    simp only [List.drop_succ_cons]
    exact cvs_drop n h2
theorem foldl_lay (off : Nat) : ∀ (l : List Value) (k : Nat) (cur : Array Value), (l.zipIdx k).foldl (fun cs x => cs.setIfInBounds (off + x.2) x.1) cur = layC cur (off + k) l
  | [], k, cur => rfl
  | v :: r, k, cur => by
    rw [List.zipIdx_cons, List.foldl_cons, foldl_lay off r (k + 1)]
    rfl
theorem layC_list (cs l : List Value) (off : Nat) (h : off + l.length ≤ cs.length) : layC ⟨cs⟩ off l = ⟨cs.take off ++ l ++ cs.drop (off + l.length)⟩ := by
  apply Array.ext_getElem?
  intro i
  rw [layC_at l ⟨cs⟩ off (by simpa using h)]
  simp only [List.getElem?_toArray]
  by_cases h1 : i < off
  · rw [if_neg (by omega), List.append_assoc, List.getElem?_append_left (by simp; omega), List.getElem?_take_of_lt h1]
  · by_cases h2 : i < off + l.length
    · rw [if_pos ⟨by omega, h2⟩, List.append_assoc, List.getElem?_append_right (by simp; omega), List.getElem?_append_left (by simp; omega)]
      congr 1; simp; omega
    · rw [if_neg (by omega), List.getElem?_append_right (by simp; omega), List.getElem?_drop]
      congr 1; simp; omega
def PartsR (ρ : Env) : List (Nat × AV) → List (Nat × Value) → Prop
  | [], [] => True
  | (i, v) :: r, (j, c) :: s => i = j ∧ cv ρ v = some c ∧ PartsR ρ r s
  | _, _ => False
theorem fill_ok {ρ : Env} {pl : Nat → Option (Nat × Nat)} : ∀ {ps : List (Nat × AV)} {pv : List (Nat × Value)} {cells out : List AV} {cs : List Value}, PartsR ρ ps pv → cvs ρ cells = some cs → fillA pl ps cells = some out →
    ∃ cs', Instr.fill pl ⟨cs⟩ pv = some ⟨cs'⟩ ∧ cvs ρ out = some cs'
  | [], [], cells, out, cs, _, hc, e => by
    simp only [fillA] at e; cases e
    exact ⟨cs, rfl, hc⟩
  | (i, x) :: r, (j, c) :: s, cells, out, cs, hparts, hc, e => by
    obtain ⟨hij, hx, hr⟩ := hparts
    subst hij
    simp only [fillA] at e
    split at e
    · cases e
    · rename_i off size hp
      split at e
      · rename_i h1 h2
        have h1 : x.cells.length = size := by simpa using h1
        have h2 : off + size ≤ cells.length := by simpa using h2
        have hcl := cvs_len hc
        have hxc := cells_cv hx
        have hxl := cvs_len hxc
        have hcs := cvs_app (cvs_app (cvs_take off hc) hxc) (cvs_drop (off + size) hc)
        obtain ⟨cs', k1, k2⟩ := fill_ok hr hcs e
        refine ⟨cs', ?_, k2⟩
        have hsz : c.cells.size = size := by rw [← h1, ← hxl]; simp
        simp only [Instr.fill, hp, hsz]
        rw [if_neg (by simp; omega)]
        rw [← k1]
        congr 1
        rw [← Array.foldl_toList]
        have := foldl_lay off c.cells.toList 0 ⟨cs⟩
        simp only [Nat.add_zero] at this
        rw [Array.toList_zipIdx]
        refine this.trans ?_
        rw [layC_list cs _ off (by rw [hxl]; omega), hxl, h1]
      · cases e
section
variable {Q : Tab} {B : Nat → Prop} {ρ : Env} {fr : Fr} {a : Act} {w : World} {h : Hp} {o : Oper}
theorem evalParts_cv (hf : FR ρ fr a.tmps) : ∀ {l : List (Nat × Operand)} {ps : List (Nat × AV)}, evalParts fr l = some ps → PartsR ρ ps (l.map fun p => (p.1, a.eval p.2))
  | [], ps, e => by simp only [evalParts] at e; cases e; trivial
  | (i, x) :: r, ps, e => by
    simp only [evalParts] at e
    split at e
    · rename_i v hv
      split at e
      · rename_i l hl
        cases e
        exact ⟨rfl, evalA_cv hf hv, evalParts_cv hf hl⟩
      · cases e
    · cases e
variable (hQ : Q.Ok)
include hQ
theorem placesA_ok : ∀ {fs : List Field} {pl : List (Nat × Nat)}, placesA Q fs = some pl → fs.mapM (fun f => (Q.P.info? f.type).map fun i => (f.offset, i.size)) = some pl
  | [], pl, e => by simp only [placesA] at e; cases e; rfl
  | f :: r, pl, e => by
    simp only [placesA] at e
    split at e
    · rename_i s hs
      split at e
      · rename_i l hl
        cases e
        obtain ⟨i, h1, h2⟩ := sizeA_ok hQ hs
        rw [List.mapM_cons, h1, placesA_ok hl]
        simp [h2]
      · cases e
    · cases e
theorem buildA_ok (hf : FR ρ fr a.tmps) {t : TypeId} {parts : Array (Nat × Operand)} {x : AV} (e : buildA Q fr t parts.toList = some x) :
    ∃ cs, Q.P.built t ((parts.map fun (i, y) => (i, a.eval y)).toList) = some ⟨cs⟩ ∧ cv ρ x = some (.agg ⟨cs⟩) := by
  unfold buildA at e
  split at e
  · rename_i z ps pl hz hp hpl
    split at e
    · rename_i l hl
      cases e
      obtain ⟨it, zv, h1, h2, h3⟩ := zeroA_ok hQ hz
      have hpr := evalParts_cv hf hp
      obtain ⟨cs, k1, k2⟩ := fill_ok hpr (h3 ρ) hl
      refine ⟨cs, ?_, mkAgg_cv k2⟩
      have hparts : (parts.map fun (i, y) => (i, a.eval y)).toList = parts.toList.map fun p => (p.1, a.eval p.2) := by rw [Array.toList_map]
      rw [hparts]
      unfold placeOf at hpl
      split at hpl
      · rename_i d fields hu
        split at hpl
        · rename_i pl' hpl'
          cases hpl
          unfold Program.built
          have hm := placesA_ok hQ hpl'
          simp only [h1, hQ.und t _ hu, h2, hm]
          have hfun : (fun i => pl'.toArray[i]?) = nth pl' := by funext i; rw [nth_eq]; simp
          rw [hfun]
          exact k1
        · cases hpl
      · rename_i n el hu
        split at hpl
        · rename_i s hs
          cases hpl
          obtain ⟨ie, h5, h6⟩ := sizeA_ok hQ hs
          unfold Program.built
          simp only [h1, hQ.und t _ hu, h2, h5, h6]
          exact k1
        · cases hpl
      · cases hpl
    · cases e
  · cases e
theorem build_runs (hf : FR ρ fr a.tmps) {t : TypeId} {parts : Array (Nat × Operand)} (ho : o.op = .build t parts) {x : AV} {h' : Hp} (e : okv h (buildA Q fr t parts.toList) = some (x, h')) : RunsQ Q.P ρ h w (execOp a.eval o) x h' := by
  obtain ⟨e1, rfl⟩ := okv_some e
  obtain ⟨cs, h1, h2⟩ := buildA_ok hQ hf e1
  refine RunsQ.same (c := .agg ⟨cs⟩) ?_ h2
  unfold execOp
  simp only [ho]
  rw [Sem.run_bind, run_build (P := Q.P) w t _ _ h1]
  rfl
end
end Go.Eng
