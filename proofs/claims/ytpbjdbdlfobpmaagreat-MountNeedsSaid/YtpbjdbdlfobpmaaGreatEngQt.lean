/- The program as the abstract run looks it up, and that it is the program. -/
import Derived.Test.YtpbjdbdlfobpmaaGreatEngZh
import Derived.Test.YtpbjdbdlfobpmaaGreatProg
import Derived.KernelRfl
namespace Go.Eng
open Go Go.RowKit
noncomputable def tabA {α : Type} : List α → Nat → T α → T α
  | [], _, t => t
  | x :: r, i, t => natF (i + 1) fun j => tabA r j (T.setN deep t i x)
theorem tabA_get {α : Type} : ∀ (l : List α) (i : Nat) (t : T α), i + l.length < 1000000 → ∀ j, (tabA l i t).get j = if i ≤ j ∧ j < i + l.length then l[j - i]? else t.get j
  | [], i, t, _, j => by rw [if_neg (by simp only [List.length_nil]; omega)]; rfl
  | x :: r, i, t, h, j => by
    simp only [List.length_cons] at h
    simp only [tabA, natF_eq]
    rw [tabA_get r (i + 1) _ (by omega) j, T.get_setN x deep i t (by unfold deep; omega)]
    simp only [List.length_cons]
    by_cases h1 : j = i
    · subst h1
      rw [if_neg (by omega), if_pos rfl, if_pos (by omega)]; simp
    · by_cases h2 : i + 1 ≤ j ∧ j < i + 1 + r.length
      · rw [if_pos h2, if_pos (by omega), show j - i = (j - (i + 1)) + 1 by omega]; rfl
      · rw [if_neg h2, if_neg h1, if_neg (by omega)]
theorem blt_lt {a b : Nat} (h : Nat.blt a b = true) : a < b := by simpa using h
theorem tabA_arr {α : Type} (a : Array α) (h : a.size < 1000000) {j : Nat} {x : α} (e : (tabA a.toList 0 .leaf).get j = some x) : a[j]? = some x := by
  rw [tabA_get a.toList 0 .leaf (by rw [Nat.zero_add, Array.length_toList]; exact h)] at e
  split at e
  · rw [Nat.sub_zero, Array.getElem?_toList] at e; exact e
  · cases e
end Go.Eng
namespace Go.Proofs.YtpbjdbdlfobpmaaGreat
open Go Go.Eng
noncomputable def tyT : T TypeInfo := tabA Tryz.prog.types.toList 0 .leaf
noncomputable def descOf : Option TypeInfo → Option TypeDesc
  | some i => some i.desc
  | none => none
noncomputable def undT (t : TypeId) : Option TypeDesc := match tyT.get t with
  | some i => match i.desc with
    | .named _ u => descOf (tyT.get u)
    | d => some d
  | none => none
noncomputable def fnT : T Func := tabA Tryz.prog.funcs.toList 0 .leaf
noncomputable def ownT (t : TypeId) : Bool := !(Tryz.prog.stoodInHeld t) && !(Tryz.prog.eqGuardType Tryz.prog.depth t)
noncomputable def QT : Tab := { P := Tryz.prog, inf := fun t => tyT.get t, und := undT, fn := fun f => fnT.get f, own := ownT }
theorem size_types : Nat.blt Tryz.prog.types.size 1000000 = true := by kernel_rfl
theorem size_funcs : Nat.blt Tryz.prog.funcs.size 1000000 = true := by kernel_rfl
theorem names_fine : (Tryz.prog.funcs.toList.all fun x => !(x.name == "runtime.NumGoroutine")) = true := by kernel_rfl
theorem ty_ok {t : Nat} {i : TypeInfo} (e : tyT.get t = some i) : Tryz.prog.info? t = some i := by
  have h : Tryz.prog.types[t]? = some i := tabA_arr _ (blt_lt size_types) e
  have hlt := (Array.getElem?_eq_some_iff.1 h).1
  rw [← h]
  show Tables.info? _ t = _
  unfold Tables.info?
  rw [if_pos hlt]
theorem fn_ok {f : Nat} {x : Func} (e : fnT.get f = some x) : Tryz.prog.funcs[f]? = some x := tabA_arr _ (blt_lt size_funcs) e
set_option maxRecDepth 100000 in
theorem QT_ok : QT.Ok where
  inf := fun t i e => ty_ok e
  und := fun t d e => by
    have e : undT t = some d := e
    show Tryz.prog.underlying t = some d
    unfold undT at e
    unfold Program.underlying
    split at e
    · rename_i i hi
      have h1 : Tryz.prog.info? t = some i := ty_ok hi
      rw [h1]
      split at e
      · rename_i a u hd
        unfold descOf at e
        split at e
        · rename_i j hj
          cases e
          have h2 : Tryz.prog.info? u = some j := ty_ok hj
          obtain ⟨⟩ := i
          simp only at hd
          subst hd
          simp [h2]
        · cases e
      · rename_i hne
        cases e
        obtain ⟨⟩ := i
        split
        · rename_i u h3
          simp only [Option.some.injEq, TypeInfo.mk.injEq] at h3
          exact absurd h3.1 (hne _ _)
        · rename_i i3 h3
          cases h3; rfl
        · rename_i h3; cases h3
    · cases e
  fn := fun f x e => fn_ok e
  nm := fun f x e => by
    have h := names_fine
    rw [List.all_eq_true] at h
    have hx := h x (by
      have := fn_ok e
      exact Array.mem_toList_iff.2 (Array.mem_of_getElem? this))
    simpa using hx
  own := fun t e => by
    have e : ownT t = true := e
    unfold ownT at e
    simp only [Bool.and_eq_true, Bool.not_eq_true'] at e
    exact e.1
  guard := fun t e => by
    have e : ownT t = true := e
    unfold ownT at e
    simp only [Bool.and_eq_true, Bool.not_eq_true'] at e
    exact e.2
  mix := by kernel_rfl
end Go.Proofs.YtpbjdbdlfobpmaaGreat
