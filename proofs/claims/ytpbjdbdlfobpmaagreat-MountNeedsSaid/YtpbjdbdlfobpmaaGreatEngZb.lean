/- What the abstract run says of the model: an operation looks at its operands alone. -/
import Derived.Test.YtpbjdbdlfobpmaaGreatEngZa
namespace Go.Eng
open Go Go.RowKit
theorem T.get_set_far {α : Type} (x : α) (t : T α) (k j : Nat) : (T.setN (k + 1) t k x).get j = if j = k then some x else t.get j :=
  T.get_setN x (k + 1) k t Nat.lt_two_pow_self j
/-- a frame of which some places alone are kept -/
theorem only_frame (fr : Fr) : ∀ l : List Tmp, ∃ G : Fr, ∀ t, G.get t = if t ∈ l then fr.get t else none
  | [] => ⟨.leaf, fun t => by simp [T.get_leaf]⟩
  | x :: r => by
    obtain ⟨G, hG⟩ := only_frame fr r
    cases hx : fr.get x with
    | none =>
      refine ⟨G, fun t => ?_⟩
      rw [hG]
      by_cases h1 : t = x
      · subst h1; simp [hx]
      · simp [h1]
    | some v =>
      refine ⟨T.setN (x + 1) G x v, fun t => ?_⟩
      rw [T.get_set_far, hG]
      by_cases h1 : t = x
      · subst h1; simp [hx]
      · simp [h1]
section
variable {Q : Tab} {cf : CallF} {fr G : Fr} {h : Hp}
theorem evals_congr : ∀ {l : List Operand}, (∀ x ∈ l, evalA x G = evalA x fr) → evals G l = evals fr l
  | [], _ => rfl
  | x :: r, hx => by simp only [evals]; rw [hx x (List.mem_cons_self ..), evals_congr fun y hy => hx y (List.mem_cons_of_mem _ hy)]
theorem allPlain_congr : ∀ {l : List Operand}, (∀ x ∈ l, evalA x G = evalA x fr) → allPlain G l = allPlain fr l
  | [], _ => rfl
  | x :: r, hx => by simp only [allPlain]; rw [hx x (List.mem_cons_self ..), allPlain_congr fun y hy => hx y (List.mem_cons_of_mem _ hy)]
theorem symAny_congr : ∀ {l : List Operand}, (∀ x ∈ l, evalA x G = evalA x fr) → symAny G l = symAny fr l
  | [], _ => rfl
  | x :: r, hx => by simp only [symAny]; rw [hx x (List.mem_cons_self ..), symAny_congr fun y hy => hx y (List.mem_cons_of_mem _ hy)]
theorem evalParts_congr : ∀ {l : List (Nat × Operand)}, (∀ x ∈ l, evalA x.2 G = evalA x.2 fr) → evalParts G l = evalParts fr l
  | [], _ => rfl
  | (i, x) :: r, hx => by simp only [evalParts]; rw [hx (i, x) (List.mem_cons_self ..), evalParts_congr fun y hy => hx y (List.mem_cons_of_mem _ hy)]
theorem optA_congr {y : Option Operand} (hy : ∀ x ∈ y.toArray, evalA x G = evalA x fr) : optA G y = optA fr y := by
  cases y with
  | none => rfl
  | some y => simp only [optA]; rw [hy y (by simp)]
theorem pureOp_congr {o : Oper} (hs : ∀ cs b, o.op ≠ .select cs b) (ho : ∀ x ∈ o.op.operands, evalA x G = evalA x fr) : pureOp Q G o = pureOp Q fr o := by
  unfold pureOp
  rw [allPlain_congr fun x hx => ho x (by simpa using hx), symAny_congr fun x hx => ho x (by simpa using hx)]
  rw [execOp_congr (ρ := plainVal G) (ρ' := plainVal fr) o hs fun x hx => by unfold plainVal; rw [ho x hx]]
theorem opA_congr (o : Oper) (ho : ∀ x ∈ o.op.operands, evalA x G = evalA x fr) : opA Q cf G o h = opA Q cf fr o h := by
  have hp : (∀ cs b, o.op ≠ .select cs b) → pureOp Q G o = pureOp Q fr o := fun hs => pureOp_congr hs ho
  unfold opA
  cases hop : o.op <;> rw [hop] at ho hp <;> simp only [Op.operands] at ho <;> simp only [opSel]
  case move y => rw [ho y (by simp)]
  case assign y => rw [ho y (by simp)]
  case pick c y z =>
    rw [ho c (by simp)]
    unfold oPick
    rw [ho y (by simp), ho z (by simp)]
  case box t y => rw [ho y (by simp)]
  case build t parts =>
    unfold buildA
    rw [evalParts_congr (fr := fr) (G := G) fun x hx => ho x.2 (by simp; exact ⟨x.1, by simpa using hx⟩)]
  case buildSlice t n parts =>
    unfold oBuildSlice
    rw [evalParts_congr (fr := fr) (G := G) fun x hx => ho x.2 (by simp; exact ⟨x.1, by simpa using hx⟩)]
  case load t y => rw [ho y (by simp)]
  case store t y z => rw [ho y (by simp), ho z (by simp)]
  case nilCheck y =>
    rw [ho y (by simp)]
    unfold oNil
    rw [hp (fun cs b e => by cases e)]
  case binOp op t y z t' =>
    rw [ho y (by simp), ho z (by simp)]
    unfold oBin oBin2 oBinX oBinP oNum
    rw [hp (fun cs b e => by cases e)]
  case unOp op t y => rw [hp (fun cs b e => by cases e)]
  case convert s d y =>
    rw [ho y (by simp)]
    unfold oConv oConv1 oNum
    rw [hp (fun cs b e => by cases e)]
  case sliceToArrayPointer t y => rw [ho y (by simp)]
  case makeFunc f y z =>
    rw [evals_congr (fr := fr) (G := G) (l := y.toList) fun x hx => ho x (by simp at hx ⊢; exact .inl hx), evals_congr (fr := fr) (G := G) (l := z.toList) fun x hx => ho x (by simp at hx ⊢; exact .inr hx)]
  case makeSlice t y z => rw [ho y (by simp), ho z (by simp)]
  case slice t y lo hi mx =>
    rw [ho y (by simp)]
    have h1 := optA_congr (fr := fr) (G := G) (y := lo) fun x hx => ho x (by simp at hx ⊢; simp [hx])
    have h2 := optA_congr (fr := fr) (G := G) (y := hi) fun x hx => ho x (by simp at hx ⊢; simp [hx])
    have h3 := optA_congr (fr := fr) (G := G) (y := mx) fun x hx => ho x (by simp at hx ⊢; simp [hx])
    unfold oSlice oSlice2 oSliceS
    rw [hp (fun cs b e => by cases e), h1, h2, h3]
  case fieldAddr t y f => rw [ho y (by simp)]
  case field t y f =>
    rw [ho y (by simp)]
    unfold oField oField1
    rw [hp (fun cs b e => by cases e)]
  case indexAddr t y z => rw [ho y (by simp), ho z (by simp)]
  case lookup t y z ok => rw [ho y (by simp), ho z (by simp)]
  case mapUpdate t m y z => rw [ho m (by simp), ho y (by simp), ho z (by simp)]
  case extract y i => rw [ho y (by simp)]
  case index t y z =>
    rw [ho y (by simp), ho z (by simp)]
    unfold oIndex
    rw [hp (fun cs b e => by cases e)]
  case call c =>
    have hargs := evals_congr (fr := fr) (G := G) (l := c.args.toList) fun x hx => ho x (by unfold Call.operands; simp at hx ⊢; exact .inr hx)
    unfold callA
    cases hcal : c.callee with
    | builtin b =>
      simp only
      unfold bltA oLen oCap
      rw [hp (fun cs b e => by cases e), hargs]
    | value f =>
      simp only
      rw [hargs, ho f (by unfold Call.operands; rw [hcal]; simp)]
    | invoke r n => rfl
theorem quietO_congr (o : Oper) (ho : ∀ x ∈ o.op.operands, evalA x G = evalA x fr) : quietO G o = quietO fr o := by
  unfold quietO
  cases hop : o.op <;> rw [hop] at ho <;> simp only [Op.operands] at ho
  case convert s d y => simp only; rw [ho y (by simp)]
  all_goals rfl
end
end Go.Eng
