/- What the abstract run says of the model: names, values, rows. -/
import Derived.Test.YtpbjdbdlfobpmaaGreatEngA
import Derived.Below
import Derived.Deep.Draws
namespace Go.Eng
open Go

/-! ### what is reckoned first is the same -/
theorem natF_eq {β : Type} (n : Nat) (f : Nat → β) : natF n f = f n := by cases n <;> rfl
theorem intF_eq {β : Type} (x : Int) (f : Int → β) : intF x f = f x := by
  cases x with
  | ofNat n => exact natF_eq n fun n => f (.ofNat n)
  | negSucc n => exact natF_eq n fun n => f (.negSucc n)
theorem recIf {β : Type} (a b : β) (m : Nat) : (Nat.rec (motive := fun _ => β) a (fun _ _ => b) m) = if m = 0 then a else b := by
  cases m with
  | zero => rfl
  | succ m => rw [if_neg (by omega)]
theorem T.seq_eq {α β : Type} (t : T α) (f : T α → β) : t.seq f = f t := by cases t <;> rfl
theorem AV.seq_eq {β : Type} (x : AV) (f : AV → β) : x.seq f = f x := by
  cases x with
  | i k n => exact intF_eq n fun n => f (.i k n)
  | b x => cases x <;> rfl
  | ptr r o => unfold AV.seq; simp only [natF_eq]
  | sl r o n c d => unfold AV.seq; cases c <;> simp only [natF_eq]
  | mp r => unfold AV.seq; simp only [natF_eq]
  | _ => rfl

/-! ### the tree -/
theorem T.get_leaf {α : Type} (k : Nat) : (T.leaf : T α).get k = none := rfl
theorem T.get_node {α : Type} (l : T α) (v : Option α) (r : T α) (k : Nat) :
    (T.node l v r).get k = match k with | 0 => v | k + 1 => if k % 2 = 0 then l.get (k / 2) else r.get (k / 2) := by
  cases k with
  | zero => rfl
  | succ k =>
    exact recIf (l.get (k / 2)) (r.get (k / 2)) (k % 2)
theorem T.setN_zero {α : Type} (t : T α) (k : Nat) (x : α) : T.setN 0 t k x = t := rfl
theorem T.setN_succ {α : Type} (n : Nat) (t : T α) (k : Nat) (x : α) : T.setN (n + 1) t k x = match t, k with
    | .leaf, 0 => .node .leaf (some x) .leaf
    | .node l _ r, 0 => .node l (some x) r
    | .leaf, k + 1 => if k % 2 = 0 then .node (T.setN n .leaf (k / 2) x) none .leaf else .node .leaf none (T.setN n .leaf (k / 2) x)
    | .node l v r, k + 1 => if k % 2 = 0 then .node (T.setN n l (k / 2) x) v r else .node l v (T.setN n r (k / 2) x) := by
  cases t with
  | leaf => cases k with
    | zero => rfl
    | succ k =>
      show (Nat.rec (motive := fun _ => T α) (T.seq (T.setN n .leaf (k / 2) x) fun c => .node c none .leaf) (fun _ _ => T.seq (T.setN n .leaf (k / 2) x) fun c => .node .leaf none c) (k % 2)) = _
      rw [recIf, T.seq_eq, T.seq_eq]
  | node l v r => cases k with
    | zero => rfl
    | succ k =>
      show (Nat.rec (motive := fun _ => T α) (T.seq (T.setN n l (k / 2) x) fun c => .node c v r) (fun _ _ => T.seq (T.setN n r (k / 2) x) fun c => .node l v c) (k % 2)) = _
      rw [recIf, T.seq_eq, T.seq_eq]
theorem T.get_setN {α : Type} (x : α) : ∀ (n k : Nat) (t : T α), k + 1 < 2 ^ n → ∀ j, (T.setN n t k x).get j = if j = k then some x else t.get j
  | 0, k, t, h, j => by simp at h
  | n + 1, k, t, h, j => by
    have hp : 2 ^ (n + 1) = 2 * 2 ^ n := by rw [Nat.pow_succ]; omega
    have ih := fun (k' : Nat) (t' : T α) (h' : k' + 1 < 2 ^ n) => T.get_setN x n k' t' h'
    rw [T.setN_succ]
    cases t with
    | leaf =>
      cases k with
      | zero => cases j <;> simp [T.get_node, T.get_leaf]
      | succ k =>
        have hk : k / 2 + 1 < 2 ^ n ∨ n = 0 := by omega
        have hk : k / 2 + 1 < 2 ^ n := by omega
        cases j with
        | zero =>
          simp only
          split <;> simp [T.get_node, T.get_leaf]
        | succ j =>
          simp only
          split <;> rename_i h0 <;> simp only [T.get_node, T.get_leaf, ih _ _ hk] <;> split <;> rename_i h1
          · by_cases e : j = k
            · subst e; simp
            · rw [if_neg (by omega), if_neg (by omega)]
          · rw [if_neg (by omega)]
          · rw [if_neg (by omega)]
          · by_cases e : j = k
            · subst e; simp
            · rw [if_neg (by omega), if_neg (by omega)]
    | node l v r =>
      cases k with
      | zero => cases j <;> simp [T.get_node]
      | succ k =>
        have hk : k / 2 + 1 < 2 ^ n := by omega
        cases j with
        | zero =>
          simp only
          split <;> simp [T.get_node]
        | succ j =>
          simp only
          split <;> rename_i h0 <;> simp only [T.get_node, ih _ _ hk] <;> split <;> rename_i h1
          · by_cases e : j = k
            · subst e; simp
            · rw [if_neg (by omega), if_neg (by omega)]
          · rw [if_neg (by omega)]
          · rw [if_neg (by omega)]
          · by_cases e : j = k
            · subst e; simp
            · rw [if_neg (by omega), if_neg (by omega)]
theorem T.get_put {α : Type} {t t' : T α} {k : Nat} {x : α} (h : t.put k x = some t') (j : Nat) : t'.get j = if j = k then some x else t.get j := by
  unfold T.put at h
  split at h
  · rename_i hk
    rw [T.seq_eq] at h
    cases h
    have := Nat.le_of_ble_eq_true hk
    exact T.get_setN x deep k t (by unfold deep; omega) j
  · cases h

/-! ### values -/
structure Blk where
  b : Nat
  k : Nat
abbrev Env := Nat → Option Blk
def Env.le (ρ ρ' : Env) : Prop := ∀ r x, ρ r = some x → ρ' r = some x
theorem Env.le_refl (ρ : Env) : ρ.le ρ := fun _ _ h => h
theorem Env.le_trans {a b c : Env} (h : a.le b) (h' : b.le c) : a.le c := fun r x e => h' r x (h r x e)
mutual
def cv (ρ : Env) : AV → Option Value
  | .i k n => some (.int k n)
  | .b b => some (.bool b)
  | .v x => some x
  | .ptr r o => match ρ r with | some x => some (.pointer (some ⟨x.b, o, none⟩)) | none => none
  | .sl r o n c d => match ρ r with | some x => some (.slice (some ⟨x.b, o, none⟩) n (match c with | some c => c | none => x.k - d)) | none => none
  | .mp r => match ρ r with | some x => some (.map (some x.b)) | none => none
  | .agg l => match cvs ρ l with | some cs => some (.agg ⟨cs⟩) | none => none
  | .tup l => match cvs ρ l with | some cs => some (.tuple ⟨cs⟩) | none => none
  | .fn f a b => match cvs ρ a, cvs ρ b with | some a, some b => some (.func f ⟨a⟩ ⟨b⟩) | _, _ => none
def cvs (ρ : Env) : List AV → Option (List Value)
  | [] => some []
  | x :: r => match cv ρ x, cvs ρ r with | some c, some cs => some (c :: cs) | _, _ => none
end
mutual
theorem cv_mono {ρ ρ' : Env} (h : ρ.le ρ') : ∀ (v : AV) (c : Value), cv ρ v = some c → cv ρ' v = some c
  | .i _ _, c, e => e
  | .b _, c, e => e
  | .v _, c, e => e
  | .ptr r o, c, e => by
    simp only [cv] at e ⊢
    split at e
    · rename_i x hx; rw [h r x hx]; exact e
    · cases e
  | .sl r o n cc d, c, e => by
    simp only [cv] at e ⊢
    split at e
    · rename_i x hx; rw [h r x hx]; exact e
    · cases e
  | .mp r, c, e => by
    simp only [cv] at e ⊢
    split at e
    · rename_i x hx; rw [h r x hx]; exact e
    · cases e
  | .agg l, c, e => by
    simp only [cv] at e ⊢
    split at e
    · rename_i x hx; rw [cvs_mono h l x hx]; exact e
    · cases e
  | .tup l, c, e => by
    simp only [cv] at e ⊢
    split at e
    · rename_i x hx; rw [cvs_mono h l x hx]; exact e
    · cases e
  | .fn f a b, c, e => by
    simp only [cv] at e ⊢
    split at e
    · rename_i x y hx hy; rw [cvs_mono h a x hx, cvs_mono h b y hy]; exact e
    · cases e
theorem cvs_mono {ρ ρ' : Env} (h : ρ.le ρ') : ∀ (l : List AV) (cs : List Value), cvs ρ l = some cs → cvs ρ' l = some cs
  | [], cs, e => e
  | x :: r, cs, e => by
    simp only [cvs] at e ⊢
    split at e
    · rename_i c cs' hc hcs; rw [cv_mono h x c hc, cvs_mono h r cs' hcs]; exact e
    · cases e
end
theorem cvs_nil {ρ : Env} {cs : List Value} (h : cvs ρ [] = some cs) : cs = [] := by simp only [cvs] at h; cases h; rfl
theorem cvs_cons {ρ : Env} {x : AV} {l : List AV} {cs : List Value} (h : cvs ρ (x :: l) = some cs) : ∃ c r, cs = c :: r ∧ cv ρ x = some c ∧ cvs ρ l = some r := by
  simp only [cvs] at h
  split at h
  · rename_i c r hc hr; cases h; exact ⟨c, r, rfl, hc, hr⟩
  · cases h
theorem cvs_mk {ρ : Env} {x : AV} {l : List AV} {c : Value} {r : List Value} (hx : cv ρ x = some c) (hl : cvs ρ l = some r) : cvs ρ (x :: l) = some (c :: r) := by
  simp only [cvs, hx, hl]
theorem cvs_len {ρ : Env} : ∀ {l : List AV} {cs : List Value}, cvs ρ l = some cs → cs.length = l.length
  | [], cs, h => by rw [cvs_nil h]; rfl
  | x :: r, cs, h => by
    obtain ⟨c, r', rfl, _, h2⟩ := cvs_cons h
    simp [cvs_len h2]
theorem cvs_app {ρ : Env} : ∀ {l m : List AV} {a b : List Value}, cvs ρ l = some a → cvs ρ m = some b → cvs ρ (l ++ m) = some (a ++ b)
  | [], m, a, b, h, h' => by rw [cvs_nil h]; exact h'
  | x :: r, m, a, b, h, h' => by
    obtain ⟨c, r', rfl, h1, h2⟩ := cvs_cons h
    exact cvs_mk h1 (cvs_app h2 h')
theorem cvs_at {ρ : Env} : ∀ {l : List AV} {cs : List Value} (_ : cvs ρ l = some cs) (i : Nat) {v : AV}, l[i]? = some v → ∃ c, cs[i]? = some c ∧ cv ρ v = some c
  | x :: r, cs, h, i, v, hv => by
    obtain ⟨c, r', rfl, h1, h2⟩ := cvs_cons h
    cases i with
    | zero => simp at hv; subst hv; exact ⟨c, rfl, h1⟩
    | succ i => exact cvs_at h2 i (by simpa using hv)
theorem ofV_cv (ρ : Env) (x : Value) : cv ρ (ofV x) = some x := by cases x <;> rfl
theorem plain_cv {ρ : Env} {v : AV} {x : Value} (h : plain v = some x) : cv ρ v = some x := by
  cases v <;> simp only [plain] at h <;> first | (cases h; rfl) | cases h
theorem plainC_cv {ρ : Env} {v : AV} {x : Value} (h : plainC v = some x) : cv ρ v = some x := by
  cases v with
  | v y => cases y <;> first | (cases h; rfl) | cases h
  | _ => first | (cases h; rfl) | cases h
theorem plains_cv {ρ : Env} : ∀ {l : List AV} {xs : List Value}, plains l = some xs → cvs ρ l = some xs
  | [], xs, h => by simp only [plains] at h; cases h; rfl
  | x :: r, xs, h => by
    simp only [plains] at h
    split at h
    · rename_i v hv
      cases hr : plains r with
      | none => rw [hr] at h; cases h
      | some ys => rw [hr] at h; cases h; exact cvs_mk (plainC_cv hv) (plains_cv hr)
    · cases h
theorem mkAgg_cv {ρ : Env} {l : List AV} {cs : List Value} (h : cvs ρ l = some cs) : cv ρ (mkAgg l) = some (.agg ⟨cs⟩) := by
  unfold mkAgg
  split
  · rename_i xs hx
    have := plains_cv (ρ := ρ) hx
    rw [h] at this; cases this; rfl
  · simp only [cv, h]
theorem mkTup_cv {ρ : Env} {l : List AV} {cs : List Value} (h : cvs ρ l = some cs) : cv ρ (mkTup l) = some (.tuple ⟨cs⟩) := by
  unfold mkTup
  split
  · rename_i xs hx
    have := plains_cv (ρ := ρ) hx
    rw [h] at this; cases this; rfl
  · simp only [cv, h]
theorem ofVs_cv (ρ : Env) : ∀ l : List Value, cvs ρ (l.map ofV) = some l
  | [] => rfl
  | x :: r => cvs_mk (ofV_cv ρ x) (ofVs_cv ρ r)
theorem cells_cv {ρ : Env} {v : AV} {c : Value} (h : cv ρ v = some c) : cvs ρ v.cells = some c.cells.toList := by
  cases v with
  | v x =>
    simp only [cv] at h; cases h
    cases c <;> first | rfl | exact ofVs_cv ρ _
  | agg l =>
    simp only [cv] at h
    split at h
    · rename_i cs hcs; cases h; exact hcs
    · cases h
  | i k n => simp only [cv] at h; cases h; rfl
  | b x => simp only [cv] at h; cases h; rfl
  | ptr r o => 
    have h' := h
    simp only [cv] at h
    split at h
    · cases h; exact cvs_mk h' rfl
    · cases h
  | sl r o n cc d =>
    have h' := h
    simp only [cv] at h
    split at h
    · cases h; exact cvs_mk h' rfl
    · cases h
  | mp r =>
    have h' := h
    simp only [cv] at h
    split at h
    · cases h; exact cvs_mk h' rfl
    · cases h
  | tup l =>
    have h' := h
    simp only [cv] at h
    split at h
    · cases h; exact cvs_mk h' rfl
    · cases h
  | fn f a b =>
    have h' := h
    simp only [cv] at h
    split at h
    · cases h; exact cvs_mk h' rfl
    · cases h
theorem one_cv {ρ : Env} {v : AV} {c : Value} (h : cv ρ v = some c) (h1 : v.one = true) : c.oneCell' = true := by
  cases v with
  | v x => simp only [cv] at h; cases h; cases c <;> first | rfl | cases h1
  | agg l => cases h1
  | tup l => cases h1
  | i k n => simp only [cv] at h; cases h; rfl
  | b x => simp only [cv] at h; cases h; rfl
  | ptr r o => simp only [cv] at h; split at h <;> cases h; rfl
  | sl r o n cc d => simp only [cv] at h; split at h <;> cases h; rfl
  | mp r => simp only [cv] at h; split at h <;> cases h; rfl
  | fn f a b => simp only [cv] at h; split at h <;> cases h; rfl
end Go.Eng
