/- What the abstract run says of the model: lists of operations, code, calls, on the ground that each operation is what it says. -/
import Derived.Test.YtpbjdbdlfobpmaaGreatEngK
namespace Go.Eng
open Go Go.RowKit
/-- the ground: an operation's run, or its call -/
def OpSound (Q : Tab) (cf : CallF) : Prop := ∀ (B : Nat → Prop) (ρ : Env) (fr : Fr) (a : Act) (w : World) (h : Hp) (o : Oper) (x : AV) (h' : Hp), HR B ρ h w → FR ρ fr a.tmps → opA Q cf fr o h = some (x, h') →
  ∀ (K : Act → World → Prop) (Qx : Exit → Act → World → Prop), (∀ ρ' c w', ρ.le ρ' → cv ρ' x = some c → HR B ρ' h' w' → Below B w w' → K (a.put o.dst c) w') → o.wp Q.P a w K Qx
def CallSound (Q : Tab) (cf : CallF) : Prop := ∀ (B : Nat → Prop) (ρ : Env) (w : World) (h : Hp) (f : FuncId) (args : List AV) (cargs : List Value) (x : AV) (h' : Hp), HR B ρ h w → cvs ρ args = some cargs → cf f args h = some (x, h') →
  Calls Q.P f ⟨cargs⟩ w fun e w' => ∃ ρ' c, e = .returned c ∧ ρ.le ρ' ∧ cv ρ' x = some c ∧ HR B ρ' h' w' ∧ Below B w w'
structure SR (B : Nat → Prop) (ρ : Env) (nt : Nat) (fr : Fr) (h : Hp) (a : Act) (w : World) : Prop where
  fr : FR ρ fr a.tmps
  nt : a.tmps.size = nt
  df : a.defers = []
  hp : HR B ρ h w
def DrawSound (Q : Tab) (dr : Draw) : Prop := ∀ (B : Nat → Prop) (ρ : Env) (nt : Nat) (ops : Array Oper) (fr fr' : Fr) (h h' : Hp) (a : Act) (w : World) (id : Nat), SR B ρ nt fr h a w → dr nt ops fr h = some ⟨fr', h'⟩ →
  ∀ (Qx : Exit → Act → World → Prop), (∀ ρ' a' w', ρ.le ρ' → SR B ρ' nt fr' h' a' w' → Below B w w' → Qx .normal a' w') → (Code.region id ops true).wp Q.P Qx a w
theorem Runs.wp {P : Program} {B : Nat → Prop} {ρ : Env} {w : World} {o : Oper} {a : Act} {x : AV} {h' : Hp} (H : Runs P B ρ w (execOp a.eval o) x h') {K : Act → World → Prop} {Qx : Exit → Act → World → Prop}
    (hK : ∀ ρ' c w', ρ.le ρ' → cv ρ' x = some c → HR B ρ' h' w' → Below B w w' → K (a.put o.dst c) w') : o.wp P a w K Qx := by
  obtain ⟨ρ', c, w', hr, h1, h2, h3, h4⟩ := H
  unfold Oper.wp
  rcases hr with hr | ⟨rfl, hr⟩
  · rw [hr]; exact hK ρ' c w' h1 h2 h3 h4
  · rw [hr]; exact hK ρ' undef w' h1 h2 h3 h4
theorem below_trans {B : Nat → Prop} {a b c : World} (h : Below B a b) (k : Below B b c) : Below B a c := h.trans k
section
variable {Q : Tab} {B : Nat → Prop} {ρ : Env} {nt : Nat} {fr : Fr} {a : Act} {w : World} {h : Hp} {ops : Array Oper}
theorem putA_sr {ρ' : Env} {w' : World} {fr' : Fr} {h' : Hp} {x : AV} {dst : Option Tmp} {c : Value} (S : SR B ρ nt fr h a w) (hl : ρ.le ρ') (hc : cv ρ' x = some c) (H : HR B ρ' h' w') (e : putA nt fr x dst = some fr') : SR B ρ' nt fr' h' (a.put dst c) w' := by
  unfold putA at e
  split at e
  · cases e
    exact ⟨S.fr.env hl, S.nt, S.df, H⟩
  · rename_i d
    split at e
    · rename_i hd
      have hd' : d < nt := by simpa using hd
      refine ⟨fun i v hv => ?_, by simp [Act.put, S.nt], S.df, H⟩
      rw [T.get_put e] at hv
      simp only [Act.put, Array.getElem?_setIfInBounds]
      by_cases hi : i = d
      · subst hi
        rw [if_pos rfl] at hv; cases hv
        exact ⟨c, by rw [if_pos rfl, if_pos (by rw [S.nt]; exact hd')], hc⟩
      · rw [if_neg hi] at hv
        rw [if_neg (fun e => hi e.symm)]
        exact (S.fr.env hl) i v hv
    · cases e
theorem boolV_ok {v : AV} {c : Value} (hc : cv ρ v = some c) : (match (some c : Option Value) with | some (.bool b) => some b | _ => none) = boolV v := by
  cases v with
  | i k n => simp only [cv] at hc; cases hc; rfl
  | b b => simp only [cv] at hc; cases hc; rfl
  | v y => simp only [cv] at hc; cases hc; cases c <;> rfl
  | ptr r o => obtain ⟨_, _, rfl⟩ := cv_ptr hc; rfl
  | sl r o n c d => obtain ⟨_, _, rfl⟩ := cv_sl hc; rfl
  | mp r => simp only [cv] at hc; split at hc <;> cases hc; rfl
  | agg l => simp only [cv] at hc; split at hc <;> cases hc; rfl
  | tup l => simp only [cv] at hc; split at hc <;> cases hc; rfl
  | fn f a b => simp only [cv] at hc; split at hc <;> cases hc; rfl
theorem yieldA_ok (S : FR ρ fr a.tmps) (j : Nat) {y : Option Bool} (e : yieldA ops fr j = some y) : yielded ops a.tmps j = y := by
  unfold yieldA at e
  unfold yielded
  split at e
  · rename_i t ht
    split at e
    · rename_i v hv
      cases e
      obtain ⟨c, h1, h2⟩ := S t _ hv
      simp only [ht, Option.bind_some, h1]
      exact boolV_ok h2
    · cases e
  · rename_i ht
    cases e
    simp only [ht, Option.bind_none]
theorem wantA_ok (S : FR ρ fr a.tmps) {o : Oper} {b : Bool} (e : wantA ops fr o = some b) : Region.wanted o (yielded ops a.tmps) = b := by
  unfold wantA at e
  unfold Region.wanted
  split at e
  · rename_i hg; cases e; rw [hg]
  · rename_i j want hg
    rw [hg]
    split at e
    · rename_i c hy
      cases e
      simp only [yieldA_ok S j hy]
      rfl
    · rename_i hy
      cases e
      simp only [yieldA_ok S j hy]
      rfl
    · cases e
theorem listA_ok {cf : CallF} (hO : OpSound Q cf) : ∀ (l : List Oper) {fr fr' : Fr} {h h' : Hp} {a : Act} {w : World} {ρ : Env}, SR B ρ nt fr h a w → listA Q cf nt ops l fr h = some ⟨fr', h'⟩ →
    ∀ (Qx : Exit → Act → World → Prop), (∀ ρ' a' w', ρ.le ρ' → SR B ρ' nt fr' h' a' w' → Below B w w' → Qx .normal a' w') → wpList Q.P ops Qx l a w
  | [], fr, fr', h, h', a, w, ρ, S, e, Qx, hQ => by
    simp only [listA] at e; cases e
    exact hQ ρ a w (Env.le_refl ρ) S (Below.refl _ _)
  | o :: r, fr, fr', h, h', a, w, ρ, S, e, Qx, hQ => by
    simp only [listA] at e
    split at e
    · rename_i hw
      have hw := wantA_ok (ops := ops) S.fr hw
      split at e
      · rename_i x h1 hop
        rw [AV.seq_eq] at e
        split at e
        · rename_i fr1 hput
          unfold wpList
          rw [if_pos hw]
          refine .inl (hO B ρ fr a w h o x h1 S.hp S.fr hop _ _ fun ρ1 c w1 hl hc H1 hb1 => ?_)
          exact listA_ok hO r (putA_sr S hl hc H1 hput) e Qx fun ρ2 a2 w2 hl2 S2 hb2 => hQ ρ2 a2 w2 (Env.le_trans hl hl2) S2 (hb1.trans hb2)
        · cases e
      · cases e
    · rename_i hw
      have hw := wantA_ok (ops := ops) S.fr hw
      split at e
      · rename_i fr1 hput
        unfold wpList
        rw [if_neg (by rw [hw]; decide)]
        exact listA_ok hO r (putA_sr S (Env.le_refl ρ) rfl S.hp hput) e Qx hQ
      · cases e
    · cases e
theorem wp_loop_fuel {P : Program} {c : Code} {Qx : Exit → Act → World → Prop} (I : Nat → Act → World → Prop)
    (round : ∀ n a w, I n a w → c.wp P (Exit.then (fun a' w' => ∃ m, m < n ∧ I m a' w') Qx) a w) (n : Nat) (a : Act) (w : World) (h0 : I n a w) : (Code.loop c).wp P Qx a w := by
  intro b k cs
  have key : ∀ n a w, I n a w → ∃ e a' w', Qx e a' w' ∧ Arrives P (lone (b.at a (.code c :: .inLoop c :: k)) cs w) b k cs e a' w' := by
    intro n
    induction n using Nat.strongRecOn with
    | _ n ih =>
      intro a w hI
      obtain ⟨e, a1, w1, hq, harr⟩ := round n a w hI b (.inLoop c :: k) cs
      cases e with
      | normal =>
        obtain ⟨m, hm, hI1⟩ := hq
        obtain ⟨e2, a2, w2, hq2, harr2⟩ := ih m hm a1 w1 hI1
        exact ⟨e2, a2, w2, hq2, .of_steps (Steps.trans harr (.one step_inLoop)) harr2⟩
      | exit id => exact ⟨_, a1, w1, hq, .pass (x := .inLoop c) rfl (fun _ _ => .inl (by simp)) harr⟩
      | goto l => exact ⟨_, a1, w1, hq, .pass (x := .inLoop c) rfl (fun _ _ => .inl (by simp)) harr⟩
      | ret => exact ⟨_, a1, w1, hq, .pass (x := .inLoop c) rfl (fun _ _ => .inl (by simp)) harr⟩
      | panic ch => exact ⟨_, a1, w1, hq, .pass (x := .inLoop c) rfl (fun _ _ => .inl (by simp)) harr⟩
      | outgrown => exact ⟨_, a1, w1, hq, .pass (x := .inLoop c) rfl (fun _ _ => .inl (by simp)) harr⟩
  obtain ⟨e, a', w', hq, harr⟩ := key n a w h0
  exact ⟨e, a', w', hq, .of_steps (.one step_loop) harr⟩
def outOf : Out → Exit
  | .normal => .normal
  | .exit id => .exit id
  | .ret => .ret
def CodeSound (Q : Tab) (cf : CallF) (dr : CallF → Draw) (nt : Nat) (B : Nat → Prop) (n : Nat) : Prop := ∀ (c : Code) {fr fr' : Fr} {h h' : Hp} {a : Act} {w : World} {ρ : Env} {out : Out}, SR B ρ nt fr h a w → codeA Q cf dr nt n c fr h = some (out, ⟨fr', h'⟩) →
    ∀ (Qx : Exit → Act → World → Prop), (∀ ρ' a' w', ρ.le ρ' → SR B ρ' nt fr' h' a' w' → Below B w w' → Qx (outOf out) a' w') → c.wp Q.P Qx a w
theorem codeA_ok {cf : CallF} {dr : CallF → Draw} (hO : OpSound Q cf) (hD : DrawSound Q (dr cf)) (n : Nat) : CodeSound Q cf dr nt B n := by
  induction n using Nat.strongRecOn with
  | _ n ih =>
  cases n with
  | zero => intro c fr fr' h h' a w ρ out S e Qx hQ; cases e
  | succ n =>
    intro c fr fr' h h' a w ρ out S e Qx hQ
    have IH : CodeSound Q cf dr nt B n := ih n (Nat.lt_succ_self n)
    cases c with
    | skip => simp only [codeA] at e; cases e; exact wp_skip (hQ ρ a w (Env.le_refl ρ) S (Below.refl _ _))
    | exit id => simp only [codeA] at e; cases e; exact wp_exit (hQ ρ a w (Env.le_refl ρ) S (Below.refl _ _))
    | ret => simp only [codeA] at e; cases e; exact wp_ret (hQ ρ a w (Env.le_refl ρ) S (Below.refl _ _))
    | region id ops draw =>
      cases draw with
      | false =>
        simp only [codeA] at e
        unfold asNormal at e
        split at e
        · rename_i s hs
          cases e
          exact wp_region_list (listA_ok hO ops.toList S hs Qx hQ)
        · cases e
      | true =>
        simp only [codeA] at e
        unfold asNormal at e
        split at e
        · rename_i s hs
          cases e
          exact hD B ρ nt ops fr fr' h h' a w id S hs Qx hQ
        · cases e
    | seq x y =>
      simp only [codeA] at e
      unfold thenA at e
      split at e
      · rename_i fr1 h1 h2
        refine wp_seq (IH x S h2 _ fun ρ1 a1 w1 hl S1 hb => ?_)
        exact IH y S1 e Qx fun ρ2 a2 w2 hl2 S2 hb2 => hQ ρ2 a2 w2 (Env.le_trans hl hl2) S2 (hb.trans hb2)
      · rename_i hne
        refine wp_seq (IH x S e _ fun ρ1 a1 w1 hl S1 hb => ?_)
        cases out with
        | normal => exact absurd e (hne _ _)
        | exit id => exact hQ ρ1 a1 w1 hl S1 hb
        | ret => exact hQ ρ1 a1 w1 hl S1 hb
    | cond x y z =>
      simp only [codeA] at e
      unfold condA at e
      split at e
      · rename_i b hx
        have hc := evalA_cv S.fr hx
        simp only [cv] at hc
        cases b with
        | true => exact wp_cond_true (Option.some.inj hc).symm (IH y S e Qx hQ)
        | false => exact wp_cond_false (Option.some.inj hc).symm (IH z S e Qx hQ)
      · cases e
    | block id x =>
      simp only [codeA] at e
      unfold inBlockA at e
      split at e
      · rename_i id' s hs
        obtain ⟨fr1, h1⟩ := s
        refine wp_block (IH x S hs _ fun ρ1 a1 w1 hl S1 hb => ?_)
        split at e
        · rename_i hid
          cases e
          have : id' = id := by simpa using hid
          show (if id' = id then _ else _)
          rw [if_pos this]
          exact hQ ρ1 a1 w1 hl S1 hb
        · rename_i hid
          cases e
          have : ¬ id' = id := fun e => by rw [e] at hid; simp at hid
          show (if id' = id then _ else _)
          rw [if_neg this]
          exact hQ ρ1 a1 w1 hl S1 hb
      · rename_i hne
        refine wp_block (IH x S e _ fun ρ1 a1 w1 hl S1 hb => ?_)
        cases out with
        | normal => exact hQ ρ1 a1 w1 hl S1 hb
        | exit id' => exact absurd e (hne _ _)
        | ret => exact hQ ρ1 a1 w1 hl S1 hb
    | loop x =>
      refine wp_loop_fuel (fun m a1 w1 => m ≤ n + 1 ∧ ∃ fr1 h1 ρ1, ρ.le ρ1 ∧ Below B w w1 ∧ SR B ρ1 nt fr1 h1 a1 w1 ∧ codeA Q cf dr nt m (.loop x) fr1 h1 = some (out, ⟨fr', h'⟩)) (fun m a1 w1 hI => ?_) (n + 1) a w ⟨Nat.le_refl _, fr, h, ρ, Env.le_refl ρ, Below.refl _ _, S, e⟩
      obtain ⟨hm, fr1, h1, ρ1, hl, hb, S1, e1⟩ := hI
      cases m with
      | zero => cases e1
      | succ m =>
        simp only [codeA] at e1
        unfold thenA at e1
        split at e1
        · rename_i fr2 h2 hx
          exact ih m (by omega) x S1 hx _ fun ρ2 a2 w2 hl2 S2 hb2 => ⟨m, Nat.lt_succ_self m, by omega, fr2, h2, ρ2, Env.le_trans hl hl2, hb.trans hb2, S2, e1⟩
        · rename_i hne
          refine ih m (by omega) x S1 e1 _ fun ρ2 a2 w2 hl2 S2 hb2 => ?_
          cases out with
          | normal => exact absurd e1 (hne _ _)
          | exit id => exact hQ ρ2 a2 w2 (Env.le_trans hl hl2) S2 (hb.trans hb2)
          | ret => exact hQ ρ2 a2 w2 (Env.le_trans hl hl2) S2 (hb.trans hb2)
    | _ => cases e
end
end Go.Eng
