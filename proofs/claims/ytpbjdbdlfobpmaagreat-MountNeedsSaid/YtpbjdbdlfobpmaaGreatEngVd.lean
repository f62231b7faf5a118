/- What the abstract run says of the model: equality of flat values; keys of maps. -/
import Derived.Test.YtpbjdbdlfobpmaaGreatEngVc
import Derived.ChangeKeysEq
namespace Go.Eng
open Go Go.RowKit
theorem cellsEq_app : ∀ {s l : List Nat} {X Y : List Value} {r : Bool}, cellsEq (s ++ l) X Y = some r → ∃ r1 r2, cellsEq s (X.take s.length) (Y.take s.length) = some r1 ∧ cellsEq l (X.drop s.length) (Y.drop s.length) = some r2 ∧ r = (r1 && r2)
  | [], l, X, Y, r, e => ⟨true, r, by simp [cellsEq], by simpa using e, by simp⟩
  | k :: s, l, [], Y, r, e => by simp [cellsEq] at e
  | k :: s, l, x :: X, [], r, e => by simp [cellsEq] at e
  | k :: s, l, x :: X, y :: Y, r, e => by
    simp only [List.cons_append, cellsEq] at e
    split at e
    · rename_i hk
      obtain ⟨r1, r2, h1, h2, h3⟩ := cellsEq_app e
      exact ⟨r1, r2, by simp [cellsEq, hk, h1], by simpa using h2, h3⟩
    · rename_i hk
      split at e
      · rename_i r' hr
        cases e
        obtain ⟨r1, r2, h1, h2, h3⟩ := cellsEq_app hr
        exact ⟨false, r2, by simp [cellsEq, hk, h1], by simpa using h2, by simp⟩
      · cases e
    · cases e
theorem cellsEq_len : ∀ {s : List Nat} {X Y : List Value} {r : Bool}, cellsEq s X Y = some r → X.length = s.length ∧ Y.length = s.length
  | [], [], [], r, e => ⟨rfl, rfl⟩
  | [], [], y :: Y, r, e => by simp [cellsEq] at e
  | [], x :: X, Y, r, e => by simp [cellsEq] at e
  | k :: s, [], Y, r, e => by simp [cellsEq] at e
  | k :: s, x :: X, [], r, e => by simp [cellsEq] at e
  | k :: s, x :: X, y :: Y, r, e => by
    simp only [cellsEq] at e
    split at e
    · obtain ⟨h1, h2⟩ := cellsEq_len e; simp [h1, h2]
    · split at e
      · rename_i hr; obtain ⟨h1, h2⟩ := cellsEq_len hr; simp [h1, h2]
      · cases e
    · cases e
/-- a value's cells, as its type has them -/
def asVal (Q : Tab) (t : TypeId) (c : Value) (cs : List Value) : Prop := (isAggA Q t = some true ∧ c = .agg ⟨cs⟩) ∨ (isAggA Q t = some false ∧ cs = [c])
theorem rowV_ok {Q : Tab} {t : TypeId} {x : Value} {xs : List Value} (e : rowV x (isAggA Q t) = some xs) : asVal Q t x xs := by
  unfold rowV at e
  split at e
  · rename_i cs
    split at e
    · rename_i hb; cases e; exact .inl ⟨hb, rfl⟩
    · cases e
  · revert e
    cases hb : isAggA Q t with
    | none => intro e; cases e
    | some b => cases b with
      | true => intro e; cases e
      | false => intro e; cases e; exact .inr ⟨hb, rfl⟩
theorem asVal_agg {Q : Tab} {t : TypeId} {c : Value} {cs : List Value} (h : asVal Q t c cs) (ha : isAggA Q t = some true) : c = .agg ⟨cs⟩ := by
  rcases h with ⟨_, h⟩ | ⟨h, _⟩
  · exact h
  · rw [ha] at h; cases h
theorem asVal_one {Q : Tab} {t : TypeId} {c : Value} {cs : List Value} (h : asVal Q t c cs) (ha : isAggA Q t = some false) : cs = [c] := by
  rcases h with ⟨h, _⟩ | ⟨_, h⟩
  · rw [ha] at h; cases h
  · exact h
theorem cellsEq_one {k : Nat} {x y : Value} {r : Bool} (he : cellsEq [k] [x] [y] = some r) : cellEq k x y = some r := by
  simp only [cellsEq] at he
  split at he
  · rename_i h; cases he; exact h
  · rename_i h; cases he; exact h
  · cases he
theorem cellEq_0 {x y : Value} {r : Bool} (e : cellEq 0 x y = some r) : ∃ k a b, x = .int k a ∧ y = .int k b ∧ r = (a == b) := by
  simp only [cellEq] at e
  split at e
  · rename_i k a k' b
    split at e
    · rename_i hk; cases e; have := kIx_eq hk; subst this; exact ⟨k, a, b, rfl, rfl, eqI_eq a b⟩
    · cases e
  · cases e
theorem cellEq_1 {x y : Value} {r : Bool} (e : cellEq 1 x y = some r) : ∃ a b, x = .bool a ∧ y = .bool b ∧ r = (a == b) := by
  simp only [cellEq] at e
  split at e
  · rename_i a b; cases e; exact ⟨a, b, rfl, rfl, rfl⟩
  · cases e
theorem cellEq_2 {x y : Value} {r : Bool} (e : cellEq 2 x y = some r) : ∃ a b : ByteArray, x = .string a ∧ y = .string b ∧ r = (a.toList == b.toList) := by
  simp only [cellEq] at e
  split at e
  · rename_i a b; cases e; exact ⟨a, b, rfl, rfl, by rw [ByteArray.toList_eq, ByteArray.toList_eq]⟩
  · cases e
section
variable {Q : Tab} (hQ : Q.Ok)
include hQ
theorem run_part_flat {t : TypeId} {n off : Nat} {xs : Array Value} (hs : sizeA Q t = some n) {b : Bool} (ha : isAggA Q t = some b) (hlen : n ≤ xs.size - off) (h1 : b = false → n = 1) (w : World) :
    ∃ c, (part t xs off).run Q.P w = .ok c w ∧ asVal Q t c ((xs.toList.drop off).take n) := by
  unfold part
  cases b with
  | true =>
    refine ⟨.agg (xs.extract off (off + n)), ?_, .inl ⟨ha, ?_⟩⟩
    · simp only [Sem.run_bind, run_isAgg hQ ha w, Result.andThen_ok, if_true, run_sizeOf hQ hs]
      rfl
    · congr 1; apply Array.ext'; simp
  | false =>
    have := h1 rfl
    subst this
    have hlt : off < xs.size := by omega
    refine ⟨xs[off], ?_, .inr ⟨ha, ?_⟩⟩
    · simp [run_isAgg hQ ha w, Array.getElem?_eq_getElem hlt]
    · rw [List.drop_eq_getElem_cons (by simpa using hlt)]
      simp
omit hQ in
theorem flatT_agg {d : Nat} {t : TypeId} {ks : List Nat} (e : flatT Q d t = some ks) : ∃ b, isAggA Q t = some b ∧ (b = false → ks.length = 1) := by
  cases d with
  | zero => cases e
  | succ d =>
    unfold flatT at e
    unfold isAggA
    split at e
    · rename_i hd; rw [hd]; cases e; exact ⟨false, rfl, fun _ => rfl⟩
    · rename_i hd; rw [hd]; cases e; exact ⟨false, rfl, fun _ => rfl⟩
    · rename_i hd; rw [hd]; cases e; exact ⟨false, rfl, fun _ => rfl⟩
    · rename_i hd; rw [hd]; exact ⟨true, rfl, fun h => by cases h⟩
    · rename_i hd; rw [hd]; exact ⟨true, rfl, fun h => by cases h⟩
    · cases e
omit hQ in
theorem repF_len (l : List Nat) : ∀ n, (repF n l).length = n * l.length
  | 0 => by simp [repF]
  | n + 1 => by simp [repF, repF_len l n, Nat.succ_mul]; omega
def EqFlat (Q : Tab) (d : Nat) : Prop := ∀ (t : TypeId) (ks : List Nat), flatT Q d t = some ks → ∀ D, d ≤ D → ∀ (c c' : Value) (cs cs' : List Value) (r : Bool), asVal Q t c cs → asVal Q t c' cs' → cellsEq ks cs cs' = some r → ∀ w, (Op.equalIn D t c c').run Q.P w = .ok r w
theorem eqFields_flat {d : Nat} (IH : EqFlat Q d) {D : Nat} (hD : d ≤ D) (xs ys : Array Value) (w : World) : ∀ (fs : List Field) (o : Nat) (ks : List Nat) (r : Bool), flatF Q (flatT Q d) fs o = some ks → cellsEq ks (xs.toList.drop o) (ys.toList.drop o) = some r → (Op.eqFields D xs ys fs).run Q.P w = .ok r w
  | [], o, ks, r, e, he => by
    simp only [flatF] at e; cases e
    have : r = true := by
      obtain ⟨h1, h2⟩ := cellsEq_len he
      rw [List.eq_nil_of_length_eq_zero h1, List.eq_nil_of_length_eq_zero h2] at he
      simp [cellsEq] at he; exact he
    subst this
    rfl
  | f :: fs, o, ks, r, e, he => by
    simp only [flatF] at e
    split at e
    · rename_i s n hs hn
      split at e
      · rename_i hcond
        simp only [Bool.and_eq_true, Nat.beq_eq, decide_eq_true_eq] at hcond
        obtain ⟨⟨c1, c2⟩, c3⟩ := hcond
        rw [natF_eq] at e
        split at e
        · rename_i l hl
          cases e
          obtain ⟨r1, r2, h1, h2, h3⟩ := cellsEq_app he
          obtain ⟨L1, L2⟩ := cellsEq_len he
          rw [List.length_drop, List.length_append] at L1 L2
          simp only [Array.length_toList] at L1 L2
          obtain ⟨b, g1, g2⟩ := flatT_agg hs
          have g2' : b = false → n = 1 := fun hb => by rw [← c2]; exact g2 hb
          rw [c2] at L1 L2 h1 h2
          subst c1
          obtain ⟨ca, pa, va⟩ := run_part_flat hQ (off := f.offset) (xs := xs) hn g1 (by omega) g2' w
          obtain ⟨cb, pb, vb⟩ := run_part_flat hQ (off := f.offset) (xs := ys) hn g1 (by omega) g2' w
          have heq := IH f.type s hs D hD ca cb _ _ r1 va vb h1 w
          have := eqFields_flat IH hD xs ys w fs (f.offset + n) l r2 hl (by rw [List.drop_drop, List.drop_drop] at h2; exact h2)
          simp only [Op.eqFields, c3, ne_eq, not_false_eq_true, if_true, Sem.run_bind, pa, pb, heq, Result.andThen_ok]
          subst h3
          cases r1
          · rfl
          · simpa using this
        · cases e
      · cases e
    · cases e
theorem eqItems_flat {d : Nat} (IH : EqFlat Q d) {D : Nat} (hD : d ≤ D) (xs ys : Array Value) (w : World) {e : TypeId} {s : List Nat} (hs : flatT Q d e = some s) (hn : sizeA Q e = some s.length) : ∀ (k i : Nat) (r : Bool), cellsEq (repF k s) (xs.toList.drop (i * s.length)) (ys.toList.drop (i * s.length)) = some r → (Op.eqItems D e s.length xs ys (List.range' i k)).run Q.P w = .ok r w
  | 0, i, r, he => by
    have : r = true := by
      obtain ⟨h1, h2⟩ := cellsEq_len he
      rw [List.eq_nil_of_length_eq_zero h1, List.eq_nil_of_length_eq_zero h2] at he
      simp [repF, cellsEq] at he; exact he
    subst this
    rfl
  | k + 1, i, r, he => by
    simp only [repF] at he
    obtain ⟨r1, r2, h1, h2, h3⟩ := cellsEq_app he
    obtain ⟨L1, L2⟩ := cellsEq_len he
    rw [List.length_drop, List.length_append] at L1 L2
    simp only [Array.length_toList] at L1 L2
    obtain ⟨b, g1, g2⟩ := flatT_agg hs
    obtain ⟨ca, pa, va⟩ := run_part_flat hQ (off := i * s.length) (xs := xs) hn g1 (by omega) g2 w
    obtain ⟨cb, pb, vb⟩ := run_part_flat hQ (off := i * s.length) (xs := ys) hn g1 (by omega) g2 w
    have heq := IH e s hs D hD ca cb _ _ r1 va vb h1 w
    have := eqItems_flat IH hD xs ys w hs hn k (i + 1) r2 (by rw [List.drop_drop, List.drop_drop] at h2; rw [Nat.succ_mul]; exact h2)
    rw [List.range'_succ]
    simp only [Op.eqItems, Sem.run_bind, pa, pb, heq, Result.andThen_ok]
    subst h3
    cases r1
    · rfl
    · simpa using this
theorem eq_flat : ∀ d, EqFlat Q d
  | 0 => fun t ks e => by cases e
  | d + 1 => fun t ks e D hD c c' cs cs' r hc hc' he w => by
    obtain ⟨D, rfl⟩ : ∃ D', D = D' + 1 := ⟨D - 1, by omega⟩
    have hD : d ≤ D := by omega
    have IH := eq_flat d
    unfold flatT at e
    split at e
    · rename_i k hd
      cases e
      have ha : isAggA Q t = some false := by unfold isAggA; rw [hd]; rfl
      have q1 := asVal_one hc ha
      have q2 := asVal_one hc' ha
      subst q1; subst q2
      obtain ⟨k1, x, y, rfl, rfl, rfl⟩ := cellEq_0 (cellsEq_one he)
      exact run_equalIn_int w D t k1 k x y (hQ.und t _ hd)
    · rename_i hd
      cases e
      have ha : isAggA Q t = some false := by unfold isAggA; rw [hd]; rfl
      have q1 := asVal_one hc ha
      have q2 := asVal_one hc' ha
      subst q1; subst q2
      obtain ⟨x, y, rfl, rfl, rfl⟩ := cellEq_1 (cellsEq_one he)
      exact run_equalIn_bool' w D t x y (hQ.und t _ hd)
    · rename_i hd
      cases e
      have ha : isAggA Q t = some false := by unfold isAggA; rw [hd]; rfl
      have q1 := asVal_one hc ha
      have q2 := asVal_one hc' ha
      subst q1; subst q2
      obtain ⟨x, y, rfl, rfl, rfl⟩ := cellEq_2 (cellsEq_one he)
      exact run_equalIn_string w D t x y (hQ.und t _ hd)
    · rename_i n el hd
      split at e
      · rename_i s s' hs hs'
        split at e
        · rename_i hl
          cases e
          have hl : s.length = s' := by simpa using hl
          subst hl
          have ha : isAggA Q t = some true := by unfold isAggA; rw [hd]; rfl
          have q1 := asVal_agg hc ha
          have q2 := asVal_agg hc' ha
          subst q1; subst q2
          obtain ⟨i, h1, h2⟩ := sizeA_ok hQ hs'
          have hcell : Q.P.cellsOf el = s.length := by unfold Program.cellsOf; rw [h1]; simp [h2]
          rw [run_equalIn_array w D ⟨cs⟩ ⟨cs'⟩ (hQ.und t _ hd) h1, hcell, List.range_eq_range']
          exact eqItems_flat hQ IH hD ⟨cs⟩ ⟨cs'⟩ w hs hs' n 0 r (by simpa using he)
        · cases e
      · cases e
    · rename_i fs hd
      split at e
      · rename_i hown
        have ha : isAggA Q t = some true := by unfold isAggA; rw [hd]; rfl
        have q1 := asVal_agg hc ha
        have q2 := asVal_agg hc' ha
        subst q1; subst q2
        have hu := hQ.und t _ hd
        have hfo : Q.P.fieldsOf t = fs := by unfold Program.fieldsOf; rw [hu]
        rw [run_equalIn_struct w D t ⟨cs⟩ ⟨cs'⟩ (by rw [hfo]; exact hu) (hQ.own t hown), hfo]
        exact eqFields_flat hQ IH hD ⟨cs⟩ ⟨cs'⟩ w fs.toList 0 ks r e (by simpa using he)
      · cases e
    · cases e
/-- equality of two flat values, as the abstract run says it -/
theorem flatEq_ok {t : TypeId} {x y : Value} {r : Bool} (e : flatEq Q t x y = some r) (w : World) : (Op.equal t x y).run Q.P w = .ok r w := by
  unfold flatEq at e
  split at e
  · rename_i ks xs ys hk hx hy
    exact eq_flat hQ 8 t ks hk 10000 (by omega) x y xs ys r (rowV_ok hx) (rowV_ok hy) e w
  · cases e
end
end Go.Eng
