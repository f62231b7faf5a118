/- What the abstract run says of the model: the whole heap. -/
import Derived.Test.YtpbjdbdlfobpmaaGreatEngC
namespace Go.Eng
open Go Go.RowKit
def MapR (ρ : Env) : List (Value × AV × Nat) → List MapEntry → Prop
  | [], [] => True
  | (k, v, b) :: r, e :: s => e.key = k ∧ e.born = b ∧ cv ρ v = some e.val ∧ MapR ρ r s
  | _, _ => False
theorem MapR.env {ρ ρ' : Env} (hl : ρ.le ρ') : ∀ {l : List (Value × AV × Nat)} {m : List MapEntry}, MapR ρ l m → MapR ρ' l m
  | [], [], _ => trivial
  | (_, v, _) :: _, e :: _, ⟨a, b, c, d⟩ => ⟨a, b, cv_mono hl v e.val c, MapR.env hl d⟩
  | [], _ :: _, h => h
  | _ :: _, [], h => h
def OR (ρ : Env) (w : World) (x : Blk) : AO → Prop
  | .row e es n z t => RowR ρ w x ⟨e, es, n, z, t⟩
  | .map es clock => ∃ ents, w.heap[x.b]? = some (.map ents clock) ∧ MapR ρ es ents.toList
  | .dead => True
def alive : AO → Bool
  | .dead => false
  | _ => true
theorem OR.env {ρ ρ' : Env} {w : World} {x : Blk} {o : AO} (h : OR ρ w x o) (hl : ρ.le ρ') : OR ρ' w x o := by
  cases o with
  | row e es n z t => exact RowR.env h hl
  | map es clock => obtain ⟨ents, a, b⟩ := h; exact ⟨ents, a, b.env hl⟩
  | dead => trivial
theorem OR.world {ρ : Env} {w w' : World} {x : Blk} {o : AO} (h : OR ρ w x o) (hb : w'.heap[x.b]? = w.heap[x.b]?) : OR ρ w' x o := by
  cases o with
  | row e es n z t => exact RowR.world h hb
  | map es clock => obtain ⟨ents, a, b⟩ := h; exact ⟨ents, hb.trans a, b⟩
  | dead => trivial
theorem OR.lt {ρ : Env} {w : World} {x : Blk} {o : AO} (h : OR ρ w x o) (ha : alive o = true) : x.b < w.heap.size := by
  cases o with
  | row e es n z t => obtain ⟨_, _, a, _⟩ := h; exact (Array.getElem?_eq_some_iff.1 a).1
  | map es clock => obtain ⟨_, a, _⟩ := h; exact (Array.getElem?_eq_some_iff.1 a).1
  | dead => cases ha
/-- what is kept: the blocks of a set are as they were -/
structure Below (B : Nat → Prop) (w w' : World) : Prop where
  os : w'.os = w.os
  tape : w'.tape = w.tape
  output : w'.output = w.output
  size : w.heap.size ≤ w'.heap.size
  block : ∀ k, B k → w'.heap[k]? = w.heap[k]?
theorem Below.refl (B : Nat → Prop) (w : World) : Below B w w := ⟨rfl, rfl, rfl, Nat.le_refl _, fun _ _ => rfl⟩
theorem Below.trans {B : Nat → Prop} {a b c : World} (h : Below B a b) (k : Below B b c) : Below B a c :=
  ⟨k.os.trans h.os, k.tape.trans h.tape, k.output.trans h.output, Nat.le_trans h.size k.size, fun i hi => (k.block i hi).trans (h.block i hi)⟩
theorem Below.mono {B B' : Nat → Prop} {w w' : World} (h : Below B w w') (hB : ∀ k, B' k → B k) : Below B' w w' := ⟨h.os, h.tape, h.output, h.size, fun k hk => h.block k (hB k hk)⟩
theorem Below.drew {B : Nat → Prop} {a w : World} (h : Below B a w) : Below B a w.drew := ⟨h.os, h.tape, h.output, h.size, h.block⟩
theorem heap_alloc_old (w : World) (o : Obj) (k : Nat) (h : k < w.heap.size) : (w.alloc o).heap[k]? = w.heap[k]? := by
  show (w.heap.push o)[k]? = _
  rw [Array.getElem?_push, if_neg (by omega)]
theorem Below.alloc {B : Nat → Prop} {a w : World} (h : Below B a w) (hB : ∀ j, B j → j < w.heap.size) (o : Obj) : Below B a (w.alloc o) :=
  h.trans ⟨rfl, rfl, rfl, by simp, fun k hk => heap_alloc_old _ _ _ (hB k hk)⟩
structure HR (B : Nat → Prop) (ρ : Env) (h : Hp) (w : World) : Prop where
  live : ∀ r o, h.t.get r = some o → alive o = true → ∃ x, ρ r = some x ∧ ¬ B x.b ∧ OR ρ w x o
  apart : ∀ r r' o o' x x', h.t.get r = some o → alive o = true → h.t.get r' = some o' → alive o' = true → ρ r = some x → ρ r' = some x' → x.b = x'.b → r = r'
  fresh : ∀ r, h.nx ≤ r → ρ r = none ∧ h.t.get r = none
  base : ∀ j, B j → j < w.heap.size
theorem HR.baseLe {B : Nat → Prop} {ρ : Env} {h : Hp} {w w' : World} (H : HR B ρ h w) (hs : w.heap.size ≤ w'.heap.size) : ∀ j, B j → j < w'.heap.size := fun j hj => Nat.lt_of_lt_of_le (H.base j hj) hs
theorem HR.start (w : World) : HR (· < w.heap.size) (fun _ => none) ⟨.leaf, 0⟩ w :=
  ⟨(fun r o h => by cases h), (fun r r' o o' x x' h => by cases h), (fun r _ => ⟨rfl, rfl⟩), fun _ h => h⟩
/-- what is read of the heap -/
def HL (ρ : Env) (h : Hp) (w : World) : Prop := ∀ r o, h.t.get r = some o → alive o = true → ∃ x, ρ r = some x ∧ OR ρ w x o
theorem HR.hl {B : Nat → Prop} {ρ : Env} {h : Hp} {w : World} (H : HR B ρ h w) : HL ρ h w := fun r o e a => let ⟨x, k1, _, k3⟩ := H.live r o e a; ⟨x, k1, k3⟩
/-- the world beside what the run names may turn -/
theorem HR.world {B : Nat → Prop} {ρ : Env} {h : Hp} {w w' : World} (H : HR B ρ h w) (hb : ∀ j, j < w.heap.size → w'.heap[j]? = w.heap[j]?) (hs : w.heap.size ≤ w'.heap.size) : HR B ρ h w' :=
  ⟨fun r o e a => let ⟨x, k1, k2, k3⟩ := H.live r o e a; ⟨x, k1, k2, k3.world (hb x.b (k3.lt a))⟩, H.apart, H.fresh, H.baseLe hs⟩
theorem withT_t (h : Hp) (t : T AO) : (h.withT t).t = t := by cases h; rfl
theorem withT_nx (h : Hp) (t : T AO) : (h.withT t).nx = h.nx := by cases h; rfl
theorem putRow_get {h h' : Hp} {r : Nat} {o : AO} (e : putRow h r o = some h') : h'.nx = h.nx ∧ ∀ j, h'.t.get j = if j = r then some o else h.t.get j := by
  unfold putRow at e
  split at e
  · rename_i t' ht
    cases e
    exact ⟨withT_nx _ _, fun j => by rw [withT_t]; exact T.get_put ht j⟩
  · cases e
/-- what one name stands for is another thing now -/
theorem HR.put {B : Nat → Prop} {ρ : Env} {h h' : Hp} {w w' : World} (H : HR B ρ h w) {r : Nat} {o o' : AO} {x : Blk} (hp : putRow h r o' = some h') (ho : h.t.get r = some o) (ha : alive o = true) (hx : ρ r = some x)
    (hb : ∀ j, j ≠ x.b → j < w.heap.size → w'.heap[j]? = w.heap[j]?) (hs : w.heap.size ≤ w'.heap.size) (hn : OR ρ w' x o') : HR B ρ h' w' := by
  obtain ⟨hnx, hget⟩ := putRow_get hp
  refine ⟨fun q p e a => ?_, fun q q' p p' y y' e a e' a' ey ey' eb => ?_, fun q hq => ?_, H.baseLe hs⟩
  · rw [hget] at e
    by_cases hq : q = r
    · subst hq
      rw [if_pos rfl] at e; cases e
      obtain ⟨x2, k1, k2, _⟩ := H.live q o ho ha
      rw [hx] at k1; cases k1
      exact ⟨x, hx, k2, hn⟩
    · rw [if_neg hq] at e
      obtain ⟨y, k1, k2, k3⟩ := H.live q p e a
      exact ⟨y, k1, k2, k3.world (hb y.b (fun eb => hq (H.apart q r p o y x e a ho ha k1 hx eb)) (k3.lt a))⟩
  · have old : ∀ q p, h'.t.get q = some p → alive p = true → ∃ p', h.t.get q = some p' ∧ alive p' = true := fun q p e a => by
      rw [hget] at e
      by_cases hq : q = r
      · subst hq; exact ⟨o, ho, ha⟩
      · rw [if_neg hq] at e; exact ⟨p, e, a⟩
    obtain ⟨p1, e1, a1⟩ := old q p e a
    obtain ⟨p2, e2, a2⟩ := old q' p' e' a'
    exact H.apart q q' p1 p2 y y' e1 a1 e2 a2 ey ey' eb
  · rw [hnx] at hq
    obtain ⟨k1, k2⟩ := H.fresh q hq
    refine ⟨k1, ?_⟩
    rw [hget]
    by_cases e : q = r
    · subst e; rw [k2] at ho; cases ho
    · rw [if_neg e]; exact k2
theorem HR.kill {B : Nat → Prop} {ρ : Env} {h h' : Hp} {w : World} (H : HR B ρ h w) {r : Nat} (hr : r < h.nx) (hp : putRow h r .dead = some h') : HR B ρ h' w := by
  obtain ⟨hnx, hget⟩ := putRow_get hp
  have old : ∀ q p, h'.t.get q = some p → alive p = true → h.t.get q = some p ∧ q ≠ r := fun q p e a => by
    rw [hget] at e
    by_cases hq : q = r
    · subst hq; rw [if_pos rfl] at e; cases e; cases a
    · rw [if_neg hq] at e; exact ⟨e, hq⟩
  refine ⟨fun q p e a => H.live q p (old q p e a).1 a, fun q q' p p' y y' e a e' a' ey ey' eb => H.apart q q' p p' y y' (old q p e a).1 a (old q' p' e' a').1 a' ey ey' eb, fun q hq => ?_, H.base⟩
  rw [hnx] at hq
  obtain ⟨k1, k2⟩ := H.fresh q hq
  refine ⟨k1, ?_⟩
  rw [hget, if_neg (by omega)]; exact k2
def Env.set (ρ : Env) (r : Nat) (x : Blk) : Env := fun q => if q = r then some x else ρ q
theorem Env.set_le {ρ : Env} {r : Nat} {x : Blk} (h : ρ r = none) : ρ.le (ρ.set r x) := fun q y e => by
  unfold Env.set
  by_cases hq : q = r
  · subst hq; rw [h] at e; cases e
  · rw [if_neg hq]; exact e
theorem Env.set_at (ρ : Env) (r : Nat) (x : Blk) : (ρ.set r x) r = some x := by unfold Env.set; rw [if_pos rfl]
theorem newA_get {h h' : Hp} {r : Nat} {o : AO} (e : newA h o = some (r, h')) : r = h.nx ∧ h'.nx = h.nx + 1 ∧ ∀ j, h'.t.get j = if j = r then some o else h.t.get j := by
  obtain ⟨t, nx⟩ := h
  simp only [newA] at e
  split at e
  · rename_i t' ht
    rw [natF_eq] at e
    cases e
    exact ⟨rfl, rfl, fun j => T.get_put ht j⟩
  · cases e
/-- a new name; its block is none that a living name stands for -/
theorem HR.new {B : Nat → Prop} {ρ : Env} {h h' : Hp} {w w' : World} (H : HR B ρ h w) {r : Nat} {o : AO} {x : Blk} (hn : newA h o = some (r, h')) (hxB : ¬ B x.b)
    (hb : ∀ q p y, h.t.get q = some p → alive p = true → ρ q = some y → y.b ≠ x.b ∧ w'.heap[y.b]? = w.heap[y.b]?) (hs : w.heap.size ≤ w'.heap.size) (ho : OR (ρ.set r x) w' x o) :
    HR B (ρ.set r x) h' w' ∧ ρ.le (ρ.set r x) ∧ (ρ.set r x) r = some x := by
  obtain ⟨hr, hnx, hget⟩ := newA_get hn
  obtain ⟨f1, f2⟩ := H.fresh r (by omega)
  have hle := Env.set_le (x := x) f1
  refine ⟨⟨fun q p e a => ?_, fun q q' p p' y y' e a e' a' ey ey' eb => ?_, fun q hq => ?_, H.baseLe hs⟩, hle, Env.set_at ρ r x⟩
  · rw [hget] at e
    by_cases hq : q = r
    · subst hq
      rw [if_pos rfl] at e; cases e
      exact ⟨x, Env.set_at ρ q x, hxB, ho⟩
    · rw [if_neg hq] at e
      obtain ⟨y, k1, k2, k3⟩ := H.live q p e a
      exact ⟨y, hle q y k1, k2, (k3.world (hb q p y e a k1).2).env hle⟩
  · rw [hget] at e e'
    by_cases hq : q = r
    · by_cases hq' : q' = r
      · rw [hq, hq']
      · subst hq
        rw [Env.set_at] at ey; cases ey
        rw [if_neg hq'] at e'
        simp only [Env.set, if_neg hq'] at ey'
        exact absurd eb.symm (hb q' p' y' e' a' ey').1
    · by_cases hq' : q' = r
      · subst hq'
        rw [Env.set_at] at ey'; cases ey'
        rw [if_neg hq] at e
        simp only [Env.set, if_neg hq] at ey
        exact absurd eb (hb q p y e a ey).1
      · rw [if_neg hq] at e
        rw [if_neg hq'] at e'
        simp only [Env.set, if_neg hq] at ey
        simp only [Env.set, if_neg hq'] at ey'
        exact H.apart q q' p p' y y' e a e' a' ey ey' eb
  · obtain ⟨k1, k2⟩ := H.fresh q (by omega)
    have : q ≠ r := by omega
    refine ⟨by unfold Env.set; rw [if_neg this]; exact k1, by rw [hget, if_neg this]; exact k2⟩
/-- a new block of the world -/
theorem HR.alloc {B : Nat → Prop} {ρ : Env} {h h' : Hp} {w : World} (H : HR B ρ h w) {r : Nat} {o : AO} {k : Nat} (ob : Obj) (hn : newA h o = some (r, h')) (ho : OR (ρ.set r ⟨w.heap.size, k⟩) (w.alloc ob) ⟨w.heap.size, k⟩ o) :
    HR B (ρ.set r ⟨w.heap.size, k⟩) h' (w.alloc ob) ∧ ρ.le (ρ.set r ⟨w.heap.size, k⟩) ∧ (ρ.set r ⟨w.heap.size, k⟩) r = some ⟨w.heap.size, k⟩ ∧ Below B w (w.alloc ob) := by
  have := H.new hn (fun hB => Nat.lt_irrefl _ (H.base _ hB)) (fun q p y e a ey => ?_) (by simp) ho
  · exact ⟨this.1, this.2.1, this.2.2, (Below.refl _ _).alloc H.base _⟩
  · obtain ⟨y2, k1, k2, k3⟩ := H.live q p e a
    rw [ey] at k1; cases k1
    have hl := k3.lt a
    exact ⟨by simp; omega, heap_alloc_old w ob y.b hl⟩
end Go.Eng
