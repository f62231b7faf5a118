/- Contracts: the sum. -/
import Derived.Test.YtpbjdbdlfobpmaaGreatDgX
import Derived.Deep.RegionLaw
import Derived.Deep.AppendSrc
import Derived.Outline
import Derived.Deep.RegionHeld3
import Derived.Deep.MidRow
namespace Go.Proofs.YtpbjdbdlfobpmaaGreat
open Go.RowKit Go.Eng
section
variable {P : Program} {ops : Array Oper} {o : Oper} {a : Act} {w : World} {K : Act → World → Prop} {Q : Exit → Act → World → Prop} {E : Prop}
/-- append to a slice that has no room, as one step of a region that draws -/
theorem step_append_full (hg : o.guard = none) (s x : Operand) (t : TypeId) (ho : o.op = .call { callee := .builtin .append, args := #[s, x], argTypes := #[t, t] })
    (e : TypeId) (i : TypeInfo) (z : Value) (ht : P.underlying t = some (.slice e)) (hi : P.info? e = some i) (hz : i.zero = some z) (hsize : i.size = 1) (hby : i.bytes = 1) (hzs : z.cells.size = 1)
    (base : Option Addr) (n : Nat) (olds : List Value) (hs : a.eval s = .slice base n n) (ad : Addr) (u : Value) (hx : a.eval x = .slice (some ad) 1 1) (hu : w.cell? ad = some u) (hb : ad.off = 0 ∧ ad.spot = none) (h1 : u.oneCell' = true)
    (holds : (Builtin.firstCells 1 n (.slice base n n)).run P w.drew = .ok olds.toArray w.drew) (hol : olds.length = n) (hn : n ≤ 1000000)
    (h : ∀ v' w', w'.ownsRow w.heap.size e 1 v' (n + 1) (olds ++ [u]) → w.grownBy w' none → K (a.put o.dst v') w') :
    if Region.wanted o (yielded ops a.tmps) = true then Oper.wp P o a w K Q else E := by
  rw [if_pos (by simp [Region.wanted, hg])]
  have hsrc : Src P i.size t (.slice (some ad) 1 1) 1 [u] w := Src.ofSlice w ht ad 1 1 [u] (by rw [hsize]; rfl) (fun j v hv => by
    cases j with
    | zero =>
      simp at hv; subst hv
      obtain ⟨b, off, sp⟩ := ad
      obtain ⟨rfl, rfl⟩ := hb
      rw [Addr.add_mid]; exact hu
    | succ j => simp at hv) (fun v hv => by simp at hv; subst hv; exact h1)
  have hrun := run_append_grow_src (P := P) w t t o.type e i z ht hi hz base n n olds (by rw [hsize]; exact holds) (.slice (some ad) 1 1) 1 [u] hsrc (by omega) (by omega) (by
    rw [hby]
    exact growslice_fits (by omega) (by omega))
  have hge := grownCap_ge w (n + 1) n e
  have hle := grownCap_le_maxLen w (n + 1) n e (by unfold maxLen; omega)
  unfold Oper.wp
  rw [exec_builtin ho rfl]
  have hargs : (#[s, x] : Array Operand).map a.eval = #[.slice base n n, .slice (some ad) 1 1] := by simp [hs, hx]
  rw [hargs]
  simp only [builtin, Sem.run_bind]
  rw [hrun]
  refine h _ _ ⟨by simp [hol], .inr ⟨w.heap.size, _, _, rfl, Nat.le_refl _, heap_alloc_new w.drew _, hge, hle, ?_, ?_⟩⟩ ⟨rfl, rfl, rfl, by simp, fun j hj _ => RowKit.Below.heap_alloc w.drew _ j hj⟩
  · rw [Array.size_append, zeroCells_size, hzs, List.size_toArray, List.length_append, hol]
    simp only [List.length_cons, List.length_nil]; omega
  · have hl : (olds ++ [u]).length = n + 1 := by simp [hol]
    rw [Nat.mul_one, Array.toList_append]
    exact List.take_left' hl
end
/-- bytes as cells -/
def bc (l : List Int) : List Value := l.map (Value.int .u8)
/-- the bytes that are digested last: what was held, a mark, zeros, how many in all -/
def tailI (hb : List Int) (j : Nat) : List Int := hb ++ (128 :: List.replicate j 0)
def n8 (n : Int) : List Int := [b64 n 0, b64 n 1, b64 n 2, b64 n 3, b64 n 4, b64 n 5, b64 n 6, b64 n 7]
def fBytes (k : Nat) (f : Nat → Int) : List Int := (List.range k).map f
theorem idx247_0 (p0 p1 p2 p3 p4 p5 p6 p7 : Int) (W : World) : (Instr.index 247 (.agg #[.int .u32 p0, .int .u32 p1, .int .u32 p2, .int .u32 p3, .int .u32 p4, .int .u32 p5, .int .u32 p6, .int .u32 p7]) (.int .i64 0)).run Tryz.prog W = .ok (.int .u32 p0) W := by kernel_rfl
theorem idx247_1 (p0 p1 p2 p3 p4 p5 p6 p7 : Int) (W : World) : (Instr.index 247 (.agg #[.int .u32 p0, .int .u32 p1, .int .u32 p2, .int .u32 p3, .int .u32 p4, .int .u32 p5, .int .u32 p6, .int .u32 p7]) (.int .i64 1)).run Tryz.prog W = .ok (.int .u32 p1) W := by kernel_rfl
theorem idx247_2 (p0 p1 p2 p3 p4 p5 p6 p7 : Int) (W : World) : (Instr.index 247 (.agg #[.int .u32 p0, .int .u32 p1, .int .u32 p2, .int .u32 p3, .int .u32 p4, .int .u32 p5, .int .u32 p6, .int .u32 p7]) (.int .i64 2)).run Tryz.prog W = .ok (.int .u32 p2) W := by kernel_rfl
theorem idx247_3 (p0 p1 p2 p3 p4 p5 p6 p7 : Int) (W : World) : (Instr.index 247 (.agg #[.int .u32 p0, .int .u32 p1, .int .u32 p2, .int .u32 p3, .int .u32 p4, .int .u32 p5, .int .u32 p6, .int .u32 p7]) (.int .i64 3)).run Tryz.prog W = .ok (.int .u32 p3) W := by kernel_rfl
theorem idx247_4 (p0 p1 p2 p3 p4 p5 p6 p7 : Int) (W : World) : (Instr.index 247 (.agg #[.int .u32 p0, .int .u32 p1, .int .u32 p2, .int .u32 p3, .int .u32 p4, .int .u32 p5, .int .u32 p6, .int .u32 p7]) (.int .i64 4)).run Tryz.prog W = .ok (.int .u32 p4) W := by kernel_rfl
theorem idx247_5 (p0 p1 p2 p3 p4 p5 p6 p7 : Int) (W : World) : (Instr.index 247 (.agg #[.int .u32 p0, .int .u32 p1, .int .u32 p2, .int .u32 p3, .int .u32 p4, .int .u32 p5, .int .u32 p6, .int .u32 p7]) (.int .i64 5)).run Tryz.prog W = .ok (.int .u32 p5) W := by kernel_rfl
theorem idx247_6 (p0 p1 p2 p3 p4 p5 p6 p7 : Int) (W : World) : (Instr.index 247 (.agg #[.int .u32 p0, .int .u32 p1, .int .u32 p2, .int .u32 p3, .int .u32 p4, .int .u32 p5, .int .u32 p6, .int .u32 p7]) (.int .i64 6)).run Tryz.prog W = .ok (.int .u32 p6) W := by kernel_rfl
theorem idx247_7 (p0 p1 p2 p3 p4 p5 p6 p7 : Int) (W : World) : (Instr.index 247 (.agg #[.int .u32 p0, .int .u32 p1, .int .u32 p2, .int .u32 p3, .int .u32 p4, .int .u32 p5, .int .u32 p6, .int .u32 p7]) (.int .i64 7)).run Tryz.prog W = .ok (.int .u32 p7) W := by kernel_rfl
def oB (P : List Int) (p : Nat) : List Int := (List.range p).flatMap fun i => [b32 (P.getD i 0) 0, b32 (P.getD i 0) 1, b32 (P.getD i 0) 2, b32 (P.getD i 0) 3]
theorem oB_len (P : List Int) : ∀ p, (oB P p).length = 4 * p
  | 0 => rfl
  | p + 1 => by
    have := oB_len P p
    unfold oB at this ⊢
    rw [List.range_succ, List.flatMap_append, List.length_append, this]
    simp; omega
def RowO (w : World) (g : Nat) (l : List Int) : Prop := w.heap[g]? = some (.cells (bc l).toArray 39 (0, 0))
section
variable {w w' : World} {g : Nat} {l : List Int}
theorem RowO.heap (h : RowO w g l) : w.heap[g]? = some (.cells (bc l).toArray 39 (0, 0)) := h
theorem RowO.lt (h : RowO w g l) : g < w.heap.size := (Array.getElem?_eq_some_iff.1 h).1
theorem RowO.below (h : RowO w g l) (hb : RowKit.Below w.heap.size w w') : RowO w' g l := (hb.block g h.lt).trans h
theorem RowO.alloc (h : RowO w g l) (o : Obj) : RowO (w.alloc o) g l := (RowKit.Below.heap_alloc w o g h.lt).trans h
theorem RowO.drew (h : RowO w g l) : RowO w.drew g l := h
theorem RowO.cell (h : RowO w g l) {i : Nat} (hi : i < l.length) : w.cell? ⟨g, i, none⟩ = some (.int .u8 (l.getD i 0)) := by
  rw [cell_of_row w g i _ 39 (0, 0) h]
  simp [bc, hi, List.getD_eq_getElem?_getD]
theorem RowO.cells (h : RowO w g l) (j : Nat) (v : Value) (hv : (bc l)[j]? = some v) : w.cell? ⟨g, j, none⟩ = some v := by
  rw [cell_of_row w g j _ 39 (0, 0) h, ← hv, List.getElem?_toArray]
theorem RowO.free (h : RowO w g l) (i : Nat) : w.frozen? ⟨g, i, none⟩ = false := by
  simp only [World.frozen?]
  rw [show w.heap[g]? = _ from h]
  simp
end
theorem RowO.other {w : World} {g j : Nat} {l : List Int} (h : RowO w g l) (o : Nat) (vs : List Value) {cur : Array Value} {t : TypeId} {fz : Nat × Nat} (hj : w.heap[j]? = some (.cells cur t fz)) (hne : g ≠ j) : RowO (w.setCells j o vs) g l := by
  obtain ⟨_, a2, _⟩ := heap_setCells vs o w j cur t fz hj
  exact (a2 g hne).trans h
theorem wp_load39 {a : Act} {w : World} {K : Act → World → Prop} {Q : Exit → Act → World → Prop} {o : Oper} (x : Operand) (b : Nat) (A : Array Value) (ho : o.op = .load 39 x) (hx : a.eval x = .pointer (some ⟨b, 0, none⟩))
    (hld : (loadVar 39 ⟨b, 0, none⟩).run Tryz.prog w = .ok (.agg A) w) (hK : K (a.put o.dst (.agg A)) w) : Oper.wp Tryz.prog o a w K Q := by
  unfold Oper.wp execOp
  simp only [ho, hx, Instr.loadAt, Instr.sureAddr, Sem.run_bind, Sem.run_pure, Result.andThen_ok, hld]
  exact hK
theorem wpList_load39 {ops : Array Oper} {rest : List Oper} {a : Act} {w : World} {Q : Exit → Act → World → Prop} {o : Oper} (hgd : o.guard = none) (x : Operand) (b : Nat) (A : Array Value) (ho : o.op = .load 39 x) (hx : a.eval x = .pointer (some ⟨b, 0, none⟩))
    (hld : (loadVar 39 ⟨b, 0, none⟩).run Tryz.prog w = .ok (.agg A) w) (h : wpList Tryz.prog ops Q rest (a.put o.dst (.agg A)) w) : wpList Tryz.prog ops Q (o :: rest) a w :=
  wpList_plain hgd fun _ hK => wp_load39 x b A ho hx hld (hK _ _ h)
theorem setCells_mid (w : World) (g : Nat) (l m r k : List Int) (h : RowO w g (l ++ (m ++ r))) (hk : k.length = m.length) : RowO (w.setCells g l.length (bc k)) g (l ++ (k ++ r)) := by
  obtain ⟨a1, _⟩ := heap_setCells (bc k) l.length w g (bc (l ++ (m ++ r))).toArray 39 (0, 0) h
  refine a1.trans ?_
  congr 2
  apply Array.ext_getElem?
  intro i
  rw [layC_at _ _ _ (by simp [bc]; omega)]
  simp only [bc, List.length_map, List.getElem?_toArray, List.getElem?_map]
  by_cases h1 : i < l.length
  · rw [if_neg (by omega), List.getElem?_append_left h1, List.getElem?_append_left h1]
  · by_cases h2 : i < l.length + k.length
    · rw [if_pos ⟨by omega, h2⟩, List.getElem?_append_right (by omega), List.getElem?_append_left (by omega)]
    · rw [if_neg (by omega), List.getElem?_append_right (by omega), List.getElem?_append_right (by omega), List.getElem?_append_right (by omega), List.getElem?_append_right (by omega), hk]
theorem below_setCells {B : Nat} {w0 : World} (vs : List Value) (o g : Nat) (w : World) {cur : Array Value} {t : TypeId} {fz : Nat × Nat} (h : w.heap[g]? = some (.cells cur t fz)) (hb : B ≤ g) (hB : RowKit.Below B w0 w) : RowKit.Below B w0 (w.setCells g o vs) := by
  obtain ⟨_, a2, a3, a4, a5, a6⟩ := heap_setCells vs o w g cur t fz h
  exact ⟨a4.trans hB.os, a5.trans hB.tape, a6.trans hB.output, by rw [a3]; exact hB.size, fun j hj => (a2 j (by omega)).trans (hB.block j hj)⟩
theorem below_trans'' {B B' : Nat} {w w1 w2 : World} (h1 : RowKit.Below B w w1) (h2 : RowKit.Below B' w1 w2) (hb : B ≤ B') : RowKit.Below B w w2 :=
  ⟨h2.os.trans h1.os, h2.tape.trans h1.tape, h2.output.trans h1.output, Nat.le_trans h1.size h2.size, fun j hj => (h2.block j (by omega)).trans (h1.block j hj)⟩
theorem below_only2 {B b : Nat} {w w1 w2 : World} (h1 : RowKit.Below B w w1) (h2 : w1.grownBy w2 (some b)) (hb : B ≤ b) (hw : B ≤ w1.heap.size) : RowKit.Below B w w2 :=
  ⟨h2.os.trans h1.os, h2.tape.trans h1.tape, h2.output.trans h1.output, Nat.le_trans h1.size h2.size, fun j hj => (h2.block j (by omega) (by simp; omega)).trans (h1.block j hj)⟩
theorem list8 {α : Type} {l : List α} (h : l.length = 8) : ∃ x0 x1 x2 x3 x4 x5 x6 x7, l = [x0, x1, x2, x3, x4, x5, x6, x7] := by
  match l, h with
  | [x0, x1, x2, x3, x4, x5, x6, x7], _ => exact ⟨x0, x1, x2, x3, x4, x5, x6, x7, rfl⟩
theorem infoB : ∃ i, Tryz.prog.info? 5 = some i ∧ i.zero = some (.int .u8 0) ∧ i.size = 1 ∧ i.bytes = 1 := ⟨Tryz.t5, by kernel_rfl, rfl, rfl, rfl⟩
theorem held_cells {w : World} {g o k : Nat} {f : Nat → Int} (h : Bys w g o k f) : (Builtin.firstCells 1 k (.slice (some ⟨g, o, none⟩) k k)).run Tryz.prog w.drew = .ok (bc (fBytes k f)).toArray w.drew := by
  refine run_firstCells_some w.drew 1 k ⟨g, o, none⟩ k k (bc (fBytes k f)) (by simp [bc, fBytes]) fun j v hv => ?_
  have hj : j < k := by
    have := (List.getElem?_eq_some_iff.1 hv).1
    simpa [bc, fBytes] using this
  rw [Addr.add_mid]
  have := h.2 j hj
  simp [bc, fBytes, hj] at hv
  rw [← hv]; exact this
theorem cell_128 (w : World) (m : Nat) (h : m = w.heap.size) : (w.alloc (.cells #[.int .u8 128] 5)).cell? ⟨m, 0, none⟩ = some (.int .u8 128) := by
  subst h
  rw [cell_of_row _ _ 0 _ 5 (0, 0) (heap_alloc_new w _)]; rfl
theorem owns_mono {w : World} {base base' : Nat} {e : TypeId} {size n : Nat} {v : Value} {xs : List Value} (h : w.ownsRow base e size v n xs) (hb : base' ≤ base) : w.ownsRow base' e size v n xs := by
  obtain ⟨h1, h2 | ⟨g, cap, cur, h2, h3, h4⟩⟩ := h
  · exact ⟨h1, .inl h2⟩
  · exact ⟨h1, .inr ⟨g, cap, cur, h2, Nat.le_trans hb h3, h4⟩⟩
theorem owns_bys {w : World} {g n : Nat} {cur : Array Value} {L : List Int} (hL : L.length = n) (hb : w.heap[g]? = some (.cells cur 5 (0, 0))) (hx : cur.toList.take (n * 1) = bc L) : Bys w g 0 n (fun i => L.getD i 0) := by
  refine ⟨(Array.getElem?_eq_some_iff.1 hb).1, fun i hi => ?_⟩
  rw [cell_of_row w g (0 + i) cur 5 (0, 0) hb, Nat.zero_add]
  have h1 : (cur.toList.take (n * 1))[i]? = cur.toList[i]? := by rw [List.getElem?_take, if_pos (by omega)]
  rw [hx] at h1
  rw [← Array.getElem?_toList, ← h1]
  have hi' : i < L.length := by omega
  simp [bc, hi', List.getD_eq_getElem?_getD]
set_option maxRecDepth 100000 in
set_option maxHeartbeats 8000000 in
theorem sum_some (b : Nat) (x0 x1 x2 x3 x4 x5 x6 x7 : Int) (g o c : Nat) (n k : Nat) (f : Nat → Int) (w : World) (hn : n ≤ 1000000) (hk : k < 32) (hkc : k ≤ c) (hh : HS w b [x0, x1, x2, x3, x4, x5, x6, x7] (.slice (some ⟨g, o, none⟩) k c) n) (hd : Bys w g o k f) :
    Calls Tryz.prog 139 #[.pointer (some ⟨b, 0, none⟩)] w fun e w' => e = .returned (.agg (bc (oB (piecesI [x0, x1, x2, x3, x4, x5, x6, x7] (fun i => (tailI (fBytes k f) (32 * ((k + 40) / 32) - k - 9) ++ n8 n).getD i 0) ((k + 40) / 32)) 8)).toArray) ∧ RowKit.Below w.heap.size w w' := by
  have H2 := Lib.hid ((hh.alloc (.cells #[.int .u8 0, .int .u8 0, .int .u8 0, .int .u8 0, .int .u8 0, .int .u8 0, .int .u8 0, .int .u8 0, .int .u8 0, .int .u8 0, .int .u8 0, .int .u8 0, .int .u8 0, .int .u8 0, .int .u8 0, .int .u8 0, .int .u8 0, .int .u8 0, .int .u8 0, .int .u8 0, .int .u8 0, .int .u8 0, .int .u8 0, .int .u8 0, .int .u8 0, .int .u8 0, .int .u8 0, .int .u8 0, .int .u8 0, .int .u8 0, .int .u8 0, .int .u8 0] 39)).alloc (.cells #[.int .u8 0, .int .u8 0, .int .u8 0, .int .u8 0, .int .u8 0, .int .u8 0, .int .u8 0, .int .u8 0, .int .u8 0, .int .u8 0, .int .u8 0, .int .u8 0, .int .u8 0, .int .u8 0, .int .u8 0, .int .u8 0, .int .u8 0, .int .u8 0, .int .u8 0, .int .u8 0, .int .u8 0, .int .u8 0, .int .u8 0, .int .u8 0, .int .u8 0, .int .u8 0, .int .u8 0, .int .u8 0, .int .u8 0, .int .u8 0, .int .u8 0, .int .u8 0] 39))
  have c0 : ((w.alloc (.cells #[.int .u8 0, .int .u8 0, .int .u8 0, .int .u8 0, .int .u8 0, .int .u8 0, .int .u8 0, .int .u8 0, .int .u8 0, .int .u8 0, .int .u8 0, .int .u8 0, .int .u8 0, .int .u8 0, .int .u8 0, .int .u8 0, .int .u8 0, .int .u8 0, .int .u8 0, .int .u8 0, .int .u8 0, .int .u8 0, .int .u8 0, .int .u8 0, .int .u8 0, .int .u8 0, .int .u8 0, .int .u8 0, .int .u8 0, .int .u8 0, .int .u8 0, .int .u8 0] 39)).alloc (.cells #[.int .u8 0, .int .u8 0, .int .u8 0, .int .u8 0, .int .u8 0, .int .u8 0, .int .u8 0, .int .u8 0, .int .u8 0, .int .u8 0, .int .u8 0, .int .u8 0, .int .u8 0, .int .u8 0, .int .u8 0, .int .u8 0, .int .u8 0, .int .u8 0, .int .u8 0, .int .u8 0, .int .u8 0, .int .u8 0, .int .u8 0, .int .u8 0, .int .u8 0, .int .u8 0, .int .u8 0, .int .u8 0, .int .u8 0, .int .u8 0, .int .u8 0, .int .u8 0] 39)).cell? ⟨b, 0, none⟩ = some (.int .u32 x0) := H2.out.word (i := 0) (by decide)
  have c1 : ((w.alloc (.cells #[.int .u8 0, .int .u8 0, .int .u8 0, .int .u8 0, .int .u8 0, .int .u8 0, .int .u8 0, .int .u8 0, .int .u8 0, .int .u8 0, .int .u8 0, .int .u8 0, .int .u8 0, .int .u8 0, .int .u8 0, .int .u8 0, .int .u8 0, .int .u8 0, .int .u8 0, .int .u8 0, .int .u8 0, .int .u8 0, .int .u8 0, .int .u8 0, .int .u8 0, .int .u8 0, .int .u8 0, .int .u8 0, .int .u8 0, .int .u8 0, .int .u8 0, .int .u8 0] 39)).alloc (.cells #[.int .u8 0, .int .u8 0, .int .u8 0, .int .u8 0, .int .u8 0, .int .u8 0, .int .u8 0, .int .u8 0, .int .u8 0, .int .u8 0, .int .u8 0, .int .u8 0, .int .u8 0, .int .u8 0, .int .u8 0, .int .u8 0, .int .u8 0, .int .u8 0, .int .u8 0, .int .u8 0, .int .u8 0, .int .u8 0, .int .u8 0, .int .u8 0, .int .u8 0, .int .u8 0, .int .u8 0, .int .u8 0, .int .u8 0, .int .u8 0, .int .u8 0, .int .u8 0] 39)).cell? ⟨b, 1, none⟩ = some (.int .u32 x1) := H2.out.word (i := 1) (by decide)
  have c2 : ((w.alloc (.cells #[.int .u8 0, .int .u8 0, .int .u8 0, .int .u8 0, .int .u8 0, .int .u8 0, .int .u8 0, .int .u8 0, .int .u8 0, .int .u8 0, .int .u8 0, .int .u8 0, .int .u8 0, .int .u8 0, .int .u8 0, .int .u8 0, .int .u8 0, .int .u8 0, .int .u8 0, .int .u8 0, .int .u8 0, .int .u8 0, .int .u8 0, .int .u8 0, .int .u8 0, .int .u8 0, .int .u8 0, .int .u8 0, .int .u8 0, .int .u8 0, .int .u8 0, .int .u8 0] 39)).alloc (.cells #[.int .u8 0, .int .u8 0, .int .u8 0, .int .u8 0, .int .u8 0, .int .u8 0, .int .u8 0, .int .u8 0, .int .u8 0, .int .u8 0, .int .u8 0, .int .u8 0, .int .u8 0, .int .u8 0, .int .u8 0, .int .u8 0, .int .u8 0, .int .u8 0, .int .u8 0, .int .u8 0, .int .u8 0, .int .u8 0, .int .u8 0, .int .u8 0, .int .u8 0, .int .u8 0, .int .u8 0, .int .u8 0, .int .u8 0, .int .u8 0, .int .u8 0, .int .u8 0] 39)).cell? ⟨b, 2, none⟩ = some (.int .u32 x2) := H2.out.word (i := 2) (by decide)
  have c3 : ((w.alloc (.cells #[.int .u8 0, .int .u8 0, .int .u8 0, .int .u8 0, .int .u8 0, .int .u8 0, .int .u8 0, .int .u8 0, .int .u8 0, .int .u8 0, .int .u8 0, .int .u8 0, .int .u8 0, .int .u8 0, .int .u8 0, .int .u8 0, .int .u8 0, .int .u8 0, .int .u8 0, .int .u8 0, .int .u8 0, .int .u8 0, .int .u8 0, .int .u8 0, .int .u8 0, .int .u8 0, .int .u8 0, .int .u8 0, .int .u8 0, .int .u8 0, .int .u8 0, .int .u8 0] 39)).alloc (.cells #[.int .u8 0, .int .u8 0, .int .u8 0, .int .u8 0, .int .u8 0, .int .u8 0, .int .u8 0, .int .u8 0, .int .u8 0, .int .u8 0, .int .u8 0, .int .u8 0, .int .u8 0, .int .u8 0, .int .u8 0, .int .u8 0, .int .u8 0, .int .u8 0, .int .u8 0, .int .u8 0, .int .u8 0, .int .u8 0, .int .u8 0, .int .u8 0, .int .u8 0, .int .u8 0, .int .u8 0, .int .u8 0, .int .u8 0, .int .u8 0, .int .u8 0, .int .u8 0] 39)).cell? ⟨b, 3, none⟩ = some (.int .u32 x3) := H2.out.word (i := 3) (by decide)
  have c4 : ((w.alloc (.cells #[.int .u8 0, .int .u8 0, .int .u8 0, .int .u8 0, .int .u8 0, .int .u8 0, .int .u8 0, .int .u8 0, .int .u8 0, .int .u8 0, .int .u8 0, .int .u8 0, .int .u8 0, .int .u8 0, .int .u8 0, .int .u8 0, .int .u8 0, .int .u8 0, .int .u8 0, .int .u8 0, .int .u8 0, .int .u8 0, .int .u8 0, .int .u8 0, .int .u8 0, .int .u8 0, .int .u8 0, .int .u8 0, .int .u8 0, .int .u8 0, .int .u8 0, .int .u8 0] 39)).alloc (.cells #[.int .u8 0, .int .u8 0, .int .u8 0, .int .u8 0, .int .u8 0, .int .u8 0, .int .u8 0, .int .u8 0, .int .u8 0, .int .u8 0, .int .u8 0, .int .u8 0, .int .u8 0, .int .u8 0, .int .u8 0, .int .u8 0, .int .u8 0, .int .u8 0, .int .u8 0, .int .u8 0, .int .u8 0, .int .u8 0, .int .u8 0, .int .u8 0, .int .u8 0, .int .u8 0, .int .u8 0, .int .u8 0, .int .u8 0, .int .u8 0, .int .u8 0, .int .u8 0] 39)).cell? ⟨b, 4, none⟩ = some (.int .u32 x4) := H2.out.word (i := 4) (by decide)
  have c5 : ((w.alloc (.cells #[.int .u8 0, .int .u8 0, .int .u8 0, .int .u8 0, .int .u8 0, .int .u8 0, .int .u8 0, .int .u8 0, .int .u8 0, .int .u8 0, .int .u8 0, .int .u8 0, .int .u8 0, .int .u8 0, .int .u8 0, .int .u8 0, .int .u8 0, .int .u8 0, .int .u8 0, .int .u8 0, .int .u8 0, .int .u8 0, .int .u8 0, .int .u8 0, .int .u8 0, .int .u8 0, .int .u8 0, .int .u8 0, .int .u8 0, .int .u8 0, .int .u8 0, .int .u8 0] 39)).alloc (.cells #[.int .u8 0, .int .u8 0, .int .u8 0, .int .u8 0, .int .u8 0, .int .u8 0, .int .u8 0, .int .u8 0, .int .u8 0, .int .u8 0, .int .u8 0, .int .u8 0, .int .u8 0, .int .u8 0, .int .u8 0, .int .u8 0, .int .u8 0, .int .u8 0, .int .u8 0, .int .u8 0, .int .u8 0, .int .u8 0, .int .u8 0, .int .u8 0, .int .u8 0, .int .u8 0, .int .u8 0, .int .u8 0, .int .u8 0, .int .u8 0, .int .u8 0, .int .u8 0] 39)).cell? ⟨b, 5, none⟩ = some (.int .u32 x5) := H2.out.word (i := 5) (by decide)
  have c6 : ((w.alloc (.cells #[.int .u8 0, .int .u8 0, .int .u8 0, .int .u8 0, .int .u8 0, .int .u8 0, .int .u8 0, .int .u8 0, .int .u8 0, .int .u8 0, .int .u8 0, .int .u8 0, .int .u8 0, .int .u8 0, .int .u8 0, .int .u8 0, .int .u8 0, .int .u8 0, .int .u8 0, .int .u8 0, .int .u8 0, .int .u8 0, .int .u8 0, .int .u8 0, .int .u8 0, .int .u8 0, .int .u8 0, .int .u8 0, .int .u8 0, .int .u8 0, .int .u8 0, .int .u8 0] 39)).alloc (.cells #[.int .u8 0, .int .u8 0, .int .u8 0, .int .u8 0, .int .u8 0, .int .u8 0, .int .u8 0, .int .u8 0, .int .u8 0, .int .u8 0, .int .u8 0, .int .u8 0, .int .u8 0, .int .u8 0, .int .u8 0, .int .u8 0, .int .u8 0, .int .u8 0, .int .u8 0, .int .u8 0, .int .u8 0, .int .u8 0, .int .u8 0, .int .u8 0, .int .u8 0, .int .u8 0, .int .u8 0, .int .u8 0, .int .u8 0, .int .u8 0, .int .u8 0, .int .u8 0] 39)).cell? ⟨b, 6, none⟩ = some (.int .u32 x6) := H2.out.word (i := 6) (by decide)
  have c7 : ((w.alloc (.cells #[.int .u8 0, .int .u8 0, .int .u8 0, .int .u8 0, .int .u8 0, .int .u8 0, .int .u8 0, .int .u8 0, .int .u8 0, .int .u8 0, .int .u8 0, .int .u8 0, .int .u8 0, .int .u8 0, .int .u8 0, .int .u8 0, .int .u8 0, .int .u8 0, .int .u8 0, .int .u8 0, .int .u8 0, .int .u8 0, .int .u8 0, .int .u8 0, .int .u8 0, .int .u8 0, .int .u8 0, .int .u8 0, .int .u8 0, .int .u8 0, .int .u8 0, .int .u8 0] 39)).alloc (.cells #[.int .u8 0, .int .u8 0, .int .u8 0, .int .u8 0, .int .u8 0, .int .u8 0, .int .u8 0, .int .u8 0, .int .u8 0, .int .u8 0, .int .u8 0, .int .u8 0, .int .u8 0, .int .u8 0, .int .u8 0, .int .u8 0, .int .u8 0, .int .u8 0, .int .u8 0, .int .u8 0, .int .u8 0, .int .u8 0, .int .u8 0, .int .u8 0, .int .u8 0, .int .u8 0, .int .u8 0, .int .u8 0, .int .u8 0, .int .u8 0, .int .u8 0, .int .u8 0] 39)).cell? ⟨b, 7, none⟩ = some (.int .u32 x7) := H2.out.word (i := 7) (by decide)
  have H3 := Lib.hid (H2.out.alloc (.cells #[.int .u32 x0, .int .u32 x1, .int .u32 x2, .int .u32 x3, .int .u32 x4, .int .u32 x5, .int .u32 x6, .int .u32 x7, .slice none 0 0, .int .i64 0] 249))
  have c9 : (((w.alloc (.cells #[.int .u8 0, .int .u8 0, .int .u8 0, .int .u8 0, .int .u8 0, .int .u8 0, .int .u8 0, .int .u8 0, .int .u8 0, .int .u8 0, .int .u8 0, .int .u8 0, .int .u8 0, .int .u8 0, .int .u8 0, .int .u8 0, .int .u8 0, .int .u8 0, .int .u8 0, .int .u8 0, .int .u8 0, .int .u8 0, .int .u8 0, .int .u8 0, .int .u8 0, .int .u8 0, .int .u8 0, .int .u8 0, .int .u8 0, .int .u8 0, .int .u8 0, .int .u8 0] 39)).alloc (.cells #[.int .u8 0, .int .u8 0, .int .u8 0, .int .u8 0, .int .u8 0, .int .u8 0, .int .u8 0, .int .u8 0, .int .u8 0, .int .u8 0, .int .u8 0, .int .u8 0, .int .u8 0, .int .u8 0, .int .u8 0, .int .u8 0, .int .u8 0, .int .u8 0, .int .u8 0, .int .u8 0, .int .u8 0, .int .u8 0, .int .u8 0, .int .u8 0, .int .u8 0, .int .u8 0, .int .u8 0, .int .u8 0, .int .u8 0, .int .u8 0, .int .u8 0, .int .u8 0] 39)).alloc (.cells #[.int .u32 x0, .int .u32 x1, .int .u32 x2, .int .u32 x3, .int .u32 x4, .int .u32 x5, .int .u32 x6, .int .u32 x7, .slice none 0 0, .int .i64 0] 249)).cell? ⟨b, 9, none⟩ = _ := H3.out.num
  have HB3 := Lib.hid ((((RowKit.Below.refl w.heap.size w).alloc (Nat.le_refl _) (.cells #[.int .u8 0, .int .u8 0, .int .u8 0, .int .u8 0, .int .u8 0, .int .u8 0, .int .u8 0, .int .u8 0, .int .u8 0, .int .u8 0, .int .u8 0, .int .u8 0, .int .u8 0, .int .u8 0, .int .u8 0, .int .u8 0, .int .u8 0, .int .u8 0, .int .u8 0, .int .u8 0, .int .u8 0, .int .u8 0, .int .u8 0, .int .u8 0, .int .u8 0, .int .u8 0, .int .u8 0, .int .u8 0, .int .u8 0, .int .u8 0, .int .u8 0, .int .u8 0] 39)).alloc (by simp) (.cells #[.int .u8 0, .int .u8 0, .int .u8 0, .int .u8 0, .int .u8 0, .int .u8 0, .int .u8 0, .int .u8 0, .int .u8 0, .int .u8 0, .int .u8 0, .int .u8 0, .int .u8 0, .int .u8 0, .int .u8 0, .int .u8 0, .int .u8 0, .int .u8 0, .int .u8 0, .int .u8 0, .int .u8 0, .int .u8 0, .int .u8 0, .int .u8 0, .int .u8 0, .int .u8 0, .int .u8 0, .int .u8 0, .int .u8 0, .int .u8 0, .int .u8 0, .int .u8 0] 39)).alloc (by simp; omega) (.cells #[.int .u32 x0, .int .u32 x1, .int .u32 x2, .int .u32 x3, .int .u32 x4, .int .u32 x5, .int .u32 x6, .int .u32 x7, .slice none 0 0, .int .i64 0] 249))
  have hx : HS (((w.alloc (.cells #[.int .u8 0, .int .u8 0, .int .u8 0, .int .u8 0, .int .u8 0, .int .u8 0, .int .u8 0, .int .u8 0, .int .u8 0, .int .u8 0, .int .u8 0, .int .u8 0, .int .u8 0, .int .u8 0, .int .u8 0, .int .u8 0, .int .u8 0, .int .u8 0, .int .u8 0, .int .u8 0, .int .u8 0, .int .u8 0, .int .u8 0, .int .u8 0, .int .u8 0, .int .u8 0, .int .u8 0, .int .u8 0, .int .u8 0, .int .u8 0, .int .u8 0, .int .u8 0] 39)).alloc (.cells #[.int .u8 0, .int .u8 0, .int .u8 0, .int .u8 0, .int .u8 0, .int .u8 0, .int .u8 0, .int .u8 0, .int .u8 0, .int .u8 0, .int .u8 0, .int .u8 0, .int .u8 0, .int .u8 0, .int .u8 0, .int .u8 0, .int .u8 0, .int .u8 0, .int .u8 0, .int .u8 0, .int .u8 0, .int .u8 0, .int .u8 0, .int .u8 0, .int .u8 0, .int .u8 0, .int .u8 0, .int .u8 0, .int .u8 0, .int .u8 0, .int .u8 0, .int .u8 0] 39)).alloc (.cells #[.int .u32 x0, .int .u32 x1, .int .u32 x2, .int .u32 x3, .int .u32 x4, .int .u32 x5, .int .u32 x6, .int .u32 x7, .slice none 0 0, .int .i64 0] 249)) (w.heap.size + 2) [x0, x1, x2, x3, x4, x5, x6, x7] (.slice none 0 0) 0 := by
    have := heap_alloc_new ((w.alloc (.cells #[.int .u8 0, .int .u8 0, .int .u8 0, .int .u8 0, .int .u8 0, .int .u8 0, .int .u8 0, .int .u8 0, .int .u8 0, .int .u8 0, .int .u8 0, .int .u8 0, .int .u8 0, .int .u8 0, .int .u8 0, .int .u8 0, .int .u8 0, .int .u8 0, .int .u8 0, .int .u8 0, .int .u8 0, .int .u8 0, .int .u8 0, .int .u8 0, .int .u8 0, .int .u8 0, .int .u8 0, .int .u8 0, .int .u8 0, .int .u8 0, .int .u8 0, .int .u8 0] 39)).alloc (.cells #[.int .u8 0, .int .u8 0, .int .u8 0, .int .u8 0, .int .u8 0, .int .u8 0, .int .u8 0, .int .u8 0, .int .u8 0, .int .u8 0, .int .u8 0, .int .u8 0, .int .u8 0, .int .u8 0, .int .u8 0, .int .u8 0, .int .u8 0, .int .u8 0, .int .u8 0, .int .u8 0, .int .u8 0, .int .u8 0, .int .u8 0, .int .u8 0, .int .u8 0, .int .u8 0, .int .u8 0, .int .u8 0, .int .u8 0, .int .u8 0, .int .u8 0, .int .u8 0] 39)) (.cells #[.int .u32 x0, .int .u32 x1, .int .u32 x2, .int .u32 x3, .int .u32 x4, .int .u32 x5, .int .u32 x6, .int .u32 x7, .slice none 0 0, .int .i64 0] 249)
    rw [World.size_alloc, World.size_alloc] at this
    refine ⟨rfl, _, _, _, this, Nat.le_refl _, fun i _ => by omega, fun i hi => ?_, rfl, rfl⟩
    rcases (show i = 0 ∨ i = 1 ∨ i = 2 ∨ i = 3 ∨ i = 4 ∨ i = 5 ∨ i = 6 ∨ i = 7 by omega) with rfl | rfl | rfl | rfl | rfl | rfl | rfl | rfl <;> rfl
  have HX3 := Lib.hid hx
  have ho : (((w.alloc (.cells #[.int .u8 0, .int .u8 0, .int .u8 0, .int .u8 0, .int .u8 0, .int .u8 0, .int .u8 0, .int .u8 0, .int .u8 0, .int .u8 0, .int .u8 0, .int .u8 0, .int .u8 0, .int .u8 0, .int .u8 0, .int .u8 0, .int .u8 0, .int .u8 0, .int .u8 0, .int .u8 0, .int .u8 0, .int .u8 0, .int .u8 0, .int .u8 0, .int .u8 0, .int .u8 0, .int .u8 0, .int .u8 0, .int .u8 0, .int .u8 0, .int .u8 0, .int .u8 0] 39)).alloc (.cells #[.int .u8 0, .int .u8 0, .int .u8 0, .int .u8 0, .int .u8 0, .int .u8 0, .int .u8 0, .int .u8 0, .int .u8 0, .int .u8 0, .int .u8 0, .int .u8 0, .int .u8 0, .int .u8 0, .int .u8 0, .int .u8 0, .int .u8 0, .int .u8 0, .int .u8 0, .int .u8 0, .int .u8 0, .int .u8 0, .int .u8 0, .int .u8 0, .int .u8 0, .int .u8 0, .int .u8 0, .int .u8 0, .int .u8 0, .int .u8 0, .int .u8 0, .int .u8 0] 39)).alloc (.cells #[.int .u32 x0, .int .u32 x1, .int .u32 x2, .int .u32 x3, .int .u32 x4, .int .u32 x5, .int .u32 x6, .int .u32 x7, .slice none 0 0, .int .i64 0] 249)).heap[w.heap.size + 1]? = some (.cells #[.int .u8 0, .int .u8 0, .int .u8 0, .int .u8 0, .int .u8 0, .int .u8 0, .int .u8 0, .int .u8 0, .int .u8 0, .int .u8 0, .int .u8 0, .int .u8 0, .int .u8 0, .int .u8 0, .int .u8 0, .int .u8 0, .int .u8 0, .int .u8 0, .int .u8 0, .int .u8 0, .int .u8 0, .int .u8 0, .int .u8 0, .int .u8 0, .int .u8 0, .int .u8 0, .int .u8 0, .int .u8 0, .int .u8 0, .int .u8 0, .int .u8 0, .int .u8 0] 39) := by
    rw [RowKit.Below.heap_alloc _ _ _ (by simp)]
    have := heap_alloc_new (w.alloc (.cells #[.int .u8 0, .int .u8 0, .int .u8 0, .int .u8 0, .int .u8 0, .int .u8 0, .int .u8 0, .int .u8 0, .int .u8 0, .int .u8 0, .int .u8 0, .int .u8 0, .int .u8 0, .int .u8 0, .int .u8 0, .int .u8 0, .int .u8 0, .int .u8 0, .int .u8 0, .int .u8 0, .int .u8 0, .int .u8 0, .int .u8 0, .int .u8 0, .int .u8 0, .int .u8 0, .int .u8 0, .int .u8 0, .int .u8 0, .int .u8 0, .int .u8 0, .int .u8 0] 39)) (.cells #[.int .u8 0, .int .u8 0, .int .u8 0, .int .u8 0, .int .u8 0, .int .u8 0, .int .u8 0, .int .u8 0, .int .u8 0, .int .u8 0, .int .u8 0, .int .u8 0, .int .u8 0, .int .u8 0, .int .u8 0, .int .u8 0, .int .u8 0, .int .u8 0, .int .u8 0, .int .u8 0, .int .u8 0, .int .u8 0, .int .u8 0, .int .u8 0, .int .u8 0, .int .u8 0, .int .u8 0, .int .u8 0, .int .u8 0, .int .u8 0, .int .u8 0, .int .u8 0] 39)
    rw [World.size_alloc] at this
    exact this
  have ho2 : (((w.alloc (.cells #[.int .u8 0, .int .u8 0, .int .u8 0, .int .u8 0, .int .u8 0, .int .u8 0, .int .u8 0, .int .u8 0, .int .u8 0, .int .u8 0, .int .u8 0, .int .u8 0, .int .u8 0, .int .u8 0, .int .u8 0, .int .u8 0, .int .u8 0, .int .u8 0, .int .u8 0, .int .u8 0, .int .u8 0, .int .u8 0, .int .u8 0, .int .u8 0, .int .u8 0, .int .u8 0, .int .u8 0, .int .u8 0, .int .u8 0, .int .u8 0, .int .u8 0, .int .u8 0] 39)).alloc (.cells #[.int .u8 0, .int .u8 0, .int .u8 0, .int .u8 0, .int .u8 0, .int .u8 0, .int .u8 0, .int .u8 0, .int .u8 0, .int .u8 0, .int .u8 0, .int .u8 0, .int .u8 0, .int .u8 0, .int .u8 0, .int .u8 0, .int .u8 0, .int .u8 0, .int .u8 0, .int .u8 0, .int .u8 0, .int .u8 0, .int .u8 0, .int .u8 0, .int .u8 0, .int .u8 0, .int .u8 0, .int .u8 0, .int .u8 0, .int .u8 0, .int .u8 0, .int .u8 0] 39)).alloc (.cells #[.int .u32 x0, .int .u32 x1, .int .u32 x2, .int .u32 x3, .int .u32 x4, .int .u32 x5, .int .u32 x6, .int .u32 x7, .slice none 0 0, .int .i64 0] 249)).heap[w.heap.size]? = some (.cells #[.int .u8 0, .int .u8 0, .int .u8 0, .int .u8 0, .int .u8 0, .int .u8 0, .int .u8 0, .int .u8 0, .int .u8 0, .int .u8 0, .int .u8 0, .int .u8 0, .int .u8 0, .int .u8 0, .int .u8 0, .int .u8 0, .int .u8 0, .int .u8 0, .int .u8 0, .int .u8 0, .int .u8 0, .int .u8 0, .int .u8 0, .int .u8 0, .int .u8 0, .int .u8 0, .int .u8 0, .int .u8 0, .int .u8 0, .int .u8 0, .int .u8 0, .int .u8 0] 39) := by
    rw [RowKit.Below.heap_alloc _ _ _ (by simp; omega), RowKit.Below.heap_alloc _ _ _ (by simp)]
    exact heap_alloc_new w (.cells #[.int .u8 0, .int .u8 0, .int .u8 0, .int .u8 0, .int .u8 0, .int .u8 0, .int .u8 0, .int .u8 0, .int .u8 0, .int .u8 0, .int .u8 0, .int .u8 0, .int .u8 0, .int .u8 0, .int .u8 0, .int .u8 0, .int .u8 0, .int .u8 0, .int .u8 0, .int .u8 0, .int .u8 0, .int .u8 0, .int .u8 0, .int .u8 0, .int .u8 0, .int .u8 0, .int .u8 0, .int .u8 0, .int .u8 0, .int .u8 0, .int .u8 0, .int .u8 0] 39)
  have HO3 := Lib.hid ho
  have HO3' := Lib.hid ho2
  have HD3 := Lib.hid (hd.below (HB3.out))
  clear hx ho ho2 hh hd
  go_enter Tryz.func139, Tryz.ntmps139
  go_wp2_with fail
  clear c0 c1 c2 c3 c4 c5 c6 c7 c9 H2
  generalize (((w.alloc (.cells #[.int .u8 0, .int .u8 0, .int .u8 0, .int .u8 0, .int .u8 0, .int .u8 0, .int .u8 0, .int .u8 0, .int .u8 0, .int .u8 0, .int .u8 0, .int .u8 0, .int .u8 0, .int .u8 0, .int .u8 0, .int .u8 0, .int .u8 0, .int .u8 0, .int .u8 0, .int .u8 0, .int .u8 0, .int .u8 0, .int .u8 0, .int .u8 0, .int .u8 0, .int .u8 0, .int .u8 0, .int .u8 0, .int .u8 0, .int .u8 0, .int .u8 0, .int .u8 0] 39)).alloc (.cells #[.int .u8 0, .int .u8 0, .int .u8 0, .int .u8 0, .int .u8 0, .int .u8 0, .int .u8 0, .int .u8 0, .int .u8 0, .int .u8 0, .int .u8 0, .int .u8 0, .int .u8 0, .int .u8 0, .int .u8 0, .int .u8 0, .int .u8 0, .int .u8 0, .int .u8 0, .int .u8 0, .int .u8 0, .int .u8 0, .int .u8 0, .int .u8 0, .int .u8 0, .int .u8 0, .int .u8 0, .int .u8 0, .int .u8 0, .int .u8 0, .int .u8 0, .int .u8 0] 39)).alloc (.cells #[.int .u32 x0, .int .u32 x1, .int .u32 x2, .int .u32 x3, .int .u32 x4, .int .u32 x5, .int .u32 x6, .int .u32 x7, .slice none 0 0, .int .i64 0] 249)) = w3 at *
  refine (bytes64_any n w3).mono ?_
  rintro e w4 ⟨rfl, hb4⟩
  have hh4 := H3.out.below hb4
  have hB4 := below_trans' HB3.out hb4
  have hX4 := HX3.out.below hb4
  have hO4 := (hb4.block _ (Array.getElem?_eq_some_iff.1 HO3.out).1).trans HO3.out
  have hO4' := (hb4.block _ (Array.getElem?_eq_some_iff.1 HO3'.out).1).trans HO3'.out
  have hD4 := HD3.out.below hb4
  clear hb4 H3 HB3 HX3 HO3 HO3' HD3
  have c8 : (w4.alloc (.cells #[.int .u8 (b64 (n : Int) 0), .int .u8 (b64 (n : Int) 1), .int .u8 (b64 (n : Int) 2), .int .u8 (b64 (n : Int) 3), .int .u8 (b64 (n : Int) 4), .int .u8 (b64 (n : Int) 5), .int .u8 (b64 (n : Int) 6), .int .u8 (b64 (n : Int) 7)] 170)).drew.cell? ⟨b, 8, none⟩ = _ := (hh4.alloc (.cells #[.int .u8 (b64 (n : Int) 0), .int .u8 (b64 (n : Int) 1), .int .u8 (b64 (n : Int) 2), .int .u8 (b64 (n : Int) 3), .int .u8 (b64 (n : Int) 4), .int .u8 (b64 (n : Int) 5), .int .u8 (b64 (n : Int) 6), .int .u8 (b64 (n : Int) 7)] 170)).held
  obtain ⟨i0, hi, hz0, hz1, hz2⟩ := infoB
  have hD5 := (((hD4.of_block (w' := (w4.alloc (.cells #[.int .u8 (b64 (n : Int) 0), .int .u8 (b64 (n : Int) 1), .int .u8 (b64 (n : Int) 2), .int .u8 (b64 (n : Int) 3), .int .u8 (b64 (n : Int) 4), .int .u8 (b64 (n : Int) 5), .int .u8 (b64 (n : Int) 6), .int .u8 (b64 (n : Int) 7)] 170)).drew) (by simp) (RowKit.Below.heap_alloc w4 _ g hD4.1))).of_block (w' := (w4.alloc (.cells #[.int .u8 (b64 (n : Int) 0), .int .u8 (b64 (n : Int) 1), .int .u8 (b64 (n : Int) 2), .int .u8 (b64 (n : Int) 3), .int .u8 (b64 (n : Int) 4), .int .u8 (b64 (n : Int) 5), .int .u8 (b64 (n : Int) 6), .int .u8 (b64 (n : Int) 7)] 170)).drew.alloc (.cells #[.int .u8 128] 5)) (by simp) (RowKit.Below.heap_alloc _ _ g (by have := hD4.1; simp; omega)))
  have HD := Lib.hid hD5
  clear hD4 hD5
  have c8 : (w4.alloc (.cells #[.int .u8 (b64 (n : Int) 0), .int .u8 (b64 (n : Int) 1), .int .u8 (b64 (n : Int) 2), .int .u8 (b64 (n : Int) 3), .int .u8 (b64 (n : Int) 4), .int .u8 (b64 (n : Int) 5), .int .u8 (b64 (n : Int) 6), .int .u8 (b64 (n : Int) 7)] 170)).cell? ⟨b, 8, none⟩ = _ := (hh4.alloc (.cells #[.int .u8 (b64 (n : Int) 0), .int .u8 (b64 (n : Int) 1), .int .u8 (b64 (n : Int) 2), .int .u8 (b64 (n : Int) 3), .int .u8 (b64 (n : Int) 4), .int .u8 (b64 (n : Int) 5), .int .u8 (b64 (n : Int) 6), .int .u8 (b64 (n : Int) 7)] 170)).held
  have hbl4 := hh4.lt
  have hbl6 : b < ((w4.alloc (.cells #[.int .u8 (b64 (n : Int) 0), .int .u8 (b64 (n : Int) 1), .int .u8 (b64 (n : Int) 2), .int .u8 (b64 (n : Int) 3), .int .u8 (b64 (n : Int) 4), .int .u8 (b64 (n : Int) 5), .int .u8 (b64 (n : Int) 6), .int .u8 (b64 (n : Int) 7)] 170)).alloc (.cells #[.int .u8 128] 5)).heap.size := by simp; omega
  have c8' : ((w4.alloc (.cells #[.int .u8 (b64 (n : Int) 0), .int .u8 (b64 (n : Int) 1), .int .u8 (b64 (n : Int) 2), .int .u8 (b64 (n : Int) 3), .int .u8 (b64 (n : Int) 4), .int .u8 (b64 (n : Int) 5), .int .u8 (b64 (n : Int) 6), .int .u8 (b64 (n : Int) 7)] 170)).alloc (.cells #[.int .u8 128] 5)).cell? ⟨b, 8, none⟩ = _ := ((hh4.alloc (.cells #[.int .u8 (b64 (n : Int) 0), .int .u8 (b64 (n : Int) 1), .int .u8 (b64 (n : Int) 2), .int .u8 (b64 (n : Int) 3), .int .u8 (b64 (n : Int) 4), .int .u8 (b64 (n : Int) 5), .int .u8 (b64 (n : Int) 6), .int .u8 (b64 (n : Int) 7)] 170)).alloc (.cells #[.int .u8 128] 5)).held
  go_wp2_with fail
  go_region_held3 (fun w' => w'.cell? ⟨b, 8, none⟩ = some (.slice (some ⟨g, o, none⟩) k c))
    (first
      | go_keep
      | (exact (World.cell?_of_block (a := ⟨b, 8, none⟩) (hgrow.block b hbl6 (by simp))).trans c8'))
    ((refine step_append_full rfl (.tmp 38) (.tmp 39) 155 rfl 5 i0 (.int .u8 0) Tryz.underlying155 hi hz0 hz1 hz2 rfl (some ⟨g, o, none⟩) k (bc (fBytes k f)) (by rfl) ⟨w4.heap.size + 1, 0, none⟩ (.int .u8 128) (by rfl) (cell_128 (w4.alloc (.cells #[.int .u8 (b64 (n : Int) 0), .int .u8 (b64 (n : Int) 1), .int .u8 (b64 (n : Int) 2), .int .u8 (b64 (n : Int) 3), .int .u8 (b64 (n : Int) 4), .int .u8 (b64 (n : Int) 5), .int .u8 (b64 (n : Int) 6), .int .u8 (b64 (n : Int) 7)] 170)) (w4.heap.size + 1) (by simp)) ⟨rfl, rfl⟩ rfl (held_cells HD.out) (by simp [bc, fBytes]) (by omega) ?_; intro v' w6 hown hgrow))
  have hO6 : w6.ownsRow (w4.heap.size + 1) 5 1 v' (k + 1) (bc (tailI (fBytes k f) 0)) := by
    have := owns_mono (base' := w4.heap.size + 1) hown (by show _ ≤ ((w4.alloc _).alloc _).heap.size; simp)
    simpa [bc, tailI] using this
  have hB6 : RowKit.Below (w4.heap.size + 1) (w4.alloc (.cells #[.int .u8 (b64 (n : Int) 0), .int .u8 (b64 (n : Int) 1), .int .u8 (b64 (n : Int) 2), .int .u8 (b64 (n : Int) 3), .int .u8 (b64 (n : Int) 4), .int .u8 (b64 (n : Int) 5), .int .u8 (b64 (n : Int) 6), .int .u8 (b64 (n : Int) 7)] 170)) w6 :=
    ⟨hgrow.os, hgrow.tape, hgrow.output, Nat.le_trans (by simp [World.drew]) hgrow.size, fun j hj => (hgrow.block j (by show _ < ((w4.alloc _).alloc _).heap.size; simp; omega) (by simp)).trans (RowKit.Below.heap_alloc (w4.alloc (.cells #[.int .u8 (b64 (n : Int) 0), .int .u8 (b64 (n : Int) 1), .int .u8 (b64 (n : Int) 2), .int .u8 (b64 (n : Int) 3), .int .u8 (b64 (n : Int) 4), .int .u8 (b64 (n : Int) 5), .int .u8 (b64 (n : Int) 6), .int .u8 (b64 (n : Int) 7)] 170)) _ j (by simp; omega))⟩
  have HO6 := Lib.hid hO6
  have HB6 := Lib.hid hB6
  have HX := Lib.hid hX4
  have HB4 := Lib.hid hB4
  have HO := Lib.hid hO4
  have HO' := Lib.hid hO4'
  have HI := Lib.hid hi
  clear hh4 hX4 hB4 hO4 hO4' c8 c8' hbl4 hbl6 hown hgrow hO6 hB6 HD hi
  go_wp2_with fail
  go_loopw [6] (fun x wr => ∃ j : Nat, k + 9 + j ≤ 32 * ((k + 40) / 32) ∧ wr.ownsRow (w4.heap.size + 1) 5 1 x (k + 1 + j) (bc (tailI (fBytes k f) j)) ∧ RowKit.Below (w4.heap.size + 1) (w4.alloc (.cells #[.int .u8 (b64 (n : Int) 0), .int .u8 (b64 (n : Int) 1), .int .u8 (b64 (n : Int) 2), .int .u8 (b64 (n : Int) 3), .int .u8 (b64 (n : Int) 4), .int .u8 (b64 (n : Int) 5), .int .u8 (b64 (n : Int) 6), .int .u8 (b64 (n : Int) 7)] 170)) wr) (fun x _ => (match x with | .slice _ m _ => 64 - m | _ => 0))
  case atStart => exact ⟨0, by omega, HO6.out, HB6.out⟩
  case round =>
    obtain ⟨j, hj, hO, hB⟩ := hrel
    have hO0 := hO
    obtain ⟨_, ⟨rfl, h0⟩ | ⟨g2, cap2, cur2, rfl, hg1, hg2, hg3, hg4, hg5, hg6⟩⟩ := hO0
    · omega
    by_cases hm : (k + 1 + j + 8) % 32 = 0
    · have HOj := Lib.hid hO
      have HBj := Lib.hid hB
      have hm' : (((k + 1 + j : Nat) : Int) + 8) % 32 = 0 := by omega
      have hnc : ∀ jj u, (bc (n8 n))[jj]? = some u → wr.cell? ((⟨w4.heap.size, 0, none⟩ : Addr).add jj) = some u := fun jj u hu => by
        have h8 := (hB.block w4.heap.size (by omega)).trans (heap_alloc_new w4 (.cells #[.int .u8 (b64 (n : Int) 0), .int .u8 (b64 (n : Int) 1), .int .u8 (b64 (n : Int) 2), .int .u8 (b64 (n : Int) 3), .int .u8 (b64 (n : Int) 4), .int .u8 (b64 (n : Int) 5), .int .u8 (b64 (n : Int) 6), .int .u8 (b64 (n : Int) 7)] 170))
        rw [Addr.add_mid, Nat.zero_add, cell_of_row wr w4.heap.size jj _ 170 (0, 0) h8, ← hu]
        simp [bc, n8]
      clear hO hB hg1 hg2 hg3 hg4 hg5 hg6
      go_wp2_with (at_builtin; go_must (refine wpList_append_own _ rfl (.tmp 49) (.tmp 50) 155 rfl (w4.heap.size + 1) 5 i0 (.int .u8 0) 1 1 Tryz.underlying155 HI.out hz0 hz1 hz2 rfl (by decide) _ _ _ rfl HOj.out ⟨w4.heap.size, 0, none⟩ 8 8 (bc (n8 n)) rfl rfl hnc (fun u hu => by obtain ⟨x, _, rfl⟩ := List.mem_map.1 hu; rfl) (by unfold maxLen; omega) (by omega) (by have := HBj.out.size; simp at this; omega) ?_); intro v' w9 hown1 hgrow1 _; have HO9 := Lib.hid hown1; have HG9 := Lib.hid (HBj.out.grown hgrow1 (by have := HBj.out.size; simp at this; omega) (fun q hq => (HOj.out.lt q hq).1)); clear hown1 hgrow1)
      obtain ⟨hl9, ⟨rfl, h0⟩ | ⟨g3, cap3, cur3, rfl, r1, r2, r3, r4, r5, r6⟩⟩ := HO9.out
      · omega
      have hs4 := HB4.out.size
      have hlt4 := HX.out.lt
      have hX9 : HS w9 (w.heap.size + 2) [x0, x1, x2, x3, x4, x5, x6, x7] (.slice none 0 0) 0 := (HX.out.alloc (.cells #[.int .u8 (b64 (n : Int) 0), .int .u8 (b64 (n : Int) 1), .int .u8 (b64 (n : Int) 2), .int .u8 (b64 (n : Int) 3), .int .u8 (b64 (n : Int) 4), .int .u8 (b64 (n : Int) 5), .int .u8 (b64 (n : Int) 6), .int .u8 (b64 (n : Int) 7)] 170)).of_block (HG9.out.block _ (by have := HX.out.lt; omega))
      have hBy9 : Bys w9 g3 0 (k + 1 + j + 8) (fun i => (tailI (fBytes k f) j ++ n8 n).getD i 0) := owns_bys (L := tailI (fBytes k f) j ++ n8 n) (by simp [tailI, fBytes, n8]; omega) r2 (by rw [r6]; simp [bc])
      refine (pieces_any (w.heap.size + 2) g3 0 (k + 1 + j + 8) cap3 [x0, x1, x2, x3, x4, x5, x6, x7] (.slice none 0 0) 0 (fun i => (tailI (fBytes k f) j ++ n8 n).getD i 0) w9 r3 (Nat.le_trans r4 (by decide)) (by omega) hX9 hBy9).mono ?_
      rintro e w10 ⟨o10, c10, rfl, -, -, hX10, hg10⟩
      have hsz9 := HG9.out.size
      simp only [World.size_alloc] at hsz9
      have hR10 : RowO w10 (w.heap.size + 1) (List.replicate 32 0) := (hg10.block (w.heap.size + 1) (by omega) (by simp)).trans ((HG9.out.block _ (by omega)).trans ((RowKit.Below.heap_alloc w4 _ _ (by omega)).trans HO.out))
      have hB10 : RowKit.Below w.heap.size w w10 := below_only2 (below_trans'' (HB4.out.alloc hs4 _) HG9.out (by omega)) hg10 (by omega) (by omega)
      have hZ10 : RowO w10 w.heap.size (List.replicate 32 0) := (hg10.block w.heap.size (by omega) (by simp)).trans ((HG9.out.block _ (by omega)).trans ((RowKit.Below.heap_alloc w4 _ _ (by omega)).trans HO'.out))
      have HZ10 := Lib.hid hZ10
      have HR10 := Lib.hid hR10
      have HB10 := Lib.hid hB10
      have hje : j = 32 * ((k + 40) / 32) - k - 9 := by omega
      rw [show (k + 1 + j + 8) / 32 = (k + 40) / 32 by omega, hje] at hX10
      clear hje
      generalize hP : piecesI _ _ _ = P at hX10
      obtain ⟨p0, p1, p2, p3, p4, p5, p6, p7, rfl⟩ := list8 hX10.1
      have d0 : w10.cell? ⟨w.heap.size + 1 + 1, 0, none⟩ = some (.int .u32 p0) := hX10.word (i := 0) (by decide)
      have d1 : w10.cell? ⟨w.heap.size + 1 + 1, 1, none⟩ = some (.int .u32 p1) := hX10.word (i := 1) (by decide)
      have d2 : w10.cell? ⟨w.heap.size + 1 + 1, 2, none⟩ = some (.int .u32 p2) := hX10.word (i := 2) (by decide)
      have d3 : w10.cell? ⟨w.heap.size + 1 + 1, 3, none⟩ = some (.int .u32 p3) := hX10.word (i := 3) (by decide)
      have d4 : w10.cell? ⟨w.heap.size + 1 + 1, 4, none⟩ = some (.int .u32 p4) := hX10.word (i := 4) (by decide)
      have d5 : w10.cell? ⟨w.heap.size + 1 + 1, 5, none⟩ = some (.int .u32 p5) := hX10.word (i := 5) (by decide)
      have d6 : w10.cell? ⟨w.heap.size + 1 + 1, 6, none⟩ = some (.int .u32 p6) := hX10.word (i := 6) (by decide)
      have d7 : w10.cell? ⟨w.heap.size + 1 + 1, 7, none⟩ = some (.int .u32 p7) := hX10.word (i := 7) (by decide)
      have HP := Lib.hid hP
      clear hP hX10 hg10 hR10 hB10 hZ10 hX9 hBy9 hm' hnc HOj HBj HO9 HG9 HX HB4 HO HO' HB6 HO6
      go_wp2_with fail
      go_loopw [55] (fun i wr => ∃ (p : Nat) (q : Int), q = p ∧ p ≤ 8 ∧ i = .int .i64 q ∧ RowO wr (w.heap.size + 1) (oB [p0, p1, p2, p3, p4, p5, p6, p7] p ++ List.replicate (32 - 4 * p) 0) ∧ RowKit.Below w.heap.size w wr ∧ RowO wr w.heap.size (List.replicate 32 0)) (fun i _ => 8 - (intOf i).toNat)
      case atStart => exact ⟨0, 0, rfl, by omega, rfl, HR10.out, HB10.out, HZ10.out⟩
      case round =>
        obtain ⟨p, q, hq, hp, rfl, hR, hB, hZ⟩ := hrel
        rcases (show p = 0 ∨ p = 1 ∨ p = 2 ∨ p = 3 ∨ p = 4 ∨ p = 5 ∨ p = 6 ∨ p = 7 ∨ p = 8 by omega) with rfl | rfl | rfl | rfl | rfl | rfl | rfl | rfl | rfl
        · obtain rfl : q = 0 := hq
          have hwr : IntKind.i64.wrap 0 = 0 := by decide
          have HR := Lib.hid hR
          have HB := Lib.hid hB
          have HZ := Lib.hid hZ
          clear hR hB hZ
          have hix := idx247_0 p0 p1 p2 p3 p4 p5 p6 p7
          go_wp2_with fail
          refine (bytes32_any p0 wr).mono ?_
          rintro e w11 ⟨rfl, hb11⟩
          have HR11 := Lib.hid ((HR.out.below hb11).alloc (.cells #[.int .u8 (b32 p0 0), .int .u8 (b32 p0 1), .int .u8 (b32 p0 2), .int .u8 (b32 p0 3)] 182)).drew
          have HB11 := Lib.hid ((below_trans' HB.out hb11).alloc (by have := HR.out.lt; have := hb11.size; omega) (.cells #[.int .u8 (b32 p0 0), .int .u8 (b32 p0 1), .int .u8 (b32 p0 2), .int .u8 (b32 p0 3)] 182))
          have HZ11 := Lib.hid ((HZ.out.below hb11).alloc (.cells #[.int .u8 (b32 p0 0), .int .u8 (b32 p0 1), .int .u8 (b32 p0 2), .int .u8 (b32 p0 3)] 182)).drew
          clear hb11 HR HB HZ
          have hcp := run_copy_cells (P := Tryz.prog) (w11.alloc (.cells #[.int .u8 (b32 p0 0), .int .u8 (b32 p0 1), .int .u8 (b32 p0 2), .int .u8 (b32 p0 3)] 182)).drew 155 155 3 5 (w.heap.size + 1) 0 32 32 ⟨w11.heap.size, 0, none⟩ 4 4 (bc [b32 p0 0, b32 p0 1, b32 p0 2, b32 p0 3]) Tryz.underlying155 (by kernel_rfl) rfl (fun jj u hj => by
            rw [Addr.add_mid, Nat.zero_add]; exact (cell_of_row (w11.alloc (.cells #[.int .u8 (b32 p0 0), .int .u8 (b32 p0 1), .int .u8 (b32 p0 2), .int .u8 (b32 p0 3)] 182)).drew w11.heap.size jj #[.int .u8 (b32 p0 0), .int .u8 (b32 p0 1), .int .u8 (b32 p0 2), .int .u8 (b32 p0 3)] 182 (0, 0) (heap_alloc_new w11 _)).trans (by rw [← hj]; simp [bc])) (fun jj hj => by
            rw [show (w11.alloc (.cells #[.int .u8 (b32 p0 0), .int .u8 (b32 p0 1), .int .u8 (b32 p0 2), .int .u8 (b32 p0 3)] 182)).drew.cell? ⟨w.heap.size + 1, 0 + jj, none⟩ = _ from HR11.out.cell (i := 0 + jj) (by simp [oB_len, bc] at hj ⊢; omega)]; rfl) (fun jj _ => HR11.out.free _) (fun u hu => by
            obtain ⟨x, _, rfl⟩ := List.mem_map.1 hu; rfl)
          have hR12 := setCells_mid (w11.alloc (.cells #[.int .u8 (b32 p0 0), .int .u8 (b32 p0 1), .int .u8 (b32 p0 2), .int .u8 (b32 p0 3)] 182)).drew (w.heap.size + 1) (oB [p0, p1, p2, p3, p4, p5, p6, p7] 0) (List.replicate 4 0) (List.replicate 28 0) [b32 p0 0, b32 p0 1, b32 p0 2, b32 p0 3] HR11.out rfl
          have hB12 := below_setCells (bc [b32 p0 0, b32 p0 1, b32 p0 2, b32 p0 3]) (oB [p0, p1, p2, p3, p4, p5, p6, p7] 0).length _ _ HR11.out.heap (B := w.heap.size) (by omega) HB11.out.drew
          have hZ12 := HZ11.out.other (oB [p0, p1, p2, p3, p4, p5, p6, p7] 0).length (bc [b32 p0 0, b32 p0 1, b32 p0 2, b32 p0 3]) HR11.out.heap (by omega)
          rw [show (oB [p0, p1, p2, p3, p4, p5, p6, p7] 0).length = 0 from rfl] at hR12 hB12 hZ12
          rw [show (bc [b32 p0 0, b32 p0 1, b32 p0 2, b32 p0 3]).length = 4 from rfl] at hcp
          generalize hw12 : (w11.alloc (.cells #[.int .u8 (b32 p0 0), .int .u8 (b32 p0 1), .int .u8 (b32 p0 2), .int .u8 (b32 p0 3)] 182)).drew.setCells (w.heap.size + 1) 0 (bc [b32 p0 0, b32 p0 1, b32 p0 2, b32 p0 3]) = w12 at *
          have HR12 := Lib.hid hR12
          have HB12 := Lib.hid hB12
          have HZ12 := Lib.hid hZ12
          clear hR12 hB12 hZ12 HZ11 HR11 HB11 hw12
          go_wp2_with fail
          refine wp_region_still_tail 4 (by kernel_rfl) (by kernel_rfl) ?_
          simp only [List.take_succ_cons, List.take_zero, List.drop_succ_cons, List.drop_zero]
          repeat still_step
          refine wpStill_nil ?_
          change wpList _ _ _ _ _ (w11.alloc (.cells #[.int .u8 (b32 p0 0), .int .u8 (b32 p0 1), .int .u8 (b32 p0 2), .int .u8 (b32 p0 3)] 182)).drew
          generalize (w11.alloc (.cells #[.int .u8 (b32 p0 0), .int .u8 (b32 p0 1), .int .u8 (b32 p0 2), .int .u8 (b32 p0 3)] 182)).drew = w11d at *
          go_wp2_with fail
          exact ⟨⟨1, 1, rfl, by omega, rfl, HR12.out, HB12.out, HZ12.out⟩, by simp [intOf]⟩
        · obtain rfl : q = 1 := hq
          have hwr : IntKind.i64.wrap 4 = 4 := by decide
          have HR := Lib.hid hR
          have HB := Lib.hid hB
          have HZ := Lib.hid hZ
          clear hR hB hZ
          have hix := idx247_1 p0 p1 p2 p3 p4 p5 p6 p7
          go_wp2_with fail
          refine (bytes32_any p1 wr).mono ?_
          rintro e w11 ⟨rfl, hb11⟩
          have HR11 := Lib.hid ((HR.out.below hb11).alloc (.cells #[.int .u8 (b32 p1 0), .int .u8 (b32 p1 1), .int .u8 (b32 p1 2), .int .u8 (b32 p1 3)] 182)).drew
          have HB11 := Lib.hid ((below_trans' HB.out hb11).alloc (by have := HR.out.lt; have := hb11.size; omega) (.cells #[.int .u8 (b32 p1 0), .int .u8 (b32 p1 1), .int .u8 (b32 p1 2), .int .u8 (b32 p1 3)] 182))
          have HZ11 := Lib.hid ((HZ.out.below hb11).alloc (.cells #[.int .u8 (b32 p1 0), .int .u8 (b32 p1 1), .int .u8 (b32 p1 2), .int .u8 (b32 p1 3)] 182)).drew
          clear hb11 HR HB HZ
          have hcp := run_copy_cells (P := Tryz.prog) (w11.alloc (.cells #[.int .u8 (b32 p1 0), .int .u8 (b32 p1 1), .int .u8 (b32 p1 2), .int .u8 (b32 p1 3)] 182)).drew 155 155 3 5 (w.heap.size + 1) 4 28 28 ⟨w11.heap.size, 0, none⟩ 4 4 (bc [b32 p1 0, b32 p1 1, b32 p1 2, b32 p1 3]) Tryz.underlying155 (by kernel_rfl) rfl (fun jj u hj => by
            rw [Addr.add_mid, Nat.zero_add]; exact (cell_of_row (w11.alloc (.cells #[.int .u8 (b32 p1 0), .int .u8 (b32 p1 1), .int .u8 (b32 p1 2), .int .u8 (b32 p1 3)] 182)).drew w11.heap.size jj #[.int .u8 (b32 p1 0), .int .u8 (b32 p1 1), .int .u8 (b32 p1 2), .int .u8 (b32 p1 3)] 182 (0, 0) (heap_alloc_new w11 _)).trans (by rw [← hj]; simp [bc])) (fun jj hj => by
            rw [show (w11.alloc (.cells #[.int .u8 (b32 p1 0), .int .u8 (b32 p1 1), .int .u8 (b32 p1 2), .int .u8 (b32 p1 3)] 182)).drew.cell? ⟨w.heap.size + 1, 4 + jj, none⟩ = _ from HR11.out.cell (i := 4 + jj) (by simp [oB_len, bc] at hj ⊢; omega)]; rfl) (fun jj _ => HR11.out.free _) (fun u hu => by
            obtain ⟨x, _, rfl⟩ := List.mem_map.1 hu; rfl)
          have hR12 := setCells_mid (w11.alloc (.cells #[.int .u8 (b32 p1 0), .int .u8 (b32 p1 1), .int .u8 (b32 p1 2), .int .u8 (b32 p1 3)] 182)).drew (w.heap.size + 1) (oB [p0, p1, p2, p3, p4, p5, p6, p7] 1) (List.replicate 4 0) (List.replicate 24 0) [b32 p1 0, b32 p1 1, b32 p1 2, b32 p1 3] HR11.out rfl
          have hB12 := below_setCells (bc [b32 p1 0, b32 p1 1, b32 p1 2, b32 p1 3]) (oB [p0, p1, p2, p3, p4, p5, p6, p7] 1).length _ _ HR11.out.heap (B := w.heap.size) (by omega) HB11.out.drew
          have hZ12 := HZ11.out.other (oB [p0, p1, p2, p3, p4, p5, p6, p7] 1).length (bc [b32 p1 0, b32 p1 1, b32 p1 2, b32 p1 3]) HR11.out.heap (by omega)
          rw [show (oB [p0, p1, p2, p3, p4, p5, p6, p7] 1).length = 4 from rfl] at hR12 hB12 hZ12
          rw [show (bc [b32 p1 0, b32 p1 1, b32 p1 2, b32 p1 3]).length = 4 from rfl] at hcp
          generalize hw12 : (w11.alloc (.cells #[.int .u8 (b32 p1 0), .int .u8 (b32 p1 1), .int .u8 (b32 p1 2), .int .u8 (b32 p1 3)] 182)).drew.setCells (w.heap.size + 1) 4 (bc [b32 p1 0, b32 p1 1, b32 p1 2, b32 p1 3]) = w12 at *
          have HR12 := Lib.hid hR12
          have HB12 := Lib.hid hB12
          have HZ12 := Lib.hid hZ12
          clear hR12 hB12 hZ12 HZ11 HR11 HB11 hw12
          go_wp2_with fail
          refine wp_region_still_tail 4 (by kernel_rfl) (by kernel_rfl) ?_
          simp only [List.take_succ_cons, List.take_zero, List.drop_succ_cons, List.drop_zero]
          repeat still_step
          refine wpStill_nil ?_
          change wpList _ _ _ _ _ (w11.alloc (.cells #[.int .u8 (b32 p1 0), .int .u8 (b32 p1 1), .int .u8 (b32 p1 2), .int .u8 (b32 p1 3)] 182)).drew
          generalize (w11.alloc (.cells #[.int .u8 (b32 p1 0), .int .u8 (b32 p1 1), .int .u8 (b32 p1 2), .int .u8 (b32 p1 3)] 182)).drew = w11d at *
          go_wp2_with fail
          exact ⟨⟨2, 2, rfl, by omega, rfl, HR12.out, HB12.out, HZ12.out⟩, by simp [intOf]⟩
        · obtain rfl : q = 2 := hq
          have hwr : IntKind.i64.wrap 8 = 8 := by decide
          have HR := Lib.hid hR
          have HB := Lib.hid hB
          have HZ := Lib.hid hZ
          clear hR hB hZ
          have hix := idx247_2 p0 p1 p2 p3 p4 p5 p6 p7
          go_wp2_with fail
          refine (bytes32_any p2 wr).mono ?_
          rintro e w11 ⟨rfl, hb11⟩
          have HR11 := Lib.hid ((HR.out.below hb11).alloc (.cells #[.int .u8 (b32 p2 0), .int .u8 (b32 p2 1), .int .u8 (b32 p2 2), .int .u8 (b32 p2 3)] 182)).drew
          have HB11 := Lib.hid ((below_trans' HB.out hb11).alloc (by have := HR.out.lt; have := hb11.size; omega) (.cells #[.int .u8 (b32 p2 0), .int .u8 (b32 p2 1), .int .u8 (b32 p2 2), .int .u8 (b32 p2 3)] 182))
          have HZ11 := Lib.hid ((HZ.out.below hb11).alloc (.cells #[.int .u8 (b32 p2 0), .int .u8 (b32 p2 1), .int .u8 (b32 p2 2), .int .u8 (b32 p2 3)] 182)).drew
          clear hb11 HR HB HZ
          have hcp := run_copy_cells (P := Tryz.prog) (w11.alloc (.cells #[.int .u8 (b32 p2 0), .int .u8 (b32 p2 1), .int .u8 (b32 p2 2), .int .u8 (b32 p2 3)] 182)).drew 155 155 3 5 (w.heap.size + 1) 8 24 24 ⟨w11.heap.size, 0, none⟩ 4 4 (bc [b32 p2 0, b32 p2 1, b32 p2 2, b32 p2 3]) Tryz.underlying155 (by kernel_rfl) rfl (fun jj u hj => by
            rw [Addr.add_mid, Nat.zero_add]; exact (cell_of_row (w11.alloc (.cells #[.int .u8 (b32 p2 0), .int .u8 (b32 p2 1), .int .u8 (b32 p2 2), .int .u8 (b32 p2 3)] 182)).drew w11.heap.size jj #[.int .u8 (b32 p2 0), .int .u8 (b32 p2 1), .int .u8 (b32 p2 2), .int .u8 (b32 p2 3)] 182 (0, 0) (heap_alloc_new w11 _)).trans (by rw [← hj]; simp [bc])) (fun jj hj => by
            rw [show (w11.alloc (.cells #[.int .u8 (b32 p2 0), .int .u8 (b32 p2 1), .int .u8 (b32 p2 2), .int .u8 (b32 p2 3)] 182)).drew.cell? ⟨w.heap.size + 1, 8 + jj, none⟩ = _ from HR11.out.cell (i := 8 + jj) (by simp [oB_len, bc] at hj ⊢; omega)]; rfl) (fun jj _ => HR11.out.free _) (fun u hu => by
            obtain ⟨x, _, rfl⟩ := List.mem_map.1 hu; rfl)
          have hR12 := setCells_mid (w11.alloc (.cells #[.int .u8 (b32 p2 0), .int .u8 (b32 p2 1), .int .u8 (b32 p2 2), .int .u8 (b32 p2 3)] 182)).drew (w.heap.size + 1) (oB [p0, p1, p2, p3, p4, p5, p6, p7] 2) (List.replicate 4 0) (List.replicate 20 0) [b32 p2 0, b32 p2 1, b32 p2 2, b32 p2 3] HR11.out rfl
          have hB12 := below_setCells (bc [b32 p2 0, b32 p2 1, b32 p2 2, b32 p2 3]) (oB [p0, p1, p2, p3, p4, p5, p6, p7] 2).length _ _ HR11.out.heap (B := w.heap.size) (by omega) HB11.out.drew
          have hZ12 := HZ11.out.other (oB [p0, p1, p2, p3, p4, p5, p6, p7] 2).length (bc [b32 p2 0, b32 p2 1, b32 p2 2, b32 p2 3]) HR11.out.heap (by omega)
          rw [show (oB [p0, p1, p2, p3, p4, p5, p6, p7] 2).length = 8 from rfl] at hR12 hB12 hZ12
          rw [show (bc [b32 p2 0, b32 p2 1, b32 p2 2, b32 p2 3]).length = 4 from rfl] at hcp
          generalize hw12 : (w11.alloc (.cells #[.int .u8 (b32 p2 0), .int .u8 (b32 p2 1), .int .u8 (b32 p2 2), .int .u8 (b32 p2 3)] 182)).drew.setCells (w.heap.size + 1) 8 (bc [b32 p2 0, b32 p2 1, b32 p2 2, b32 p2 3]) = w12 at *
          have HR12 := Lib.hid hR12
          have HB12 := Lib.hid hB12
          have HZ12 := Lib.hid hZ12
          clear hR12 hB12 hZ12 HZ11 HR11 HB11 hw12
          go_wp2_with fail
          refine wp_region_still_tail 4 (by kernel_rfl) (by kernel_rfl) ?_
          simp only [List.take_succ_cons, List.take_zero, List.drop_succ_cons, List.drop_zero]
          repeat still_step
          refine wpStill_nil ?_
          change wpList _ _ _ _ _ (w11.alloc (.cells #[.int .u8 (b32 p2 0), .int .u8 (b32 p2 1), .int .u8 (b32 p2 2), .int .u8 (b32 p2 3)] 182)).drew
          generalize (w11.alloc (.cells #[.int .u8 (b32 p2 0), .int .u8 (b32 p2 1), .int .u8 (b32 p2 2), .int .u8 (b32 p2 3)] 182)).drew = w11d at *
          go_wp2_with fail
          exact ⟨⟨3, 3, rfl, by omega, rfl, HR12.out, HB12.out, HZ12.out⟩, by simp [intOf]⟩
        · obtain rfl : q = 3 := hq
          have hwr : IntKind.i64.wrap 12 = 12 := by decide
          have HR := Lib.hid hR
          have HB := Lib.hid hB
          have HZ := Lib.hid hZ
          clear hR hB hZ
          have hix := idx247_3 p0 p1 p2 p3 p4 p5 p6 p7
          go_wp2_with fail
          refine (bytes32_any p3 wr).mono ?_
          rintro e w11 ⟨rfl, hb11⟩
          have HR11 := Lib.hid ((HR.out.below hb11).alloc (.cells #[.int .u8 (b32 p3 0), .int .u8 (b32 p3 1), .int .u8 (b32 p3 2), .int .u8 (b32 p3 3)] 182)).drew
          have HB11 := Lib.hid ((below_trans' HB.out hb11).alloc (by have := HR.out.lt; have := hb11.size; omega) (.cells #[.int .u8 (b32 p3 0), .int .u8 (b32 p3 1), .int .u8 (b32 p3 2), .int .u8 (b32 p3 3)] 182))
          have HZ11 := Lib.hid ((HZ.out.below hb11).alloc (.cells #[.int .u8 (b32 p3 0), .int .u8 (b32 p3 1), .int .u8 (b32 p3 2), .int .u8 (b32 p3 3)] 182)).drew
          clear hb11 HR HB HZ
          have hcp := run_copy_cells (P := Tryz.prog) (w11.alloc (.cells #[.int .u8 (b32 p3 0), .int .u8 (b32 p3 1), .int .u8 (b32 p3 2), .int .u8 (b32 p3 3)] 182)).drew 155 155 3 5 (w.heap.size + 1) 12 20 20 ⟨w11.heap.size, 0, none⟩ 4 4 (bc [b32 p3 0, b32 p3 1, b32 p3 2, b32 p3 3]) Tryz.underlying155 (by kernel_rfl) rfl (fun jj u hj => by
            rw [Addr.add_mid, Nat.zero_add]; exact (cell_of_row (w11.alloc (.cells #[.int .u8 (b32 p3 0), .int .u8 (b32 p3 1), .int .u8 (b32 p3 2), .int .u8 (b32 p3 3)] 182)).drew w11.heap.size jj #[.int .u8 (b32 p3 0), .int .u8 (b32 p3 1), .int .u8 (b32 p3 2), .int .u8 (b32 p3 3)] 182 (0, 0) (heap_alloc_new w11 _)).trans (by rw [← hj]; simp [bc])) (fun jj hj => by
            rw [show (w11.alloc (.cells #[.int .u8 (b32 p3 0), .int .u8 (b32 p3 1), .int .u8 (b32 p3 2), .int .u8 (b32 p3 3)] 182)).drew.cell? ⟨w.heap.size + 1, 12 + jj, none⟩ = _ from HR11.out.cell (i := 12 + jj) (by simp [oB_len, bc] at hj ⊢; omega)]; rfl) (fun jj _ => HR11.out.free _) (fun u hu => by
            obtain ⟨x, _, rfl⟩ := List.mem_map.1 hu; rfl)
          have hR12 := setCells_mid (w11.alloc (.cells #[.int .u8 (b32 p3 0), .int .u8 (b32 p3 1), .int .u8 (b32 p3 2), .int .u8 (b32 p3 3)] 182)).drew (w.heap.size + 1) (oB [p0, p1, p2, p3, p4, p5, p6, p7] 3) (List.replicate 4 0) (List.replicate 16 0) [b32 p3 0, b32 p3 1, b32 p3 2, b32 p3 3] HR11.out rfl
          have hB12 := below_setCells (bc [b32 p3 0, b32 p3 1, b32 p3 2, b32 p3 3]) (oB [p0, p1, p2, p3, p4, p5, p6, p7] 3).length _ _ HR11.out.heap (B := w.heap.size) (by omega) HB11.out.drew
          have hZ12 := HZ11.out.other (oB [p0, p1, p2, p3, p4, p5, p6, p7] 3).length (bc [b32 p3 0, b32 p3 1, b32 p3 2, b32 p3 3]) HR11.out.heap (by omega)
          rw [show (oB [p0, p1, p2, p3, p4, p5, p6, p7] 3).length = 12 from rfl] at hR12 hB12 hZ12
          rw [show (bc [b32 p3 0, b32 p3 1, b32 p3 2, b32 p3 3]).length = 4 from rfl] at hcp
          generalize hw12 : (w11.alloc (.cells #[.int .u8 (b32 p3 0), .int .u8 (b32 p3 1), .int .u8 (b32 p3 2), .int .u8 (b32 p3 3)] 182)).drew.setCells (w.heap.size + 1) 12 (bc [b32 p3 0, b32 p3 1, b32 p3 2, b32 p3 3]) = w12 at *
          have HR12 := Lib.hid hR12
          have HB12 := Lib.hid hB12
          have HZ12 := Lib.hid hZ12
          clear hR12 hB12 hZ12 HZ11 HR11 HB11 hw12
          go_wp2_with fail
          refine wp_region_still_tail 4 (by kernel_rfl) (by kernel_rfl) ?_
          simp only [List.take_succ_cons, List.take_zero, List.drop_succ_cons, List.drop_zero]
          repeat still_step
          refine wpStill_nil ?_
          change wpList _ _ _ _ _ (w11.alloc (.cells #[.int .u8 (b32 p3 0), .int .u8 (b32 p3 1), .int .u8 (b32 p3 2), .int .u8 (b32 p3 3)] 182)).drew
          generalize (w11.alloc (.cells #[.int .u8 (b32 p3 0), .int .u8 (b32 p3 1), .int .u8 (b32 p3 2), .int .u8 (b32 p3 3)] 182)).drew = w11d at *
          go_wp2_with fail
          exact ⟨⟨4, 4, rfl, by omega, rfl, HR12.out, HB12.out, HZ12.out⟩, by simp [intOf]⟩
        · obtain rfl : q = 4 := hq
          have hwr : IntKind.i64.wrap 16 = 16 := by decide
          have HR := Lib.hid hR
          have HB := Lib.hid hB
          have HZ := Lib.hid hZ
          clear hR hB hZ
          have hix := idx247_4 p0 p1 p2 p3 p4 p5 p6 p7
          go_wp2_with fail
          refine (bytes32_any p4 wr).mono ?_
          rintro e w11 ⟨rfl, hb11⟩
          have HR11 := Lib.hid ((HR.out.below hb11).alloc (.cells #[.int .u8 (b32 p4 0), .int .u8 (b32 p4 1), .int .u8 (b32 p4 2), .int .u8 (b32 p4 3)] 182)).drew
          have HB11 := Lib.hid ((below_trans' HB.out hb11).alloc (by have := HR.out.lt; have := hb11.size; omega) (.cells #[.int .u8 (b32 p4 0), .int .u8 (b32 p4 1), .int .u8 (b32 p4 2), .int .u8 (b32 p4 3)] 182))
          have HZ11 := Lib.hid ((HZ.out.below hb11).alloc (.cells #[.int .u8 (b32 p4 0), .int .u8 (b32 p4 1), .int .u8 (b32 p4 2), .int .u8 (b32 p4 3)] 182)).drew
          clear hb11 HR HB HZ
          have hcp := run_copy_cells (P := Tryz.prog) (w11.alloc (.cells #[.int .u8 (b32 p4 0), .int .u8 (b32 p4 1), .int .u8 (b32 p4 2), .int .u8 (b32 p4 3)] 182)).drew 155 155 3 5 (w.heap.size + 1) 16 16 16 ⟨w11.heap.size, 0, none⟩ 4 4 (bc [b32 p4 0, b32 p4 1, b32 p4 2, b32 p4 3]) Tryz.underlying155 (by kernel_rfl) rfl (fun jj u hj => by
            rw [Addr.add_mid, Nat.zero_add]; exact (cell_of_row (w11.alloc (.cells #[.int .u8 (b32 p4 0), .int .u8 (b32 p4 1), .int .u8 (b32 p4 2), .int .u8 (b32 p4 3)] 182)).drew w11.heap.size jj #[.int .u8 (b32 p4 0), .int .u8 (b32 p4 1), .int .u8 (b32 p4 2), .int .u8 (b32 p4 3)] 182 (0, 0) (heap_alloc_new w11 _)).trans (by rw [← hj]; simp [bc])) (fun jj hj => by
            rw [show (w11.alloc (.cells #[.int .u8 (b32 p4 0), .int .u8 (b32 p4 1), .int .u8 (b32 p4 2), .int .u8 (b32 p4 3)] 182)).drew.cell? ⟨w.heap.size + 1, 16 + jj, none⟩ = _ from HR11.out.cell (i := 16 + jj) (by simp [oB_len, bc] at hj ⊢; omega)]; rfl) (fun jj _ => HR11.out.free _) (fun u hu => by
            obtain ⟨x, _, rfl⟩ := List.mem_map.1 hu; rfl)
          have hR12 := setCells_mid (w11.alloc (.cells #[.int .u8 (b32 p4 0), .int .u8 (b32 p4 1), .int .u8 (b32 p4 2), .int .u8 (b32 p4 3)] 182)).drew (w.heap.size + 1) (oB [p0, p1, p2, p3, p4, p5, p6, p7] 4) (List.replicate 4 0) (List.replicate 12 0) [b32 p4 0, b32 p4 1, b32 p4 2, b32 p4 3] HR11.out rfl
          have hB12 := below_setCells (bc [b32 p4 0, b32 p4 1, b32 p4 2, b32 p4 3]) (oB [p0, p1, p2, p3, p4, p5, p6, p7] 4).length _ _ HR11.out.heap (B := w.heap.size) (by omega) HB11.out.drew
          have hZ12 := HZ11.out.other (oB [p0, p1, p2, p3, p4, p5, p6, p7] 4).length (bc [b32 p4 0, b32 p4 1, b32 p4 2, b32 p4 3]) HR11.out.heap (by omega)
          rw [show (oB [p0, p1, p2, p3, p4, p5, p6, p7] 4).length = 16 from rfl] at hR12 hB12 hZ12
          rw [show (bc [b32 p4 0, b32 p4 1, b32 p4 2, b32 p4 3]).length = 4 from rfl] at hcp
          generalize hw12 : (w11.alloc (.cells #[.int .u8 (b32 p4 0), .int .u8 (b32 p4 1), .int .u8 (b32 p4 2), .int .u8 (b32 p4 3)] 182)).drew.setCells (w.heap.size + 1) 16 (bc [b32 p4 0, b32 p4 1, b32 p4 2, b32 p4 3]) = w12 at *
          have HR12 := Lib.hid hR12
          have HB12 := Lib.hid hB12
          have HZ12 := Lib.hid hZ12
          clear hR12 hB12 hZ12 HZ11 HR11 HB11 hw12
          go_wp2_with fail
          refine wp_region_still_tail 4 (by kernel_rfl) (by kernel_rfl) ?_
          simp only [List.take_succ_cons, List.take_zero, List.drop_succ_cons, List.drop_zero]
          repeat still_step
          refine wpStill_nil ?_
          change wpList _ _ _ _ _ (w11.alloc (.cells #[.int .u8 (b32 p4 0), .int .u8 (b32 p4 1), .int .u8 (b32 p4 2), .int .u8 (b32 p4 3)] 182)).drew
          generalize (w11.alloc (.cells #[.int .u8 (b32 p4 0), .int .u8 (b32 p4 1), .int .u8 (b32 p4 2), .int .u8 (b32 p4 3)] 182)).drew = w11d at *
          go_wp2_with fail
          exact ⟨⟨5, 5, rfl, by omega, rfl, HR12.out, HB12.out, HZ12.out⟩, by simp [intOf]⟩
        · obtain rfl : q = 5 := hq
          have hwr : IntKind.i64.wrap 20 = 20 := by decide
          have HR := Lib.hid hR
          have HB := Lib.hid hB
          have HZ := Lib.hid hZ
          clear hR hB hZ
          have hix := idx247_5 p0 p1 p2 p3 p4 p5 p6 p7
          go_wp2_with fail
          refine (bytes32_any p5 wr).mono ?_
          rintro e w11 ⟨rfl, hb11⟩
          have HR11 := Lib.hid ((HR.out.below hb11).alloc (.cells #[.int .u8 (b32 p5 0), .int .u8 (b32 p5 1), .int .u8 (b32 p5 2), .int .u8 (b32 p5 3)] 182)).drew
          have HB11 := Lib.hid ((below_trans' HB.out hb11).alloc (by have := HR.out.lt; have := hb11.size; omega) (.cells #[.int .u8 (b32 p5 0), .int .u8 (b32 p5 1), .int .u8 (b32 p5 2), .int .u8 (b32 p5 3)] 182))
          have HZ11 := Lib.hid ((HZ.out.below hb11).alloc (.cells #[.int .u8 (b32 p5 0), .int .u8 (b32 p5 1), .int .u8 (b32 p5 2), .int .u8 (b32 p5 3)] 182)).drew
          clear hb11 HR HB HZ
          have hcp := run_copy_cells (P := Tryz.prog) (w11.alloc (.cells #[.int .u8 (b32 p5 0), .int .u8 (b32 p5 1), .int .u8 (b32 p5 2), .int .u8 (b32 p5 3)] 182)).drew 155 155 3 5 (w.heap.size + 1) 20 12 12 ⟨w11.heap.size, 0, none⟩ 4 4 (bc [b32 p5 0, b32 p5 1, b32 p5 2, b32 p5 3]) Tryz.underlying155 (by kernel_rfl) rfl (fun jj u hj => by
            rw [Addr.add_mid, Nat.zero_add]; exact (cell_of_row (w11.alloc (.cells #[.int .u8 (b32 p5 0), .int .u8 (b32 p5 1), .int .u8 (b32 p5 2), .int .u8 (b32 p5 3)] 182)).drew w11.heap.size jj #[.int .u8 (b32 p5 0), .int .u8 (b32 p5 1), .int .u8 (b32 p5 2), .int .u8 (b32 p5 3)] 182 (0, 0) (heap_alloc_new w11 _)).trans (by rw [← hj]; simp [bc])) (fun jj hj => by
            rw [show (w11.alloc (.cells #[.int .u8 (b32 p5 0), .int .u8 (b32 p5 1), .int .u8 (b32 p5 2), .int .u8 (b32 p5 3)] 182)).drew.cell? ⟨w.heap.size + 1, 20 + jj, none⟩ = _ from HR11.out.cell (i := 20 + jj) (by simp [oB_len, bc] at hj ⊢; omega)]; rfl) (fun jj _ => HR11.out.free _) (fun u hu => by
            obtain ⟨x, _, rfl⟩ := List.mem_map.1 hu; rfl)
          have hR12 := setCells_mid (w11.alloc (.cells #[.int .u8 (b32 p5 0), .int .u8 (b32 p5 1), .int .u8 (b32 p5 2), .int .u8 (b32 p5 3)] 182)).drew (w.heap.size + 1) (oB [p0, p1, p2, p3, p4, p5, p6, p7] 5) (List.replicate 4 0) (List.replicate 8 0) [b32 p5 0, b32 p5 1, b32 p5 2, b32 p5 3] HR11.out rfl
          have hB12 := below_setCells (bc [b32 p5 0, b32 p5 1, b32 p5 2, b32 p5 3]) (oB [p0, p1, p2, p3, p4, p5, p6, p7] 5).length _ _ HR11.out.heap (B := w.heap.size) (by omega) HB11.out.drew
          have hZ12 := HZ11.out.other (oB [p0, p1, p2, p3, p4, p5, p6, p7] 5).length (bc [b32 p5 0, b32 p5 1, b32 p5 2, b32 p5 3]) HR11.out.heap (by omega)
          rw [show (oB [p0, p1, p2, p3, p4, p5, p6, p7] 5).length = 20 from rfl] at hR12 hB12 hZ12
          rw [show (bc [b32 p5 0, b32 p5 1, b32 p5 2, b32 p5 3]).length = 4 from rfl] at hcp
          generalize hw12 : (w11.alloc (.cells #[.int .u8 (b32 p5 0), .int .u8 (b32 p5 1), .int .u8 (b32 p5 2), .int .u8 (b32 p5 3)] 182)).drew.setCells (w.heap.size + 1) 20 (bc [b32 p5 0, b32 p5 1, b32 p5 2, b32 p5 3]) = w12 at *
          have HR12 := Lib.hid hR12
          have HB12 := Lib.hid hB12
          have HZ12 := Lib.hid hZ12
          clear hR12 hB12 hZ12 HZ11 HR11 HB11 hw12
          go_wp2_with fail
          refine wp_region_still_tail 4 (by kernel_rfl) (by kernel_rfl) ?_
          simp only [List.take_succ_cons, List.take_zero, List.drop_succ_cons, List.drop_zero]
          repeat still_step
          refine wpStill_nil ?_
          change wpList _ _ _ _ _ (w11.alloc (.cells #[.int .u8 (b32 p5 0), .int .u8 (b32 p5 1), .int .u8 (b32 p5 2), .int .u8 (b32 p5 3)] 182)).drew
          generalize (w11.alloc (.cells #[.int .u8 (b32 p5 0), .int .u8 (b32 p5 1), .int .u8 (b32 p5 2), .int .u8 (b32 p5 3)] 182)).drew = w11d at *
          go_wp2_with fail
          exact ⟨⟨6, 6, rfl, by omega, rfl, HR12.out, HB12.out, HZ12.out⟩, by simp [intOf]⟩
        · obtain rfl : q = 6 := hq
          have hwr : IntKind.i64.wrap 24 = 24 := by decide
          have HR := Lib.hid hR
          have HB := Lib.hid hB
          have HZ := Lib.hid hZ
          clear hR hB hZ
          have hix := idx247_6 p0 p1 p2 p3 p4 p5 p6 p7
          go_wp2_with fail
          refine (bytes32_any p6 wr).mono ?_
          rintro e w11 ⟨rfl, hb11⟩
          have HR11 := Lib.hid ((HR.out.below hb11).alloc (.cells #[.int .u8 (b32 p6 0), .int .u8 (b32 p6 1), .int .u8 (b32 p6 2), .int .u8 (b32 p6 3)] 182)).drew
          have HB11 := Lib.hid ((below_trans' HB.out hb11).alloc (by have := HR.out.lt; have := hb11.size; omega) (.cells #[.int .u8 (b32 p6 0), .int .u8 (b32 p6 1), .int .u8 (b32 p6 2), .int .u8 (b32 p6 3)] 182))
          have HZ11 := Lib.hid ((HZ.out.below hb11).alloc (.cells #[.int .u8 (b32 p6 0), .int .u8 (b32 p6 1), .int .u8 (b32 p6 2), .int .u8 (b32 p6 3)] 182)).drew
          clear hb11 HR HB HZ
          have hcp := run_copy_cells (P := Tryz.prog) (w11.alloc (.cells #[.int .u8 (b32 p6 0), .int .u8 (b32 p6 1), .int .u8 (b32 p6 2), .int .u8 (b32 p6 3)] 182)).drew 155 155 3 5 (w.heap.size + 1) 24 8 8 ⟨w11.heap.size, 0, none⟩ 4 4 (bc [b32 p6 0, b32 p6 1, b32 p6 2, b32 p6 3]) Tryz.underlying155 (by kernel_rfl) rfl (fun jj u hj => by
            rw [Addr.add_mid, Nat.zero_add]; exact (cell_of_row (w11.alloc (.cells #[.int .u8 (b32 p6 0), .int .u8 (b32 p6 1), .int .u8 (b32 p6 2), .int .u8 (b32 p6 3)] 182)).drew w11.heap.size jj #[.int .u8 (b32 p6 0), .int .u8 (b32 p6 1), .int .u8 (b32 p6 2), .int .u8 (b32 p6 3)] 182 (0, 0) (heap_alloc_new w11 _)).trans (by rw [← hj]; simp [bc])) (fun jj hj => by
            rw [show (w11.alloc (.cells #[.int .u8 (b32 p6 0), .int .u8 (b32 p6 1), .int .u8 (b32 p6 2), .int .u8 (b32 p6 3)] 182)).drew.cell? ⟨w.heap.size + 1, 24 + jj, none⟩ = _ from HR11.out.cell (i := 24 + jj) (by simp [oB_len, bc] at hj ⊢; omega)]; rfl) (fun jj _ => HR11.out.free _) (fun u hu => by
            obtain ⟨x, _, rfl⟩ := List.mem_map.1 hu; rfl)
          have hR12 := setCells_mid (w11.alloc (.cells #[.int .u8 (b32 p6 0), .int .u8 (b32 p6 1), .int .u8 (b32 p6 2), .int .u8 (b32 p6 3)] 182)).drew (w.heap.size + 1) (oB [p0, p1, p2, p3, p4, p5, p6, p7] 6) (List.replicate 4 0) (List.replicate 4 0) [b32 p6 0, b32 p6 1, b32 p6 2, b32 p6 3] HR11.out rfl
          have hB12 := below_setCells (bc [b32 p6 0, b32 p6 1, b32 p6 2, b32 p6 3]) (oB [p0, p1, p2, p3, p4, p5, p6, p7] 6).length _ _ HR11.out.heap (B := w.heap.size) (by omega) HB11.out.drew
          have hZ12 := HZ11.out.other (oB [p0, p1, p2, p3, p4, p5, p6, p7] 6).length (bc [b32 p6 0, b32 p6 1, b32 p6 2, b32 p6 3]) HR11.out.heap (by omega)
          rw [show (oB [p0, p1, p2, p3, p4, p5, p6, p7] 6).length = 24 from rfl] at hR12 hB12 hZ12
          rw [show (bc [b32 p6 0, b32 p6 1, b32 p6 2, b32 p6 3]).length = 4 from rfl] at hcp
          generalize hw12 : (w11.alloc (.cells #[.int .u8 (b32 p6 0), .int .u8 (b32 p6 1), .int .u8 (b32 p6 2), .int .u8 (b32 p6 3)] 182)).drew.setCells (w.heap.size + 1) 24 (bc [b32 p6 0, b32 p6 1, b32 p6 2, b32 p6 3]) = w12 at *
          have HR12 := Lib.hid hR12
          have HB12 := Lib.hid hB12
          have HZ12 := Lib.hid hZ12
          clear hR12 hB12 hZ12 HZ11 HR11 HB11 hw12
          go_wp2_with fail
          refine wp_region_still_tail 4 (by kernel_rfl) (by kernel_rfl) ?_
          simp only [List.take_succ_cons, List.take_zero, List.drop_succ_cons, List.drop_zero]
          repeat still_step
          refine wpStill_nil ?_
          change wpList _ _ _ _ _ (w11.alloc (.cells #[.int .u8 (b32 p6 0), .int .u8 (b32 p6 1), .int .u8 (b32 p6 2), .int .u8 (b32 p6 3)] 182)).drew
          generalize (w11.alloc (.cells #[.int .u8 (b32 p6 0), .int .u8 (b32 p6 1), .int .u8 (b32 p6 2), .int .u8 (b32 p6 3)] 182)).drew = w11d at *
          go_wp2_with fail
          exact ⟨⟨7, 7, rfl, by omega, rfl, HR12.out, HB12.out, HZ12.out⟩, by simp [intOf]⟩
        · obtain rfl : q = 7 := hq
          have hwr : IntKind.i64.wrap 28 = 28 := by decide
          have HR := Lib.hid hR
          have HB := Lib.hid hB
          have HZ := Lib.hid hZ
          clear hR hB hZ
          have hix := idx247_7 p0 p1 p2 p3 p4 p5 p6 p7
          go_wp2_with fail
          refine (bytes32_any p7 wr).mono ?_
          rintro e w11 ⟨rfl, hb11⟩
          have HR11 := Lib.hid ((HR.out.below hb11).alloc (.cells #[.int .u8 (b32 p7 0), .int .u8 (b32 p7 1), .int .u8 (b32 p7 2), .int .u8 (b32 p7 3)] 182)).drew
          have HB11 := Lib.hid ((below_trans' HB.out hb11).alloc (by have := HR.out.lt; have := hb11.size; omega) (.cells #[.int .u8 (b32 p7 0), .int .u8 (b32 p7 1), .int .u8 (b32 p7 2), .int .u8 (b32 p7 3)] 182))
          have HZ11 := Lib.hid ((HZ.out.below hb11).alloc (.cells #[.int .u8 (b32 p7 0), .int .u8 (b32 p7 1), .int .u8 (b32 p7 2), .int .u8 (b32 p7 3)] 182)).drew
          clear hb11 HR HB HZ
          have hcp := run_copy_cells (P := Tryz.prog) (w11.alloc (.cells #[.int .u8 (b32 p7 0), .int .u8 (b32 p7 1), .int .u8 (b32 p7 2), .int .u8 (b32 p7 3)] 182)).drew 155 155 3 5 (w.heap.size + 1) 28 4 4 ⟨w11.heap.size, 0, none⟩ 4 4 (bc [b32 p7 0, b32 p7 1, b32 p7 2, b32 p7 3]) Tryz.underlying155 (by kernel_rfl) rfl (fun jj u hj => by
            rw [Addr.add_mid, Nat.zero_add]; exact (cell_of_row (w11.alloc (.cells #[.int .u8 (b32 p7 0), .int .u8 (b32 p7 1), .int .u8 (b32 p7 2), .int .u8 (b32 p7 3)] 182)).drew w11.heap.size jj #[.int .u8 (b32 p7 0), .int .u8 (b32 p7 1), .int .u8 (b32 p7 2), .int .u8 (b32 p7 3)] 182 (0, 0) (heap_alloc_new w11 _)).trans (by rw [← hj]; simp [bc])) (fun jj hj => by
            rw [show (w11.alloc (.cells #[.int .u8 (b32 p7 0), .int .u8 (b32 p7 1), .int .u8 (b32 p7 2), .int .u8 (b32 p7 3)] 182)).drew.cell? ⟨w.heap.size + 1, 28 + jj, none⟩ = _ from HR11.out.cell (i := 28 + jj) (by simp [oB_len, bc] at hj ⊢; omega)]; rfl) (fun jj _ => HR11.out.free _) (fun u hu => by
            obtain ⟨x, _, rfl⟩ := List.mem_map.1 hu; rfl)
          have hR12 := setCells_mid (w11.alloc (.cells #[.int .u8 (b32 p7 0), .int .u8 (b32 p7 1), .int .u8 (b32 p7 2), .int .u8 (b32 p7 3)] 182)).drew (w.heap.size + 1) (oB [p0, p1, p2, p3, p4, p5, p6, p7] 7) (List.replicate 4 0) (List.replicate 0 0) [b32 p7 0, b32 p7 1, b32 p7 2, b32 p7 3] HR11.out rfl
          have hB12 := below_setCells (bc [b32 p7 0, b32 p7 1, b32 p7 2, b32 p7 3]) (oB [p0, p1, p2, p3, p4, p5, p6, p7] 7).length _ _ HR11.out.heap (B := w.heap.size) (by omega) HB11.out.drew
          have hZ12 := HZ11.out.other (oB [p0, p1, p2, p3, p4, p5, p6, p7] 7).length (bc [b32 p7 0, b32 p7 1, b32 p7 2, b32 p7 3]) HR11.out.heap (by omega)
          rw [show (oB [p0, p1, p2, p3, p4, p5, p6, p7] 7).length = 28 from rfl] at hR12 hB12 hZ12
          rw [show (bc [b32 p7 0, b32 p7 1, b32 p7 2, b32 p7 3]).length = 4 from rfl] at hcp
          generalize hw12 : (w11.alloc (.cells #[.int .u8 (b32 p7 0), .int .u8 (b32 p7 1), .int .u8 (b32 p7 2), .int .u8 (b32 p7 3)] 182)).drew.setCells (w.heap.size + 1) 28 (bc [b32 p7 0, b32 p7 1, b32 p7 2, b32 p7 3]) = w12 at *
          have HR12 := Lib.hid hR12
          have HB12 := Lib.hid hB12
          have HZ12 := Lib.hid hZ12
          clear hR12 hB12 hZ12 HZ11 HR11 HB11 hw12
          go_wp2_with fail
          refine wp_region_still_tail 4 (by kernel_rfl) (by kernel_rfl) ?_
          simp only [List.take_succ_cons, List.take_zero, List.drop_succ_cons, List.drop_zero]
          repeat still_step
          refine wpStill_nil ?_
          change wpList _ _ _ _ _ (w11.alloc (.cells #[.int .u8 (b32 p7 0), .int .u8 (b32 p7 1), .int .u8 (b32 p7 2), .int .u8 (b32 p7 3)] 182)).drew
          generalize (w11.alloc (.cells #[.int .u8 (b32 p7 0), .int .u8 (b32 p7 1), .int .u8 (b32 p7 2), .int .u8 (b32 p7 3)] 182)).drew = w11d at *
          go_wp2_with fail
          exact ⟨⟨8, 8, rfl, by omega, rfl, HR12.out, HB12.out, HZ12.out⟩, by simp [intOf]⟩
        · obtain rfl : q = 8 := hq
          have hR' : RowO wr (w.heap.size + 1) (oB [p0, p1, p2, p3, p4, p5, p6, p7] 8) := by
            have := hR
            rw [show 32 - 4 * 8 = 0 from rfl, List.replicate_zero, List.append_nil] at this
            exact this
          have hL : (oB [p0, p1, p2, p3, p4, p5, p6, p7] 8).length = 32 := oB_len _ 8
          have hq8 : bc (oB (piecesI [x0, x1, x2, x3, x4, x5, x6, x7] (fun i => (tailI (fBytes k f) (32 * ((k + 40) / 32) - k - 9) ++ n8 n).getD i 0) ((k + 40) / 32)) 8) = bc (oB [p0, p1, p2, p3, p4, p5, p6, p7] 8) := by rw [HP.out]
          generalize oB [p0, p1, p2, p3, p4, p5, p6, p7] 8 = L at *
          have hL' : (bc L).length = 32 := by simp [bc, hL]
          have hld := run_loadVar_mid (P := Tryz.prog) wr (w.heap.size + 1) 0 39 (bc L) _ (fun jj u hu => by rw [Nat.zero_add]; exact hR'.cells jj u hu) Tryz.underlying39 (by kernel_rfl) (by rw [hL']; kernel_rfl)
          have hst : (storeCells ⟨w.heap.size, 0, none⟩ (bc L).toArray.toList).run Tryz.prog wr = .ok () (wr.setCells w.heap.size 0 (bc L)) :=
            run_storeCells_cells (P := Tryz.prog) w.heap.size 0 (bc L) 0 wr (fun jj hj => by
              rw [Nat.zero_add, hZ.cell (i := jj) (by rw [hL'] at hj; simpa using hj)]; rfl) (fun jj _ => hZ.free _) (fun u hu => by
              obtain ⟨x, _, rfl⟩ := List.mem_map.1 hu; rfl)
          have hR13 : RowO (wr.setCells w.heap.size 0 (bc L)) w.heap.size L := by
            have := setCells_mid wr w.heap.size [] (List.replicate 32 0) [] L (by rw [List.append_nil]; exact hZ) (by rw [hL]; rfl)
            rw [List.append_nil] at this
            exact this
          have hB13 := below_setCells (bc L) 0 _ _ hZ.heap (B := w.heap.size) (by omega) hB
          generalize hw13 : wr.setCells w.heap.size 0 (bc L) = w13 at *
          have hld13 := run_loadVar_mid (P := Tryz.prog) w13 w.heap.size 0 39 (bc L) _ (fun jj u hu => by rw [Nat.zero_add]; exact hR13.cells jj u hu) Tryz.underlying39 (by kernel_rfl) (by rw [hL']; kernel_rfl)
          have hsz : (bc L).toArray.size = 32 := by simpa using hL'
          have hq9 := congrArg List.toArray hq8
          generalize (bc L).toArray = A at *
          have HQ9 := Lib.hid hq9
          have HLD := Lib.hid hld
          have HB13 := Lib.hid hB13
          clear hR hR' hB hZ hw13 hR13 hB13 hL hL' hld hq8 hq9 HP
          go_wp2_with (refine wpList_load39 rfl (.tmp 3) (w.heap.size + 1) A rfl rfl HLD.out ?_)
          refine bodyPost_ret (v := .agg A) ?_ rfl ⟨by rw [HQ9.out], HB13.out⟩
          simp [results, Tryz.f139, asAddr, hld13]
    · have HOj := Lib.hid hO
      have HBj := Lib.hid hB
      have hm' : ¬ (((k + 1 + j : Nat) : Int) + 8) % 32 = 0 := by omega
      generalize hq : k + 1 + j = q at *
      clear hO hB hg1 hg2 hg3 hg4 hg5 hg6
      have hsz := HBj.out.size
      simp at hsz
      go_wp2_with (at_builtin; go_must (refine wpList_append_own _ rfl (.tmp 46) (.tmp 47) 155 rfl (w4.heap.size + 1) 5 i0 (.int .u8 0) 1 1 Tryz.underlying155 HI.out hz0 hz1 hz2 rfl (by decide) _ _ _ rfl (HOj.out.alloc _) ⟨wr.heap.size, 0, none⟩ 1 1 [.int .u8 0] rfl rfl (cell_one_at wr _ _ _ rfl) (fun u hu => by simp at hu; subst hu; rfl) (by unfold maxLen; omega) (by omega) (by simp; omega) ?_); intro v' w9 hown1 hgrow1 _; have HO9 := Lib.hid hown1; have HG9 := Lib.hid ((HBj.out.alloc (by omega) _).grown hgrow1 (by simp; omega) (fun q hq => (HOj.out.lt q hq).1)); clear hown1 hgrow1)
      obtain ⟨_, ⟨rfl, h0⟩ | ⟨g3, cap3, cur3, hv3, _⟩⟩ := HO9.out
      · omega
      subst hv3
      exact ⟨⟨j + 1, by omega, by rw [show k + 1 + (j + 1) = q + 1 by omega, show bc (tailI (fBytes k f) (j + 1)) = bc (tailI (fBytes k f) j) ++ [.int .u8 0] by simp [bc, tailI, List.replicate_succ']]; exact HO9.out, HG9.out⟩, by simp; omega⟩

end Go.Proofs.YtpbjdbdlfobpmaaGreat
