/- Contracts on slices of blocks: slices.Equal of blocks, the law's blocks. -/
import Derived.Test.YtffdklcpkkcohaaLeaf
import Derived.ChangeKeysEq
import Derived.Laws.StructEq
namespace Go.Proofs.Ytffdklcpkkcohaa
open Go.RowKit
/-- a slice of blocks with the bytes f -/
def Blks (w : World) (a : Option Addr) (m : Nat) (f : Nat → Nat) : Prop :=
  0 < m → ∃ b off, a = some ⟨b, off, none⟩ ∧ b < w.heap.size ∧ ∀ i, i < 256 * m → w.cell? ⟨b, off + i, none⟩ = some (.int .u8 (f i : Int))
theorem Blks.below {w w' : World} {a : Option Addr} {m : Nat} {f : Nat → Nat} (h : Blks w a m f) (hb : Below w.heap.size w w') : Blks w' a m f := by
  intro hn
  obtain ⟨b, off, rfl, h0, hc⟩ := h hn
  exact ⟨b, off, rfl, Nat.lt_of_lt_of_le h0 hb.size, fun i hi => (hb.cell (p := ⟨b, off + i, none⟩) h0).trans (hc i hi)⟩
theorem Blks.drewN {w : World} {a : Option Addr} {m : Nat} {f : Nat → Nat} (h : Blks w a m f) (n : Nat) : Blks (w.drewN n) a m f := h
theorem RowB.blks {w : World} {g t m : Nat} {f : Nat → Nat} (h : RowB w g t (256 * m) f) : Blks w (some ⟨g, 0, none⟩) m f :=
  fun _ => ⟨g, 0, rfl, h.1, fun i hi => by rw [Nat.zero_add]; exact h.cell hi⟩
def blkCells (f : Nat → Nat) (k : Nat) : List Value := (List.range 256).map fun j => Value.int .u8 (f (k * 256 + j) : Int)
theorem blkCells_len (f : Nat → Nat) (k : Nat) : (blkCells f k).length = 256 := by simp [blkCells]
theorem blkCells_at (f : Nat → Nat) (k j : Nat) (h : j < 256) : (blkCells f k)[j]? = some (.int .u8 (f (k * 256 + j) : Int)) := by simp [blkCells, h]
def blkEq (f g : Nat → Nat) (k : Nat) : Bool := (List.range 256).all fun j => f (k * 256 + j) == g (k * 256 + j)
theorem blkEq_iff (f g : Nat → Nat) (k : Nat) : blkEq f g k = true ↔ ∀ j, j < 256 → f (k * 256 + j) = g (k * 256 + j) := by simp [blkEq]
def sameTo (f g : Nat → Nat) (m : Nat) : Bool := (List.range m).all fun k => blkEq f g k
theorem sameTo_succ (f g : Nat → Nat) (m : Nat) : sameTo f g (m + 1) = (sameTo f g m && blkEq f g m) := by simp [sameTo, List.range_succ]
theorem sameTo_iff (f g : Nat → Nat) (m : Nat) : sameTo f g m = true ↔ ∀ i, i < 256 * m → f i = g i := by
  simp only [sameTo, List.all_eq_true, List.mem_range, blkEq_iff]
  constructor
  · intro h i hi
    have := h (i / 256) (by omega) (i % 256) (by omega)
    rwa [show i / 256 * 256 + i % 256 = i by omega] at this
  · intro h k hk j hj
    exact h _ (by omega)
theorem sameTo_false {f g : Nat → Nat} {m k : Nat} (hk : k < m) (h : blkEq f g k = false) : sameTo f g m = false := by
  rw [← Bool.not_eq_true, sameTo, List.all_eq_true]
  intro h'
  rw [h' k (List.mem_range.2 hk)] at h
  cases h
def bsame (m1 m2 : Nat) (f g : Nat → Nat) : Bool := decide (m1 = m2) && sameTo f g m1
theorem Blks.range {w : World} {b off m : Nat} {f : Nat → Nat} (h : ∀ i, i < 256 * m → w.cell? ⟨b, off + i, none⟩ = some (.int .u8 (f i : Int))) {k : Nat} (hk : k < m) : w.rangeAt b (off + k * 256) (blkCells f k) := by
  intro j v hv
  have hj : j < 256 := by
    have := (List.getElem?_eq_some_iff.1 hv).1
    rwa [blkCells_len] at this
  rw [blkCells_at f k j hj] at hv
  cases hv
  rw [Nat.add_assoc]
  exact h _ (by omega)
section
variable {P : Program}
theorem run_eqItems_cells (d e : Nat) (k : IntKind) (he : P.underlying e = some (.int k)) (hp : P.plainKey e = true) (xs ys : Array Value) (f g : Nat → Int) (w : World) : ∀ is : List Nat, (∀ i, i ∈ is → xs[i]? = some (.int k (f i)) ∧ ys[i]? = some (.int k (g i))) →
    (Op.eqItems (d + 1) e 1 xs ys is).run P w = .ok (is.all fun i => f i == g i) w
  | [], _ => by simp [Op.eqItems]
  | i :: is, h => by
    obtain ⟨h1, h2⟩ := h i (by simp)
    have ih := run_eqItems_cells d e k he hp xs ys f g w is (fun j hj => h j (by simp [hj]))
    have p1 := run_part_plain (P := P) w hp (show xs[i * 1]? = _ by rw [Nat.mul_one]; exact h1)
    have p2 := run_part_plain (P := P) w hp (show ys[i * 1]? = _ by rw [Nat.mul_one]; exact h2)
    simp only [Op.eqItems, Sem.run_bind, p1, p2, run_equalIn_int w d e k k (f i) (g i) he, Result.andThen_ok]
    cases hfg : (f i == g i)
    · simp [hfg]
    · simp [hfg, ih]
end
set_option maxRecDepth 100000 in
theorem run_eq_blk' (d t : Nat) (ht : Try.prog.underlying t = some (.array 256 5)) (f g : Nat → Nat) (k : Nat) (w : World) :
    (Op.equalIn (d + 1 + 1) t (.agg (blkCells f k).toArray) (.agg (blkCells g k).toArray)).run Try.prog w = .ok (blkEq f g k) w := by
  obtain ⟨i0, hi, _⟩ := info_parts info5
  rw [run_equalIn_array w (d + 1) _ _ ht hi]
  have := run_eqItems_cells (P := Try.prog) d 5 .u8 Try.underlying5 (by kernel_rfl) (blkCells f k).toArray (blkCells g k).toArray (fun j => (f (k * 256 + j) : Int)) (fun j => (g (k * 256 + j) : Int)) w (List.range 256) (fun j hj => by
    have hj := List.mem_range.1 hj
    simp [blkCells_at _ _ _ hj])
  rw [show Try.prog.cellsOf 5 = 1 by kernel_rfl, this]
  congr 1
  unfold blkEq
  congr 1
  funext j
  rw [Bool.eq_iff_iff, beq_iff_eq, beq_iff_eq]
  omega
theorem run_eq_blk (t : Nat) (ht : Try.prog.underlying t = some (.array 256 5)) (f g : Nat → Nat) (k : Nat) (w : World) :
    (Op.equalIn 10000 t (.agg (blkCells f k).toArray) (.agg (blkCells g k).toArray)).run Try.prog w = .ok (blkEq f g k) w := run_eq_blk' 9998 t ht f g k w
section
variable {P : Program} {ops : Array Oper} {C : World → Prop} {Q : Act → Prop} {a : Act} {op : Oper} {rest : List Oper}
theorem wpQuiet_load_mid (hgd : op.guard = none) (ty : TypeId) (x : Operand) (ho : op.op = .load ty x)
    (b o : Nat) (hx : a.eval x = .pointer (some ⟨b, o, none⟩)) (cs : List Value) (d : TypeDesc) (hC : ∀ w, C w → w.rangeAt b o cs)
    (hu : P.underlying ty = some d) (hd : d.isRow = true) (hi : (P.info? ty).map (·.size) = some cs.length)
    (h : wpQuiet P ops C Q rest (a.put op.dst (.agg cs.toArray))) : wpQuiet P ops C Q (op :: rest) a :=
  wpQuiet_step fun K hK => by
    rw [if_pos (by simp [Region.wanted, hgd])]
    refine ⟨_, fun w hw => ?_, hK _ h⟩
    unfold Oper.quietAt execOp
    simp only [ho, hx, Instr.loadAt, Instr.sureAddr, Sem.run_bind, Sem.run_pure, Result.andThen_ok, run_loadVar_mid w b o ty cs d (hC w hw) hu hd hi]
    exact ⟨rfl, rfl⟩
theorem wpQuiet_neq_agg (hgd : op.guard = none) (ty ty' : TypeId) (x y : Operand) (ho : op.op = .binOp .neq ty x y ty') (xs ys : Array Value) (hx : a.eval x = .agg xs) (hy : a.eval y = .agg ys)
    (hm : P.eqGuardType P.depth ty = false) (r : Bool) (hr : ∀ w, (Op.equalIn 10000 ty (.agg xs) (.agg ys)).run P w = .ok (!r) w) (h : wpQuiet P ops C Q rest (a.put op.dst (.bool r))) : wpQuiet P ops C Q (op :: rest) a :=
  wpQuiet_step fun K hK => by
    rw [if_pos (by simp [Region.wanted, hgd])]
    refine ⟨_, fun w hw => ?_, hK _ h⟩
    unfold Oper.quietAt execOp
    simp only [ho]
    rw [hx, hy]
    simp only [Sem.run_bind, run_eqGuard_agg w _ _ _ _ _ _ hm, Result.andThen_ok, run_neq_struct, hr]
    simp [Oper.quietUpon]
end

/-! bequal_any -/
set_option maxRecDepth 100000 in
set_option maxHeartbeats 1000000 in
theorem bequal_any (a1 a2 : Option Addr) (m1 m2 c1 c2 : Nat) (f g : Nat → Nat) (w : World) (h1 : Blks w a1 m1 f) (h2 : Blks w a2 m2 g) (hm : m1 ≤ maxLen) :
    Calls Try.prog 84 #[.slice a1 m1 c1, .slice a2 m2 c2] w fun e w' => e = .returned (.bool (bsame m1 m2 f g)) ∧ ∃ n, w' = w.drewN n := by
  by_cases he : m1 = m2
  · subst he
    unfold maxLen at hm
    have H1 := Lib.hid h1
    have H2 := Lib.hid h2
    clear h1 h2
    go_enter Try.func84, Try.ntmps84
    go_wp2_with fail
    go_loopw [13] (fun i wr => ∃ p : Nat, p ≤ m1 ∧ i = .int .i64 p ∧ sameTo f g p = true ∧ ∃ n, wr = w.drewN n) (fun i _ => m1 - (intOf i).toNat)
    case atStart => exact ⟨0, by omega, rfl, rfl, 0, rfl⟩
    case round =>
      obtain ⟨p, hp, rfl, hs, n, rfl⟩ := hrel
      have HS := Lib.hid hs
      clear hs
      by_cases hlt : p < m1
      · obtain ⟨b1, o1, rfl, _, k1⟩ := H1.out (by omega)
        obtain ⟨b2, o2, rfl, _, k2⟩ := H2.out (by omega)
        have R1 := Lib.hid (Blks.range k1 hlt)
        have R2 := Lib.hid (Blks.range k2 hlt)
        clear k1 k2
        cases hbe : blkEq f g p
        all_goals
          have HE := Lib.hid hbe
          clear hbe
          go_wp2_with fail
          refine wp_region_quiet_lit (by kernel_rfl) (by kernel_rfl) ?_
          go_big_quiet_step (fail)
          go_big_quiet_step (fail)
          go_big_quiet_step (fail)
          refine wpQuiet_load_mid rfl 78 _ rfl b1 (o1 + p * 256) rfl (blkCells f p) (.array 256 5) (fun w' hw' => by obtain ⟨k, rfl⟩ := hw'; exact R1.out) Try.underlying78 rfl (by rw [blkCells_len]; kernel_rfl) ?_
          go_simp
          go_big_quiet_step (fail)
          go_big_quiet_step (fail)
          go_big_quiet_step (fail)
          refine wpQuiet_load_mid rfl 78 _ rfl b2 (o2 + p * 256) rfl (blkCells g p) (.array 256 5) (fun w' hw' => by obtain ⟨k, rfl⟩ := hw'; exact R2.out) Try.underlying78 rfl (by rw [blkCells_len]; kernel_rfl) ?_
          go_simp
          first
            | refine wpQuiet_neq_agg rfl 78 78 _ _ rfl (blkCells f p).toArray (blkCells g p).toArray rfl rfl (by kernel_rfl) true (fun w' => by rw [run_eq_blk 78 Try.underlying78, HE.out]; rfl) ?_
            | refine wpQuiet_neq_agg rfl 78 78 _ _ rfl (blkCells f p).toArray (blkCells g p).toArray rfl rfl (by kernel_rfl) false (fun w' => by rw [run_eq_blk 78 Try.underlying78, HE.out]; rfl) ?_
          refine wpQuiet_nil ?_
          intro nq
          go_simp
        · go_wp2_with fail
          go_ret
          exact ⟨ret_bool (by unfold bsame; rw [sameTo_false hlt HE.out]; simp), _, rfl⟩
        · go_wp2_with fail
          exact ⟨⟨p + 1, by omega, by go_num, by rw [sameTo_succ, HS.out, HE.out]; rfl, _, rfl⟩, by simp [intOf]; omega⟩
      · obtain rfl : p = m1 := by omega
        go_wp2_with fail
        go_ret
        exact ⟨ret_bool (by unfold bsame; rw [HS.out]; simp), n, rfl⟩
  · have hs : bsame m1 m2 f g = false := by unfold bsame; rw [decide_eq_false he]; rfl
    rw [hs]
    have hd : ((m1 : Int) != (m2 : Int)) = true := by simp; omega
    clear hs he h1 h2
    go_enter Try.func84, Try.ntmps84
    go_wp2_with fail
    go_ret
    exact ⟨rfl, 0, rfl⟩

/-! blocks_any -/
set_option maxRecDepth 100000 in
set_option maxHeartbeats 1000000 in
theorem blocks_any (a1 a2 : Option Addr) (m1 m2 c1 c2 : Nat) (f g : Nat → Nat) (w : World) (h1 : Blks w a1 m1 f) (h2 : Blks w a2 m2 g) (hm : m1 ≤ maxLen) :
    Calls Try.prog 60 #[.slice a1 m1 c1, .slice a2 m2 c2] w fun e w' => e = .returned (.bool (bsame m1 m2 f g)) ∧ ∃ n, w' = w.drewN n := by
  by_cases he : m1 = m2
  · subst he
    unfold maxLen at hm
    have H1 := Lib.hid h1
    have H2 := Lib.hid h2
    clear h1 h2
    go_enter Try.func60, Try.ntmps60
    go_wp2_with fail
    go_loopw [13] (fun i wr => ∃ p : Nat, p ≤ m1 ∧ i = .int .i64 p ∧ sameTo f g p = true ∧ ∃ n, wr = w.drewN n) (fun i _ => m1 - (intOf i).toNat)
    case atStart => exact ⟨0, by omega, rfl, rfl, 0, rfl⟩
    case round =>
      obtain ⟨p, hp, rfl, hs, n, rfl⟩ := hrel
      have HS := Lib.hid hs
      clear hs
      by_cases hlt : p < m1
      · obtain ⟨b1, o1, rfl, _, k1⟩ := H1.out (by omega)
        obtain ⟨b2, o2, rfl, _, k2⟩ := H2.out (by omega)
        have R1 := Lib.hid (Blks.range k1 hlt)
        have R2 := Lib.hid (Blks.range k2 hlt)
        clear k1 k2
        cases hbe : blkEq f g p
        all_goals
          have HE := Lib.hid hbe
          clear hbe
          go_wp2_with fail
          refine wp_region_quiet_lit (by kernel_rfl) (by kernel_rfl) ?_
          go_big_quiet_step (fail)
          go_big_quiet_step (fail)
          go_big_quiet_step (fail)
          refine wpQuiet_load_mid rfl 78 _ rfl b1 (o1 + p * 256) rfl (blkCells f p) (.array 256 5) (fun w' hw' => by obtain ⟨k, rfl⟩ := hw'; exact R1.out) Try.underlying78 rfl (by rw [blkCells_len]; kernel_rfl) ?_
          go_simp
          go_big_quiet_step (fail)
          go_big_quiet_step (fail)
          go_big_quiet_step (fail)
          refine wpQuiet_load_mid rfl 78 _ rfl b2 (o2 + p * 256) rfl (blkCells g p) (.array 256 5) (fun w' hw' => by obtain ⟨k, rfl⟩ := hw'; exact R2.out) Try.underlying78 rfl (by rw [blkCells_len]; kernel_rfl) ?_
          go_simp
          first
            | refine wpQuiet_neq_agg rfl 78 78 _ _ rfl (blkCells f p).toArray (blkCells g p).toArray rfl rfl (by kernel_rfl) true (fun w' => by rw [run_eq_blk 78 Try.underlying78, HE.out]; rfl) ?_
            | refine wpQuiet_neq_agg rfl 78 78 _ _ rfl (blkCells f p).toArray (blkCells g p).toArray rfl rfl (by kernel_rfl) false (fun w' => by rw [run_eq_blk 78 Try.underlying78, HE.out]; rfl) ?_
          refine wpQuiet_nil ?_
          intro nq
          go_simp
        · go_wp2_with fail
          go_ret
          exact ⟨ret_bool (by unfold bsame; rw [sameTo_false hlt HE.out]; simp), _, rfl⟩
        · go_wp2_with fail
          exact ⟨⟨p + 1, by omega, by go_num, by rw [sameTo_succ, HS.out, HE.out]; rfl, _, rfl⟩, by simp [intOf]; omega⟩
      · obtain rfl : p = m1 := by omega
        go_wp2_with fail
        go_ret
        exact ⟨ret_bool (by unfold bsame; rw [HS.out]; simp), n, rfl⟩
  · have hs : bsame m1 m2 f g = false := by unfold bsame; rw [decide_eq_false he]; rfl
    rw [hs]
    have hd : ((m1 : Int) != (m2 : Int)) = true := by simp; omega
    clear hs he h1 h2
    go_enter Try.func60, Try.ntmps60
    go_wp2_with fail
    go_ret
    exact ⟨rfl, 0, rfl⟩
end Go.Proofs.Ytffdklcpkkcohaa
