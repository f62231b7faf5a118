/- Contracts of package bits' functions: Same, Either, Less, Cross. -/
import Derived.Test.YtffdklcpkkcohaaMap3
import Derived.StillTailTactics
namespace Go.Proofs.Ytffdklcpkkcohaa
open Go.RowKit
theorem quiet_add {P : Program} {f : FuncId} {args : Array Value} {w : World} {a n : Nat} {v : Value}
    (h : Calls P f args (w.drewN (a + n)) fun e w' => e = .returned v ∧ ∃ m, w' = (w.drewN (a + n)).drewN m) :
    Calls P f args (w.drewN (a + n)) fun e w'' => e = .returned v ∧ ∃ m, w'' = w.drewN (a + m) :=
  h.mono fun _ _ ⟨he, m, hm⟩ => ⟨he, n + m, by rw [hm, World.drewN_drewN, Nat.add_assoc]⟩
theorem bytes_same {n : Nat} {k1 k2 : Nat → Bool} (h1 : ∀ p, n ≤ p → k1 p = false) (h2 : ∀ p, n ≤ p → k2 p = false) :
    (∀ j, j < (n + 7) / 8 → (byteVal k1 j : Int) = byteVal k2 j) ↔ ∀ p, k1 p = k2 p := by
  constructor
  · intro h p
    by_cases hp : p < n
    · have := h (p / 8) (by omega)
      have e : byteVal k1 (p / 8) = byteVal k2 (p / 8) := by omega
      have e1 := byteVal_bit k1 (p / 8) (p % 8) (by omega)
      have e2 := byteVal_bit k2 (p / 8) (p % 8) (by omega)
      rw [e] at e1
      rw [show 8 * (p / 8) + p % 8 = p by omega] at e1 e2
      rw [← e1, ← e2]
    · rw [h1 p (by omega), h2 p (by omega)]
  · intro h j _
    rw [byteVal_congr (fun j _ => h _)]
open Classical in
noncomputable def sameB (n1 n2 : Nat) (k1 k2 : Nat → Bool) : Bool := decide (n1 = n2 ∧ ∀ p, k1 p = k2 p)
set_option maxHeartbeats 400000 in
theorem same_any (b1 bb1 n1 : Nat) (k1 : Nat → Bool) (b2 bb2 n2 : Nat) (k2 : Nat → Bool) (w : World) (h1 : MapAt w b1 bb1 n1 k1) (h2 : MapAt w b2 bb2 n2 k2) :
    Calls Try.prog 41 #[.pointer (some ⟨b1, 0, none⟩), .pointer (some ⟨b2, 0, none⟩)] w fun e w' => e = .returned (.bool (sameB n1 n2 k1 k2)) ∧ ∃ q, w' = w.drewN q := by
  have hn1 := h1.2.2.2.1
  have hn2 := h2.2.2.2.1
  obtain ⟨cap1, a0, a1⟩ := h1.head
  obtain ⟨cap2, c0, c1⟩ := h2.head
  by_cases hn : n1 = n2
  · subst hn
    have hcall : ∀ a, Calls Try.prog 79 #[.slice (some ⟨bb1, 0, none⟩) ((n1 + 7) / 8) cap1, .slice (some ⟨bb2, 0, none⟩) ((n1 + 7) / 8) cap2] (w.drewN a) fun e w' => e = .returned (.bool (sameB n1 n1 k1 k2)) ∧ ∃ q, w' = (w.drewN a).drewN q := by
      intro a
      refine (sequal_bytes bb1 bb2 ((n1 + 7) / 8) cap1 cap2 (fun j => byteVal k1 j) (fun j => byteVal k2 j) (w.drewN a) (by omega) (fun j hj => (h1.drewN a).byte hj) (fun j hj => (h2.drewN a).byte hj)).mono ?_
      rintro e w' ⟨rfl, hq⟩
      refine ⟨ret_bool ?_, hq⟩
      unfold sameB
      rw [decide_eq_decide, bytes_same h1.2.2.2.2.1 h2.2.2.2.2.1]
      simp
    have HC := Lib.hid hcall
    generalize (n1 + 7) / 8 = m at *
    generalize sameB n1 n1 k1 k2 = R at *
    clear hcall h1 h2
    go_enter Try.func41, Try.ntmps41
    go_wp2
    go_quiet ((go_at_call 79; first | exact Calls.quiet_of (HC.out _) | exact quiet_add (HC.out _)))
    go_wp2
    go_ret
    exact ⟨rfl, _, rfl⟩
  · have hs : sameB n1 n2 k1 k2 = false := by simp [sameB, hn]
    have HS := Lib.hid hs
    have hn' : ((n1 : Int) == (n2 : Int)) = false := by simp; omega
    have hn'' : (n1 == n2) = false := by simp; omega
    clear hs hn
    go_enter Try.func41, Try.ntmps41
    go_wp2
    go_quiet (fail)
    go_wp2
    go_ret
    exact ⟨by rw [HS.out]; rfl, _, rfl⟩
/-! two maps put together -/
theorem or_any (x y : Nat) (w : World) (_hx : x < 256) (_hy : y < 256) : Calls Try.prog 76 #[.int .u8 x, .int .u8 y] w fun e w' => e = .returned (.int .u8 (bits .or .u8 x y)) ∧ w = w' := by
  go_enter Try.func76, Try.ntmps76
  go_wp2
  go_ret
  exact ⟨rfl, rfl⟩
theorem less_any (x y : Nat) (w : World) (_hx : x < 256) (_hy : y < 256) : Calls Try.prog 77 #[.int .u8 x, .int .u8 y] w fun e w' => e = .returned (.int .u8 (bits .andNot .u8 x y)) ∧ w = w' := by
  go_enter Try.func77, Try.ntmps77
  go_wp2
  go_ret
  exact ⟨rfl, rfl⟩
theorem cross_any (x y : Nat) (w : World) (_hx : x < 256) (_hy : y < 256) : Calls Try.prog 78 #[.int .u8 x, .int .u8 y] w fun e w' => e = .returned (.int .u8 (bits .and .u8 x y)) ∧ w = w' := by
  go_enter Try.func78, Try.ntmps78
  go_wp2
  go_ret
  exact ⟨rfl, rfl⟩
/-- a function of two bytes that works bit by bit -/
structure ByteOp (F : Nat) (g : Nat → Nat → Int) (op : Bool → Bool → Bool) : Prop where
  call : ∀ (x y : Nat) (w : World), x < 256 → y < 256 → Calls Try.prog F #[.int .u8 x, .int .u8 y] w fun e w' => e = .returned (.int .u8 (g x y)) ∧ w = w'
  enter : ∀ (args : Array Value) (w : World), (callFunc F args).run Try.prog w = .ok (.enter F args) w
  zero : op false false = false
  bit : ∀ (k1 k2 : Nat → Bool) (i : Nat), g (byteVal k1 i) (byteVal k2 i) = byteVal (fun p => op (k1 p) (k2 p)) i
theorem ofInt_u8 (a : Nat) (ha : a < 256) : (BitVec.ofInt 8 (a : Int)).toNat = a := by
  rw [BitVec.ofInt_natCast, BitVec.toNat_ofNat]; exact Nat.mod_eq_of_lt (by omega)
theorem wrap_u8_nat (a : Nat) (ha : a < 256) : IntKind.u8.wrap (a : Int) = (a : Int) := by
  rw [IntKind.wrap_u8]; omega
theorem u8_two (x y : Fin 256) : bits .or .u8 (x.val : Int) (y.val : Int) = ((x.val ||| y.val : Nat) : Int) ∧ bits .andNot .u8 (x.val : Int) (y.val : Int) = ((x.val &&& (255 - y.val) : Nat) : Int) ∧ bits .and .u8 (x.val : Int) (y.val : Int) = ((x.val &&& y.val : Nat) : Int) := by
  have hx := x.isLt
  have hy := y.isLt
  refine ⟨?_, ?_, ?_⟩
  · show IntKind.u8.wrap ((BitVec.ofInt 8 (x.val : Int) ||| BitVec.ofInt 8 (y.val : Int)).toNat : Int) = _
    rw [BitVec.toNat_or, ofInt_u8 _ hx, ofInt_u8 _ hy]
    exact wrap_u8_nat _ (Nat.or_lt_two_pow (n := 8) hx hy)
  · show IntKind.u8.wrap ((BitVec.ofInt 8 (x.val : Int) &&& ~~~BitVec.ofInt 8 (y.val : Int)).toNat : Int) = _
    rw [BitVec.toNat_and, BitVec.toNat_not, ofInt_u8 _ hx, ofInt_u8 _ hy]
    exact wrap_u8_nat _ (Nat.lt_of_le_of_lt Nat.and_le_left hx)
  · show IntKind.u8.wrap ((BitVec.ofInt 8 (x.val : Int) &&& BitVec.ofInt 8 (y.val : Int)).toNat : Int) = _
    rw [BitVec.toNat_and, ofInt_u8 _ hx, ofInt_u8 _ hy]
    exact wrap_u8_nat _ (Nat.lt_of_le_of_lt Nat.and_le_left hx)
theorem u8_sub : ∀ y : Fin 256, ∀ j : Fin 8, (255 - y.val).testBit j.val = !y.val.testBit j.val := by decide +kernel
theorem enter76 (args : Array Value) (w : World) : (callFunc 76 args).run Try.prog w = .ok (.enter 76 args) w := by kernel_rfl
theorem enter77 (args : Array Value) (w : World) : (callFunc 77 args).run Try.prog w = .ok (.enter 77 args) w := by kernel_rfl
theorem enter78 (args : Array Value) (w : World) : (callFunc 78 args).run Try.prog w = .ok (.enter 78 args) w := by kernel_rfl
theorem either_op : ByteOp 76 (fun x y => bits .or .u8 x y) (fun a b => a || b) := by
  refine ⟨or_any, enter76, rfl, fun k1 k2 i => ?_⟩
  have hx := byteVal_lt k1 i
  have hy := byteVal_lt k2 i
  show bits .or .u8 _ _ = _
  rw [(u8_two ⟨_, hx⟩ ⟨_, hy⟩).1]
  congr 1
  refine byteVal_of (Nat.or_lt_two_pow (n := 8) hx hy) fun j hj => ?_
  rw [Nat.testBit_or, byteVal_bit k1 i j hj, byteVal_bit k2 i j hj]
theorem less_op : ByteOp 77 (fun x y => bits .andNot .u8 x y) (fun a b => a && !b) := by
  refine ⟨less_any, enter77, rfl, fun k1 k2 i => ?_⟩
  have hx := byteVal_lt k1 i
  have hy := byteVal_lt k2 i
  show bits .andNot .u8 _ _ = _
  rw [(u8_two ⟨_, hx⟩ ⟨_, hy⟩).2.1]
  congr 1
  refine byteVal_of (Nat.lt_of_le_of_lt Nat.and_le_left hx) fun j hj => ?_
  rw [Nat.testBit_and, u8_sub ⟨_, hy⟩ ⟨j, hj⟩]
  simp only [byteVal_bit k1 i j hj, byteVal_bit k2 i j hj]
theorem cross_op : ByteOp 78 (fun x y => bits .and .u8 x y) (fun a b => a && b) := by
  refine ⟨cross_any, enter78, rfl, fun k1 k2 i => ?_⟩
  have hx := byteVal_lt k1 i
  have hy := byteVal_lt k2 i
  show bits .and .u8 _ _ = _
  rw [(u8_two ⟨_, hx⟩ ⟨_, hy⟩).2.2]
  congr 1
  refine byteVal_of (Nat.lt_of_le_of_lt Nat.and_le_left hx) fun j hj => ?_
  rw [Nat.testBit_and, byteVal_bit k1 i j hj, byteVal_bit k2 i j hj]
theorem MapAt.setByte {w : World} {b bb n : Nat} {k k' : Nat → Bool} (h : MapAt w b bb n k) {i : Nat} (hi : i < (n + 7) / 8) (hk' : ∀ p, n ≤ p → k' p = false) (ho : ∀ j, j ≠ i → byteVal k' j = byteVal k j) :
    MapAt (w.setCell ⟨bb, i, none⟩ (.int .u8 (byteVal k' i))) b bb n k' := by
  have hne := h.ne
  obtain ⟨h0, h1, hn, hn', hk, cap, cur, e1, e2, hs, hc⟩ := h
  have e3 := heap_setCell_same w bb i cur 5 (.int .u8 (byteVal k' i)) e2
  have e4 := heap_setCell_other w ⟨bb, i, none⟩ b (.int .u8 (byteVal k' i)) hne
  refine ⟨by simpa [World.setCell] using h0, by simpa [World.setCell] using h1, hn, hn', hk', cap, _, e4.trans e1, e3, by simpa using hs, fun j hj => ?_⟩
  rw [Array.getElem?_setIfInBounds]
  by_cases e : i = j
  · subst e; rw [if_pos rfl, if_pos (by omega)]
  · rw [if_neg e, ho j (fun e' => e e'.symm)]; exact hc j hj
/-- the first bytes of the one, the others' of another map -/
def mixK (m : Nat) (k k' : Nat → Bool) : Nat → Bool := fun p => if p < 8 * m then k p else k' p
theorem mix_zero {q n : Nat} {op : Bool → Bool → Bool} {k1 k2 : Nat → Bool} (h0 : op false false = false) (h1 : ∀ p, n ≤ p → k1 p = false) (h2 : ∀ p, n ≤ p → k2 p = false) : ∀ p, n ≤ p → mixK q (fun p => op (k1 p) (k2 p)) k1 p = false := by
  intro p hp
  unfold mixK
  split
  · show op (k1 p) (k2 p) = false
    rw [h1 p hp, h2 p hp, h0]
  · exact h1 p hp
theorem mix_other (q : Nat) (k k' : Nat → Bool) : ∀ j, j ≠ q → byteVal (mixK (q + 1) k k') j = byteVal (mixK q k k') j := by
  intro j hj
  refine byteVal_congr fun t ht => ?_
  unfold mixK
  by_cases h : 8 * j + t < 8 * q
  · rw [if_pos h, if_pos (by omega)]
  · rw [if_neg h, if_neg (by omega)]
theorem mix_here (q : Nat) (k k' : Nat → Bool) : byteVal (mixK (q + 1) k k') q = byteVal k q := by
  refine byteVal_congr fun t ht => ?_
  unfold mixK
  rw [if_pos (by omega)]
def BothPost (n1 n2 : Nat) (k : Nat → Bool) (w : World) (e : Ending) (w' : World) : Prop :=
  (n1 ≠ n2 ∧ e = .returned (.tuple #[.pointer none, .int .i64 110]) ∧ w = w') ∨
  (n1 = n2 ∧ ∃ b bb, e = .returned (.tuple #[.pointer (some ⟨b, 0, none⟩), .int .i64 0]) ∧ w.heap.size ≤ b ∧ w.heap.size ≤ bb ∧ MapAt w' b bb n1 k ∧ Below w.heap.size w w')
set_option maxRecDepth 100000 in
set_option maxHeartbeats 1000000 in
theorem both_any (F : Nat) (g : Nat → Nat → Int) (op : Bool → Bool → Bool) (hop : ByteOp F g op) (b1 bb1 n1 : Nat) (k1 : Nat → Bool) (b2 bb2 n2 : Nat) (k2 : Nat → Bool) (w : World) (h1 : MapAt w b1 bb1 n1 k1) (h2 : MapAt w b2 bb2 n2 k2) :
    Calls Try.prog 75 #[.pointer (some ⟨b1, 0, none⟩), .pointer (some ⟨b2, 0, none⟩), .func (.func F) #[] #[]] w (BothPost n1 n2 (fun p => op (k1 p) (k2 p)) w) := by
  have hn1 := h1.2.2.2.1
  have hn2 := h2.2.2.2.1
  by_cases hn : n1 = n2
  · subst hn
    go_enter Try.func75, Try.ntmps75
    go_wp2_with fail
    refine (size_any b1 bb1 n1 k1 _ h1).mono ?_
    rintro e w' ⟨rfl, rfl⟩
    go_wp2_with fail
    refine (size_any b2 bb2 n1 k2 _ h2).mono ?_
    rintro e w' ⟨rfl, rfl⟩
    go_wp2_with fail
    refine (clone_any b1 bb1 n1 k1 _ h1).mono ?_
    rintro e w1 ⟨b, bb, rfl, hb, hbb, hm, hB⟩
    have hne1 : b1 ≠ bb := by have := h1.1; omega
    have hne2 : bb1 ≠ bb := by have := h1.2.1; omega
    have hne3 : b2 ≠ bb := by have := h2.1; omega
    have hne4 : bb2 ≠ bb := by have := h2.2.1; omega
    have H1 := Lib.hid (h1.below hB)
    have H2 := Lib.hid (h2.below hB)
    have HZ1 := Lib.hid h1.2.2.2.2.1
    have HZ2 := Lib.hid h2.2.2.2.2.1
    have HB := Lib.hid hB
    have HM := Lib.hid hm
    obtain ⟨cap, c0, c1⟩ := hm.head
    obtain ⟨m, hmm⟩ : ∃ m, (n1 + 7) / 8 = m := ⟨_, rfl⟩
    rw [hmm] at c1
    have hm1 : m ≤ 1024 := by omega
    have HMM := Lib.hid hmm
    clear hm hB h1 h2 hmm
    go_wp2_with fail
    clear c0 c1
    go_loopw [26, 9] (fun i _ wr => ∃ q : Nat, q ≤ m ∧ i = .int .i64 q ∧ MapAt wr b bb n1 (mixK q (fun p => op (k1 p) (k2 p)) k1) ∧ w1.grownBy wr (some bb)) (fun i _ _ => m - (intOf i).toNat)
    case atStart => exact ⟨0, by omega, rfl, HM.out.congr (fun p => by unfold mixK; rw [if_neg (by omega)]), only_refl _ _⟩
    case round =>
      obtain ⟨q, hq, rfl, hm, hG⟩ := hrel
      have HM1 := Lib.hid hm
      have HG := Lib.hid hG
      by_cases hlt : q < m
      · have hlt' : q < (n1 + 7) / 8 := by rw [HMM.out]; exact hlt
        have m1 := H1.out.only hG (fun e => hne1 (by injection e)) (fun e => hne2 (by injection e))
        have m2 := H2.out.only hG (fun e => hne3 (by injection e)) (fun e => hne4 (by injection e))
        obtain ⟨capa, a0, a1⟩ := m1.head
        obtain ⟨capb, d0, d1⟩ := m2.head
        obtain ⟨capc, f0, f1⟩ := hm.head
        have x1 := m1.byte hlt'
        have x2 := m2.byte hlt'
        have x3 := hm.byte hlt'
        have x4 := hm.free q
        have hbw := hm.2.1
        have hbit := hop.bit k1 k2 q
        have hV1 := byteVal_lt k1 q
        have hV2 := byteVal_lt k2 q
        have hset := hm.setByte hlt' (k' := mixK (q + 1) (fun p => op (k1 p) (k2 p)) k1) (mix_zero hop.zero HZ1.out HZ2.out) (mix_other _ _ _)
        rw [mix_here] at hset
        rw [← hbit] at hset
        have HS := Lib.hid hset
        generalize byteVal k1 q = V1 at *
        generalize byteVal k2 q = V2 at *
        have HC := Lib.hid (fun W => hop.call V1 V2 W hV1 hV2)
        have hent := hop.enter
        generalize g V1 V2 = V3 at *
        generalize byteVal (mixK q (fun p => op (k1 p) (k2 p)) k1) q = V4 at *
        rw [HMM.out] at a1 d1 f1
        clear hm hG m1 m2 hbit hset hlt'
        go_wp2
        refine wp_region_still_tail 22 (by kernel_rfl) (by kernel_rfl) ?_
        simp only [List.take_succ_cons, List.take_zero, List.drop_succ_cons, List.drop_zero]
        repeat still_step
        still_call ((HC.out _).mono fun _ _ h => ⟨h.1, h.2.symm⟩)
        still_step
        refine wpStill_nil ?_
        go_wp2
        go_roundw
        case rel => exact ⟨q + 1, by omega, by go_num, HS.out.drew, only_drew (only_setCell HG.out (.inl rfl) _)⟩
        case measure => simp [intOf]; omega
      · go_wp2
        go_ret2
        obtain rfl : q = m := by omega
        refine .inr ⟨rfl, b, bb, rfl, hb, hbb, HM1.out.congr (fun p => ?_), HB.out.grown HG.out HB.out.size (fun k hk => by cases hk; exact hbb)⟩
        unfold mixK
        by_cases hp : p < 8 * q
        · rw [if_pos hp]
        · have hq' := HMM.out
          rw [if_neg hp, HZ1.out p (by omega), HZ2.out p (by omega), hop.zero]
  · have hn' : ((n1 : Int) != (n2 : Int)) = true := by simp; omega
    have hn'' : (n1 != n2) = true := by simp; omega
    have HN := Lib.hid hn
    clear hn
    go_enter Try.func75, Try.ntmps75
    go_wp2_with fail
    refine (size_any b1 bb1 n1 k1 _ h1).mono ?_
    rintro e w' ⟨rfl, rfl⟩
    go_wp2_with fail
    refine (size_any b2 bb2 n2 k2 _ h2).mono ?_
    rintro e w' ⟨rfl, rfl⟩
    go_wp2_with fail
    go_ret2
    exact .inl ⟨HN.out, rfl, rfl⟩
end Go.Proofs.Ytffdklcpkkcohaa
