/- RoomPlays: the walk. -/
import Derived.Test.YtffdklcpkkcohaaStands
import Derived.Test.YtffdklcpkkcohaaLoads
import Derived.Laws.AppendOwnNone
namespace Go.Proofs.Ytffdklcpkkcohaa
open Go.RowKit
structure Do2 where
  kind : Int
  at_ : Nat
/-- a script that came in -/
def Dos (w : World) (a : Option Addr) (len : Nat) (xs : Nat → Do2) : Prop :=
  (∀ i, (xs i).at_ < 4294967296) ∧ (0 < len → ∃ b0 off, a = some ⟨b0, off, none⟩ ∧ b0 < w.heap.size ∧ ∀ i, i < len →
    w.cell? ⟨b0, off + i * 2, none⟩ = some (.int .i64 (xs i).kind) ∧ w.cell? ⟨b0, off + i * 2 + 1, none⟩ = some (.int .u32 ((xs i).at_ : Int)))
theorem Dos.below {w w' : World} {a : Option Addr} {len : Nat} {xs : Nat → Do2} (h : Dos w a len xs) (hb : Below w.heap.size w w') : Dos w' a len xs := by
  refine ⟨h.1, fun hn => ?_⟩
  obtain ⟨b0, off, rfl, h0, hc⟩ := h.2 hn
  refine ⟨b0, off, rfl, Nat.lt_of_lt_of_le h0 hb.size, fun i hi => ?_⟩
  obtain ⟨c0, c1⟩ := hc i hi
  exact ⟨(hb.cell (p := ⟨b0, off + i * 2, none⟩) h0).trans c0, (hb.cell (p := ⟨b0, off + i * 2 + 1, none⟩) h0).trans c1⟩
/-- how a play stands -/
structure PlayI (w wr : World) (b bb g n : Nat) (s : Nat → Int) : Prop where
  room : RoomAt wr b bb n s
  ints : IntsAt wr g n s
  nb : w.heap.size ≤ b
  nbb : w.heap.size ≤ bb
  ng : w.heap.size ≤ g
  ne : g ≠ bb
  zero : s 0 = 0
  below : Below w.heap.size w wr
section
variable {w wr w1 w2 : World} {b bb g g' n : Nat} {s s' : Nat → Int}
theorem PlayI.onto (h : PlayI w wr b bb g n s) (hb : Below wr.heap.size wr w1) : PlayI w w1 b bb g n s :=
  ⟨h.room.below hb, h.ints.below hb, h.nb, h.nbb, h.ng, h.ne, h.zero, below_trans' h.below hb⟩
/-- the room is changed, then the document's states are laid anew -/
theorem PlayI.step (h : PlayI w wr b bb g n s) (hr : RoomAt w1 b bb n s') (hg : wr.grownBy w1 (some bb)) (hi : IntsAt w2 g' n s') (hn : w1.heap.size ≤ g') (hB : Below w1.heap.size w1 w2) (hz : s' 0 = 0) : PlayI w w2 b bb g' n s' := by
  have hB1 : Below w.heap.size w w1 := h.below.grown hg h.below.size (fun k hk => by cases hk; exact h.nbb)
  exact ⟨hr.below hB, hi, h.nb, h.nbb, Nat.le_trans hB1.size hn, by have := hr.row.1; omega, hz, below_trans' hB1 hB⟩
/-- the document's states are laid anew (or not), then the room is changed -/
theorem PlayI.step2 (h : PlayI w wr b bb g n s) (hi : IntsAt w1 g' n s') (hn : g' = g ∨ wr.heap.size ≤ g') (hB : Below wr.heap.size wr w1) (hr : RoomAt w2 b bb n s') (hg : w1.grownBy w2 (some bb)) (hz : s' 0 = 0) : PlayI w w2 b bb g' n s' := by
  have hB1 := below_trans' h.below hB
  have hne : g' ≠ bb := by
    rcases hn with rfl | hn
    · exact h.ne
    · have := h.room.row.1; omega
  have hng : w.heap.size ≤ g' := by
    rcases hn with rfl | hn
    · exact h.ng
    · have := h.below.size; omega
  exact ⟨hr, hi.only hg (fun e => by injection e with e; exact hne e), h.nb, h.nbb, hng, hne, hz, hB1.grown hg hB1.size (fun k hk => by cases hk; exact h.nbb)⟩
end
theorem PlayI.other {w wr w1 : World} {b bb g n k : Nat} {s : Nat → Int} (h : PlayI w wr b bb g n s) (hg : wr.grownBy w1 (some k)) (h1 : b ≠ k) (h2 : bb ≠ k) (h3 : g ≠ k) (h4 : w.heap.size ≤ k) : PlayI w w1 b bb g n s :=
  ⟨h.room.only hg (fun e => by injection e with e; exact h1 e) (fun e => by injection e with e; exact h2 e), h.ints.only hg (fun e => by injection e with e; exact h3 e), h.nb, h.nbb, h.ng, h.ne, h.zero, h.below.grown hg h.below.size (fun q hq => by cases hq; exact h4)⟩
theorem CellsIn.below {w w' : World} {g m : Nat} (h : CellsIn w g m) (hb : Below w.heap.size w w') (hg : g < w.heap.size) : CellsIn w' g m := fun i hi => by
  obtain ⟨⟨v, hv⟩, hf⟩ := h i hi
  exact ⟨⟨v, (hb.cell (p := ⟨g, i, none⟩) hg).trans hv⟩, (hb.frozen (p := ⟨g, i, none⟩) hg).trans hf⟩
/-- the cell of the act that is done -/
def AtI (wr : World) (k at_ : Nat) : Prop := k < wr.heap.size ∧ wr.cell? ⟨k, 1, none⟩ = some (.int .u32 (at_ : Int))
theorem AtI.below {w w' : World} {k a : Nat} (h : AtI w k a) (hb : Below w.heap.size w w') : AtI w' k a := ⟨Nat.lt_of_lt_of_le h.1 hb.size, (hb.cell (p := ⟨k, 1, none⟩) h.1).trans h.2⟩
theorem AtI.only {w w' : World} {k a bb : Nat} (h : AtI w k a) (hg : w.grownBy w' (some bb)) (hne : k ≠ bb) : AtI w' k a :=
  ⟨Nat.lt_of_lt_of_le h.1 hg.size, by rw [World.cell?_of_block (hg.block k h.1 (fun e => by injection e with e; exact hne e))]; exact h.2⟩
theorem PlayI.stands4 {w wr : World} {b bb g n : Nat} {s : Nat → Int} (h : PlayI w wr b bb g n s) (c at_ k : Nat) (hat : at_ < 4294967296) (hk : k = wr.heap.size) :
    Calls Try.prog 65 #[.pointer (some ⟨b, 0, none⟩), .slice (some ⟨g, 0, none⟩) n c, .slice (some ⟨k, 0, none⟩) 4 4] (wr.alloc (.cells #[.int .u32 (at_ : Int), .int .u32 0, .int .u32 (n : Int), .int .u32 ((n : Int) - 1)] 46)) fun e w' => e = .returned (.bool true) ∧ PlayI w w' b bb g n s := by
  subst hk
  have hn := h.room.most
  have hn1 := h.room.least
  refine (stands_any b bb n g c s (some ⟨wr.heap.size, 0, none⟩) 4 4 (fun i => if i = 0 then at_ else if i = 1 then 0 else if i = 2 then n else n - 1) _ (h.room.alloc _) (h.ints.alloc _) ⟨fun i hi => ?_, fun _ => ⟨_, _, rfl, by simp, fun i hi => ?_⟩⟩ (by simp [maxLen])).mono ?_
  · show (if i = 0 then at_ else if i = 1 then 0 else if i = 2 then n else n - 1) < _
    split
    · exact hat
    · split
      · omega
      · split <;> omega
  · rw [cell_of_row _ _ _ _ _ _ (heap_alloc_new wr _)]
    rcases (show i = 0 ∨ i = 1 ∨ i = 2 ∨ i = 3 by omega) with rfl | rfl | rfl | rfl
    · rfl
    · rfl
    · rfl
    · show some (Value.int .u32 ((n : Int) - 1)) = some (.int .u32 ((n - 1 : Nat) : Int))
      rw [show ((n - 1 : Nat) : Int) = (n : Int) - 1 by omega]
  · rintro e w' ⟨rfl, hB⟩
    exact ⟨rfl, (h.onto ((Below.refl _ _).alloc (Nat.le_refl _) _)).onto hB⟩
theorem PlayI.stands1 {w wr : World} {b bb g n q qq : Nat} {s : Nat → Int} (h : PlayI w wr b bb g n s) (hr : RoomAt wr q qq n s) (c at_ k : Nat) (hat : at_ < 4294967296) (hk : k = wr.heap.size) :
    Calls Try.prog 65 #[.pointer (some ⟨q, 0, none⟩), .slice (some ⟨g, 0, none⟩) n c, .slice (some ⟨k, 0, none⟩) 1 1] (wr.alloc (.cells #[.int .u32 (at_ : Int)] 46)) fun e w' => e = .returned (.bool true) ∧ Below wr.heap.size wr w' := by
  subst hk
  refine (stands_any q qq n g c s (some ⟨wr.heap.size, 0, none⟩) 1 1 (fun _ => at_) _ (hr.alloc _) (h.ints.alloc _) ⟨fun i hi => hat, fun _ => ⟨_, _, rfl, by simp, fun i hi => ?_⟩⟩ (by simp [maxLen])).mono ?_
  · rw [cell_of_row _ _ _ _ _ _ (heap_alloc_new wr _)]
    obtain rfl : i = 0 := by omega
    rfl
  · rintro e w' ⟨rfl, hB⟩
    exact ⟨rfl, ((Below.refl _ _).alloc (Nat.le_refl _) _).trans (hB.mono (by simp))⟩
theorem PlayI.stands0 {w wr : World} {b bb g n : Nat} {s : Nat → Int} (h : PlayI w wr b bb g n s) (c : Nat) :
    Calls Try.prog 65 #[.pointer (some ⟨b, 0, none⟩), .slice (some ⟨g, 0, none⟩) n c, .slice none 0 0] wr fun e w' => e = .returned (.bool true) ∧ Below wr.heap.size wr w' :=
  stands_any b bb n g c s none 0 0 (fun _ => 0) wr h.room h.ints ⟨fun i hi => by omega, fun h => by omega⟩ (by simp [maxLen])
theorem leafTo_lt (K : Nat → Bool) (m i : Nat) : leafTo K m i < 256 := by
  unfold leafTo hdByte
  split
  · repeat' split
    all_goals first | omega | exact byteOf_lt _ _
  · split
    · exact byteVal_lt _ _
    · omega
/-- the map of its own leaves -/
theorem fromK_own (K : Nat → Bool) (n : Nat) (hK : ∀ p, n ≤ p → K p = false) : fromK (leafAll K n) n = K := by
  funext p
  unfold fromK rawB leafAll leafTo
  by_cases h : p < n
  · rw [decide_eq_true h, if_neg (by omega), if_pos (by omega), show 128 * ((p / 8 / 128 * 256 + (128 + p / 8 % 128)) / 256) + ((p / 8 / 128 * 256 + (128 + p / 8 % 128)) % 256 - 128) = p / 8 by omega, byteVal_bit K _ _ (Nat.mod_lt _ (by decide)), show 8 * (p / 8) + p % 8 = p by omega]
    rfl
  · rw [decide_eq_false h, hK p (by omega)]; rfl
theorem leafOk_own (K : Nat → Bool) (n : Nat) (hK : ∀ p, n ≤ p → K p = false) : leafOk n (nLeaves n) (leafAll K n) = true := by
  unfold leafOk
  rw [fromK_own K n hK, bsame_self]
theorem usedK_out (s : Nat → Int) (n : Nat) : ∀ p, n ≤ p → usedK n s p = false := fun p hp => by unfold usedK; rw [decide_eq_false (by omega)]; rfl
theorem load_own (n : Nat) (a : Option Addr) (c : Nat) (s : Nat → Int) (w : World) (h1 : 16 ≤ n) (h2 : n ≤ 8192) (h0 : s 0 = 0) (h : Blks w a (nLeaves n) (leafAll (usedK n s) n)) :
    Calls Try.prog 59 #[.int .i64 (n : Int), .slice a (nLeaves n) c] w fun e w' => ∃ b bb, e = .returned (.tuple #[.pointer (some ⟨b, 0, none⟩), .int .i64 0]) ∧ RoomAt w' b bb n (loadS (usedK n s)) ∧ Below w.heap.size w w' := by
  have hok : loadOk n (nLeaves n) (leafAll (usedK n s) n) = true := by
    unfold loadOk
    rw [leafOk_own _ n (usedK_out s n), fromK_own _ n (usedK_out s n)]
    unfold usedK
    rw [h0]; simp
  refine (load_any (n : Int) a (nLeaves n) c (leafAll (usedK n s) n) w h (by unfold nLeaves maxLen; omega) (fun i => leafTo_lt _ _ _)).mono ?_
  rintro e w' (⟨h, _⟩ | ⟨_, _, h, _⟩ | ⟨_, _, _, b, bb, h3, _, _, h4, h5⟩)
  · omega
  · rw [Int.toNat_natCast, hok] at h; cases h
  · rw [Int.toNat_natCast, fromK_own _ n (usedK_out s n)] at h4
    exact ⟨b, bb, h3, h4, h5⟩
theorem loadS_val (K : Nat → Bool) (i : Nat) : loadS K i = 0 ∨ loadS K i = 1 ∨ loadS K i = 2 := by
  unfold loadS freeS
  split
  · right; right; rfl
  · split
    · left; rfl
    · right; left; rfl
theorem loadU_two (n : Nat) (s : Nat → Int) : listS n (loadS (usedK n s)) 2 = listS n (turnS 2 1 s) 2 := by
  refine listS_congr (fun i hi => ?_)
  have h := loadS_two (usedK n s) i
  have h2 : usedK n s i = (s i == 2 || s i == 3) := by unfold usedK; rw [decide_eq_true hi]; rfl
  rw [h2] at h
  rw [← beq_iff_eq, h]
  unfold turnS
  simp only [Bool.or_eq_true, beq_iff_eq]
  split
  · rename_i h3; simp [h3]
  · rename_i h3
    split
    · rename_i h4; simp [h4]
    · rename_i h4; simp [h3]
theorem loadU_three (n : Nat) (s : Nat → Int) : (listS n (loadS (usedK n s)) 3).length = 0 := cnt_all (fun i _ => by rcases loadS_val (usedK n s) i with h | h | h <;> rw [h] <;> decide)
theorem loadU_four (n : Nat) (s : Nat → Int) : (listS n (loadS (usedK n s)) 4).length = 0 := cnt_all (fun i _ => by rcases loadS_val (usedK n s) i with h | h | h <;> rw [h] <;> decide)
theorem letS_zero {n : Nat} {s : Nat → Int} (h : s 0 = 0) (p : Nat) : letS n s p 0 = 0 := by
  unfold letS
  by_cases h2 : p < n ∧ s p = 2
  · rw [if_pos h2]
    unfold setS
    by_cases e : 0 = p
    · subst e; have := h2.2; rw [h] at this; omega
    · rw [if_neg e]; exact h
  · rw [if_neg h2]
    by_cases h3 : p < n ∧ s p = 3
    · rw [if_pos h3]
      unfold setS
      by_cases e : 0 = p
      · subst e; have := h3.2; rw [h] at this; omega
      · rw [if_neg e]; exact h
    · rw [if_neg h3]; exact h
theorem turnS_zero {t l : Int} {s : Nat → Int} (h : s 0 = 0) : turnS t l s 0 = 0 := by
  unfold turnS; rw [h]; rfl
theorem setS_zero {s : Nat → Int} {p : Nat} (h : s 0 = 0) (hp : s p = 1) (v : Int) : setS s p v 0 = 0 := by
  unfold setS
  by_cases e : 0 = p
  · subst e; rw [h] at hp; omega
  · rw [if_neg e]; exact h
theorem u32s_own {w : World} {B g n cap : Nat} {f : Nat → Nat} (hf : ∀ i, i < n → f i < 4294967296) (h : w.ownsRow B 46 1 (.slice (some ⟨g, 0, none⟩) n cap) n ((List.range n).map fun i => .int .u32 (f i : Int))) : U32s w (some ⟨g, 0, none⟩) n f := by
  obtain ⟨cur, hg, hs, hc⟩ := owns_cur h
  refine ⟨hf, fun _ => ⟨g, 0, rfl, (Array.getElem?_eq_some_iff.1 hg).1, fun i hi => ?_⟩⟩
  rw [Nat.zero_add, cell_of_row w g i cur 46 (0, 0) hg, hc i hi]
  simp [hi]
/-- append of a slice that may be nil -/
theorem wpList_append_both {P : Program} {w : World} {ops : Array Oper} {rest : List Oper} {o : Oper} {a : Act} {Q : Exit → Act → World → Prop} (hgd : o.guard = none) (s x : Operand) (t : TypeId)
    (ho : o.op = .call { callee := .builtin .append, args := #[s, x], argTypes := #[t, t] })
    (base : Nat) (e : TypeId) (i : TypeInfo) (z : Value) (size bytes : Nat) (ht : P.underlying t = some (.slice e)) (hi : P.info? e = some i) (hz : i.zero = some z)
    (hsize : i.size = size) (hby : i.bytes = bytes) (hzs : z.cells.size = size) (hsz : 0 < size)
    (v : Value) (n : Nat) (xs : List Value) (hs : a.eval s = v) (hown : w.ownsRow base e size v n xs)
    (ao : Option Addr) (m c : Nat) (news : List Value) (hx : a.eval x = .slice ao m c) (hnil : ao = none → m = 0 ∧ c = 0) (hl : news.length = m * size) (hnews : ∀ ad, ao = some ad → ∀ j u, news[j]? = some u → w.cell? (ad.add j) = some u) (h1 : ∀ u ∈ news, u.oneCell' = true)
    (h63 : n + m ≤ maxLen) (hbytes : (n + m) * bytes ≤ 140737488355328) (hbase : base ≤ w.heap.size)
    (h : ∀ v' w', w'.ownsRow base e size v' (n + m) (xs ++ news) → w.grownBy w' v.ownBlock → (v' = .slice none 0 0 ↔ v = .slice none 0 0 ∧ m = 0) → wpList P ops Q rest (a.put o.dst v') w') : wpList P ops Q (o :: rest) a w := by
  cases ao with
  | some ad => exact wpList_append_own w hgd s x t ho base e i z size bytes ht hi hz hsize hby hzs hsz v n xs hs hown ad m c news hx hl (hnews ad rfl) h1 h63 hbytes hbase h
  | none =>
    obtain ⟨rfl, rfl⟩ := hnil rfl
    have : news = [] := by apply List.eq_nil_of_length_eq_zero; omega
    subst this
    exact wpList_append_own_none hgd s x t ho base e i size ht hi v n xs hs hown hx (h v w (by simpa using hown) (only_refl w _) (by simp))
set_option maxRecDepth 100000 in
set_option maxHeartbeats 4000000 in
theorem rplays_any (blocks : Int) (a1 : Option Addr) (l1 c1 : Nat) (f1 : Nat → Nat) (a2 : Option Addr) (l2 c2 : Nat) (xs : Nat → Do2) (w : World) (hx1 : U32s w a1 l1 f1) (hnil1 : a1 = none → l1 = 0 ∧ c1 = 0) (hl1 : l1 * 4 ≤ 140737488351232) (hx2 : Dos w a2 l2 xs) (hl2 : l2 ≤ maxLen) :
    Calls Try.prog 14 #[.int .i64 blocks, .slice a1 l1 c1, .slice a2 l2 c2] w fun e w' => e = .returned (.bool true) ∧ Below w.heap.size w w' := by
  unfold maxLen at hl2
  have hm1 : l1 ≤ maxLen := by unfold maxLen; omega
  obtain ⟨i0, hi, hz0, hz1, hz2⟩ := info_parts info46
  have HX1 := Lib.hid hx1
  have HX2 := Lib.hid hx2
  clear hx1 hx2
  go_enter Try.func14, Try.ntmps14
  go_wp2_with fail
  refine (rawake_any _).mono ?_
  rintro e w1 ⟨rfl, hB⟩
  have HB1 := Lib.hid hB
  have HU1 := Lib.hid (HX1.out.below hB)
  clear hB
  have HNIL := Lib.hid hnil1
  clear hnil1
  have HL : Hid (((List.range l1).map fun i => Value.int .u32 (f1 i : Int)).length = l1 * 1) := Lib.hid (by simp)
  have HNW : Hid (∀ ad, a1 = some ad → ∀ j u, ((List.range l1).map fun i => Value.int .u32 (f1 i : Int))[j]? = some u → (w1.alloc (.cells #[] 46)).cell? (ad.add j) = some u) := Lib.hid (by
    intro ad had j u hu
    have hj : j < l1 := by
      have := (List.getElem?_eq_some_iff.1 hu).1
      simpa using this
    simp [hj] at hu
    subst hu
    obtain ⟨b0, off, h1, h2, h3⟩ := HU1.out.2 (by omega)
    rw [h1] at had
    cases had
    rw [Addr.add_mid, World.cell?_of_block (Below.heap_alloc w1 _ b0 h2)]
    exact h3 j hj)
  have HO : Hid (∀ u ∈ (List.range l1).map fun i => Value.int .u32 (f1 i : Int), u.oneCell' = true) := Lib.hid (by
    intro u hu
    obtain ⟨j, _, rfl⟩ := List.mem_map.1 hu
    rfl)
  go_wp2_with (at_builtin; go_must (refine wpList_append_both rfl (.tmp 25) (.tmp 26) 39 rfl w1.heap.size 46 i0 (.int .u32 0) 1 4 Try.underlying39 hi hz0 hz1 hz2 rfl (by decide) _ _ _ rfl (own_empty w1 46 1) a1 l1 c1 ((List.range l1).map fun i => Value.int .u32 (f1 i : Int)) rfl HNIL.out HL.out HNW.out HO.out (by unfold maxLen; omega) (by omega) (by simp) ?_); intro v1 w2 hown1 hgrow1 hnil; obtain ⟨gi, ki, rfl, hb1, hs1⟩ := owns_some hown1 (fun e => by have := (hnil.1 e).1; cases this); rw [Nat.zero_add, List.nil_append] at hown1; have HI := Lib.hid (u32s_own HU1.out.1 hown1); have HK : Hid (CellsIn w2 gi l1) := Lib.hid (fun j hj => ⟨⟨.int .u32 (f1 j : Int), by rw [hown1.cellAt j (by omega)]; simp [hj]⟩, hown1.frozenAt j⟩); have HB2 := Lib.hid (below_trans' HB1.out (below_one hgrow1 rfl)); clear hown1 hgrow1 hnil)
  have HSF : Hid (same32 l1 l1 f1 f1 = true) := Lib.hid (by unfold same32; exact decide_eq_true ⟨rfl, fun _ _ => rfl⟩)
  clear HNIL HL HNW HO HU1
  refine (rnew_any blocks (some ⟨gi, 0, none⟩) l1 ki f1 w2 HI.out hm1).mono ?_
  rintro e w3 (⟨hbad, rfl, rfl⟩ | ⟨n, rfl, hn1, hn2, ⟨j, hj, hbj, hgood, rfl, hB⟩ | ⟨hgood, b, bb, rfl, hb, hbb, hR, hB⟩⟩)
  · have HBAD := Lib.hid hbad
    have HF := Lib.hid ((refnew_any blocks a1 l1 c1 f1 w2 (HX1.out.below HB2.out) hm1).mono (fun e w' h => show e = .returned (.tuple #[.slice none 0 0, .int .i64 0, .int .i64 120]) ∧ w2 = w' by
      rcases h with ⟨_, h2, h3⟩ | ⟨n, h2, _⟩
      · exact ⟨h2, h3⟩
      · have := HBAD.out; omega))
    have HSM := Lib.hid (same32_any (some ⟨gi, 0, none⟩) l1 ki f1 a1 l1 c1 f1 w2 HI.out.rd (HX1.out.below HB2.out).rd hm1 hm1)
    rw [HSF.out] at HSM
    clear hbad
    go_wp2_with fail
    refine HF.out.mono ?_
    rintro e w' ⟨rfl, rfl⟩
    go_wp2_with fail
    refine HSM.out.mono ?_
    rintro e w' ⟨rfl, q, rfl⟩
    go_wp2_with fail
    go_ret
    exact ⟨rfl, below_drewN HB2.out q⟩
  · have HBJ := Lib.hid hbj
    have HGD := Lib.hid hgood
    have HB3 := Lib.hid (below_trans' HB2.out hB)
    have HF := Lib.hid ((refnew_any n a1 l1 c1 f1 w3 (HX1.out.below HB3.out) hm1).mono (fun e w' h => show e = .returned (.tuple #[.slice none 0 0, .int .i64 j, .int .i64 121]) ∧ Below w3.heap.size w3 w' by
      rcases h with ⟨h2, _⟩ | ⟨n', hn', _, _, ⟨j', hj', hbj', hgood', h5, h6⟩ | ⟨hg, _⟩⟩
      · omega
      · obtain rfl : n' = n := by omega
        have : j' = j := by
          by_cases h1 : j' < j
          · exact absurd hbj' (HGD.out j' h1)
          · by_cases h2 : j < j'
            · exact absurd HBJ.out (hgood' j h2)
            · omega
        subst this
        exact ⟨h5, h6⟩
      · obtain rfl : n' = n := by omega
        exact absurd HBJ.out (hg j hj)))
    have HI3 := Lib.hid (HI.out.below hB)
    clear hbj hgood hB HI
    go_wp2_with fail
    refine HF.out.mono ?_
    rintro e w4 ⟨rfl, hB⟩
    have HB4 := Lib.hid (below_trans' HB3.out hB)
    have HSM := Lib.hid (same32_any (some ⟨gi, 0, none⟩) l1 ki f1 a1 l1 c1 f1 w4 (HI3.out.below hB).rd (HX1.out.below HB4.out).rd hm1 hm1)
    rw [HSF.out] at HSM
    clear hB HF
    go_wp2_with fail
    refine HSM.out.mono ?_
    rintro e w' ⟨rfl, q, rfl⟩
    go_wp2_with fail
    go_ret
    exact ⟨rfl, below_drewN HB4.out q⟩
  have HGD := Lib.hid hgood
  have HB3 := Lib.hid (below_trans' HB2.out hB)
  have HF := Lib.hid ((refnew_any n a1 l1 c1 f1 w3 (HX1.out.below HB3.out) hm1).mono (fun e w' h => show ∃ g cap, e = .returned (.tuple #[.slice (some ⟨g, 0, none⟩) n cap, .int .i64 0, .int .i64 0]) ∧ w3.heap.size ≤ g ∧ IntsAt w' g n (usedS f1 l1) ∧ Below w3.heap.size w3 w' by
      rcases h with ⟨h2, _⟩ | ⟨n', hn', _, _, ⟨j', hj', hbj', _⟩ | ⟨_, h5⟩⟩
      · omega
      · obtain rfl : n' = n := by omega
        exact absurd hbj' (HGD.out j' hj')
      · obtain rfl : n' = n := by omega
        exact h5))
  have HI3 := Lib.hid (HI.out.below hB)
  have HR3 := Lib.hid hR
  have HBb := Lib.hid (show w.heap.size ≤ b from Nat.le_trans HB2.out.size hb)
  have HBB := Lib.hid (show w.heap.size ≤ bb from Nat.le_trans HB2.out.size hbb)
  have HGI := Lib.hid (show w.heap.size ≤ gi ∧ gi < bb ∧ gi < b ∧ gi < w3.heap.size from by have := HB1.out.size; have := hB.size; omega)
  have HK3 := Lib.hid (HK.out.below hB hs1)
  clear hgood hB hR hb hbb HI
  go_wp2_with fail
  refine HF.out.mono ?_
  rintro e w4 ⟨g, cg, rfl, hg, hIg, hB⟩
  have HB4 := Lib.hid (below_trans' HB3.out hB)
  have HSM := Lib.hid (same32_any (some ⟨gi, 0, none⟩) l1 ki f1 a1 l1 c1 f1 w4 (HI3.out.below hB).rd (HX1.out.below HB4.out).rd hm1 hm1)
  rw [HSF.out] at HSM
  have HP := Lib.hid (show PlayI w w4 b bb g n (usedS f1 l1) from ⟨HR3.out.below hB, hIg, HBb.out, HBB.out, Nat.le_trans HB3.out.size hg, by have := HR3.out.row.1; omega, rfl, HB4.out⟩)
  have HK4 := Lib.hid (HK3.out.below hB HGI.out.2.2.2)
  have HGN := Lib.hid (show gi ≠ b ∧ gi ≠ bb ∧ gi ≠ g by have := HGI.out; omega)
  clear hB hg hIg HF HR3 HI3 HB2 HB3 HB4 HB1 HK3 HK
  go_wp2_with fail
  refine HSM.out.mono ?_
  rintro e w' ⟨rfl, q, rfl⟩
  have HP2 := Lib.hid (HP.out.onto (below_drewN (Below.refl _ _) q))
  have HK5 : Hid (CellsIn (w4.drewN q) gi l1) := Lib.hid HK4.out
  clear HSM HP HK4
  generalize w4.drewN q = w5 at *
  go_wp2_with fail
  go_loopw [67] (fun i w6 => ∃ p : Nat, p ≤ l1 ∧ i = .int .i64 p ∧ PlayI w w6 b bb g n (usedS f1 l1) ∧ CellsIn w6 gi l1) (fun i _ => l1 - (intOf i).toNat)
  case atStart => exact ⟨0, by omega, rfl, HP2.out, HK5.out⟩
  case round =>
    obtain ⟨p, hp, rfl, hP, hK⟩ := hrel
    have HP6 := Lib.hid hP
    have HK6 := Lib.hid hK
    clear hP hK HP2 HK5
    by_cases hpm : p < l1
    · obtain ⟨⟨x, c1⟩, f1'⟩ := HK6.out p hpm
      have HCS := Lib.hid (HK6.out.set p (.int .u32 0))
      have HPS := Lib.hid (HP6.out.other (only_setCell (only_refl wr (some gi)) (p := ⟨gi, p, none⟩) (.inl rfl) (.int .u32 0)) HGN.out.1.symm HGN.out.2.1.symm HGN.out.2.2.symm HGI.out.1)
      go_wp2_with fail
      exact ⟨⟨p + 1, by omega, by go_num, HPS.out, HCS.out⟩, by simp [intOf]; omega⟩
    · obtain rfl : p = l1 := by omega
      have hz := Lib.hid (rfl : usedS f1 p 0 = 0)
      generalize usedS f1 p = s0 at *
      clear HK6 HGN HGI hz
      go_wp2_with fail
      go_loopw [11, 76] (fun vg i w7 => ∃ (q g' c' : Nat) (s : Nat → Int), q ≤ l2 ∧ i = .int .i64 q ∧ vg = .slice (some ⟨g', 0, none⟩) n c' ∧ PlayI w w7 b bb g' n s) (fun _ i _ => l2 - (intOf i).toNat)
      case atStart => exact ⟨0, g, cg, s0, by omega, rfl, rfl, HP6.out⟩
      case round =>
        obtain ⟨q, g', c', s, hq, rfl, rfl, hP⟩ := hrel
        have HP7 := Lib.hid hP
        clear hP HP6
        obtain ⟨w7, rfl⟩ : ∃ w7 : World, w7 = wr := ⟨_, rfl⟩
        by_cases hql : q < l2
        · obtain ⟨b0, off, rfl, hb0, hcs⟩ := (HX2.out.below HP7.out.below).2 (by omega)
          obtain ⟨k0, k1⟩ := hcs q hql
          have hat := HX2.out.1 q
          clear hcs
          generalize (xs q).kind = kd at *
          generalize (xs q).at_ = at_ at *
          have HP8 := Lib.hid (HP7.out.onto ((Below.refl w7.heap.size w7).alloc (Nat.le_refl _) (.cells #[.int .i64 kd, .int .u32 (at_ : Int)] 104)))
          have HA8 : Hid (AtI (w7.alloc (.cells #[.int .i64 kd, .int .u32 (at_ : Int)] 104)) w7.heap.size at_) := Lib.hid ⟨by simp, by rw [cell_of_row _ _ _ _ _ _ (heap_alloc_new w7 _)]; rfl⟩
          have HKN : Hid (w7.heap.size ≠ bb) := Lib.hid (by have := HP7.out.room.row.1; omega)
          have hcat := HA8.out.2
          have HPW := HP7
          go_wp2_with fail
          all_goals clear k0 k1
          · refine (take_any b bb n s _ HP8.out.room).mono ?_
            rintro e w9 (⟨hall, rfl, rfl⟩ | ⟨p', hp', hsp, hmin, rfl, hR, hG⟩)
            · have HALL := Lib.hid hall
              have HF := Lib.hid ((rtake_any g' n c' s _ HP8.out.ints).mono (fun e w' h => show e = .returned (.tuple #[.slice (some ⟨g', 0, none⟩) n c', .int .u32 0, .int .i64 3]) ∧ (w7.alloc (.cells #[.int .i64 kd, .int .u32 (at_ : Int)] 104)) = w' by
                rcases h with ⟨_, h⟩ | ⟨p2, _, _, h1, h2, _⟩
                · exact h
                · exact absurd h2 (HALL.out p2 h1)))
              clear hall
              go_wp2_with fail
              refine HF.out.mono ?_
              rintro e w' ⟨rfl, rfl⟩
              have HPE := HP8
              clear HF
              go_wp2_with fail
              ((with_reducible refine (HPE.out.stands4 c' at_ _ hat (by simp)).mono ?_))
              rintro e wz ⟨rfl, hP⟩
              have HPZ := Lib.hid hP
              clear hP
              go_wp2_with fail
              exact ⟨⟨q + 1, g', c', s, by omega, by go_num, rfl, HPZ.out⟩, by simp [intOf]; omega⟩
            · have HMIN := Lib.hid hmin
              have HSP := Lib.hid hsp
              have HR9 := Lib.hid hR
              have HG9 := Lib.hid hG
              have HA9 := Lib.hid (HA8.out.only hG HKN.out)
              have HF := Lib.hid ((rtake_any g' n c' s w9 (HP8.out.ints.only hG (fun e => by injection e with e; exact HP8.out.ne e))).mono (fun e w' h => show ∃ g2 c2, e = .returned (.tuple #[.slice (some ⟨g2, 0, none⟩) n c2, .int .u32 p', .int .i64 0]) ∧ w9.heap.size ≤ g2 ∧ IntsAt w' g2 n (setS s p' 3) ∧ Below w9.heap.size w9 w' by
                rcases h with ⟨h, _⟩ | ⟨p2, g2, c2, h1, h2, h3, h4⟩
                · exact absurd HSP.out (h p' hp')
                · have : p2 = p' := by
                    by_cases a1 : p2 < p'
                    · exact absurd h2 (HMIN.out p2 a1)
                    · by_cases a2 : p' < p2
                      · exact absurd HSP.out (h3 p' a2)
                      · omega
                  subst this
                  exact ⟨g2, c2, h4⟩))
              clear hmin hsp hR hG
              go_wp2_with fail
              refine HF.out.mono ?_
              rintro e w10 ⟨g2, c2, rfl, hg2, hI2, hB2⟩
              have HPE := Lib.hid (HP8.out.step HR9.out HG9.out hI2 hg2 hB2 (setS_zero HP8.out.zero HSP.out 3))
              have HA10 := Lib.hid (HA9.out.below hB2)
              have hcell := HA10.out.2
              clear hg2 hI2 hB2 HF HR9 HG9 hcat
              go_wp2_with fail
              ((with_reducible refine (HPE.out.stands4 c2 at_ _ hat (by simp)).mono ?_))
              rintro e wz ⟨rfl, hP⟩
              have HPZ := Lib.hid hP
              clear hP
              go_wp2_with fail
              exact ⟨⟨q + 1, g2, c2, (setS s p' 3), by omega, by go_num, rfl, HPZ.out⟩, by simp [intOf]; omega⟩
          · refine (take_any b bb n s _ HP8.out.room).mono ?_
            rintro e w9 (⟨hall, rfl, rfl⟩ | ⟨p', hp', hsp, hmin, rfl, hR, hG⟩)
            · have HALL := Lib.hid hall
              have HF := Lib.hid ((rtake_any g' n c' s _ HP8.out.ints).mono (fun e w' h => show e = .returned (.tuple #[.slice (some ⟨g', 0, none⟩) n c', .int .u32 0, .int .i64 3]) ∧ (w7.alloc (.cells #[.int .i64 kd, .int .u32 (at_ : Int)] 104)) = w' by
                rcases h with ⟨_, h⟩ | ⟨p2, _, _, h1, h2, _⟩
                · exact h
                · exact absurd h2 (HALL.out p2 h1)))
              clear hall
              go_wp2_with fail
              refine HF.out.mono ?_
              rintro e w' ⟨rfl, rfl⟩
              have HPE := HP8
              clear HF
              go_wp2_with fail
              ((with_reducible refine (HPE.out.stands4 c' at_ _ hat (by simp)).mono ?_))
              rintro e wz ⟨rfl, hP⟩
              have HPZ := Lib.hid hP
              clear hP
              go_wp2_with fail
              exact ⟨⟨q + 1, g', c', s, by omega, by go_num, rfl, HPZ.out⟩, by simp [intOf]; omega⟩
            · have HMIN := Lib.hid hmin
              have HSP := Lib.hid hsp
              have HR9 := Lib.hid hR
              have HG9 := Lib.hid hG
              have HA9 := Lib.hid (HA8.out.only hG HKN.out)
              have HF := Lib.hid ((rtake_any g' n c' s w9 (HP8.out.ints.only hG (fun e => by injection e with e; exact HP8.out.ne e))).mono (fun e w' h => show ∃ g2 c2, e = .returned (.tuple #[.slice (some ⟨g2, 0, none⟩) n c2, .int .u32 p', .int .i64 0]) ∧ w9.heap.size ≤ g2 ∧ IntsAt w' g2 n (setS s p' 3) ∧ Below w9.heap.size w9 w' by
                rcases h with ⟨h, _⟩ | ⟨p2, g2, c2, h1, h2, h3, h4⟩
                · exact absurd HSP.out (h p' hp')
                · have : p2 = p' := by
                    by_cases a1 : p2 < p'
                    · exact absurd h2 (HMIN.out p2 a1)
                    · by_cases a2 : p' < p2
                      · exact absurd HSP.out (h3 p' a2)
                      · omega
                  subst this
                  exact ⟨g2, c2, h4⟩))
              clear hmin hsp hR hG
              go_wp2_with fail
              refine HF.out.mono ?_
              rintro e w10 ⟨g2, c2, rfl, hg2, hI2, hB2⟩
              have HPE := Lib.hid (HP8.out.step HR9.out HG9.out hI2 hg2 hB2 (setS_zero HP8.out.zero HSP.out 3))
              have HA10 := Lib.hid (HA9.out.below hB2)
              have hcell := HA10.out.2
              clear hg2 hI2 hB2 HF HR9 HG9 hcat
              go_wp2_with fail
              ((with_reducible refine (HPE.out.stands4 c2 at_ _ hat (by simp)).mono ?_))
              rintro e wz ⟨rfl, hP⟩
              have HPZ := Lib.hid hP
              clear hP
              go_wp2_with fail
              exact ⟨⟨q + 1, g2, c2, (setS s p' 3), by omega, by go_num, rfl, HPZ.out⟩, by simp [intOf]; omega⟩
          · refine (rlet_any g' n c' s _ at_ hat HP8.out.ints).mono ?_
            rintro e w9 ⟨g2, c2, rfl, hg2, hI2, hB2⟩
            have HA9 := Lib.hid (HA8.out.below hB2)
            have HL := Lib.hid (let_any b bb n s w9 at_ hat (HP8.out.room.below hB2))
            have HG2 := Lib.hid hg2
            have HI2 := Lib.hid hI2
            have HB2 := Lib.hid hB2
            have hcell := HA9.out.2
            clear hg2 hI2 hB2 hcat
            generalize letE n s at_ = le at *
            go_wp2_with fail
            refine HL.out.mono ?_
            rintro e w10 ⟨rfl, hR, hG⟩
            have HPE := Lib.hid (HP8.out.step2 HI2.out HG2.out HB2.out hR hG (letS_zero HP8.out.zero at_))
            have HA10 := Lib.hid (HA9.out.only hG HKN.out)
            have hcell := HA10.out.2
            clear hR hG HL
            go_wp2_with fail
            ((with_reducible refine (HPE.out.stands4 c2 at_ _ hat (by simp)).mono ?_))
            rintro e wz ⟨rfl, hP⟩
            have HPZ := Lib.hid hP
            clear hP
            go_wp2_with fail
            exact ⟨⟨q + 1, g2, c2, (letS n s at_), by omega, by go_num, rfl, HPZ.out⟩, by simp [intOf]; omega⟩
          · refine (rlet_any g' n c' s _ at_ hat HP8.out.ints).mono ?_
            rintro e w9 ⟨g2, c2, rfl, hg2, hI2, hB2⟩
            have HA9 := Lib.hid (HA8.out.below hB2)
            have HL := Lib.hid (let_any b bb n s w9 at_ hat (HP8.out.room.below hB2))
            have HG2 := Lib.hid hg2
            have HI2 := Lib.hid hI2
            have HB2 := Lib.hid hB2
            have hcell := HA9.out.2
            clear hg2 hI2 hB2 hcat
            generalize letE n s at_ = le at *
            go_wp2_with fail
            refine HL.out.mono ?_
            rintro e w10 ⟨rfl, hR, hG⟩
            have HPE := Lib.hid (HP8.out.step2 HI2.out HG2.out HB2.out hR hG (letS_zero HP8.out.zero at_))
            have HA10 := Lib.hid (HA9.out.only hG HKN.out)
            have hcell := HA10.out.2
            clear hR hG HL
            go_wp2_with fail
            ((with_reducible refine (HPE.out.stands4 c2 at_ _ hat (by simp)).mono ?_))
            rintro e wz ⟨rfl, hP⟩
            have HPZ := Lib.hid hP
            clear hP
            go_wp2_with fail
            exact ⟨⟨q + 1, g2, c2, (letS n s at_), by omega, by go_num, rfl, HPZ.out⟩, by simp [intOf]; omega⟩
          · refine (swing_any b bb n s _ HP8.out.room).mono ?_
            rintro e w9 ⟨⟨vv, rfl⟩, hR, hG⟩
            have HR9 := Lib.hid hR
            have HG9 := Lib.hid hG
            have HA9 := Lib.hid (HA8.out.only hG HKN.out)
            have HF := Lib.hid (rswing_any g' n c' s w9 (HP8.out.ints.only hG (fun e => by injection e with e; exact HP8.out.ne e)))
            clear hR hG hcat
            go_wp2_with fail
            refine HF.out.mono ?_
            rintro e w10 ⟨g2, c2, rfl, hg2, hI2, hB2⟩
            have HPE := Lib.hid (HP8.out.step HR9.out HG9.out hI2 hg2 hB2 (turnS_zero HP8.out.zero))
            have HA10 := Lib.hid (HA9.out.below hB2)
            have hcell := HA10.out.2
            clear hg2 hI2 hB2 HF HR9 HG9
            go_wp2_with fail
            ((with_reducible refine (HPE.out.stands4 c2 at_ _ hat (by simp)).mono ?_))
            rintro e wz ⟨rfl, hP⟩
            have HPZ := Lib.hid hP
            clear hP
            go_wp2_with fail
            exact ⟨⟨q + 1, g2, c2, (turnS 2 1 s), by omega, by go_num, rfl, HPZ.out⟩, by simp [intOf]; omega⟩
          · refine (back_any b bb n s _ HP8.out.room).mono ?_
            rintro e w9 ⟨⟨vv, rfl⟩, hR, hG⟩
            have HR9 := Lib.hid hR
            have HG9 := Lib.hid hG
            have HA9 := Lib.hid (HA8.out.only hG HKN.out)
            have HF := Lib.hid (rback_any g' n c' s w9 (HP8.out.ints.only hG (fun e => by injection e with e; exact HP8.out.ne e)))
            clear hR hG hcat
            go_wp2_with fail
            refine HF.out.mono ?_
            rintro e w10 ⟨g2, c2, rfl, hg2, hI2, hB2⟩
            have HPE := Lib.hid (HP8.out.step HR9.out HG9.out hI2 hg2 hB2 (turnS_zero HP8.out.zero))
            have HA10 := Lib.hid (HA9.out.below hB2)
            have hcell := HA10.out.2
            clear hg2 hI2 hB2 HF HR9 HG9
            go_wp2_with fail
            ((with_reducible refine (HPE.out.stands4 c2 at_ _ hat (by simp)).mono ?_))
            rintro e wz ⟨rfl, hP⟩
            have HPZ := Lib.hid hP
            clear hP
            go_wp2_with fail
            exact ⟨⟨q + 1, g2, c2, (turnS 1 2 s), by omega, by go_num, rfl, HPZ.out⟩, by simp [intOf]; omega⟩
          · refine (copy_any b bb n s _ HP8.out.room).mono ?_
            rintro e w9 ⟨q1, qq1, rfl, hq1, hqq1, hR, hB⟩
            have HB9 := Lib.hid hB
            have HP9 := Lib.hid (HP8.out.onto hB)
            have HR9 := Lib.hid hR
            have HA9 := Lib.hid (HA8.out.below hB)
            have HQQ := Lib.hid hqq1
            have HST := Lib.hid (HP9.out.stands1 hR c' at_ _ hat rfl)
            have hcell := HA9.out.2
            clear hR hB hcat hq1 hqq1
            go_wp2_with fail
            refine HST.out.mono ?_
            rintro e w10 ⟨rfl, hB⟩
            have HB10 := Lib.hid (below_trans' HB9.out hB)
            have HR10 := Lib.hid (HR9.out.below hB)
            have HA10 := Lib.hid (HA9.out.below hB)
            clear hB HST HR9 HB9 hcell
            go_wp2_with fail
            refine (take_any q1 qq1 n s _ HR10.out).mono ?_
            rintro e w11 (⟨hall, rfl, rfl⟩ | ⟨p', hp', hsp, hmin, rfl, hR, hG⟩)
            · have HSW := Lib.hid (swing_any q1 qq1 n s _ HR10.out)
              clear hall
              go_wp2_with fail
              refine HSW.out.mono ?_
              rintro e w12 ⟨⟨vv, rfl⟩, hR, hG⟩
              have hB12 := HB10.out.grown hG HB10.out.size (fun k hk => by cases hk; exact HQQ.out)
              have HPE := Lib.hid (HP8.out.onto hB12)
              have hcell := (HA8.out.below hB12).2
              clear hR hG hB12 HSW
              go_wp2_with fail
              ((with_reducible refine (HPE.out.stands4 c' at_ _ hat (by simp)).mono ?_))
              rintro e wz ⟨rfl, hP⟩
              have HPZ := Lib.hid hP
              clear hP
              go_wp2_with fail
              exact ⟨⟨q + 1, g', c', s, by omega, by go_num, rfl, HPZ.out⟩, by simp [intOf]; omega⟩
            · have HB11 := Lib.hid (HB10.out.grown hG HB10.out.size (fun k hk => by cases hk; exact HQQ.out))
              have HSW := Lib.hid (swing_any q1 qq1 n _ _ hR)
              clear hmin hR hG hsp
              go_wp2_with fail
              refine HSW.out.mono ?_
              rintro e w12 ⟨⟨vv, rfl⟩, hR, hG⟩
              have hB12 := HB11.out.grown hG HB11.out.size (fun k hk => by cases hk; exact HQQ.out)
              have HPE := Lib.hid (HP8.out.onto hB12)
              have hcell := (HA8.out.below hB12).2
              clear hR hG hB12 HSW
              go_wp2_with fail
              ((with_reducible refine (HPE.out.stands4 c' at_ _ hat (by simp)).mono ?_))
              rintro e wz ⟨rfl, hP⟩
              have HPZ := Lib.hid hP
              clear hP
              go_wp2_with fail
              exact ⟨⟨q + 1, g', c', s, by omega, by go_num, rfl, HPZ.out⟩, by simp [intOf]; omega⟩
          · refine (rleaves_any b bb n s _ HP8.out.room).mono ?_
            rintro e w9 ⟨la, lc, rfl, hBl, hB⟩
            have HB9 := Lib.hid hB
            have HLD := Lib.hid (load_own n la lc s w9 (by omega) (by omega) HP8.out.zero hBl)
            clear hBl hB hcat
            go_wp2_with fail
            refine HLD.out.mono ?_
            rintro e w10 ⟨q1, qq1, rfl, hR, hB⟩
            have HB10 := Lib.hid (below_trans' HB9.out hB)
            have HR10 := Lib.hid hR
            have HLS := Lib.hid (list_sl q1 qq1 n _ 2 w10 hR)
            rw [loadU_two] at HLS
            clear hR hB HLD HB9
            go_wp2_with fail
            refine HLS.out.mono ?_
            rintro e w11 ⟨ga, gc, rfl, hU, hB⟩
            have HB11 := Lib.hid (below_trans' HB10.out hB)
            have HR11 := Lib.hid (HR10.out.below hB)
            have HU11 := Lib.hid hU
            have HSW := Lib.hid (rswing_any g' n c' s w11 (HP8.out.ints.below HB11.out))
            have hll := listS_len n (turnS 2 1 s) 2
            clear hU hB HLS HB10 HR10
            go_wp2_with fail
            refine HSW.out.mono ?_
            rintro e w12 ⟨g2, c2, rfl, hg2, hI2, hB⟩
            have HB12 := Lib.hid (below_trans' HB11.out hB)
            have HR12 := Lib.hid (HR11.out.below hB)
            have HU12 := Lib.hid (HU11.out.below hB)
            have HRL := Lib.hid (rlist_sl g2 n c2 (turnS 2 1 s) w12 2 hI2)
            clear hg2 hI2 hB HSW HB11 HR11 HU11
            go_wp2_with fail
            refine HRL.out.mono ?_
            rintro e w13 ⟨wa, wc, rfl, hU, hB⟩
            have HB13 := Lib.hid (below_trans' HB12.out hB)
            have HR13 := Lib.hid (HR12.out.below hB)
            have HS := Lib.hid (same32_any ga _ gc _ wa _ wc _ w13 (HU12.out.below hB).rd hU.rd (by unfold maxLen; omega) (by unfold maxLen; omega))
            rw [same32_lists, decide_eq_true rfl] at HS
            clear hU hB HRL HB12 HR12 HU12
            go_wp2_with fail
            refine HS.out.mono ?_
            rintro e w' ⟨rfl, qd, rfl⟩
            have HB14 := Lib.hid (below_drewN HB13.out qd)
            have HC := Lib.hid (rcountS_any q1 qq1 n _ 3 _ (HR13.out.drewN qd))
            rw [loadU_three] at HC
            clear HS
            go_wp2_with fail
            refine HC.out.mono ?_
            rintro e w15 ⟨rfl, hB⟩
            have HB15 := Lib.hid (below_trans' HB14.out hB)
            have HC2 := Lib.hid (rcountS_any q1 qq1 n _ 4 w15 ((HR13.out.drewN qd).below hB))
            rw [loadU_four] at HC2
            clear hB HC HB13 HB14 HR13
            go_wp2_with fail
            refine HC2.out.mono ?_
            rintro e w16 ⟨rfl, hB⟩
            have hB16 := below_trans' HB15.out hB
            have HPE := Lib.hid (HP8.out.onto hB16)
            have hcell := (HA8.out.below hB16).2
            clear hB HC2 HB15 hB16
            go_wp2_with fail
            ((with_reducible refine (HPE.out.stands4 c' at_ _ hat (by simp)).mono ?_))
            rintro e wz ⟨rfl, hP⟩
            have HPZ := Lib.hid hP
            clear hP
            go_wp2_with fail
            exact ⟨⟨q + 1, g', c', s, by omega, by go_num, rfl, HPZ.out⟩, by simp [intOf]; omega⟩
        · go_wp2_with fail
          refine (HP7.out.stands0 c').mono ?_
          rintro e w8 ⟨rfl, hB⟩
          have HB8 := Lib.hid (below_trans' HP7.out.below hB)
          clear hB
          go_wp2_with fail
          go_ret
          exact ⟨rfl, HB8.out⟩
end Go.Proofs.Ytffdklcpkkcohaa
