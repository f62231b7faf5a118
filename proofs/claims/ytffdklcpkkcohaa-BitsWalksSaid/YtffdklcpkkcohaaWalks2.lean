/- the law BitsWalks, walked. -/
import Derived.RangeFuncBox
import Derived.StillTailTactics
import Derived.Test.YtffdklcpkkcohaaWalks
namespace Go.Proofs.Ytffdklcpkkcohaa
open Go.RowKit Go.Shelf
attribute [local go_sem] Oper.semAt_some
theorem Boxed.below' {W W' : World} {B : Nat} {t : TypeId} {v : Value} (h : Boxed W B t v) (hb : Below W.heap.size W W') : Boxed W' B t v := (hb.block B h.lt).trans h
theorem row_ne {W : World} {row : Option Nat} {b : Nat} {c : Array Value} {t : TypeId} {z : Nat × Nat} (h : W.heap[b]? = some (.cells c t z)) (hr : ∀ r, row = some r → ∃ o : Obj, W.heap[r]? = some o ∧ o.isCells = false) : some b ≠ row :=
  fun e => by obtain ⟨o, ho, hc⟩ := hr b e.symm; rw [h] at ho; cases ho; cases hc
/-- between two rounds -/
structure WalkI (s : Int) (B C D g n : Nat) (k : Nat → Bool) (pre : List Nat) (W : World) : Prop where
  c5 : Boxed W B 3 (.int .i64 s)
  c6 : Boxed W (B + 1) 4 (.bool false)
  c8 : Boxed W C 28 (.slice (some ⟨g, 0, none⟩) n n)
  bo : BoolsAt W g n k
  c12 : Boxed W (D + 1 + 1) 3 (.int .i64 pre.length)
  c11 : ∃ f : Nat, f ≤ n ∧ Boxed W (D + 1) 3 (.int .i64 ((f : Int) - 1)) ∧ onesF k n 0 = pre ++ onesF k n f
/-- a round has left -/
def WalkX (B n : Nat) (k : Nat → Bool) (c : Code) (pre : List Nat) (W : World) : Prop :=
  c = .ret ∧ (Boxed W (B + 1) 4 (.bool true) ∨ (Boxed W (B + 1) 4 (.bool false) ∧ ¬ pre <+: onesF k n 0))
theorem walkI_own (s : Int) (B C D g n : Nat) (k : Nat → Bool) (L : Nat) : OwnFrom L (fun pre W => WalkI s B C D g n k pre W) := by
  intro pre W W' row h hg hr0
  have hr : ∀ r, row = some r → ∃ o : Obj, W.heap[r]? = some o ∧ o.isCells = false := fun r e => (hr0 r e).2
  obtain ⟨f, h1, h2, h3⟩ := h.c11
  obtain ⟨_, _, cur, hc, _⟩ := id h.bo
  exact ⟨h.c5.kept hg (row_ne h.c5 hr), h.c6.kept hg (row_ne h.c6 hr), h.c8.kept hg (row_ne h.c8 hr), h.bo.only hg (row_ne hc hr), h.c12.kept hg (row_ne h.c12 hr), f, h1, h2.kept hg (row_ne h2 hr), h3⟩
theorem walkX_own (B n : Nat) (k : Nat → Bool) (c : Code) (L : Nat) : OwnFrom L (fun pre W => WalkX B n k c pre W) := by
  intro pre W W' row h hg hr0
  have hr : ∀ r, row = some r → ∃ o : Obj, W.heap[r]? = some o ∧ o.isCells = false := fun r e => (hr0 r e).2
  rcases h with ⟨h0, h1 | ⟨h1, h2⟩⟩
  · exact ⟨h0, .inl (h1.kept hg (row_ne h1 hr))⟩
  · exact ⟨h0, .inr ⟨h1.kept hg (row_ne h1 hr), h2⟩⟩
theorem boxed_other {W : World} {q b : Nat} {t : TypeId} {v : Value} (h : Boxed W b t v) (hne : b ≠ q) (u : Value) : Boxed (W.setCell ⟨q, 0, none⟩ u) b t v := (Below.heap_setCell _ _ _ _ hne).trans h
theorem keepBut_set {r a c q : Nat} (W : World) (hq : q = r ∨ q = a ∨ q = c) (u : Value) : KeepBut r a c W (W.setCell ⟨q, 0, none⟩ u) :=
  fun j _ h1 _ h3 h4 h5 => (Below.heap_setCell _ _ _ _ (show j ≠ q from by rcases hq with e | e | e <;> subst e <;> assumption)).trans h1
theorem walk_two {s : Int} {B C D g n : Nat} {k : Nat → Bool} {pre : List Nat} {W : World} (h : WalkI s B C D g n k pre W) (hBC : B + 1 < C) (hCD : C < D) (hgD : g < D + 1) (v m : Int) :
    Boxed ((W.setCell ⟨D + 1, 0, none⟩ (.int .i64 v)).setCell ⟨D + 1 + 1, 0, none⟩ (.int .i64 m)) B 3 (.int .i64 s) ∧
    Boxed ((W.setCell ⟨D + 1, 0, none⟩ (.int .i64 v)).setCell ⟨D + 1 + 1, 0, none⟩ (.int .i64 m)) (B + 1) 4 (.bool false) ∧
    Boxed ((W.setCell ⟨D + 1, 0, none⟩ (.int .i64 v)).setCell ⟨D + 1 + 1, 0, none⟩ (.int .i64 m)) C 28 (.slice (some ⟨g, 0, none⟩) n n) ∧
    BoolsAt ((W.setCell ⟨D + 1, 0, none⟩ (.int .i64 v)).setCell ⟨D + 1 + 1, 0, none⟩ (.int .i64 m)) g n k ∧
    Boxed ((W.setCell ⟨D + 1, 0, none⟩ (.int .i64 v)).setCell ⟨D + 1 + 1, 0, none⟩ (.int .i64 m)) (D + 1) 3 (.int .i64 v) ∧
    Boxed ((W.setCell ⟨D + 1, 0, none⟩ (.int .i64 v)).setCell ⟨D + 1 + 1, 0, none⟩ (.int .i64 m)) (D + 1 + 1) 3 (.int .i64 m) ∧
    KeepsOthers W ((W.setCell ⟨D + 1, 0, none⟩ (.int .i64 v)).setCell ⟨D + 1 + 1, 0, none⟩ (.int .i64 m)) ∧
    KeepBut (B + 1) (D + 1) (D + 1 + 1) W ((W.setCell ⟨D + 1, 0, none⟩ (.int .i64 v)).setCell ⟨D + 1 + 1, 0, none⟩ (.int .i64 m)) := by
  obtain ⟨f, _, c11, _⟩ := h.c11
  refine ⟨boxed_other (boxed_other h.c5 (by omega) _) (by omega) _, boxed_other (boxed_other h.c6 (by omega) _) (by omega) _, boxed_other (boxed_other h.c8 (by omega) _) (by omega) _,
    (h.bo.of_block (Below.heap_setCell _ _ _ _ (by show g ≠ D + 1; omega))).of_block (Below.heap_setCell _ _ _ _ (by show g ≠ D + 1 + 1; omega)), boxed_other (c11.set _) (by omega) _, (boxed_other h.c12 (by omega) _).set _,
    (KeepsOthers.setCell _ _ _).trans (KeepsOthers.setCell _ _ _), keepBut_t (keepBut_set W (.inr (.inl rfl)) _) (keepBut_set _ (.inr (.inr rfl)) _)⟩
theorem eqlf (D : Nat) (W : World) : (binOp .eql 34 (.func (.func 70) #[] #[.pointer (some ⟨D, 0, none⟩)]) .nilFunc).run Try.prog W = .ok (.bool false) W := by
  kernel_rfl
set_option maxRecDepth 100000 in
set_option maxHeartbeats 4000000 in
theorem walks_any (size : Int) (a : Option Addr) (len cap : Nat) (xs : Nat → Act3) (s : Int) (w : World) (hx : Acts w a len xs) (hlen : len ≤ maxLen) :
    CallsIn Fence.wide 7 Try.prog 4 #[.int .i64 size, .slice a len cap, .int .i64 s] w fun e w' => e = .returned (.bool true) ∧ Below w.heap.size w w' := by
  have HX := Lib.hid hx
  clear hx
  obtain ⟨B, hB⟩ : ∃ B, w.heap.size = B := ⟨_, rfl⟩
  have hB' := hB
  refine callsIn_of_wp_marks Try.func4 rfl trivial ?_ rfl
  simp only [Try.ntmps4, List.size_toArray, List.length_cons, List.length_nil, Nat.reduceAdd, Nat.reduceSub, Array.replicate_succ, Array.replicate_zero, List.push_toArray, List.append_toArray, List.nil_append, List.cons_append]
  gi_wp2_with fail
  have S5 := (Boxed.new w 3 (.int .i64 s)).alloc (.cells #[.bool false] 4)
  have S6 := Boxed.new (w.alloc (.cells #[.int .i64 s] 3)) 4 (.bool false)
  have h0 := ((Below.refl w.heap.size w).alloc (Nat.le_refl _) (.cells #[.int .i64 s] 3)).alloc (by simp) (.cells #[.bool false] 4)
  rw [World.size_alloc] at S6
  have hlt : w.heap.size + 1 < ((w.alloc (.cells #[.int .i64 s] 3)).alloc (.cells #[.bool false] 4)).heap.size := by simp
  rw [hB] at S5 S6 hlt h0
  have T5 := Lib.hid S5
  have T6 := Lib.hid S6
  have HB0 := Lib.hid h0
  clear S5 S6 h0
  generalize (w.alloc (.cells #[.int .i64 s] 3)).alloc (.cells #[.bool false] 4) = w0 at *
  have P := Lib.hid (played_any size a len cap xs w0 (HX.out.below (hB ▸ HB0.out)) hlen)
  refine ⟨trivial, (callsIn_wide.2 P.out).mono ?_⟩
  clear P
  rintro e w1 (⟨_, rfl, hB1⟩ | ⟨n, b, bb, g, k, rfl, rfl, hBo⟩)
  · have HB1 := Lib.hid (HB0.out.trans (hB1.mono (by omega)))
    have U6 := Lib.hid (Boxed.below' T6.out hB1)
    have hs1 : B ≤ w1.heap.size := by have := hB1.size; omega
    clear hB1 HB0 T5 T6
    gi_wp2_with fail
    refine ⟨trivial, (callsIn_wide.2 (awake_any _)).mono ?_⟩
    rintro e w2 ⟨rfl, hB2⟩
    have V6 := Lib.hid (Boxed.below' (U6.out.alloc _) hB2)
    have HB2 := Lib.hid ((HB1.out.alloc hs1 _).trans (hB2.mono (by simp; omega)))
    clear hB2 U6 HB1
    gi_wp2_with fail
    refine ⟨trivial, (callsIn_wide.2 (awake_any _)).mono ?_⟩
    rintro e w3 ⟨rfl, hB3⟩
    have W6 := Lib.hid (Boxed.below' V6.out hB3)
    have hs2 := HB2.out.size
    have HB3 := Lib.hid (HB2.out.trans (hB3.mono (by omega)))
    clear hB3 V6 HB2
    have c6 := W6.out.cell
    have f6 := W6.out.frozen
    gi_wp2_with fail
    have hg := HB3.out.setCell (p := ⟨B + 1, 0, none⟩) (by simp) (.bool true)
    have c7 := (W6.out.set (.bool true)).cell
    simp only [bodyPostM, LeavesInM]
    exact ⟨.bool true, by simp [results, Try.f4, go_sem, c7], rfl, hB ▸ hg⟩
  have HB1 := Lib.hid (HB0.out.trans (hBo.below.mono (by omega)))
  have hlt1 : B ≤ w1.heap.size := by have := HB1.out.size; omega
  have U5 := Lib.hid (Boxed.below' T5.out hBo.below)
  have U6 := Lib.hid (Boxed.below' T6.out hBo.below)
  have hgB : B + 1 < g := by have := hBo.newg; omega
  have hw1 : B + 1 < w1.heap.size := by have := hBo.below.size; omega
  have HM1 := Lib.hid hBo.map
  have HG1 := Lib.hid hBo.bools
  clear hBo HB0 T5 T6
  gi_wp2_with fail
  refine ⟨trivial, (callsIn_wide.2 (awake_any _)).mono ?_⟩
  rintro e w2 ⟨rfl, hB2⟩
  obtain ⟨C8, hC8⟩ : ∃ C8, w1.heap.size = C8 := ⟨_, rfl⟩
  have V8 := Lib.hid (Boxed.below' (Boxed.new w1 28 (.slice (some ⟨g, 0, none⟩) n n)) hB2)
  have V5 := Lib.hid (Boxed.below' (U5.out.alloc _) hB2)
  have V6 := Lib.hid (Boxed.below' (U6.out.alloc _) hB2)
  have HM2 := Lib.hid ((HM1.out.alloc _).below hB2)
  have HG2 := Lib.hid ((HG1.out.alloc _).below hB2)
  have HB2 := Lib.hid ((HB1.out.alloc hlt1 _).trans (hB2.mono (by simp; omega)))
  clear hB2 U5 U6 HM1 HG1 HB1
  rw [hC8] at V8 ⊢
  gi_wp2_with fail
  refine ⟨trivial, (callsIn_wide.2 (all_any b w2)).mono ?_⟩
  rintro e w3 ⟨rfl, rfl⟩
  obtain ⟨D, hD⟩ : ∃ D, w2.heap.size = D := ⟨_, rfl⟩
  rw [hD]
  have heq := eqlf D
  have X9 := Boxed.new w2 23 (.pointer (some ⟨b, 0, none⟩))
  have X8 := Lib.hid (V8.out.alloc (.cells #[.pointer (some ⟨b, 0, none⟩)] 23))
  have X5 := Lib.hid (V5.out.alloc (.cells #[.pointer (some ⟨b, 0, none⟩)] 23))
  have X6 := Lib.hid (V6.out.alloc (.cells #[.pointer (some ⟨b, 0, none⟩)] 23))
  have HM3 := Lib.hid (HM2.out.alloc (.cells #[.pointer (some ⟨b, 0, none⟩)] 23))
  have HG3 := Lib.hid (HG2.out.alloc (.cells #[.pointer (some ⟨b, 0, none⟩)] 23))
  have hs2 : B ≤ w2.heap.size := by have := HB2.out.size; omega
  have HB3 := Lib.hid (HB2.out.alloc hs2 (.cells #[.pointer (some ⟨b, 0, none⟩)] 23))
  have hsz : (w2.alloc (.cells #[.pointer (some ⟨b, 0, none⟩)] 23)).heap.size = D + 1 := by rw [World.size_alloc, hD]
  rw [hD] at X9
  have X9 := Lib.hid X9
  have hlC : C8 < D := by have := V8.out.lt; omega
  clear V8 V5 V6 HM2 HG2 HB2 hs2
  generalize w2.alloc (.cells #[.pointer (some ⟨b, 0, none⟩)] 23) = w3 at *
  gi_wp2_with fail
  have hgD : g < D + 1 := by have := HG3.out.1; omega
  have hBC : B + 1 < C8 := by omega
  have Y11 := (Boxed.new w3 3 (.int .i64 (-1))).alloc (.cells #[.int .i64 0] 3)
  have Y12 := Boxed.new (w3.alloc (.cells #[.int .i64 (-1)] 3)) 3 (.int .i64 0)
  rw [World.size_alloc, hsz] at Y12
  rw [hsz] at Y11
  have Y9 := (X9.out.alloc (.cells #[.int .i64 (-1)] 3)).alloc (.cells #[.int .i64 0] 3)
  have hI : WalkI s B C8 D g n k [] ((w3.alloc (.cells #[.int .i64 (-1)] 3)).alloc (.cells #[.int .i64 0] 3)) :=
    ⟨(X5.out.alloc _).alloc _, (X6.out.alloc _).alloc _, (X8.out.alloc _).alloc _, (HG3.out.alloc _).alloc _, Y12, 0, by omega, Y11, rfl⟩
  have hs3 : B ≤ w3.heap.size := by omega
  have hB4 := (HB3.out.alloc hs3 (.cells #[.int .i64 (-1)] 3)).alloc (by simp; omega) (.cells #[.int .i64 0] 3)
  have hM4 := (HM3.out.alloc (.cells #[.int .i64 (-1)] 3)).alloc (.cells #[.int .i64 0] 3)
  have hsz4 : ((w3.alloc (.cells #[.int .i64 (-1)] 3)).alloc (.cells #[.int .i64 0] 3)).heap.size = D + 3 := by simp [hsz]
  clear X9 X8 X5 X6 HM3 HG3 HB3 Y11 Y12
  generalize (w3.alloc (.cells #[.int .i64 (-1)] 3)).alloc (.cells #[.int .i64 0] 3) = w4 at *
  refine wpIn_rangeFunc_ownF (n := 7) rfl (by decide) (gf := 70) (lb := #[.pointer (some ⟨D, 0, none⟩)]) rfl trivial (enters_of Try.func70 (by kernel_rfl) rfl)
    (all_stops (B + 1) (D + 1) (D + 1 + 1) D b bb n k w4 (by omega) (by omega) (by omega) Y9.cell (by omega) hM4) keepBut_t (fun W l o o' _ h hc _ => keepBut_b W l o o' h hc) (Below.refl _ _) (fun _ => rfl)
    (fun pre W => WalkI s B C8 D g n k pre W ∧ Below B w W) (fun c pre W => WalkX B n k c pre W ∧ Below B w W)
    (OwnFrom.and (walkI_own s B C8 D g n k _) (ownFrom_below (by omega) (by omega))) (fun c => OwnFrom.and (walkX_own B n k c _) (ownFrom_below (by omega) (by omega)))
    ⟨hI, hB4⟩ (fun x => { tmps := #[.int .i64 n, .slice a len cap, .int .i64 s, undef, undef, .pointer (some ⟨B, 0, none⟩), .pointer (some ⟨B + 1, 0, none⟩), .pointer (some ⟨b, 0, none⟩), .pointer (some ⟨C8, 0, none⟩), .bool true, .func (.func 70) #[] #[.pointer (some ⟨D, 0, none⟩)], .pointer (some ⟨D + 1, 0, none⟩), .pointer (some ⟨D + 1 + 1, 0, none⟩), .int .i64 (x : Int), .tuple #[.pointer (some ⟨b, 0, none⟩), .slice (some ⟨g, 0, none⟩) n n, .bool true], .int .i64 n, .slice a len cap, .tuple #[.pointer (some ⟨b, 0, none⟩), .slice (some ⟨g, 0, none⟩) n n, .bool true], .pointer (some ⟨b, 0, none⟩), .slice (some ⟨g, 0, none⟩) n n, .bool true, .bool true, .bool false, .bool false, .bool true, .bool false, .bool false, .bool false, .pointer (some ⟨b, 0, none⟩), .bool false, .bool false, undef, undef, undef, undef, .pointer (some ⟨b, 0, none⟩), .func (.func 70) #[] #[.pointer (some ⟨D, 0, none⟩)], .func (.func 70) #[] #[.pointer (some ⟨D, 0, none⟩)], .bool false, .func (.func 70) #[] #[.pointer (some ⟨D, 0, none⟩)], .int .i64 (x : Int), undef, undef, undef, undef, undef, undef, undef, undef, undef, undef, undef, undef, undef, undef, undef, undef], defers := [] }) ?assign ?body ?done ?stop
  case assign =>
    intro l x W K hK
    gi_wp2
    exact hK
  case body =>
    rintro l pre x W ⟨hI, hB⟩ hlen
    have hlen : pre.length < 8192 := by
      have := hM4.2.2.2.1
      have h2 := onesF_count k n
      have h3 := countK_le n k
      omega
    obtain ⟨f, hf, c11, hx⟩ := hI.c11
    have HX := Lib.hid hx
    have HI := Lib.hid hI
    have HB := Lib.hid hB
    have k8 := hI.c8.cell
    have k5 := hI.c5.cell
    have k6 := hI.c6.cell
    have f6 := hI.c6.frozen
    have k11 := c11.cell
    have f11 := c11.frozen
    have C11 := Lib.hid c11
    have HN := Lib.hid (rnext_any g n n k W (f : Int) true hI.bo)
    clear hI hB hx c11
    have hn := hM4.2.2.2.1
    gi_wp2_with fail
    refine ⟨trivial, (CallsIn.inRound l (callsIn_wide.2 HN.out)).mono ?_⟩
    rintro e w5 ⟨rfl, rfl⟩
    clear HN
    have E := walk_two HI.out hBC hlC hgD (findI n k f true) ((pre.length : Int) + 1)
    have k12 := (boxed_other HI.out.c12 (q := D + 1) (by omega) (.int .i64 (findI n k f true))).cell
    have f12 := (boxed_other HI.out.c12 (q := D + 1) (by omega) (.int .i64 (findI n k f true))).frozen
    have hBt := (HB.out.setCell (p := ⟨D + 1, 0, none⟩) (by show B ≤ D + 1; omega) (.int .i64 (findI n k f true))).setCell (p := ⟨D + 1 + 1, 0, none⟩) (by show B ≤ D + 1 + 1; omega) (.int .i64 ((pre.length : Int) + 1))
    obtain ⟨E5, E6, E8, EG, E11, E12, EK, EB⟩ := E
    have e5 := E5.cell
    have e6 := E6.cell
    have g6 := E6.frozen
    have e11 := E11.cell
    have e12 := E12.cell
    have H5 := Lib.hid E5
    have H6 := Lib.hid E6
    have H8 := Lib.hid E8
    have H11 := Lib.hid E11
    have H12 := Lib.hid E12
    have HG := Lib.hid EG
    have HK := Lib.hid EK
    have HKB := Lib.hid EB
    have HBt := Lib.hid hBt
    clear E5 E6 E8 EG E11 E12 EK EB hBt C11 HI HB
    rcases onesF_next k n f with ⟨h1, h2⟩ | ⟨q, h1, h2, h3, h4⟩
    · have hne : ¬ (pre ++ [x]) <+: onesF k n 0 := by
        rw [HX.out, h2, List.append_nil]
        intro h
        have := h.length_le
        simp at this
        omega
      have HNE := Lib.hid hne
      clear hne h2
      rw [h1] at k12 f12 e5 e6 g6 e11 e12 H5 H6 H8 H11 H12 HG HK HKB HBt ⊢
      have t1 : ((x : Int) != -1) = true := by simp
      gi_wp2_with fail
      exact ⟨HK.out.trans (KeepsOthers.setCell _ _ _), ⟨rfl, .inr ⟨H6.out.set _, HNE.out⟩⟩, HBt.out.setCell (p := ⟨B + 1, 0, none⟩) (by show B ≤ B + 1; omega) _⟩
    · have H4 := Lib.hid h4
      rw [h1] at k12 f12 e5 e6 g6 e11 e12 H5 H6 H8 H11 H12 HG HK HKB HBt ⊢
      clear h4 h1
      by_cases hxq : x = q
      · subst hxq
        have t1 : ((x : Int) != (x : Int)) = false := by simp
        by_cases hs : (pre.length : Int) + 1 = s
        · have t2 : ((pre.length : Int) + 1 == s) = true := by simp [hs]
          clear hs
          gi_wp2_with fail
          exact ⟨HK.out.trans (KeepsOthers.setCell _ _ _), ⟨rfl, .inl (H6.out.set _)⟩, HBt.out.setCell (p := ⟨B + 1, 0, none⟩) (by show B ≤ B + 1; omega) _⟩
        · have t2 : ((pre.length : Int) + 1 == s) = false := by simp [hs]
          clear hs
          gi_wp2_with fail
          have hsame : onesF k n 0 = (pre ++ [x]) ++ onesF k n (x + 1) := by rw [HX.out, H4.out]; simp
          exact ⟨HK.out, HKB.out, ⟨H5.out, H6.out, H8.out, HG.out, by rw [show ((pre ++ [x]).length : Int) = (pre.length : Int) + 1 by simp]; exact H12.out, x + 1, by omega, by rw [show (((x + 1 : Nat) : Int) - 1) = (x : Int) by omega]; exact H11.out, hsame⟩, HBt.out⟩
      · have t1 : ((x : Int) != (q : Int)) = true := by simp; omega
        gi_wp2_with fail
        have hne : ¬ (pre ++ [x]) <+: onesF k n 0 := by
          rw [HX.out, H4.out]
          intro h
          obtain ⟨t, ht⟩ := h
          rw [List.append_assoc] at ht
          have := List.append_cancel_left ht
          simp at this
          exact hxq this.1
        exact ⟨HK.out.trans (KeepsOthers.setCell _ _ _), ⟨rfl, .inr ⟨H6.out.set _, hne⟩⟩, HBt.out.setCell (p := ⟨B + 1, 0, none⟩) (by show B ≤ B + 1; omega) _⟩
  case done =>
    rintro D2 ys W hD2 rfl ⟨hI, hB⟩ hK
    have k8 := hI.c8.cell
    have k12 := hI.c12.cell
    have k6 := hI.c6.cell
    have f6 := hI.c6.frozen
    have hmix : Try.prog.follows .mixedOrders = true := by kernel_rfl
    have hbo : BoolsAt W.drew g n k := hI.bo.of_block rfl
    gi_wp2_with fail
    refine wpIn_wide.2 ?_
    refine wp_region_still_tail 4 (by kernel_rfl) (by kernel_rfl) ?_
    simp only [List.take_succ_cons, List.take_zero, List.drop_succ_cons, List.drop_zero]
    repeat still_step
    still_call ((rcount_any g n n k _ hbo).mono fun _ _ h => ⟨h.1, h.2.symm⟩)
    still_step
    refine wpStill_nil ?_
    go_wp2
    gi_wp2
    have hK' : (W.setCell ⟨B + 1, 0, none⟩ (.bool (((onesF k n 0).length : Int) == (countK n k : Int)))).drew.heap[D2]? = some (.deferred (some [])) := (KeepsOthers.setCell W ⟨B + 1, 0, none⟩ _).same D2 _ hK rfl
    have hc : Boxed (W.setCell ⟨B + 1, 0, none⟩ (.bool (((onesF k n 0).length : Int) == (countK n k : Int)))).drew (B + 1) 4 (.bool (((onesF k n 0).length : Int) == (countK n k : Int))) := hI.c6.set _
    have hB5 : Below B w (W.setCell ⟨B + 1, 0, none⟩ (.bool (((onesF k n 0).length : Int) == (countK n k : Int)))).drew := (hB.setCell (p := ⟨B + 1, 0, none⟩) (by show B ≤ B + 1; omega) _).drew
    generalize (W.setCell ⟨B + 1, 0, none⟩ (.bool (((onesF k n 0).length : Int) == (countK n k : Int)))).drew = W5 at *
    rw [onesF_count, beq_self_eq_true] at hc
    refine ⟨by simp, .inl ⟨_, _, rfl, run_takeDeferred hK', ?_⟩⟩
    have hc5 := cell_kept hc.cell (grownBy_putObj' _ D2 (.deferred none)) (fun r e => by cases e; exact ⟨_, hK', rfl⟩)
    refine ⟨.bool true, ?_, rfl, ?_⟩
    · simp [results, Try.f4, go_sem, hc5]
    · rw [hB']
      exact hB5.trans (belowK_b (w := w) (by omega) W5 D2 _ _ (by omega) hK' rfl rfl)
  case stop =>
    rintro D2 c pre W hD2 hpre ⟨⟨rfl, hx⟩, hB⟩ hK
    have h6 : Boxed W (B + 1) 4 (.bool true) := by
      rcases hx with h | ⟨_, h⟩
      · exact h
      · exact absurd hpre h
    have k6 := h6.cell
    gi_wp2
    refine ⟨by simp, .inl ⟨_, _, rfl, run_takeDeferred hK, ?_⟩⟩
    have hc5 := cell_kept k6 (grownBy_putObj' _ D2 (.deferred none)) (fun r e => by cases e; exact ⟨_, hK, rfl⟩)
    refine ⟨.bool true, ?_, rfl, ?_⟩
    · simp [results, Try.f4, go_sem, hc5]
    · rw [hB']
      exact hB.trans (belowK_b (w := w) (by omega) W D2 _ _ (by omega) hK rfl rfl)
theorem walks_c (size : Int) (a : Option Addr) (len cap : Nat) (xs : Nat → Act3) (s : Int) (w : World) (hx : Acts w a len xs) (hlen : len ≤ maxLen) :
    Calls Try.prog 4 #[.int .i64 size, .slice a len cap, .int .i64 s] w fun e w' => e = .returned (.bool true) ∧ Below w.heap.size w w' :=
  callsIn_wide.1 (walks_any size a len cap xs s w hx hlen)
end Go.Proofs.Ytffdklcpkkcohaa
