/- Contract of desk.Told. -/
import Derived.Test.YtlblnoipiappbaaWords5
namespace Go.Proofs.Ytlblnoipiappbaa
open Go.RowKit
/-- a small digit to the base 16 -/
def hexD (d : Nat) : Nat := if d < 10 then 48 + d else 87 + d
/-- how a byte is told -/
def escT (c : Nat) : List Nat := if c = 34 ∨ c = 92 then [92, c] else if 32 ≤ c ∧ c ≤ 126 then [c] else if c = 10 then [92, 110] else if c = 13 then [92, 114] else if c = 9 then [92, 116] else [92, 120, hexD (c / 16), hexD (c % 16)]
theorem escT_len (c : Nat) : 1 ≤ (escT c).length ∧ (escT c).length ≤ 4 := by
  unfold escT
  repeat' split
  all_goals simp
/-- a text told, as far as it goes -/
def tellTo (l : List Nat) : List Nat := 34 :: l.flatMap escT
theorem tellTo_snoc (l : List Nat) (c : Nat) : tellTo (l ++ [c]) = tellTo l ++ escT c := by simp [tellTo]
theorem tellTo_len (l : List Nat) : (tellTo l).length ≤ 4 * l.length + 1 := by
  induction l with
  | nil => simp [tellTo]
  | cons c r ih => have := (escT_len c).2; simp [tellTo] at ih ⊢; omega
def tellR (l : List Nat) : List Nat := tellTo l ++ [34]
theorem hexD_at : ∀ c : Fin 256, digits16[(c.val / 16)]?.map (·.toNat) = some (hexD (c.val / 16)) ∧ digits16[(c.val % 16)]?.map (·.toNat) = some (hexD (c.val % 16)) := by decide +kernel
theorem hexD_lt (c : Nat) (h : c < 16) : hexD c < 256 := by unfold hexD; split <;> omega
theorem escT_lt (c : Nat) (h : c < 256) : ∀ b ∈ escT c, b < 256 := by
  intro b hb
  unfold escT at hb
  have k1 := hexD_lt (c / 16) (by omega)
  have k2 := hexD_lt (c % 16) (by omega)
  repeat' split at hb
  all_goals (simp at hb; omega)
theorem tellTo_lt (l : List Nat) (h : ∀ b ∈ l, b < 256) : ∀ b ∈ tellTo l, b < 256 := by
  intro b hb
  simp only [tellTo, List.mem_cons, List.mem_flatMap] at hb
  rcases hb with rfl | ⟨c, hc, hb⟩
  · decide
  · exact escT_lt c (h c hc) b hb
theorem cells_at (w : World) (xs : List Value) (t : TypeId) (n : Nat) (h : n = w.heap.size) : ∀ j u, xs[j]? = some u → (w.alloc (.cells xs.toArray t)).cell? ((⟨n, 0, none⟩ : Addr).add j) = some u := by
  subst h
  intro j u hu
  rw [Addr.add_mid, Nat.zero_add, cell_of_row _ _ _ _ _ _ (heap_alloc_new w _)]
  simpa using hu
theorem bcells_append (l m : List Nat) : bcells (l ++ m) = bcells l ++ bcells m := by simp [bcells]
theorem and_15 : ∀ c : Fin 256, bits BinOp.and .u8 (c.val : Int) 15 = ((c.val % 16 : Nat) : Int) := by decide +kernel
theorem digit_at : ∀ d : Fin 16, ∀ h : d.val < (⟨#[48, 49, 50, 51, 52, 53, 54, 55, 56, 57, 97, 98, 99, 100, 101, 102]⟩ : ByteArray).size, ((⟨#[48, 49, 50, 51, 52, 53, 54, 55, 56, 57, 97, 98, 99, 100, 101, 102]⟩ : ByteArray)[d.val]).toNat = hexD d.val := by decide +kernel
theorem one_own (w : World) (x : Value) (e : Nat) : (w.alloc (.cells #[x] e)).ownsRow w.heap.size e 1 (.slice (some ⟨w.heap.size, 0, none⟩) 1 1) 1 [x] := by
  exact ⟨rfl, .inr ⟨w.heap.size, 1, #[x], rfl, Nat.le_refl _, heap_alloc_new w _, by omega, by simp [maxLen], by simp, by simp⟩⟩
theorem src_keep {w w3 : World} {B n k q : Nat} {v : Value} {xs : List Value} {C : Array Value} {o : Obj} (hO : w.ownsRow B 5 1 v n xs) (hs : w.heap[k]? = some (.cells C 5 (q, q + 1))) (hg : (w.alloc o).grownBy w3 v.ownBlock) : w3.heap[k]? = some (.cells C 5 (q, q + 1)) := by
  have hk := (Array.getElem?_eq_some_iff.1 hs).1
  have h1 : (w.alloc o).heap[k]? = some (.cells C 5 (q, q + 1)) := (Below.heap_alloc w o k hk).trans hs
  refine (hg.block k (by simp; omega) (fun e => ?_)).trans h1
  rcases hO.2 with ⟨h, _⟩ | ⟨g, cap, cur, h, _, hgg, _⟩
  · rw [h] at e; cases e
  · rw [h] at e
    simp [Value.ownBlock] at e
    subst e
    rw [hgg] at hs
    simp at hs
set_option maxRecDepth 100000 in
set_option maxHeartbeats 4000000 in
theorem told_any (s : ByteArray) (w : World) (hs : s.size ≤ 1048576) : Calls Try.prog 8 #[.string s] w fun e w' => e = .returned (.string (strOf (tellR (bys s)))) ∧ Below w.heap.size w w' := by
  obtain ⟨i0, hi, hz0, hz1, hz2⟩ := info_parts info5
  have HO0 := Lib.hid (one_own w (.int .u8 34) 5)
  have HB0 := Lib.hid ((Below.refl w.heap.size w).alloc (Nat.le_refl _) (.cells #[.int .u8 34] 5))
  have hcv := run_bytes_of_string (P := Try.prog) (w.alloc (.cells #[.int .u8 34] 5)) 9 36 5 s Try.underlying9 Try.underlying36 Try.underlying5
  obtain ⟨w2, hw2⟩ : ∃ w2, ((w.alloc (.cells #[.int .u8 34] 5)).drew.alloc (.cells (bytesRow s (grownCap (w.alloc (.cells #[.int .u8 34] 5)) s.size 0 5)) 5 ((bytesRow s (grownCap (w.alloc (.cells #[.int .u8 34] 5)) s.size 0 5)).size, (bytesRow s (grownCap (w.alloc (.cells #[.int .u8 34] 5)) s.size 0 5)).size + 1))) = w2 := ⟨_, rfl⟩
  rw [hw2] at hcv
  have HO2 : Hid (w2.ownsRow w.heap.size 5 1 (.slice (some ⟨w.heap.size, 0, none⟩) 1 1) 1 [.int .u8 34]) := Lib.hid (by rw [← hw2]; exact HO0.out.drew.alloc _)
  have HB2 : Hid (Below w.heap.size w w2) := Lib.hid (by rw [← hw2]; exact HB0.out.drew.alloc HB0.out.size _)
  obtain ⟨CC, kk, hCC, hcells⟩ : ∃ CC kk, w2.heap[w.heap.size + 1]? = some (.cells CC 5 (kk, kk + 1)) ∧ ∀ j, (h : j < s.size) → CC[j]? = some (.int .u8 (s[j].toNat : Int)) :=
    ⟨_, _, by
      have h := heap_alloc_new (w.alloc (.cells #[.int .u8 34] 5)).drew (.cells (bytesRow s (grownCap (w.alloc (.cells #[.int .u8 34] 5)) s.size 0 5)) 5 ((bytesRow s (grownCap (w.alloc (.cells #[.int .u8 34] 5)) s.size 0 5)).size, (bytesRow s (grownCap (w.alloc (.cells #[.int .u8 34] 5)) s.size 0 5)).size + 1))
      rw [hw2, show ((w.alloc (.cells #[.int .u8 34] 5)).drew).heap.size = w.heap.size + 1 by simp] at h
      exact h, fun j h => bytesRow_at s _ j h⟩
  have HS2 := Lib.hid hCC
  have HCC := Lib.hid hcells
  clear hCC hcells
  have HLT : Hid (w.heap.size + 1 < w2.heap.size) := Lib.hid (by rw [← hw2]; simp)
  generalize grownCap (w.alloc (.cells #[.int .u8 34] 5)) s.size 0 5 = cp at *
  rw [show (w.alloc (.cells #[.int .u8 34] 5)).heap.size = w.heap.size + 1 by simp] at hcv
  clear hw2 HO0 HB0
  go_enter Try.func8, Try.ntmps8
  go_wp2_with fail
  go_loopw [3, 10] (fun v i wr => ∃ p : Nat, p ≤ s.size ∧ i = .int .i64 p ∧ wr.ownsRow w.heap.size 5 1 v (tellTo ((bys s).take p)).length (bcells (tellTo ((bys s).take p))) ∧ Below w.heap.size w wr ∧ wr.heap[w.heap.size + 1]? = some (.cells CC 5 (kk, kk + 1))) (fun _ i _ => s.size - (intOf i).toNat)
  case atStart => exact ⟨0, by omega, rfl, HO2.out, HB2.out, HS2.out⟩
  case round =>
    obtain ⟨p, hp, rfl, hO, hB, hS⟩ := hrel
    have HO := Lib.hid hO
    have HB := Lib.hid hB
    have HSR := Lib.hid hS
    have hsz := hB.size
    have hlen := tellTo_len ((bys s).take p)
    rw [List.length_take, bys_len, Nat.min_eq_left hp] at hlen
    clear hO hB hS HO2 HB2 HS2
    by_cases hlt : p < s.size
    · have c0 : wr.cell? ⟨w.heap.size + 1, p, none⟩ = some (.int .u8 (s[p].toNat : Int)) := by rw [cell_of_row _ _ _ _ _ _ HSR.out]; exact HCC.out p hlt
      have HTK : Hid ((bys s).take (p + 1) = (bys s).take p ++ [s[p].toNat]) := Lib.hid (by rw [List.take_add_one, bys_at s p hlt]; rfl)
      have hc : s[p].toNat < 256 := s[p].toNat_lt
      generalize s[p].toNat = c at *
      by_cases h1 : c = 34
      · subst h1
        have HT : Hid (tellTo ((bys s).take (p + 1)) = tellTo ((bys s).take p) ++ [92, 34]) := Lib.hid (by rw [HTK.out, tellTo_snoc]; rfl)
        go_wp2_with (at_builtin; go_must (refine wpList_append_own _ rfl (.tmp 30) (.tmp 32) 36 rfl w.heap.size 5 i0 (.int .u8 0) 1 1 Try.underlying36 hi hz0 hz1 hz2 rfl (by decide) _ _ _ rfl (HO.out.alloc _) ⟨wr.heap.size, 0, none⟩ 2 2 [.int .u8 92, .int .u8 34] rfl rfl (cells_at wr [.int .u8 92, .int .u8 34] _ _ rfl) (fun u hu => by simp at hu; rcases hu with rfl | rfl <;> rfl) (by unfold maxLen; omega) (by omega) (by simp; omega) ?_); intro v' w3 hown1 hgrow1 _; have HS3 := Lib.hid (src_keep HO.out HSR.out hgrow1); have HB3 := Lib.hid ((HB.out.alloc hsz _).grown hgrow1 (by simp; omega) (fun k hk => (HO.out.lt k hk).1)); have HO3 := Lib.hid hown1; clear hown1 hgrow1)
        exact ⟨⟨p + 1, by omega, by go_num, by rw [HT.out, List.length_append, bcells_append]; exact HO3.out, HB3.out, HS3.out⟩, by simp [intOf]; omega⟩
      by_cases h2 : c = 92
      · subst h2
        have HT : Hid (tellTo ((bys s).take (p + 1)) = tellTo ((bys s).take p) ++ [92, 92]) := Lib.hid (by rw [HTK.out, tellTo_snoc]; rfl)
        clear h1
        go_wp2_with (at_builtin; go_must (refine wpList_append_own _ rfl (.tmp 30) (.tmp 32) 36 rfl w.heap.size 5 i0 (.int .u8 0) 1 1 Try.underlying36 hi hz0 hz1 hz2 rfl (by decide) _ _ _ rfl (HO.out.alloc _) ⟨wr.heap.size, 0, none⟩ 2 2 [.int .u8 92, .int .u8 92] rfl rfl (cells_at wr [.int .u8 92, .int .u8 92] _ _ rfl) (fun u hu => by simp at hu; rcases hu with rfl | rfl <;> rfl) (by unfold maxLen; omega) (by omega) (by simp; omega) ?_); intro v' w3 hown1 hgrow1 _; have HS3 := Lib.hid (src_keep HO.out HSR.out hgrow1); have HB3 := Lib.hid ((HB.out.alloc hsz _).grown hgrow1 (by simp; omega) (fun k hk => (HO.out.lt k hk).1)); have HO3 := Lib.hid hown1; clear hown1 hgrow1)
        exact ⟨⟨p + 1, by omega, by go_num, by rw [HT.out, List.length_append, bcells_append]; exact HO3.out, HB3.out, HS3.out⟩, by simp [intOf]; omega⟩
      have t1 : ((c : Int) == 34) = false := by simp; omega
      have t2 : ((c : Int) == 92) = false := by simp; omega
      by_cases h3 : 32 ≤ c ∧ c ≤ 126
      · have h3a := h3.1
        have h3b := h3.2
        have HT : Hid (tellTo ((bys s).take (p + 1)) = tellTo ((bys s).take p) ++ [c]) := Lib.hid (by rw [HTK.out, tellTo_snoc]; congr 1; unfold escT; rw [if_neg (by omega), if_pos h3])
        clear h3 h1 h2
        go_wp2_with (at_builtin; go_must (refine wpList_append_own _ rfl (.tmp 41) (.tmp 43) 36 rfl w.heap.size 5 i0 (.int .u8 0) 1 1 Try.underlying36 hi hz0 hz1 hz2 rfl (by decide) _ _ _ rfl (HO.out.alloc _) ⟨wr.heap.size, 0, none⟩ 1 1 [.int .u8 (c : Int)] rfl rfl (cells_at wr [.int .u8 (c : Int)] _ _ rfl) (fun u hu => by simp at hu; subst hu; rfl) (by unfold maxLen; omega) (by omega) (by simp; omega) ?_); intro v' w3 hown1 hgrow1 _; have HS3 := Lib.hid (src_keep HO.out HSR.out hgrow1); have HB3 := Lib.hid ((HB.out.alloc hsz _).grown hgrow1 (by simp; omega) (fun k hk => (HO.out.lt k hk).1)); have HO3 := Lib.hid hown1; clear hown1 hgrow1)
        exact ⟨⟨p + 1, by omega, by go_num, by rw [HT.out, List.length_append, bcells_append]; exact HO3.out, HB3.out, HS3.out⟩, by simp [intOf]; omega⟩
      by_cases h4 : c = 10
      · subst h4
        have HT : Hid (tellTo ((bys s).take (p + 1)) = tellTo ((bys s).take p) ++ [92, 110]) := Lib.hid (by rw [HTK.out, tellTo_snoc]; rfl)
        clear h3 h1 h2
        go_wp2_with (at_builtin; go_must (refine wpList_append_own _ rfl (.tmp 48) (.tmp 49) 36 rfl w.heap.size 5 i0 (.int .u8 0) 1 1 Try.underlying36 hi hz0 hz1 hz2 rfl (by decide) _ _ _ rfl (HO.out.alloc _) ⟨wr.heap.size, 0, none⟩ 2 2 [.int .u8 92, .int .u8 110] rfl rfl (cells_at wr [.int .u8 92, .int .u8 110] _ _ rfl) (fun u hu => by simp at hu; rcases hu with rfl | rfl <;> rfl) (by unfold maxLen; omega) (by omega) (by simp; omega) ?_); intro v' w3 hown1 hgrow1 _; have HS3 := Lib.hid (src_keep HO.out HSR.out hgrow1); have HB3 := Lib.hid ((HB.out.alloc hsz _).grown hgrow1 (by simp; omega) (fun k hk => (HO.out.lt k hk).1)); have HO3 := Lib.hid hown1; clear hown1 hgrow1)
        exact ⟨⟨p + 1, by omega, by go_num, by rw [HT.out, List.length_append, bcells_append]; exact HO3.out, HB3.out, HS3.out⟩, by simp [intOf]; omega⟩
      by_cases h5 : c = 13
      · subst h5
        have HT : Hid (tellTo ((bys s).take (p + 1)) = tellTo ((bys s).take p) ++ [92, 114]) := Lib.hid (by rw [HTK.out, tellTo_snoc]; rfl)
        clear h3 h1 h2 h4
        go_wp2_with (at_builtin; go_must (refine wpList_append_own _ rfl (.tmp 54) (.tmp 55) 36 rfl w.heap.size 5 i0 (.int .u8 0) 1 1 Try.underlying36 hi hz0 hz1 hz2 rfl (by decide) _ _ _ rfl (HO.out.alloc _) ⟨wr.heap.size, 0, none⟩ 2 2 [.int .u8 92, .int .u8 114] rfl rfl (cells_at wr [.int .u8 92, .int .u8 114] _ _ rfl) (fun u hu => by simp at hu; rcases hu with rfl | rfl <;> rfl) (by unfold maxLen; omega) (by omega) (by simp; omega) ?_); intro v' w3 hown1 hgrow1 _; have HS3 := Lib.hid (src_keep HO.out HSR.out hgrow1); have HB3 := Lib.hid ((HB.out.alloc hsz _).grown hgrow1 (by simp; omega) (fun k hk => (HO.out.lt k hk).1)); have HO3 := Lib.hid hown1; clear hown1 hgrow1)
        exact ⟨⟨p + 1, by omega, by go_num, by rw [HT.out, List.length_append, bcells_append]; exact HO3.out, HB3.out, HS3.out⟩, by simp [intOf]; omega⟩
      by_cases h6 : c = 9
      · subst h6
        have HT : Hid (tellTo ((bys s).take (p + 1)) = tellTo ((bys s).take p) ++ [92, 116]) := Lib.hid (by rw [HTK.out, tellTo_snoc]; rfl)
        clear h3 h1 h2 h4 h5
        go_wp2_with (at_builtin; go_must (refine wpList_append_own _ rfl (.tmp 60) (.tmp 61) 36 rfl w.heap.size 5 i0 (.int .u8 0) 1 1 Try.underlying36 hi hz0 hz1 hz2 rfl (by decide) _ _ _ rfl (HO.out.alloc _) ⟨wr.heap.size, 0, none⟩ 2 2 [.int .u8 92, .int .u8 116] rfl rfl (cells_at wr [.int .u8 92, .int .u8 116] _ _ rfl) (fun u hu => by simp at hu; rcases hu with rfl | rfl <;> rfl) (by unfold maxLen; omega) (by omega) (by simp; omega) ?_); intro v' w3 hown1 hgrow1 _; have HS3 := Lib.hid (src_keep HO.out HSR.out hgrow1); have HB3 := Lib.hid ((HB.out.alloc hsz _).grown hgrow1 (by simp; omega) (fun k hk => (HO.out.lt k hk).1)); have HO3 := Lib.hid hown1; clear hown1 hgrow1)
        exact ⟨⟨p + 1, by omega, by go_num, by rw [HT.out, List.length_append, bcells_append]; exact HO3.out, HB3.out, HS3.out⟩, by simp [intOf]; omega⟩
      have t4 : ((c : Int) == 10) = false := by simp; omega
      have t5 : ((c : Int) == 13) = false := by simp; omega
      have t6 : ((c : Int) == 9) = false := by simp; omega
      have HT : Hid (tellTo ((bys s).take (p + 1)) = tellTo ((bys s).take p) ++ [92, 120, hexD (c / 16), hexD (c % 16)]) := Lib.hid (by rw [HTK.out, tellTo_snoc]; congr 1; unfold escT; rw [if_neg (by omega), if_neg h3, if_neg h4, if_neg h5, if_neg h6])
      have HOd : Hid (wr.drew.ownsRow w.heap.size 5 1 u3 (tellTo ((bys s).take p)).length (bcells (tellTo ((bys s).take p)))) := Lib.hid HO.out.drew
      by_cases h7 : c < 32
      · clear h1 h2 h3 h4 h5 h6
        go_wp2_with fail
        obtain ⟨d1, hd1⟩ : ∃ d1 : Nat, c / 16 = d1 := ⟨_, rfl⟩
        obtain ⟨d2, hd2⟩ : ∃ d2 : Nat, c % 16 = d2 := ⟨_, rfl⟩
        have e1 : (c : Int) / 16 = (d1 : Int) := by omega
        have e2 : bits BinOp.and .u8 (c : Int) 15 = (d2 : Int) := by rw [← hd2]; exact and_15 ⟨c, hc⟩
        have b1 : d1 < 16 := by omega
        have b2 : d2 < 16 := by omega
        have b3 : (d1 : Int) < 16 := by omega
        have b4 : (d2 : Int) < 16 := by omega
        have g1 := digit_at ⟨d1, b1⟩
        have g2 := digit_at ⟨d2, b2⟩
        simp only at g1 g2
        rw [hd1, hd2] at HT
        generalize hexD d1 = k1 at *
        generalize hexD d2 = k2 at *
        clear hd1 hd2
        go_region_law (refine step_append_own rfl (.tmp 14) (.tmp 21) 36 rfl w.heap.size 5 i0 (.int .u8 0) 1 1 Try.underlying36 hi hz0 hz1 hz2 rfl (by decide) u3 _ _ (by simp [Act.eval]) (HOd.out.alloc _) ⟨wr.heap.size, 0, none⟩ 4 4 [.int .u8 92, .int .u8 120, .int .u8 (k1 : Int), .int .u8 (k2 : Int)] (by simp [Act.eval]) rfl (cells_at wr.drew [.int .u8 92, .int .u8 120, .int .u8 (k1 : Int), .int .u8 (k2 : Int)] _ _ rfl) (fun u hu => by simp at hu; rcases hu with rfl | rfl | rfl | rfl <;> rfl) (by unfold maxLen; omega) (by omega) (by simp; omega) ?_; intro v' w3 hown1 hgrow1 _; have HS3 := Lib.hid (src_keep HOd.out (show wr.drew.heap[w.heap.size + 1]? = _ from HSR.out) hgrow1); have HB3 := Lib.hid ((HB.out.drew.alloc (show w.heap.size ≤ wr.drew.heap.size from hsz) _).grown hgrow1 (by simp; omega) (fun k hk => (HO.out.lt k hk).1)); have HO3 := Lib.hid hown1; clear hown1 hgrow1)
        all_goals
          go_wp2_with fail
          exact ⟨⟨p + 1, by omega, by go_num, by rw [HT.out, List.length_append, bcells_append]; exact HO3.out, HB3.out, HS3.out⟩, by simp [intOf]; omega⟩
      · have h8 : 126 < c := by omega
        clear h1 h2 h3 h4 h5 h6
        go_wp2_with fail
        obtain ⟨d1, hd1⟩ : ∃ d1 : Nat, c / 16 = d1 := ⟨_, rfl⟩
        obtain ⟨d2, hd2⟩ : ∃ d2 : Nat, c % 16 = d2 := ⟨_, rfl⟩
        have e1 : (c : Int) / 16 = (d1 : Int) := by omega
        have e2 : bits BinOp.and .u8 (c : Int) 15 = (d2 : Int) := by rw [← hd2]; exact and_15 ⟨c, hc⟩
        have b1 : d1 < 16 := by omega
        have b2 : d2 < 16 := by omega
        have b3 : (d1 : Int) < 16 := by omega
        have b4 : (d2 : Int) < 16 := by omega
        have g1 := digit_at ⟨d1, b1⟩
        have g2 := digit_at ⟨d2, b2⟩
        simp only at g1 g2
        rw [hd1, hd2] at HT
        generalize hexD d1 = k1 at *
        generalize hexD d2 = k2 at *
        clear hd1 hd2
        go_region_law (refine step_append_own rfl (.tmp 14) (.tmp 21) 36 rfl w.heap.size 5 i0 (.int .u8 0) 1 1 Try.underlying36 hi hz0 hz1 hz2 rfl (by decide) u3 _ _ (by simp [Act.eval]) (HOd.out.alloc _) ⟨wr.heap.size, 0, none⟩ 4 4 [.int .u8 92, .int .u8 120, .int .u8 (k1 : Int), .int .u8 (k2 : Int)] (by simp [Act.eval]) rfl (cells_at wr.drew [.int .u8 92, .int .u8 120, .int .u8 (k1 : Int), .int .u8 (k2 : Int)] _ _ rfl) (fun u hu => by simp at hu; rcases hu with rfl | rfl | rfl | rfl <;> rfl) (by unfold maxLen; omega) (by omega) (by simp; omega) ?_; intro v' w3 hown1 hgrow1 _; have HS3 := Lib.hid (src_keep HOd.out (show wr.drew.heap[w.heap.size + 1]? = _ from HSR.out) hgrow1); have HB3 := Lib.hid ((HB.out.drew.alloc (show w.heap.size ≤ wr.drew.heap.size from hsz) _).grown hgrow1 (by simp; omega) (fun k hk => (HO.out.lt k hk).1)); have HO3 := Lib.hid hown1; clear hown1 hgrow1)
        all_goals
          go_wp2_with fail
          exact ⟨⟨p + 1, by omega, by go_num, by rw [HT.out, List.length_append, bcells_append]; exact HO3.out, HB3.out, HS3.out⟩, by simp [intOf]; omega⟩
    · obtain rfl : p = s.size := by omega
      have htk : (bys s).take s.size = bys s := List.take_of_length_le (by rw [bys_len]; omega)
      rw [htk] at HO hlen
      have hcv2 : ∀ W v n, W.ownsRow w.heap.size 5 1 v n (bcells (tellR (bys s))) → (convert 36 9 v).run Try.prog W = .ok (.string (strOf (tellR (bys s)))) W := fun W v n h => conv_own h (by
        intro b hb
        rcases List.mem_append.1 hb with hb | hb
        · exact tellTo_lt _ (bys_lt s) b hb
        · simp at hb; omega)
      have HCV := Lib.hid hcv2
      clear htk hcv2
      go_wp2_with (at_builtin; go_must (refine wpList_append_own _ rfl (.tmp 64) (.tmp 65) 36 rfl w.heap.size 5 i0 (.int .u8 0) 1 1 Try.underlying36 hi hz0 hz1 hz2 rfl (by decide) _ _ _ rfl (HO.out.alloc _) ⟨wr.heap.size, 0, none⟩ 1 1 [.int .u8 34] rfl rfl (cells_at wr [.int .u8 34] _ _ rfl) (fun u hu => by simp at hu; subst hu; rfl) (by unfold maxLen; omega) (by omega) (by simp; omega) ?_); intro v' w3 hown1 hgrow1 _; have HB3 := Lib.hid ((HB.out.alloc hsz _).grown hgrow1 (by simp; omega) (fun k hk => (HO.out.lt k hk).1)); have hcv3 := HCV.out w3 v' _ (by unfold tellR; rw [bcells_append]; exact hown1); clear hown1 hgrow1)
      go_ret
      exact ⟨rfl, HB3.out⟩
end Go.Proofs.Ytlblnoipiappbaa
