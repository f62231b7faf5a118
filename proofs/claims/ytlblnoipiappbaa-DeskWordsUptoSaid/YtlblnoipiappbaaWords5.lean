/- Contract of desk.Words. -/
import Derived.Test.YtlblnoipiappbaaWords
namespace Go.Proofs.Ytlblnoipiappbaa
open Go.RowKit
theorem info9 : (Try.prog.info? 9).map (fun i => (i.zero, i.size, i.bytes)) = some (some (.string ⟨#[]⟩), 1, 16) := by kernel_rfl
/-- words as cells of texts -/
def scells (l : List (List Nat)) : List Value := l.map fun x => Value.string (strOf x)
theorem scells_snoc (l : List (List Nat)) (x : List Nat) : scells (l ++ [x]) = scells l ++ [.string (strOf x)] := by simp [scells]
theorem scells_len (l : List (List Nat)) : (scells l).length = l.length := by simp [scells]
theorem wcells_at (L : List (List Nat × Bool)) : ∀ (i j : Nat), j < 2 → (wcells L)[i * 2 + j]? = (L[i]?).bind (fun o => [Value.string (strOf o.1), Value.bool o.2][j]?) := by
  induction L with
  | nil => intro i j _; simp [wcells]
  | cons x r ih =>
    intro i j hj
    cases i with
    | zero =>
      match j, hj with
      | 0, _ => simp [wcells]
      | 1, _ => simp [wcells]
    | succ i =>
      have := ih i j hj
      rw [show (i + 1) * 2 + j = (i * 2 + j) + 1 + 1 by omega]
      simpa [wcells] using this
def Words5Post (s : ByteArray) (w : World) (e : Ending) (w' : World) : Prop :=
  Below w.heap.size w w' ∧ ((wordsR (bys s) = none ∧ e = .returned (.tuple #[.slice none 0 0, .bool false])) ∨
    ∃ l v, wordsR (bys s) = some l ∧ e = .returned (.tuple #[v, .bool true]) ∧ l.length ≤ s.size ∧ w'.ownsRow w.heap.size 9 1 v l.length (scells (l.map (·.1))))
set_option maxRecDepth 100000 in
set_option maxHeartbeats 4000000 in
theorem words5_any (s : ByteArray) (w : World) (hs : s.size ≤ 8388608) : Calls Try.prog 5 #[.string s] w (Words5Post s w) := by
  obtain ⟨i0, hi, hz0, hz1, hz2⟩ := info_parts info9
  go_enter Try.func5, Try.ntmps5
  go_wp2_with fail
  refine (words_any s w hs).mono ?_
  rintro e w1 ⟨hB, ⟨hn, rfl⟩ | ⟨l, v, hl, rfl, hll, hO⟩⟩
  · have HB := Lib.hid hB
    have HN := Lib.hid hn
    clear hB hn
    go_wp2_with fail
    refine wp_loop_rounds 1 ?_
    rw [rounds_succ]
    go_wp2_with fail
    go_ret2
    exact ⟨HB.out, .inl ⟨HN.out, rfl⟩⟩
  · have HB := Lib.hid hB
    have HL := Lib.hid hl
    have HO := Lib.hid hO
    obtain ⟨M, hM⟩ : ∃ M, l.length = M := ⟨_, rfl⟩
    have HM := Lib.hid hM
    have hz1' := hB.size
    rw [hM] at hll
    obtain ⟨a, c, rfl, hcs⟩ : ∃ a c, v = .slice a M c ∧ (0 < M → ∃ g, a = some ⟨g, 0, none⟩ ∧ g < w1.heap.size ∧ ∀ i x, l[i]? = some x → w1.cell? ⟨g, i * 2, none⟩ = some (.string (strOf x.1)) ∧ w1.cell? ⟨g, i * 2 + 1, none⟩ = some (.bool x.2)) := by
      rw [hM] at hO
      rcases hO.2 with ⟨h1, h2⟩ | ⟨g, cap, cur, rfl, hb, hg, _⟩
      · exact ⟨none, 0, by rw [h2]; exact h1, fun h => by omega⟩
      · refine ⟨_, _, rfl, fun _ => ⟨g, rfl, (Array.getElem?_eq_some_iff.1 hg).1, fun i x hx => ?_⟩⟩
        have hi : i < M := by rw [← hM]; exact (List.getElem?_eq_some_iff.1 hx).1
        have k0 := wcells_at l i 0 (by omega)
        have k1 := wcells_at l i 1 (by omega)
        rw [hx] at k0 k1
        exact ⟨by rw [hO.cellAt (i * 2) (by omega)]; exact k0, by rw [hO.cellAt (i * 2 + 1) (by omega)]; exact k1⟩
    have HC := Lib.hid hcs
    clear hB hl hO hM hcs HO
    go_wp2_with fail
    go_loopw [6, 16] (fun vv i wr => ∃ j : Nat, j ≤ M ∧ i = .int .i64 j ∧ wr.ownsRow w1.heap.size 9 1 vv j (scells ((l.take j).map (·.1))) ∧ Below w1.heap.size w1 wr) (fun _ i _ => M - (intOf i).toNat)
    case atStart => exact ⟨0, by omega, rfl, (World.ownsRow_nil w1 w1.heap.size 9 1 : w1.ownsRow w1.heap.size 9 1 _ 0 []), Below.refl _ _⟩
    case round =>
      obtain ⟨j, hj, rfl, hO, hB⟩ := hrel
      have HO := Lib.hid hO
      have HB2 := Lib.hid hB
      have hsz := hB.size
      by_cases hlt : j < M
      · obtain ⟨g, rfl, hg, hcell⟩ := HC.out (by omega)
        have hx := List.getElem?_eq_getElem (l := l) (show j < l.length by rw [HM.out]; exact hlt)
        generalize l[j]'(show j < l.length by rw [HM.out]; exact hlt) = x at hx
        obtain ⟨k0, k1⟩ := hcell j x hx
        have c0 := (hB.cell (p := ⟨g, j * 2, none⟩) hg).trans k0
        have c1 := (hB.cell (p := ⟨g, j * 2 + 1, none⟩) hg).trans k1
        obtain ⟨cw, q⟩ := x
        have HT : Hid (scells ((l.take (j + 1)).map (·.1)) = scells ((l.take j).map (·.1)) ++ [.string (strOf cw)]) := Lib.hid (by
          rw [List.take_add_one, hx, Option.toList_some, List.map_append, List.map_cons, List.map_nil, scells_snoc])
        clear hO hB hcell hx k0 k1
        simp only at c0 c1
        have HOA := Lib.hid ((HO.out.alloc (.cells #[.string (strOf cw), .bool q] 32)).alloc (.cells #[.string (strOf cw)] 9))
        have HBA := Lib.hid ((HB2.out.alloc hsz (.cells #[.string (strOf cw), .bool q] 32)).alloc (by simp; omega) (.cells #[.string (strOf cw)] 9))
        go_wp2_with (at_builtin; go_must (refine wpList_append_own _ rfl (.tmp 20) (.tmp 23) 22 rfl w1.heap.size 9 i0 (.string ⟨#[]⟩) 1 16 Try.underlying22 hi hz0 hz1 hz2 rfl (by decide) _ _ _ rfl HOA.out ⟨wr.heap.size + 1, 0, none⟩ 1 1 [.string (strOf cw)] rfl rfl (cell_one_at (wr.alloc (.cells #[.string (strOf cw), .bool q] 32)) _ _ _ (by simp)) (fun u hu => by simp at hu; subst hu; rfl) (by unfold maxLen; omega) (by omega) (by simp; omega) ?_); intro v' w2 hown1 hgrow1 _; have HB3 := Lib.hid (HBA.out.grown hgrow1 (by simp; omega) (fun k hk => (HO.out.lt k hk).1)); have HO3 := Lib.hid hown1; clear hown1 hgrow1)
        exact ⟨⟨j + 1, by omega, by go_num, by rw [HT.out]; exact HO3.out, HB3.out⟩, by simp [intOf]; omega⟩
      · obtain rfl : j = M := by omega
        have HT : Hid (l.take j = l) := Lib.hid (List.take_of_length_le (by rw [HM.out]; omega))
        rw [HT.out] at HO
        clear hO hB
        go_wp2_with fail
        go_ret2
        exact ⟨below_trans' HB.out HB2.out, .inr ⟨l, _, HL.out, rfl, by rw [HM.out]; exact hll, by
          rw [HM.out]
          refine ⟨HO.out.1, ?_⟩
          rcases HO.out.2 with h | ⟨g, cap, cur, h1, h2, h3⟩
          · exact .inl h
          · exact .inr ⟨g, cap, cur, h1, Nat.le_trans HB.out.size h2, h3⟩⟩⟩
end Go.Proofs.Ytlblnoipiappbaa
