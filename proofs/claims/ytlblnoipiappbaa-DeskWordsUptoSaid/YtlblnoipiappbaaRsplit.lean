/- Contracts of the reference's split, Words. -/
import Derived.Test.YtlblnoipiappbaaRword
import Derived.Lib.OwnKind
import Derived.Deep.Onto
namespace Go.Proofs.Ytlblnoipiappbaa
open Go.RowKit
theorem info4 : (Try.prog.info? 4).map (fun i => (i.zero, i.size, i.bytes)) = some (some (.bool false), 1, 1) := by kernel_rfl
def qcells (l : List (List Nat × Bool)) : List Value := l.map fun x => Value.bool x.2
theorem qcells_snoc (l : List (List Nat × Bool)) (x : List Nat × Bool) : qcells (l ++ [x]) = qcells l ++ [.bool x.2] := by simp [qcells]
theorem qcells_len (l : List (List Nat × Bool)) : (qcells l).length = l.length := by simp [qcells]
def tcells (l : List (List Nat × Bool)) : List Value := l.map fun x => Value.string (strOf x.1)
theorem tcells_snoc (l : List (List Nat × Bool)) (x : List Nat × Bool) : tcells (l ++ [x]) = tcells l ++ [.string (strOf x.1)] := by simp [tcells]
theorem tcells_scells (l : List (List Nat × Bool)) : tcells l = scells (l.map (·.1)) := by simp [tcells, scells, Function.comp_def]
def RsplitPost (s : ByteArray) (w : World) (e : Ending) (w' : World) : Prop :=
  Below w.heap.size w w' ∧ ((wordsR (bys s) = none ∧ e = .returned (.tuple #[.slice none 0 0, .slice none 0 0, .bool false])) ∨
    ∃ l v v2, wordsR (bys s) = some l ∧ e = .returned (.tuple #[v, v2, .bool true]) ∧ w'.ownsRow w.heap.size 9 1 v l.length (tcells l))
structure RspI (s : ByteArray) (p : Nat) (acc : List (List Nat × Bool)) : Prop where
  so : wordsR (bys s) = (wordsR ((bys s).drop p)).map (acc ++ ·)
  len : acc.length ≤ p
theorem rwords_step {s : ByteArray} {p : Nat} {cw : List Nat} {m : Nat} {q : Bool} (hp : p ≤ s.size) (hv : wordV ((bys s).drop p) = some (cw, m, q)) :
    1 ≤ m ∧ p + m ≤ s.size ∧ (p + m = s.size → wordsR ((bys s).drop p) = some [(cw, q)]) ∧
    (∀ h : p + m < s.size, (s[p + m]'h).toNat = 32 → wordsR ((bys s).drop p) = (wordsR ((bys s).drop (p + m + 1))).map ((cw, q) :: ·)) ∧
    (∀ h : p + m < s.size, (s[p + m]'h).toNat ≠ 32 → wordsR ((bys s).drop p) = none) := by
  have hl := wordV_len hv
  rw [List.length_drop, bys_len] at hl
  have hat : ∀ h : p + m < s.size, ((bys s).drop p)[m]? = some ((s[p + m]'h).toNat) := fun h => by
    rw [List.getElem?_drop]
    exact bys_at s (p + m) h
  refine ⟨hl.1, by omega, fun h => ?_, fun h h32 => ?_, fun h h32 => ?_⟩
  · rw [wordsR_some hv, if_pos (by rw [List.length_drop, bys_len]; omega)]
  · rw [wordsR_some hv, if_neg (by rw [List.length_drop, bys_len]; omega), if_pos (by rw [hat h, h32]), List.drop_drop, Nat.add_assoc]
  · rw [wordsR_some hv, if_neg (by rw [List.length_drop, bys_len]; omega), if_neg (by rw [hat h]; intro e; injection e with e; exact h32 e)]
theorem rows_apart {w : World} {B C s1 s2 n m : Nat} {v v2 : Value} {xs ys : List Value} (h1 : w.ownsRow B 9 s1 v n xs) (h2 : w.ownsRow C 4 s2 v2 m ys) : v2.ownBlock = none ∨ v2.ownBlock ≠ v.ownBlock := by
  cases hv : v2.ownBlock with
  | none => exact .inl rfl
  | some g =>
    refine .inr fun h => ?_
    obtain ⟨c, f, hc⟩ := Lib.ownsRow_kind h2 g hv
    obtain ⟨c', f', hc'⟩ := Lib.ownsRow_kind h1 g h.symm
    rw [hc] at hc'
    cases hc'
theorem rows_apart' {w : World} {B C s1 s2 n m : Nat} {v v2 : Value} {xs ys : List Value} (h1 : w.ownsRow B 9 s1 v n xs) (h2 : w.ownsRow C 4 s2 v2 m ys) : v.ownBlock = none ∨ v.ownBlock ≠ v2.ownBlock := by
  cases hv : v.ownBlock with
  | none => exact .inl rfl
  | some g =>
    refine .inr fun h => ?_
    obtain ⟨c, f, hc⟩ := Lib.ownsRow_kind h1 g hv
    obtain ⟨c', f', hc'⟩ := Lib.ownsRow_kind h2 g h.symm
    rw [hc] at hc'
    cases hc'
set_option maxRecDepth 100000 in
set_option maxHeartbeats 4000000 in
theorem rsplit_any (s : ByteArray) (w : World) (hs : s.size ≤ 8388608) : Calls Try.prog 11 #[.string s] w (RsplitPost s w) := by
  obtain ⟨i9, hi9, hz90, hz91, hz92⟩ := info_parts info9
  obtain ⟨i4, hi4, hz40, hz41, hz42⟩ := info_parts info4
  go_enter Try.func11, Try.ntmps11
  go_wp2_with fail
  have HO0 := Lib.hid ((own_empty w 9 1).alloc (.cells #[] 4))
  have HP0 := Lib.hid ((own_empty (w.alloc (.cells #[] 9)) 4 1).mono (base' := w.heap.size) (by simp))
  have HB0 : Hid (Below w.heap.size w ((w.alloc (.cells #[] 9)).alloc (.cells #[] 4))) := Lib.hid (((Below.refl _ _).alloc (Nat.le_refl _) _).alloc (by simp) _)
  go_loopw [5, 6, 7] (fun v v2 i wr => ∃ (p : Nat) (acc : List (List Nat × Bool)), p ≤ s.size ∧ i = .int .i64 p ∧ RspI s p acc ∧ wr.ownsRow w.heap.size 9 1 v acc.length (tcells acc) ∧ wr.ownsRow w.heap.size 4 1 v2 acc.length (qcells acc) ∧ Below w.heap.size w wr) (fun _ _ i _ => s.size - (intOf i).toNat)
  case atStart => exact ⟨0, [], by omega, rfl, ⟨by simp, by simp⟩, HO0.out, by simpa [qcells] using HP0.out, HB0.out⟩
  case round =>
    obtain ⟨p, acc, hp, rfl, hI, hO, hP, hB⟩ := hrel
    have HI := Lib.hid hI
    have HO := Lib.hid hO
    have HP := Lib.hid hP
    have HB := Lib.hid hB
    have hsz := hB.size
    have hal := hI.len
    have HC := Lib.hid (rword_any s p wr hs hp)
    clear hI hO hP hB HO0 HP0 HB0
    go_wp2_with fail
    refine HC.out.mono ?_
    rintro e w5 ⟨hB5, ⟨hn, x, q, rfl⟩ | ⟨cw, n, q, hv, rfl⟩⟩
    · have HB5 := Lib.hid (below_trans' HB.out hB5)
      have HN : Hid (wordsR (bys s) = none) := Lib.hid (by rw [HI.out.so, wordsR_none hn]; rfl)
      clear hn hB5 HC
      go_wp2_with fail
      refine bodyPost_ret (v := .tuple #[.slice none 0 0, .slice none 0 0, .bool false]) (by simp [results, Try.results11, go_sem]) rfl ?_
      exact ⟨HB5.out, .inl ⟨HN.out, rfl⟩⟩
    · have HB5 := Lib.hid (below_trans' HB.out hB5)
      have HO5 := Lib.hid (HO.out.kept (only_of_below hB5 none) (own_any HO.out))
      have HP5 := Lib.hid (HP.out.kept (only_of_below hB5 none) (own_any HP.out))
      have hsz5 := HB5.out.size
      obtain ⟨hst1, hst2, hst3, hst4, hst5⟩ := rwords_step hp hv
      have tn : ((n : Int) == 0) = false := by simp; omega
      clear hv hB5 HC
      by_cases hend : p + n = s.size
      · have HW := Lib.hid (hst3 hend)
        have tend : ((p : Int) + (n : Int) == (s.size : Int)) = true := by simp; omega
        clear hst3 hst4 hst5 hend
        go_wp2_with (at_builtin; go_must (first
            | (refine wpList_append_own _ rfl (.tmp 22) (.tmp 24) 22 rfl w.heap.size 9 i9 (.string ⟨#[]⟩) 1 16 Try.underlying22 hi9 hz90 hz91 hz92 rfl (by decide) _ _ _ rfl (HO5.out.alloc _) ⟨w5.heap.size, 0, none⟩ 1 1 [.string (strOf cw)] rfl rfl (cell_one_at w5 _ _ _ rfl) (fun u hu => by simp at hu; subst hu; rfl) (by unfold maxLen; omega) (by omega) (by simp; omega) ?_; intro v' w6 hown1 hgrow1 _; have HB6 := Lib.hid ((HB5.out.alloc hsz5 _).grown hgrow1 (by simp; omega) (fun k hk => (HO5.out.lt k hk).1)); have HO6 := Lib.hid hown1; have HP6 := Lib.hid ((HP5.out.alloc _).kept hgrow1 (rows_apart HO5.out HP5.out)); have hsz6 := HB6.out.size; clear hown1 hgrow1)
            | (refine wpList_append_own _ rfl (.tmp 26) (.tmp 28) 33 rfl w.heap.size 4 i4 (.bool false) 1 1 Try.underlying33 hi4 hz40 hz41 hz42 rfl (by decide) _ _ _ rfl (HP6.out.alloc _) ⟨w6.heap.size, 0, none⟩ 1 1 [.bool q] rfl rfl (cell_one_at w6 _ _ _ rfl) (fun u hu => by simp at hu; subst hu; rfl) (by unfold maxLen; omega) (by omega) (by simp; omega) ?_; intro v2' w7 hown2 hgrow2 _; have HB7 := Lib.hid ((HB6.out.alloc hsz6 _).grown hgrow2 (by simp; omega) (fun k hk => (HP6.out.lt k hk).1)); have HP7 := Lib.hid hown2; have HO7 := Lib.hid ((HO6.out.alloc _).kept hgrow2 (rows_apart' HO6.out HP6.out)); clear hown2 hgrow2)))
        refine bodyPost_ret (v := .tuple #[v', v2', .bool true]) (by simp [results, Try.results11, go_sem]) rfl ?_
        exact ⟨HB7.out, .inr ⟨acc ++ [(cw, q)], _, _, by rw [HI.out.so, HW.out]; rfl, rfl, by rw [tcells_snoc, List.length_append]; exact HO7.out⟩⟩
      · have tend : ((p : Int) + (n : Int) == (s.size : Int)) = false := by simp; omega
        have hlt : p + n < s.size := by omega
        by_cases h32 : (s[p + n]'hlt).toNat = 32
        · have t32 : (((s[p + n]'hlt).toNat : Int) != 32) = false := by simp; omega
          have HI' : Hid (RspI s (p + n + 1) (acc ++ [(cw, q)])) := Lib.hid ⟨by rw [HI.out.so, hst4 hlt h32, Option.map_map]; congr 1; funext x; simp [Function.comp], by simp; omega⟩
          clear hst3 hst4 hst5 hend h32
          go_wp2_with (at_builtin; go_must (first
            | (refine wpList_append_own _ rfl (.tmp 22) (.tmp 24) 22 rfl w.heap.size 9 i9 (.string ⟨#[]⟩) 1 16 Try.underlying22 hi9 hz90 hz91 hz92 rfl (by decide) _ _ _ rfl (HO5.out.alloc _) ⟨w5.heap.size, 0, none⟩ 1 1 [.string (strOf cw)] rfl rfl (cell_one_at w5 _ _ _ rfl) (fun u hu => by simp at hu; subst hu; rfl) (by unfold maxLen; omega) (by omega) (by simp; omega) ?_; intro v' w6 hown1 hgrow1 _; have HB6 := Lib.hid ((HB5.out.alloc hsz5 _).grown hgrow1 (by simp; omega) (fun k hk => (HO5.out.lt k hk).1)); have HO6 := Lib.hid hown1; have HP6 := Lib.hid ((HP5.out.alloc _).kept hgrow1 (rows_apart HO5.out HP5.out)); have hsz6 := HB6.out.size; clear hown1 hgrow1)
            | (refine wpList_append_own _ rfl (.tmp 26) (.tmp 28) 33 rfl w.heap.size 4 i4 (.bool false) 1 1 Try.underlying33 hi4 hz40 hz41 hz42 rfl (by decide) _ _ _ rfl (HP6.out.alloc _) ⟨w6.heap.size, 0, none⟩ 1 1 [.bool q] rfl rfl (cell_one_at w6 _ _ _ rfl) (fun u hu => by simp at hu; subst hu; rfl) (by unfold maxLen; omega) (by omega) (by simp; omega) ?_; intro v2' w7 hown2 hgrow2 _; have HB7 := Lib.hid ((HB6.out.alloc hsz6 _).grown hgrow2 (by simp; omega) (fun k hk => (HP6.out.lt k hk).1)); have HP7 := Lib.hid hown2; have HO7 := Lib.hid ((HO6.out.alloc _).kept hgrow2 (rows_apart' HO6.out HP6.out)); clear hown2 hgrow2)))
          exact ⟨⟨p + n + 1, acc ++ [(cw, q)], by omega, by go_num, HI'.out, by rw [tcells_snoc, List.length_append]; exact HO7.out, by rw [qcells_snoc, List.length_append]; exact HP7.out, HB7.out⟩, by simp [intOf]; omega⟩
        · have t32 : (((s[p + n]'hlt).toNat : Int) != 32) = true := by simp; omega
          have HW := Lib.hid (hst5 hlt h32)
          clear hst3 hst4 hst5 hend h32
          go_wp2_with (at_builtin; go_must (first
            | (refine wpList_append_own _ rfl (.tmp 22) (.tmp 24) 22 rfl w.heap.size 9 i9 (.string ⟨#[]⟩) 1 16 Try.underlying22 hi9 hz90 hz91 hz92 rfl (by decide) _ _ _ rfl (HO5.out.alloc _) ⟨w5.heap.size, 0, none⟩ 1 1 [.string (strOf cw)] rfl rfl (cell_one_at w5 _ _ _ rfl) (fun u hu => by simp at hu; subst hu; rfl) (by unfold maxLen; omega) (by omega) (by simp; omega) ?_; intro v' w6 hown1 hgrow1 _; have HB6 := Lib.hid ((HB5.out.alloc hsz5 _).grown hgrow1 (by simp; omega) (fun k hk => (HO5.out.lt k hk).1)); have HO6 := Lib.hid hown1; have HP6 := Lib.hid ((HP5.out.alloc _).kept hgrow1 (rows_apart HO5.out HP5.out)); have hsz6 := HB6.out.size; clear hown1 hgrow1)
            | (refine wpList_append_own _ rfl (.tmp 26) (.tmp 28) 33 rfl w.heap.size 4 i4 (.bool false) 1 1 Try.underlying33 hi4 hz40 hz41 hz42 rfl (by decide) _ _ _ rfl (HP6.out.alloc _) ⟨w6.heap.size, 0, none⟩ 1 1 [.bool q] rfl rfl (cell_one_at w6 _ _ _ rfl) (fun u hu => by simp at hu; subst hu; rfl) (by unfold maxLen; omega) (by omega) (by simp; omega) ?_; intro v2' w7 hown2 hgrow2 _; have HB7 := Lib.hid ((HB6.out.alloc hsz6 _).grown hgrow2 (by simp; omega) (fun k hk => (HP6.out.lt k hk).1)); have HP7 := Lib.hid hown2; have HO7 := Lib.hid ((HO6.out.alloc _).kept hgrow2 (rows_apart' HO6.out HP6.out)); clear hown2 hgrow2)))
          refine bodyPost_ret (v := .tuple #[.slice none 0 0, .slice none 0 0, .bool false]) (by simp [results, Try.results11, go_sem]) rfl ?_
          exact ⟨HB7.out, .inl ⟨by rw [HI.out.so, HW.out]; rfl, rfl⟩⟩
def RWordsPost (s : ByteArray) (w : World) (e : Ending) (w' : World) : Prop :=
  Below w.heap.size w w' ∧ ((wordsR (bys s) = none ∧ e = .returned (.tuple #[.slice none 0 0, .bool false])) ∨
    ∃ l v, wordsR (bys s) = some l ∧ e = .returned (.tuple #[v, .bool true]) ∧ w'.ownsRow w.heap.size 9 1 v l.length (scells (l.map (·.1))))
theorem rwords_any (s : ByteArray) (w : World) (hs : s.size ≤ 8388608) : Calls Try.prog 6 #[.string s] w (RWordsPost s w) := by
  go_enter Try.func6, Try.ntmps6
  go_wp2_with fail
  refine (rsplit_any s w hs).mono ?_
  rintro e w1 ⟨hB, ⟨hn, rfl⟩ | ⟨l, v, v2, hl, rfl, hO⟩⟩
  · have HB := Lib.hid hB
    have HN := Lib.hid hn
    clear hB hn
    go_wp2_with fail
    go_ret2
    exact ⟨HB.out, .inl ⟨HN.out, rfl⟩⟩
  · have HB := Lib.hid hB
    have HL := Lib.hid hl
    rw [tcells_scells] at hO
    have HO := Lib.hid hO
    clear hB hl hO
    go_wp2_with fail
    go_ret2
    exact ⟨HB.out, .inr ⟨l, v, HL.out, rfl, HO.out⟩⟩
end Go.Proofs.Ytlblnoipiappbaa
