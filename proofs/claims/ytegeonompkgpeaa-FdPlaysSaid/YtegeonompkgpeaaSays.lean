/- 'says': what the descriptors tell is what the list tells. -/
import Derived.Test.YtegeonompkgpeaaOne
namespace Go.Proofs.Ytegeonompkgpeaa
open Go.RowKit

theorem openL_ext {st : Nat → Fd} {L : List Ro} (h : Rel st L) : openL st 64 = openL st L.length := by
  have key : ∀ d, L.length + d ≤ 64 → openL st (L.length + d) = openL st L.length := by
    intro d
    induction d with
    | zero => intro _; rfl
    | succ d ih =>
      intro hd
      have h1 := h.2 (L.length + d) (by omega)
      rw [List.getElem?_eq_none (by omega)] at h1
      have h2 : st (L.length + d) = .none := h1
      rw [← Nat.add_assoc, openL_succ, ih (by omega), h2]
      simp [Fd.none]
  have := key (64 - L.length) (by have := h.1; omega)
  rwa [show L.length + (64 - L.length) = 64 by have := h.1; omega] at this
def usesC (st : Nat → Fd) (ino : Int) (k : Nat) : Int := ((openL st k).filter (fun i => (st i.toNat).ino == ino)).length
theorem usesC_succ (st : Nat → Fd) (ino : Int) (k : Nat) : usesC st ino (k + 1) = usesC st ino k + if (st k).ino ≠ 0 ∧ (st k).ino = ino then 1 else 0 := by
  unfold usesC
  rw [openL_succ, List.filter_append]
  by_cases h : (st k).ino = 0
  · simp [h]
  · by_cases e : (st k).ino = ino
    · rw [if_neg h, if_pos ⟨h, e⟩]; simp [e]
    · rw [if_neg h, if_neg (by simp [e])]; simp [e]
theorem usesC_bd (st : Nat → Fd) (ino : Int) (k : Nat) : 0 ≤ usesC st ino k ∧ usesC st ino k ≤ k := by
  unfold usesC
  have h1 := List.length_filter_le (fun i : Int => (st i.toNat).ino == ino) (openL st k)
  have h2 := openL_len st k
  omega
theorem usesC_all (st : Nat → Fd) (ino : Int) : usesK st ino (openL st 64).length = usesC st ino 64 := by
  unfold usesK usesC; rw [List.take_length]
theorem usesC_ext {st : Nat → Fd} {L : List Ro} (h : Rel st L) (ino : Int) : usesC st ino 64 = usesC st ino L.length := by
  unfold usesC; rw [openL_ext h]
theorem box3 {w : World} {n : Nat} {a b c : Value} {t : TypeId} (h : w.heap[n]? = some (.cells #[a, b, c] t (0, 0))) :
    w.cell? ⟨n, 0, none⟩ = some a ∧ w.cell? ⟨n, 1, none⟩ = some b ∧ w.cell? ⟨n, 2, none⟩ = some c := by
  refine ⟨?_, ?_, ?_⟩ <;> rw [cell_of_row w n _ _ t (0, 0) h] <;> rfl
theorem box4 {w : World} {n : Nat} {a b c d : Value} {t : TypeId} (h : w.heap[n]? = some (.cells #[a, b, c, d] t (0, 0))) :
    w.cell? ⟨n, 0, none⟩ = some a ∧ w.cell? ⟨n, 1, none⟩ = some b ∧ w.cell? ⟨n, 2, none⟩ = some c ∧ w.cell? ⟨n, 3, none⟩ = some d := by
  refine ⟨?_, ?_, ?_, ?_⟩ <;> rw [cell_of_row w n _ _ t (0, 0) h] <;> rfl

theorem says_own0 {w : World} {n : Nat} (h : w.heap.size = n) : (w.alloc (.cells #[] 3)).ownsRow n 3 1 (.slice (some ⟨n, 0, none⟩) 0 0) 0 [] := by
  subst h
  exact World.ownsRow_made w #[] 0 (Nat.le_refl _) (by simp [maxLen]) (by simp)
theorem says_off {o : Ro} {st : Nat → Fd} {k : Nat} (h : RelAt (st k) (some o)) (ho : o.on = false) (ino : Int) : openL st (k + 1) = openL st k ∧ usesC st ino (k + 1) = usesC st ino k := by
  have hs : st k = .none := by
    rcases h with ⟨a, _⟩ | ⟨_, b⟩
    · rw [ho] at a; cases a
    · exact b
  rw [openL_succ, usesC_succ, hs]
  simp [Fd.none]
theorem says_on {o : Ro} {st : Nat → Fd} {k : Nat} (h : RelAt (st k) (some o)) (ho : o.on = true) (ino : Int) : openL st (k + 1) = openL st k ++ [(k : Int)] ∧ usesC st ino (k + 1) = usesC st ino k + if o.ino = ino then 1 else 0 := by
  rcases h with ⟨_, b, c⟩ | ⟨a, _⟩
  · rw [openL_succ, usesC_succ, b]
    simp [c]
  · rw [ho] at a; cases a
theorem says_own {w : World} {B : Nat} {v : Value} {st : Nat → Fd} {k : Nat} (hs : openL st (k + 1) = openL st k ++ [(k : Int)])
    (h : w.ownsRow B 3 1 v ((openL st k).length + 1) (i64s (openL st k) ++ [.int .i64 k])) : w.ownsRow B 3 1 v (openL st (k + 1)).length (i64s (openL st (k + 1))) := by
  rw [hs]; simpa [i64s] using h
theorem says_ne {W wr : World} {g cap B n : Nat} {L : List Ro} {v : Value} {xs : List Value} (h : RefAt W g cap L) (ho : wr.ownsRow B 3 1 v n xs) (hz : W.heap.size ≤ B) : some g ≠ v.ownBlock := by
  intro e
  have := (ho.lt g e.symm).1
  have := h.1
  omega
theorem says_below {W wr w4 : World} {o : Obj} {B n : Nat} {v : Value} {xs : List Value} (hb : Below B W wr) (hg : (wr.alloc o).grownBy w4 v.ownBlock) (ho : wr.ownsRow B 3 1 v n xs) (h1 : W.heap.size ≤ wr.heap.size) (h2 : B ≤ W.heap.size) : Below B W w4 :=
  (hb.alloc (by omega) o).grown hg (by simp; omega) (fun q hq => (ho.lt q hq).1)
theorem says_calls (b : Nat) (st : Nat → Fd) (ino : Int) (w : World) (hf : FdsAt w b st) {k : Nat} (h1 : openL st 64 = openL st k) (h2 : usesK st ino (openL st 64).length = usesC st ino k) :
    (Calls Try.prog 24 #[.pointer (some ⟨b, 0, none⟩)] w fun e w' => ∃ a cap, e = .returned (.slice a (openL st k).length cap) ∧
      (0 < (openL st k).length → ∃ g, a = some ⟨g, 0, none⟩ ∧ w.heap.size ≤ g ∧ g < w'.heap.size ∧ ∀ i, i < (openL st k).length → w'.cell? ⟨g, i, none⟩ = (i64s (openL st k))[i]? ∧ w'.frozen? ⟨g, i, none⟩ = false) ∧ Below w.heap.size w w') ∧
    (Calls Try.prog 23 #[.pointer (some ⟨b, 0, none⟩), .int .i64 ino] w fun e w' => e = .returned (.int .i64 (usesC st ino k)) ∧ Below w.heap.size w w') ∧
    (Calls Try.prog 15 #[.pointer (some ⟨b, 0, none⟩)] w fun e w' => e = .returned (.int .i64 (openL st k).length) ∧ Below w.heap.size w w') := by
  refine ⟨?_, ?_, ?_⟩
  · have := all_sl b st w hf; rwa [h1] at this
  · have := uses_any b st ino w hf; rwa [h2] at this
  · have := len_any b st w hf; rwa [h1] at this
/-- a row of numbers, still there later -/
theorem says_keep {w w' : World} {a : Option Addr} {B n : Nat} {xs : List Value}
    (h : 0 < n → ∃ g, a = some ⟨g, 0, none⟩ ∧ B ≤ g ∧ g < w.heap.size ∧ ∀ i, i < n → w.cell? ⟨g, i, none⟩ = xs[i]? ∧ w.frozen? ⟨g, i, none⟩ = false) (hb : Below w.heap.size w w') :
    0 < n → ∃ g, a = some ⟨g, 0, none⟩ ∧ B ≤ g ∧ g < w'.heap.size ∧ ∀ i, i < n → w'.cell? ⟨g, i, none⟩ = xs[i]? ∧ w'.frozen? ⟨g, i, none⟩ = false := by
  intro hn
  obtain ⟨g, h1, h2, h3, h4⟩ := h hn
  exact ⟨g, h1, h2, Nat.lt_of_lt_of_le h3 hb.size, fun i hi => ⟨(hb.cell (p := ⟨g, i, none⟩) h3).trans (h4 i hi).1, (hb.frozen (p := ⟨g, i, none⟩) h3).trans (h4 i hi).2⟩⟩
theorem says_lt {w wr : World} {g cap B : Nat} {L : List Ro} (h : RefAt w g cap L) (hb : Below B w wr) : g < wr.heap.size := Nat.lt_of_lt_of_le h.1 hb.size
theorem cell_alloc_old (w : World) (o : Obj) (p : Addr) (h : p.block < w.heap.size) : (w.alloc o).cell? p = w.cell? p := World.cell?_of_block (Below.heap_alloc w o p.block h)
set_option maxHeartbeats 2000000 in
theorem says_any (b g cap : Nat) (L : List Ro) (st : Nat → Fd) (fd ino : Int) (w : World) (hf : FdsAt w b st) (hr : RefAt w g cap L) (hrel : Rel st L) :
    Calls Try.prog 19 #[.pointer (some ⟨b, 0, none⟩), .slice (some ⟨g, 0, none⟩) L.length cap, .int .i64 fd, .int .i64 ino] w fun e w' => e = .returned (.bool true) ∧ Below w.heap.size w w' := by
  have HGET := Lib.hid (rget_st (.slice (some ⟨g, 0, none⟩) L.length cap) st fd)
  have HREF := Lib.hid hr
  have HREL := Lib.hid hrel
  obtain ⟨n, hn⟩ : ∃ n, n = L.length := ⟨_, rfl⟩
  have HN := Lib.hid hn
  have hg := hr.1
  have hb := hf.1
  have hL := hrel.1
  rw [← hn] at hL HGET ⊢
  clear hn hr hrel
  go_enter Try.func19, Try.ntmps19
  go_wp2_with fail
  refine (get_x b st fd _ hf).mono ?_
  rintro e w1 ⟨rfl, hB1⟩
  have hf1 := hf.below hB1
  have hsz1 := hB1.size
  have HR1 := Lib.hid (HREF.out.below hB1)
  have HB1 := Lib.hid hB1
  clear hB1
  go_wp2_with fail
  refine (HGET.out _ ⟨g, cap, L, by rw [HN.out], HR1.out.alloc _, HREL.out⟩).mono ?_
  rintro e w2 ⟨rfl, hB2⟩
  have hsz2 := hB2.size
  have hx := hB2.block w1.heap.size (by simp)
  rw [heap_alloc_new] at hx
  have HX := Lib.hid hx
  have hf2 := (hf1.alloc _).below hB2
  have HR2 := Lib.hid ((HR1.out.alloc _).below hB2)
  have HB2 := Lib.hid hB2
  clear hB2 hx hf1
  go_wp2_with fail
  have HSZ3 := Lib.hid (show (w2.alloc (Obj.cells #[.bool (getE st fd == 0), .int .i64 (getX st fd).ino, .int .i64 (getX st fd).flags, .int .i64 (getX st fd).pos] 62)).heap.size = w2.heap.size + 1 by simp)
  have HY := Lib.hid (heap_alloc_new w2 (Obj.cells #[.bool (getE st fd == 0), .int .i64 (getX st fd).ino, .int .i64 (getX st fd).flags, .int .i64 (getX st fd).pos] 62))
  have HX3 := Lib.hid ((Below.heap_alloc w2 (Obj.cells #[.bool (getE st fd == 0), .int .i64 (getX st fd).ino, .int .i64 (getX st fd).flags, .int .i64 (getX st fd).pos] 62) w1.heap.size (by simp at hsz2; omega)).trans HX.out)
  have HF3 := Lib.hid (hf2.alloc (Obj.cells #[.bool (getE st fd == 0), .int .i64 (getX st fd).ino, .int .i64 (getX st fd).flags, .int .i64 (getX st fd).pos] 62))
  have HR3 := Lib.hid (HR2.out.alloc (Obj.cells #[.bool (getE st fd == 0), .int .i64 (getX st fd).ino, .int .i64 (getX st fd).flags, .int .i64 (getX st fd).pos] 62))
  have HB3 := Lib.hid ((below_trans' (HB1.out.alloc hsz1 _) HB2.out).alloc (by simp at hsz2; omega) (Obj.cells #[.bool (getE st fd == 0), .int .i64 (getX st fd).ino, .int .i64 (getX st fd).flags, .int .i64 (getX st fd).pos] 62))
  simp at hsz2
  generalize (w2.alloc (Obj.cells #[.bool (getE st fd == 0), .int .i64 (getX st fd).ino, .int .i64 (getX st fd).flags, .int .i64 (getX st fd).pos] 62)) = W3 at *
  clear hf2
  have hz : W3.heap.size ≤ w2.heap.size + 1 ∧ w2.heap.size + 1 ≤ W3.heap.size := ⟨by rw [HSZ3.out]; omega, by rw [HSZ3.out]; omega⟩
  have hz1 := hz.1
  have hz2 := hz.2
  clear hz
  obtain ⟨i0, hi, hq0, hq1, hq2⟩ := info_parts info3
  go_loopw [13, 14, 15] (fun u a i wr => ∃ k : Nat, k ≤ n ∧ i = .int .i64 k ∧ u = .int .i64 (usesC st ino k) ∧ wr.ownsRow (w2.heap.size + 1) 3 1 a (openL st k).length (i64s (openL st k)) ∧ Below (w2.heap.size + 1) W3 wr) (fun _ _ i _ => n - (intOf i).toNat)
  case atStart => exact ⟨0, by omega, rfl, rfl, says_own0 HSZ3.out, (Below.refl _ _).alloc (by omega) _⟩
  case round =>
    obtain ⟨k, hk, rfl, rfl, hown, hbel⟩ := hrel
    have hbd := usesC_bd st ino k
    have hszr := hbel.size
    by_cases hlt : k < n
    · have hk' : k < L.length := by rw [← HN.out]; exact hlt
      obtain ⟨o, hx⟩ : ∃ o, L[k]? = some o := ⟨_, List.getElem?_eq_getElem hk'⟩
      have hRr : RefAt wr g cap L := HR3.out.of_block (hbel.block g (by have := HR3.out.1; omega))
      obtain ⟨c0, c1, c2, c3⟩ := hRr.cells hx
      have hrl := HREL.out.2 k (by omega)
      rw [hx] at hrl
      have HRL := Lib.hid hrl
      have hLl := openL_len st k
      have HO := Lib.hid hown
      have HBL := Lib.hid hbel
      clear hrl hx hRr hown hbel c2 c3
      cases ho : o.on
      · rw [ho] at c0
        have HS := Lib.hid (says_off HRL.out ho ino)
        clear ho
        go_wp2
        go_roundw
        case rel => exact ⟨k + 1, by omega, by go_num, by rw [HS.out.2], by rw [HS.out.1]; exact HO.out, HBL.out⟩
        case measure => simp [intOf]; omega
      · rw [ho] at c0
        have HS := Lib.hid (says_on HRL.out ho ino)
        clear ho
        by_cases he : o.ino = ino
        · have he' : (o.ino == ino) = true := by simp [he]
          have HE := Lib.hid he
          clear he
          go_wp2_with (at_builtin; go_must (refine wpList_append_own _ rfl (.tmp 42) (.tmp 44) 48 rfl (w2.heap.size + 1) 3 i0 (.int .i64 0) 1 8 Try.underlying48 hi hq0 hq1 hq2 rfl (by decide) _ _ _ rfl (HO.out.alloc _) ⟨wr.heap.size, 0, none⟩ 1 1 [.int .i64 k] rfl rfl (cell_one_new wr _ _) (fun u hu => by simp at hu; subst hu; rfl) (by unfold maxLen; omega) (by omega) (by simp; omega) ?_); intro v2 w4 hown2 hgrow2 _; have hc1 := World.grownBy.cell hgrow2 (a := ⟨g, k * 4 + 1, none⟩) (v := .int .i64 o.ino) (by rw [cell_alloc_old _ _ _ (by exact says_lt HR3.out HBL.out)]; exact c1) (says_ne HR3.out HO.out hz1); have HO2 := Lib.hid (says_own HS.out.1 hown2); have HB2 := Lib.hid (says_below HBL.out hgrow2 HO.out hszr hz2); clear hown2 hgrow2)
          go_roundw
          case rel => exact ⟨k + 1, by omega, by go_num, by rw [HS.out.2, if_pos HE.out], HO2.out, HB2.out⟩
          case measure => simp [intOf]; omega
        · have he' : (o.ino == ino) = false := by simp [he]
          have HE := Lib.hid he
          clear he
          go_wp2_with (at_builtin; go_must (refine wpList_append_own _ rfl (.tmp 42) (.tmp 44) 48 rfl (w2.heap.size + 1) 3 i0 (.int .i64 0) 1 8 Try.underlying48 hi hq0 hq1 hq2 rfl (by decide) _ _ _ rfl (HO.out.alloc _) ⟨wr.heap.size, 0, none⟩ 1 1 [.int .i64 k] rfl rfl (cell_one_new wr _ _) (fun u hu => by simp at hu; subst hu; rfl) (by unfold maxLen; omega) (by omega) (by simp; omega) ?_); intro v2 w4 hown2 hgrow2 _; have hc1 := World.grownBy.cell hgrow2 (a := ⟨g, k * 4 + 1, none⟩) (v := .int .i64 o.ino) (by rw [cell_alloc_old _ _ _ (by exact says_lt HR3.out HBL.out)]; exact c1) (says_ne HR3.out HO.out hz1); have HO2 := Lib.hid (says_own HS.out.1 hown2); have HB2 := Lib.hid (says_below HBL.out hgrow2 HO.out hszr hz2); clear hown2 hgrow2)
          go_roundw
          case rel => exact ⟨k + 1, by omega, by go_num, by rw [HS.out.2, if_neg HE.out]; go_num, HO2.out, HB2.out⟩
          case measure => simp [intOf]; omega
    · obtain rfl : k = n := by omega
      have hOL : openL st 64 = openL st k := by rw [openL_ext HREL.out, ← HN.out]
      have hUS : usesK st ino (openL st 64).length = usesC st ino k := by rw [usesC_all, usesC_ext HREL.out ino, ← HN.out]
      have hXr := (hbel.block w1.heap.size (by omega)).trans HX3.out
      have hYr := (hbel.block w2.heap.size (by omega)).trans HY.out
      have hFr := HF3.out.of_block (hbel.block b (by have := HF3.out.1; omega))
      have hLl := openL_len st k
      obtain ⟨a1, p1, rfl, hS⟩ := owns_shape hown
      have HS := Lib.hid hS
      have HC := Lib.hid (fun w h => says_calls b st ino w h hOL hUS)
      have HBr : Hid (Below w.heap.size w wr) := Lib.hid (HB3.out.trans (hbel.mono (by omega)))
      have HXr := Lib.hid hXr
      have HYr := Lib.hid hYr
      clear hOL hUS hS hown hXr hYr
      go_wp2_with fail
      refine (HC.out _ hFr).1.mono ?_
      rintro e w4 ⟨a4, p4, rfl, h4, hB4⟩
      have hF4 := hFr.below hB4
      have H4 := Lib.hid h4
      obtain ⟨x0, x1, x2⟩ := box3 ((hB4.block w1.heap.size (by omega)).trans HXr.out)
      obtain ⟨y0, y1, y2, y3⟩ := box4 ((hB4.block w2.heap.size (by omega)).trans HYr.out)
      have HS4 := Lib.hid (says_keep HS.out hB4)
      have HB4 := Lib.hid (below_trans' HBr.out hB4)
      clear h4 hB4 hFr hbel
      go_wp2_with fail
      refine (HC.out _ hF4).2.1.mono ?_
      rintro e w5 ⟨rfl, hB5⟩
      have hF5 := hF4.below hB5
      have HS5 := Lib.hid (says_keep HS4.out hB5)
      have H5 := Lib.hid (says_keep H4.out hB5)
      have HB5 := Lib.hid (below_trans' HB4.out hB5)
      clear hB5 hF4
      go_wp2_with fail
      refine (HC.out _ hF5).2.2.mono ?_
      rintro e w6 ⟨rfl, hB6⟩
      have HS6 := Lib.hid (says_keep HS5.out hB6)
      have H6 := Lib.hid (says_keep H5.out hB6)
      have HB6 := Lib.hid (below_trans' HB5.out hB6)
      clear hB6 hF5 x0 x1 x2 y0 y1 y2 y3
      have hm64 : (openL st k).length ≤ 64 := by omega
      go_wp2_with fail
      go_loopw [17] (fun i wq => ∃ j q : Nat, j ≤ (openL st k).length ∧ i = .int .i64 j ∧ wq = w6.drewN q) (fun i _ => (openL st k).length - (intOf i).toNat)
      case atStart => exact ⟨0, 0, by omega, rfl, rfl⟩
      case round =>
        obtain ⟨j, q, hj, rfl, rfl⟩ := hrel
        by_cases hjm : j < (openL st k).length
        · obtain ⟨g1, rfl, -, hg1, hc1⟩ := HS6.out (by omega)
          obtain ⟨g4, rfl, -, hg4, hc4⟩ := H6.out (by omega)
          obtain ⟨x, hx⟩ : ∃ x, (openL st k)[j]? = some x := ⟨_, List.getElem?_eq_getElem hjm⟩
          have c1 : w6.cell? ⟨g1, j, none⟩ = some (.int .i64 x) := by rw [(hc1 j hjm).1]; simp [i64s, hx]
          have c4 : w6.cell? ⟨g4, j, none⟩ = some (.int .i64 x) := by rw [(hc4 j hjm).1]; simp [i64s, hx]
          clear hc1 hc4 hx
          go_wp2
          go_quiet (fail)
          go_wp2
          go_roundw
          case rel => exact ⟨j + 1, _, by omega, by go_num, rfl⟩
          case measure => simp [intOf]; omega
        · go_wp2
          go_ret
          exact ⟨rfl, below_drewN HB6.out q⟩
end Go.Proofs.Ytegeonompkgpeaa
