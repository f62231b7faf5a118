/- Contracts of package bits' functions: Either, Less, Cross, Of, Runs. -/
import Derived.Test.YtffdklcpkkcohaaMap4
import Derived.Test.YtffdklcpkkcohaaRunsMath
namespace Go.Proofs.Ytffdklcpkkcohaa
open Go.RowKit
section
variable (b1 bb1 n1 : Nat) (k1 : Nat → Bool) (b2 bb2 n2 : Nat) (k2 : Nat → Bool) (w : World)
theorem either_any (h1 : MapAt w b1 bb1 n1 k1) (h2 : MapAt w b2 bb2 n2 k2) : Calls Try.prog 38 #[.pointer (some ⟨b1, 0, none⟩), .pointer (some ⟨b2, 0, none⟩)] w (BothPost n1 n2 (fun p => k1 p || k2 p) w) := by
  have H := Lib.hid (both_any 76 _ _ either_op b1 bb1 n1 k1 b2 bb2 n2 k2 w h1 h2)
  go_enter Try.func38, Try.ntmps38
  go_wp2_with fail
  refine H.out.mono ?_
  rintro e w' (⟨hn, rfl, rfl⟩ | ⟨hn, b, bb, rfl, hr⟩)
  · have HN := Lib.hid hn
    clear hn
    go_wp2
    go_ret2
    exact .inl ⟨HN.out, rfl, rfl⟩
  · have HN := Lib.hid hn
    have HR := Lib.hid hr
    clear hn hr
    go_wp2
    go_ret2
    exact .inr ⟨HN.out, b, bb, rfl, HR.out⟩
theorem mless_any (h1 : MapAt w b1 bb1 n1 k1) (h2 : MapAt w b2 bb2 n2 k2) : Calls Try.prog 39 #[.pointer (some ⟨b1, 0, none⟩), .pointer (some ⟨b2, 0, none⟩)] w (BothPost n1 n2 (fun p => k1 p && !k2 p) w) := by
  have H := Lib.hid (both_any 77 _ _ less_op b1 bb1 n1 k1 b2 bb2 n2 k2 w h1 h2)
  go_enter Try.func39, Try.ntmps39
  go_wp2_with fail
  refine H.out.mono ?_
  rintro e w' (⟨hn, rfl, rfl⟩ | ⟨hn, b, bb, rfl, hr⟩)
  · have HN := Lib.hid hn
    clear hn
    go_wp2
    go_ret2
    exact .inl ⟨HN.out, rfl, rfl⟩
  · have HN := Lib.hid hn
    have HR := Lib.hid hr
    clear hn hr
    go_wp2
    go_ret2
    exact .inr ⟨HN.out, b, bb, rfl, HR.out⟩
theorem mcross_any (h1 : MapAt w b1 bb1 n1 k1) (h2 : MapAt w b2 bb2 n2 k2) : Calls Try.prog 40 #[.pointer (some ⟨b1, 0, none⟩), .pointer (some ⟨b2, 0, none⟩)] w (BothPost n1 n2 (fun p => k1 p && k2 p) w) := by
  have H := Lib.hid (both_any 78 _ _ cross_op b1 bb1 n1 k1 b2 bb2 n2 k2 w h1 h2)
  go_enter Try.func40, Try.ntmps40
  go_wp2_with fail
  refine H.out.mono ?_
  rintro e w' (⟨hn, rfl, rfl⟩ | ⟨hn, b, bb, rfl, hr⟩)
  · have HN := Lib.hid hn
    clear hn
    go_wp2
    go_ret2
    exact .inl ⟨HN.out, rfl, rfl⟩
  · have HN := Lib.hid hn
    have HR := Lib.hid hr
    clear hn hr
    go_wp2
    go_ret2
    exact .inr ⟨HN.out, b, bb, rfl, HR.out⟩
end
/-! Runs -/
def runCells (l : List (Nat × Nat)) : List Value := l.flatMap fun x => [.int .i64 x.1, .int .i64 x.2]
theorem runCells_append (l m : List (Nat × Nat)) : runCells (l ++ m) = runCells l ++ runCells m := by simp [runCells]
theorem runCells_len (l : List (Nat × Nat)) : (runCells l).length = l.length * 2 := by
  induction l with
  | nil => rfl
  | cons o l ih => simp only [runCells, List.flatMap_cons, List.length_append, List.length_cons, List.length_nil] at ih ⊢; omega
theorem runCells_at (L : List (Nat × Nat)) : ∀ (i j : Nat), j < 2 → (runCells L)[i * 2 + j]? = (L[i]?).bind (fun o => [Value.int .i64 o.1, Value.int .i64 o.2][j]?) := by
  induction L with
  | nil => intro i j _; simp [runCells]
  | cons o L ih =>
    intro i j hj
    have e : runCells (o :: L) = [Value.int .i64 o.1, Value.int .i64 o.2] ++ runCells L := rfl
    rw [e]
    cases i with
    | zero => rw [List.getElem?_append_left (by simp; omega)]; simp
    | succ i => rw [List.getElem?_append_right (by simp; omega), show (i + 1) * 2 + j - [Value.int .i64 o.1, Value.int .i64 o.2].length = i * 2 + j by simp; omega, ih i j hj]; simp
def RunsPost (E : Nat) (l : List (Nat × Nat)) (w : World) (e : Ending) (w' : World) : Prop :=
  ∃ v, e = .returned v ∧ w'.ownsRow w.heap.size E 2 v l.length (runCells l) ∧ Below w.heap.size w w'
theorem info99 : (Try.prog.info? 99).map (fun i => (i.zero, i.size, i.bytes)) = some (some (.agg #[.int .i64 0, .int .i64 0]), 2, 16) := by kernel_rfl
theorem cell_two_at (w : World) (a b : Value) (t : TypeId) (n : Nat) (h : n = w.heap.size) : ∀ j u, [a, b][j]? = some u → (w.alloc (.cells #[a, b] t)).cell? ((⟨n, 0, none⟩ : Addr).add j) = some u := by
  subst h
  intro j u hu
  rw [Addr.add_mid, Nat.zero_add, cell_of_row _ _ j _ t (0, 0) (heap_alloc_new w _)]
  simpa using hu
theorem two_one (a b : Int) : ∀ u ∈ [Value.int .i64 a, .int .i64 b], u.oneCell' = true := by
  intro u hu
  simp at hu
  rcases hu with rfl | rfl <;> rfl
theorem findI_one (n : Nat) (k : Nat → Bool) (f : Nat) (one : Bool) : (∃ q : Nat, findI n k f one = q ∧ f ≤ q ∧ q < n ∧ k q = one ∧ ∀ j, f ≤ j → j < q → k j ≠ one) ∨ (findI n k f one = -1 ∧ ∀ j, f ≤ j → j < n → k j ≠ one) := by
  have e : findI n k f one = findR k one (n - f) f := by
    unfold findI; rw [show (max (f : Int) 0).toNat = f by omega]
  rw [e]
  rcases findR_spec k one (n - f) f with ⟨q, h1, h2, h3, h4, h5⟩ | ⟨h1, h2⟩
  · exact .inl ⟨q, h1, h2, by omega, h4, h5⟩
  · exact .inr ⟨h1, fun j a b => h2 j a (by omega)⟩
theorem runs_next {n : Nat} {k : Nat → Bool} {f : Nat} (hf : f ≤ n) (hb : ¬ k f = true ∨ f = n ∨ f = 0) : (∃ q : Nat, findI n k f true = q ∧ f ≤ q ∧ q < n ∧ k q = true ∧ rs k q = rs k f ∧ (f = 0 ∧ q = 0 ∨ ¬ (0 < q ∧ k (q - 1) = true))) ∨ (findI n k f true = -1 ∧ rs k n = rs k f) := by
  rcases findI_one n k f true with ⟨q, h1, h2, h3, h4, h5⟩ | ⟨h1, h2⟩
  · refine .inl ⟨q, h1, h2, h3, h4, ?_, ?_⟩
    · have := rs_zeros k f (q - f) (fun j a b => by have := h5 j a (by omega); simpa using this)
      rwa [show f + (q - f) = q by omega] at this
    · by_cases hq : q = 0
      · exact .inl ⟨by omega, hq⟩
      · refine .inr fun hc => ?_
        by_cases e : q = f
        · subst e
          rcases hb with hb | hb | hb
          · exact hb h4
          · omega
          · exact hq hb
        · exact h5 (q - 1) (by omega) (by omega) hc.2
  · refine .inr ⟨h1, ?_⟩
    have := rs_zeros k f (n - f) (fun j a b => by have := h2 j a (by omega); simpa using this)
    rwa [show f + (n - f) = n by omega] at this
theorem runs_own {w : World} {B E : Nat} {v : Value} {l l' : List (Nat × Nat)} {a b : Int} {x y : Nat} (h : l' = l ++ [(x, y)]) (hx : a = x) (hy : b = y) (ho : w.ownsRow B E 2 v (l.length + 1) (runCells l ++ [.int .i64 a, .int .i64 b])) : w.ownsRow B E 2 v l'.length (runCells l') := by
  subst h hx hy
  rw [runCells_append]; simpa [runCells] using ho
def mz (n : Nat) (v : Value) : Nat := if intOf v < 0 then 0 else n + 1 - (intOf v).toNat
theorem mz_pos (n q : Nat) : mz n (.int .i64 q) = n + 1 - q := by
  show (if (q : Int) < 0 then 0 else n + 1 - (q : Int).toNat) = _
  rw [if_neg (by omega)]; rfl
theorem mz_neg (n : Nat) : mz n (.int .i64 (-1)) = 0 := rfl
theorem runs_step {k : Nat → Bool} {q T : Nat} (hp : ¬ (0 < q ∧ k (q - 1) = true)) (hqT : q < T) (hall : ∀ j, q ≤ j → j < T → k j ≠ false) : rs k T = rs k q ++ [(q, T - 1)] := by
  have := rs_ones k q hp (T - q - 1) (fun j a b => by have := hall j a (by omega); simpa using this)
  rwa [show q + (T - q - 1) + 1 = T by omega, show q + (T - q - 1) = T - 1 by omega] at this
theorem runs_prev {f q0 q : Nat} {k : Nat → Bool} (h : f = 0 ∧ q = 0 ∨ ¬ (0 < q ∧ k (q - 1) = true)) (_ : q0 < f) : ¬ (0 < q ∧ k (q - 1) = true) := by
  rcases h with ⟨_, h⟩ | h
  · omega
  · exact h
set_option maxRecDepth 100000 in
set_option maxHeartbeats 1000000 in
theorem runs_any (b bb n : Nat) (k : Nat → Bool) (w : World) (hm : MapAt w b bb n k) : Calls Try.prog 56 #[.pointer (some ⟨b, 0, none⟩)] w (RunsPost 99 (rs k n) w) := by
  have hn := hm.2.2.2.1
  obtain ⟨i0, hi, hz0, hz1, hz2⟩ := info_parts info99
  have hstart := runs_next (n := n) (k := k) (f := 0) (by omega) (.inr (.inr rfl))
  have HX := Lib.hid (next_any b bb n k w 0 hm)
  have hex : ∃ f0 : Int, findI n k ((0 : Nat) : Int) true = f0 ∧ ((∃ q : Nat, f0 = q ∧ q < n ∧ k q = true ∧ rs k q = [] ∧ ¬ (0 < q ∧ k (q - 1) = true)) ∨ (f0 = -1 ∧ rs k n = [])) := by
    rcases hstart with ⟨q, h1, h2, h3, h4, h5, h6⟩ | ⟨h1, h2⟩
    · refine ⟨_, rfl, .inl ⟨q, h1, h3, h4, h5, ?_⟩⟩
      rcases h6 with ⟨_, h6⟩ | h6
      · omega
      · exact h6
    · exact ⟨_, rfl, .inr ⟨h1, h2⟩⟩
  obtain ⟨f0, hf0, hcase⟩ := hex
  have hf0' : findI n k 0 true = f0 := hf0
  rw [hf0'] at HX
  have HC := Lib.hid hcase
  clear hstart hcase hf0 hf0'
  go_enter Try.func56, Try.ntmps56
  go_wp2_with (go_at_call 55; refine HX.out.mono ?_; rintro e w' ⟨rfl, rfl⟩)
  go_loopw [3, 4, 5] (fun v f _ wr => ∃ m : Nat, wr.ownsRow w.heap.size 99 2 v (rs k m).length (runCells (rs k m)) ∧ Below w.heap.size w wr ∧ ((f = .int .i64 m ∧ m < n ∧ k m = true ∧ ¬ (0 < m ∧ k (m - 1) = true)) ∨ (f = .int .i64 (-1) ∧ m = n))) (fun _ f _ _ => mz n f)
  case atStart =>
    rcases HC.out with ⟨q, rfl, h2, h3, h4, h5⟩ | ⟨rfl, h2⟩
    · exact ⟨q, by rw [h4]; exact World.ownsRow_nil _ _ _ _, Below.refl _ _, .inl ⟨rfl, h2, h3, h5⟩⟩
    · exact ⟨n, by rw [h2]; exact World.ownsRow_nil _ _ _ _, Below.refl _ _, .inr ⟨rfl, rfl⟩⟩
  case round =>
    obtain ⟨m, hown, hbel, hcase⟩ := hrel
    have hsz := hbel.size
    have HO := Lib.hid hown
    have HB := Lib.hid hbel
    have hmr := hm.below hbel
    have hrl := rs_len k m
    clear hown hbel HC HX
    rcases hcase with ⟨rfl, hmn, hk, hp⟩ | ⟨rfl, rfl⟩
    · obtain ⟨q, hq⟩ : ∃ q, q = m := ⟨_, rfl⟩
      subst hq
      have HP := Lib.hid hp
      have HF := Lib.hid (free_any b bb n k wr q hmr)
      rcases findI_one n k q false with ⟨T, e1, hT, hTn, hkT, hall⟩ | ⟨e1, hall⟩
      · have hqT : q < T := by
          by_cases e : q = T
          · subst e; rw [hk] at hkT; cases hkT
          · omega
        have HT := Lib.hid (runs_step HP.out hqT hall)
        have HBD := Lib.hid (show ¬ k T = true ∨ T = n ∨ T = 0 from .inl (by rw [hkT]; decide))
        rw [e1] at HF
        clear e1 hall hkT hk hp
        go_wp2_with (first | (go_at_call 54; refine HF.out.mono ?_; rintro e w' ⟨rfl, rfl⟩) | (at_builtin; go_must (refine wpList_append_own _ rfl (.tmp 17) (.tmp 22) 64 rfl w.heap.size 99 i0 (.agg #[.int .i64 0, .int .i64 0]) 2 16 Try.underlying64 hi hz0 hz1 hz2 rfl (by decide) _ _ _ rfl (HO.out.alloc _) ⟨wr.heap.size, 0, none⟩ 1 1 [.int .i64 q, .int .i64 ((T : Int) - 1)] rfl rfl (cell_two_at wr _ _ _ _ rfl) (two_one _ _) (by unfold maxLen; omega) (by omega) (by simp; omega) ?_); intro v2 w1 hown2 hgrow2 _; have HO2 := Lib.hid hown2; have HB2 := Lib.hid ((HB.out.alloc hsz _).grown hgrow2 (by simp; omega) (fun q hq => (HO.out.lt q hq).1)); clear hown2 hgrow2))
        have HO2p : Hid (w1.ownsRow w.heap.size 99 2 v2 (rs k T).length (runCells (rs k T))) := Lib.hid (runs_own HT.out rfl (by omega) HO2.out)
        rcases runs_next (n := n) (k := k) (f := T) (by omega) HBD.out with ⟨q2, e2, hq2, hq2n, hk2, hr2, hp2⟩ | ⟨e2, hr2⟩
        · have HR2 := Lib.hid hr2
          have HK2 := Lib.hid hk2
          have HP2 := Lib.hid (runs_prev hp2 (by omega : q < T))
          have HX := Lib.hid (next_any b bb n k w1 T (hm.below HB2.out))
          rw [e2] at HX
          clear hr2 hk2 hp2 e2
          go_wp2_with (go_at_call 55; refine HX.out.mono ?_; rintro e w' ⟨rfl, rfl⟩)
          go_roundw
          case rel => exact ⟨q2, by rw [HR2.out]; exact HO2p.out, HB2.out, .inl ⟨rfl, by omega, HK2.out, HP2.out⟩⟩
          case measure => simp [mz_pos]; omega
        · have HR2 := Lib.hid hr2
          have HX := Lib.hid (next_any b bb n k w1 T (hm.below HB2.out))
          rw [e2] at HX
          clear hr2 e2
          go_wp2_with (go_at_call 55; refine HX.out.mono ?_; rintro e w' ⟨rfl, rfl⟩)
          go_roundw
          case rel => exact ⟨n, by rw [HR2.out]; exact HO2p.out, HB2.out, .inr ⟨rfl, rfl⟩⟩
          case measure => simp [mz_pos, mz_neg]; omega
      · have HT := Lib.hid (runs_step HP.out hmn (fun j a b => hall j a b))
        rw [e1] at HF
        clear e1 hall hk hp
        go_wp2_with (first | (go_at_call 54; refine HF.out.mono ?_; rintro e w' ⟨rfl, rfl⟩) | (go_at_call 50; refine (size_any b bb n k _ hmr).mono ?_; rintro e w' ⟨rfl, rfl⟩) | (at_builtin; go_must (refine wpList_append_own _ rfl (.tmp 17) (.tmp 22) 64 rfl w.heap.size 99 i0 (.agg #[.int .i64 0, .int .i64 0]) 2 16 Try.underlying64 hi hz0 hz1 hz2 rfl (by decide) _ _ _ rfl (HO.out.alloc _) ⟨wr.heap.size, 0, none⟩ 1 1 [.int .i64 q, .int .i64 ((n : Int) - 1)] rfl rfl (cell_two_at wr _ _ _ _ rfl) (two_one _ _) (by unfold maxLen; omega) (by omega) (by simp; omega) ?_); intro v2 w1 hown2 hgrow2 _; have HO2 := Lib.hid hown2; have HB2 := Lib.hid ((HB.out.alloc hsz _).grown hgrow2 (by simp; omega) (fun q hq => (HO.out.lt q hq).1)); clear hown2 hgrow2))
        have HO2p : Hid (w1.ownsRow w.heap.size 99 2 v2 (rs k n).length (runCells (rs k n))) := Lib.hid (runs_own HT.out rfl (by omega) HO2.out)
        rcases runs_next (n := n) (k := k) (f := n) (by omega) (.inr (.inl rfl)) with ⟨q2, e2, hq2, hq2n, hk2, hr2, hp2⟩ | ⟨e2, hr2⟩
        · omega
        · have HX := Lib.hid (next_any b bb n k w1 n (hm.below HB2.out))
          rw [e2] at HX
          clear hr2 e2
          go_wp2_with (go_at_call 55; refine HX.out.mono ?_; rintro e w' ⟨rfl, rfl⟩)
          go_roundw
          case rel => exact ⟨n, HO2p.out, HB2.out, .inr ⟨rfl, rfl⟩⟩
          case measure => simp [mz_pos, mz_neg]; omega
    · go_wp2
      go_ret
      exact ⟨_, rfl, HO.out, HB.out⟩
end Go.Proofs.Ytffdklcpkkcohaa
