/- awake and the law BitsPlays, walked. -/
import Derived.Test.YtffdklcpkkcohaaPlayed2
namespace Go.Proofs.Ytffdklcpkkcohaa
open Go.RowKit
theorem new16 (w : World) : Calls Try.prog 49 #[.int .i64 16] w fun e w' => ∃ b bb, e = .returned (.tuple #[.pointer (some ⟨b, 0, none⟩), .int .i64 0]) ∧ w.heap.size ≤ b ∧ w.heap.size ≤ bb ∧ MapAt w' b bb 16 zeroK ∧ Below w.heap.size w w' := by
  refine (new_any 16 w).mono ?_
  rintro e w' (⟨h, _⟩ | ⟨_, _, h⟩)
  · exfalso; omega
  · exact h
theorem count3 : countK 16 (setK zeroK 3 true) = 1 := by decide +kernel
set_option maxHeartbeats 400000 in
theorem awake_any (w : World) : Calls Try.prog 16 #[] w fun e w' => e = .returned (.bool true) ∧ Below w.heap.size w w' := by
  go_enter Try.func16, Try.ntmps16
  go_wp2_with fail
  refine (new16 _).mono ?_
  rintro e w1 ⟨b, bb, rfl, hb, hbb, hm, hB⟩
  have HB := Lib.hid hB
  clear hB
  go_wp2_with fail
  refine (set_in b bb 16 zeroK w1 3 (by omega) hm).mono ?_
  rintro e w2 ⟨rfl, hm2, hg⟩
  have HB2 := Lib.hid (HB.out.grown hg HB.out.size (fun k hk => by cases hk; exact hbb))
  have H1 := Lib.hid (has_in b bb 16 _ w2 3 (by exact hm2) (by omega))
  have H2 := Lib.hid (count_any b bb 16 _ w2 hm2)
  rw [count3] at H2
  clear hg
  go_wp2_with fail
  refine H1.out.mono ?_
  rintro e w' ⟨rfl, rfl⟩
  go_wp2_with fail
  refine H2.out.mono ?_
  rintro e w' ⟨rfl, rfl⟩
  go_wp2_with fail
  go_ret
  exact ⟨rfl, HB2.out⟩
set_option maxHeartbeats 400000 in
theorem plays_any (size : Int) (a : Option Addr) (len cap : Nat) (xs : Nat → Act3) (f : Int) (w : World) (hx : Acts w a len xs) (hlen : len ≤ maxLen) :
    Calls Try.prog 5 #[.int .i64 size, .slice a len cap, .int .i64 f] w fun e w' => e = .returned (.bool true) ∧ Below w.heap.size w w' := by
  have HP := Lib.hid (played_any size a len cap xs w hx hlen)
  clear hx
  go_enter Try.func5, Try.ntmps5
  go_wp2_with fail
  refine HP.out.mono ?_
  rintro e w1 (⟨_, rfl, hB⟩ | ⟨n, b, bb, g, k, rfl, rfl, hBo⟩)
  · have HB := Lib.hid hB
    clear hB
    go_wp2_with fail
    refine (awake_any _).mono ?_
    rintro e w2 ⟨rfl, hB2⟩
    have HB2 := Lib.hid (below_trans' HB.out hB2)
    clear hB2
    go_wp2_with fail
    go_ret
    exact ⟨rfl, HB2.out⟩
  · have HBo := Lib.hid hBo
    clear hBo
    go_wp2_with fail
    refine (awake_any _).mono ?_
    rintro e w2 ⟨rfl, hB2⟩
    have HM := Lib.hid (HBo.out.map.below hB2)
    have HG := Lib.hid (HBo.out.bools.below hB2)
    have HB2 := Lib.hid (below_trans' HBo.out.below hB2)
    clear hB2
    go_wp2_with fail
    refine (says_any b bb g n n k f _ HM.out HG.out).mono ?_
    rintro e w3 ⟨rfl, hB3⟩
    have HB3 := Lib.hid (below_trans' HB2.out hB3)
    clear hB3
    go_wp2_with fail
    go_ret
    exact ⟨rfl, HB3.out⟩

/-! Of -/
/-- a slice of numbers that came in -/
def Ints (w : World) (a : Option Addr) (len : Nat) (f : Nat → Int) : Prop :=
  0 < len → ∃ b0 off, a = some ⟨b0, off, none⟩ ∧ b0 < w.heap.size ∧ ∀ i, i < len → w.cell? ⟨b0, off + i, none⟩ = some (.int .i64 (f i))
theorem Ints.below {w w' : World} {a : Option Addr} {len : Nat} {f : Nat → Int} (h : Ints w a len f) (hb : Below w.heap.size w w') : Ints w' a len f := by
  intro hn
  obtain ⟨b0, off, rfl, h0, hc⟩ := h hn
  exact ⟨b0, off, rfl, Nat.lt_of_lt_of_le h0 hb.size, fun i hi => (hb.cell (p := ⟨b0, off + i, none⟩) h0).trans (hc i hi)⟩
/-- ones at the first places -/
def ofK (f : Nat → Int) (m : Nat) : Nat → Bool := fun p => (List.range m).any fun i => f i == (p : Int)
theorem ofK_succ (f : Nat → Int) (m q : Nat) (hq : f m = q) : ∀ p, setK (ofK f m) q true p = ofK f (m + 1) p := by
  intro p
  unfold setK ofK
  rw [List.range_succ, List.any_append]
  by_cases e : p = q
  · subst e; rw [if_pos rfl]; simp [hq]
  · rw [if_neg e]; simp [hq]; omega
def BadAt (n : Nat) (f : Nat → Int) (i : Nat) : Prop := f i < 0 ∨ (n : Int) ≤ f i
def OfPost (size : Int) (len : Nat) (f : Nat → Int) (w : World) (e : Ending) (w' : World) : Prop :=
  ((size < 1 ∨ 8192 < size) ∧ e = .returned (.tuple #[.pointer none, .int .i64 1]) ∧ w = w') ∨
  (∃ n : Nat, size = n ∧ 1 ≤ n ∧ n ≤ 8192 ∧ ((∃ j, j < len ∧ BadAt n f j ∧ (∀ i, i < j → ¬ BadAt n f i) ∧ e = .returned (.tuple #[.pointer none, .int .i64 90]) ∧ Below w.heap.size w w') ∨
    ((∀ i, i < len → ¬ BadAt n f i) ∧ ∃ b bb, e = .returned (.tuple #[.pointer (some ⟨b, 0, none⟩), .int .i64 0]) ∧ w.heap.size ≤ b ∧ w.heap.size ≤ bb ∧ MapAt w' b bb n (ofK f len) ∧ Below w.heap.size w w')))
set_option maxHeartbeats 1000000 in
theorem of_any (size : Int) (a : Option Addr) (len cap : Nat) (f : Nat → Int) (w : World) (hx : Ints w a len f) (hlen : len ≤ maxLen) :
    Calls Try.prog 15 #[.int .i64 size, .slice a len cap] w (OfPost size len f w) := by
  unfold maxLen at hlen
  have HX := Lib.hid hx
  clear hx
  go_enter Try.func15, Try.ntmps15
  go_wp2_with fail
  refine (new_any _ _).mono ?_
  rintro e w1 (⟨hbad, rfl, rfl⟩ | ⟨h1, h2, b, bb, rfl, hb, hbb, hm, hB⟩)
  · have HB := Lib.hid hbad
    clear hbad
    go_wp2
    go_ret2
    exact .inl ⟨HB.out, rfl, rfl⟩
  obtain ⟨n, rfl⟩ := Int.eq_ofNat_of_zero_le (by omega : 0 ≤ size)
  rw [Int.toNat_natCast] at hm
  have HM0 := Lib.hid hm
  have HB0 := Lib.hid hB
  clear hm hB
  go_wp2_with fail
  go_loopw [20] (fun i wr => ∃ p : Nat, p ≤ len ∧ i = .int .i64 p ∧ MapAt wr b bb n (ofK f p) ∧ Below w.heap.size w wr ∧ ∀ j, j < p → ¬ BadAt n f j) (fun i _ => len - (intOf i).toNat)
  case atStart => exact ⟨0, by omega, rfl, HM0.out.congr (fun p => by simp [zeroK, ofK]), HB0.out, fun j hj => by omega⟩
  case round =>
    obtain ⟨p, hp, rfl, hm, hB, hall⟩ := hrel
    have HM := Lib.hid hm
    have HB := Lib.hid hB
    have HA := Lib.hid hall
    clear hm hB hall HM0 HB0
    by_cases hlt : p < len
    · obtain ⟨b0, off, rfl, hb0, hcs⟩ := (HX.out.below HB.out) (by omega)
      have c0 := hcs p hlt
      clear hcs
      by_cases hbad : f p < 0 ∨ (n : Int) ≤ f p
      · have HBP : Hid (BadAt n f p) := Lib.hid hbad
        have HBAD := Lib.hid hbad
        clear hbad
        generalize f p = y at *
        go_wp2_with (go_at_call 68; go_must (refine (in_no b bb n _ _ y HM.out HBAD.out).mono ?_); rintro e w2 ⟨rfl, rfl⟩)
        go_ret2
        exact .inr ⟨n, rfl, by omega, by omega, .inl ⟨p, hlt, HBP.out, HA.out, rfl, HB.out⟩⟩
      · obtain ⟨q, hq⟩ := Int.eq_ofNat_of_zero_le (by omega : 0 ≤ f p)
        have hqn : q < n := by omega
        have HQ := Lib.hid hq
        have hnb : ¬ BadAt n f p := hbad
        have HNB := Lib.hid hnb
        rw [hq] at c0
        clear hbad hq hnb
        go_wp2_with (first | (go_at_call 68; go_must (refine (in_yes b bb n _ _ q HM.out hqn).mono ?_); rintro e w2 ⟨rfl, rfl⟩) | (go_at_call 43; go_must (refine (set_in b bb n _ _ q hqn HM.out).mono ?_); rintro e w2 ⟨rfl, hm2, hg2⟩; have HM2 := Lib.hid (hm2.congr (ofK_succ f p q HQ.out)); have HB2 := Lib.hid (HB.out.grown hg2 HB.out.size (fun k hk => by cases hk; exact hbb)); clear hm2 hg2))
        go_roundw
        case rel => exact ⟨p + 1, by omega, by go_num, HM2.out, HB2.out, fun j hj => by by_cases e : j = p; subst e; exact HNB.out; exact HA.out j (by omega)⟩
        case measure => simp [intOf]; omega
    · go_wp2
      go_ret2
      obtain rfl : p = len := by omega
      exact .inr ⟨n, rfl, by omega, by omega, .inr ⟨HA.out, b, bb, rfl, hb, hbb, HM.out, HB.out⟩⟩
/-! the law BitsOf -/
theorem ofK_zero (f : Nat → Int) : ∀ i, zeroK i = ofK f 0 i := by intro i; simp [zeroK, ofK]
set_option maxRecDepth 100000 in
set_option maxHeartbeats 1000000 in
theorem blawof_any (size : Int) (a : Option Addr) (len cap : Nat) (f : Nat → Int) (w : World) (hx : Ints w a len f) (hlen : len ≤ maxLen) :
    Calls Try.prog 3 #[.int .i64 size, .slice a len cap] w fun e w' => e = .returned (.bool true) ∧ Below w.heap.size w w' := by
  have HO := Lib.hid (of_any size a len cap f w hx hlen)
  unfold maxLen at hlen
  have HX := Lib.hid hx
  clear hx
  by_cases hbad : size < 1 ∨ 8192 < size
  · rcases hbad with h | h
    all_goals
      go_enter Try.func3, Try.ntmps3
      go_wp2_with fail
      refine HO.out.mono ?_
      rintro e w1 (⟨_, rfl, rfl⟩ | ⟨n, rfl, h1, h2, _⟩)
      · go_wp2_with fail
        refine (awake_any _).mono ?_
        rintro e w2 ⟨rfl, hB2⟩
        have HB2 := Lib.hid hB2
        clear hB2
        go_wp2_with fail
        go_ret
        exact ⟨rfl, HB2.out⟩
      · exfalso; omega
  obtain ⟨n, rfl⟩ := Int.eq_ofNat_of_zero_le (by omega : 0 ≤ size)
  have hn1 : 1 ≤ n := by omega
  have hn2 : n ≤ 8192 := by omega
  have hmk := make28 n hn2
  have d1 : decide ((n : Int) < 1) = false := by simp; omega
  have d2 : decide (8192 < (n : Int)) = false := by simp; omega
  clear hbad
  go_enter Try.func3, Try.ntmps3
  go_wp2_with fail
  refine HO.out.mono ?_
  rintro e w1 (⟨h, _, _⟩ | ⟨n', hn', _, _, ⟨j, hj, hbj, hgood, rfl, hB⟩ | ⟨hgood, b, bb, rfl, hb, hbb, hm, hB⟩⟩)
  · exfalso; omega
  · -- there is a place that may not be
    obtain rfl : n' = n := by omega
    have hb0 : BoolsAt (w1.alloc (.cells (madeCells #[.bool false] n') 4)) w1.heap.size n' zeroK := bools_made w1 n' hn2
    have HG0 := Lib.hid hb0
    have HB0 := Lib.hid (hB.alloc hB.size (.cells (madeCells #[.bool false] n') 4))
    have hw1 := hB.size
    have HBJ := Lib.hid hbj
    have HGOOD := Lib.hid hgood
    clear hb0 hB hbj hgood hn'
    go_wp2_with fail
    clear hmk
    go_loopw [8] (fun i wr => ∃ p : Nat, p ≤ j ∧ i = .int .i64 p ∧ BoolsAt wr w1.heap.size n' (ofK f p) ∧ Below w.heap.size w wr) (fun i _ => len - (intOf i).toNat)
    case atStart => exact ⟨0, by omega, rfl, HG0.out.congr (fun i _ => ofK_zero f i), HB0.out⟩
    case round =>
      obtain ⟨p, hp, rfl, hg, hB⟩ := hrel
      have HG := Lib.hid hg
      have HB := Lib.hid hB
      clear hg hB HG0 HB0
      have hplen : p < len := by omega
      obtain ⟨b0, off, rfl, hb0, hcs⟩ := (HX.out.below HB.out) (by omega)
      have c0 := hcs p hplen
      clear hcs
      by_cases hlt : p < j
      · have hnb := HGOOD.out p hlt
        obtain ⟨q, hq⟩ := Int.eq_ofNat_of_zero_le (by unfold BadAt at hnb; omega : 0 ≤ f p)
        have hqn : q < n' := by unfold BadAt at hnb; omega
        have HQ := Lib.hid hq
        rw [hq] at c0
        have cc := HG.out.cell hqn
        have cf := HG.out.free q
        have cl := HG.out.1
        have HN := Lib.hid ((HG.out.set hqn true).congr (fun i _ => ofK_succ f p q HQ.out i))
        have HNB := Lib.hid (HB.out.setCell (p := ⟨w1.heap.size, q, none⟩) (by exact hw1) (.bool true))
        clear hnb hq
        go_wp2
        go_roundw
        case rel => exact ⟨p + 1, by omega, by go_num, HN.out, HNB.out⟩
        case measure => simp [intOf]; omega
      · obtain rfl : p = j := by omega
        have hb := HBJ.out
        unfold BadAt at hb
        rcases hb with h | h
        all_goals
          by_cases h0 : f p < 0
          all_goals
            first
              | (exfalso; omega)
              | (go_wp2_with fail
                 refine (awake_any _).mono ?_
                 rintro e w2 ⟨rfl, hB2⟩
                 have HB2 := Lib.hid (below_trans' HB.out hB2)
                 clear hB2
                 go_wp2_with fail
                 go_ret
                 exact ⟨rfl, HB2.out⟩)
  · obtain rfl : n' = n := by omega
    have HM0 := Lib.hid (hm.alloc (.cells (madeCells #[.bool false] n') 4))
    have HG0 := Lib.hid (bools_made w1 n' hn2)
    have HB0 := Lib.hid (hB.alloc hB.size (.cells (madeCells #[.bool false] n') 4))
    have hw1 := hB.size
    have HGOOD := Lib.hid hgood
    clear hB hm hgood hn'
    go_wp2_with fail
    clear hmk
    go_loopw [8] (fun i wr => ∃ p : Nat, p ≤ len ∧ i = .int .i64 p ∧ BoolsAt wr w1.heap.size n' (ofK f p) ∧ MapAt wr b bb n' (ofK f len) ∧ Below w.heap.size w wr) (fun i _ => len - (intOf i).toNat)
    case atStart => exact ⟨0, by omega, rfl, HG0.out.congr (fun i _ => ofK_zero f i), HM0.out, HB0.out⟩
    case round =>
      obtain ⟨p, hp, rfl, hg, hm, hB⟩ := hrel
      have hne := map_bools_ne hm hg
      have HG := Lib.hid hg
      have HM := Lib.hid hm
      have HB := Lib.hid hB
      clear hg hm hB HG0 HB0 HM0
      by_cases hlt : p < len
      · obtain ⟨b0, off, rfl, hb0, hcs⟩ := (HX.out.below HB.out) (by omega)
        have c0 := hcs p hlt
        clear hcs
        have hnb := HGOOD.out p hlt
        obtain ⟨q, hq⟩ := Int.eq_ofNat_of_zero_le (by unfold BadAt at hnb; omega : 0 ≤ f p)
        have hqn : q < n' := by unfold BadAt at hnb; omega
        have HQ := Lib.hid hq
        rw [hq] at c0
        have cc := HG.out.cell hqn
        have cf := HG.out.free q
        have cl := HG.out.1
        have HN := Lib.hid ((HG.out.set hqn true).congr (fun i _ => ofK_succ f p q HQ.out i))
        have HNM := Lib.hid (HM.out.of_blocks (w' := _) (Below.heap_setCell _ ⟨w1.heap.size, q, none⟩ (.bool true) _ (fun e => hne.1 e.symm)) (Below.heap_setCell _ ⟨w1.heap.size, q, none⟩ (.bool true) _ (fun e => hne.2 e.symm)))
        have HNB := Lib.hid (HB.out.setCell (p := ⟨w1.heap.size, q, none⟩) (by exact hw1) (.bool true))
        clear hnb hq hne
        go_wp2
        go_roundw
        case rel => exact ⟨p + 1, by omega, by go_num, HN.out, HNM.out, HNB.out⟩
        case measure => simp [intOf]; omega
      · obtain rfl : p = len := by omega
        clear hne
        go_wp2_with fail
        refine (awake_any _).mono ?_
        rintro e w2 ⟨rfl, hB2⟩
        have HM2 := Lib.hid (HM.out.below hB2)
        have HG2 := Lib.hid (HG.out.below hB2)
        have HB2 := Lib.hid (below_trans' HB.out hB2)
        clear hB2
        go_wp2_with fail
        refine (says_any b bb _ n' n' _ 0 _ HM2.out HG2.out).mono ?_
        rintro e w3 ⟨rfl, hB3⟩
        have HB3 := Lib.hid (below_trans' HB2.out hB3)
        clear hB3
        go_wp2_with fail
        go_ret
        exact ⟨rfl, HB3.out⟩
end Go.Proofs.Ytffdklcpkkcohaa
