/- 'same' of the room's laws; the document's New. -/
import Derived.Test.YtffdklcpkkcohaaSett
namespace Go.Proofs.Ytffdklcpkkcohaa
open Go.RowKit
/-- a slice of blocks' numbers, as it is read -/
def Rd32 (w : World) (a : Option Addr) (n : Nat) (f : Nat → Nat) : Prop :=
  0 < n → ∃ b off, a = some ⟨b, off, none⟩ ∧ ∀ i, i < n → w.cell? ⟨b, off + i, none⟩ = some (.int .u32 (f i : Int))
theorem U32s.rd {w : World} {a : Option Addr} {n : Nat} {f : Nat → Nat} (h : U32s w a n f) : Rd32 w a n f := by
  intro hn
  obtain ⟨b, off, h1, _, h2⟩ := h.2 hn
  exact ⟨b, off, h1, h2⟩
theorem U32In.rd {w : World} {B : Nat} {a : Option Addr} {L : List Nat} (h : U32In w B a L) : Rd32 w a L.length (fun i => L.getD i 0) := by
  intro hn
  obtain ⟨g, h1, _, _, h2⟩ := h hn
  refine ⟨g, 0, h1, fun i hi => ?_⟩
  have := (h2 i (L[i]) (List.getElem?_eq_getElem hi)).1
  rw [Nat.zero_add, this]
  simp [List.getD, List.getElem?_eq_getElem hi]
def same32 (n1 n2 : Nat) (f1 f2 : Nat → Nat) : Bool := decide (n1 = n2 ∧ ∀ i, i < n1 → f1 i = f2 i)
theorem same32_lists (L1 L2 : List Nat) : same32 L1.length L2.length (fun i => L1.getD i 0) (fun i => L2.getD i 0) = decide (L1 = L2) := by
  unfold same32
  rw [decide_eq_decide]
  constructor
  · rintro ⟨h1, h2⟩
    refine List.ext_getElem h1 fun i hi1 hi2 => ?_
    have := h2 i hi1
    simpa [List.getD, List.getElem?_eq_getElem hi1, List.getElem?_eq_getElem hi2] using this
  · rintro rfl
    exact ⟨rfl, fun _ _ => rfl⟩
theorem same_step {f1 f2 : Nat → Nat} {p : Nat} (h : ∀ j, j < p → f1 j = f2 j) (he : f1 p = f2 p) : ∀ j, j < p + 1 → f1 j = f2 j := by
  intro j hj
  by_cases e : j = p
  · rw [e]; exact he
  · exact h j (by omega)
set_option maxHeartbeats 400000 in
theorem same32_any (a1 : Option Addr) (n1 c1 : Nat) (f1 : Nat → Nat) (a2 : Option Addr) (n2 c2 : Nat) (f2 : Nat → Nat) (w : World) (h1 : Rd32 w a1 n1 f1) (h2 : Rd32 w a2 n2 f2) (hm1 : n1 ≤ maxLen) (hm2 : n2 ≤ maxLen) :
    Calls Try.prog 31 #[.slice a1 n1 c1, .slice a2 n2 c2] w fun e w' => e = .returned (.bool (same32 n1 n2 f1 f2)) ∧ ∃ q, w' = w.drewN q := by
  unfold maxLen at hm1 hm2
  by_cases hn : n1 = n2
  case neg =>
    have hs : same32 n1 n2 f1 f2 = false := by unfold same32; exact decide_eq_false (fun e => hn e.1)
    rw [hs]
    have t1 : ((n1 : Int) != (n2 : Int)) = true := by simp; omega
    clear hs hn h1 h2
    go_enter Try.func31, Try.ntmps31
    go_wp2
    go_ret
    exact ⟨rfl, 0, rfl⟩
  subst hn
  have H1 := Lib.hid h1
  have H2 := Lib.hid h2
  clear h1 h2
  go_enter Try.func31, Try.ntmps31
  go_wp2
  go_loopw [13] (fun i wr => ∃ p q : Nat, p ≤ n1 ∧ i = .int .i64 p ∧ (∀ j, j < p → f1 j = f2 j) ∧ wr = w.drewN q) (fun i _ => n1 - (intOf i).toNat)
  case atStart => exact ⟨0, 0, by omega, rfl, fun j hj => by omega, rfl⟩
  case round =>
    obtain ⟨p, q, hp, rfl, hall, rfl⟩ := hrel
    have HA := Lib.hid hall
    clear hall
    by_cases hlt : p < n1
    · obtain ⟨b1, o1, rfl, k1⟩ := H1.out (by omega)
      obtain ⟨b2, o2, rfl, k2⟩ := H2.out (by omega)
      have y1 := k1 p hlt
      have y2 := k2 p hlt
      clear k1 k2
      by_cases he : f1 p = f2 p
      · have t1 : ((f1 p : Int) != (f2 p : Int)) = false := by simp [he]
        have HA2 := Lib.hid (same_step HA.out he)
        clear he
        generalize f1 p = z1 at *
        generalize f2 p = z2 at *
        go_wp2
        go_quiet (fail)
        go_wp2
        go_roundw
        case rel => exact ⟨p + 1, q + nq, by omega, by go_num, HA2.out, rfl⟩
        case measure => simp [intOf]; omega
      · have t1 : ((f1 p : Int) != (f2 p : Int)) = true := by simp; omega
        have hs : same32 n1 n1 f1 f2 = false := by unfold same32; exact decide_eq_false (fun e => he (e.2 p hlt))
        have HS := Lib.hid hs
        clear hs he
        generalize f1 p = z1 at *
        generalize f2 p = z2 at *
        go_wp2
        go_quiet (fail)
        go_wp2
        go_ret
        exact ⟨ret_bool HS.out.symm, q + nq, by rw [World.drewN_drewN]⟩
    · obtain rfl : p = n1 := by omega
      have hs : same32 p p f1 f2 = true := by unfold same32; exact decide_eq_true ⟨rfl, HA.out⟩
      have HS := Lib.hid hs
      clear hs
      go_wp2
      go_ret
      exact ⟨ret_bool HS.out.symm, q, rfl⟩
/-! the document's New -/
def lenOf : Value → Nat
  | .slice _ n _ => n
  | _ => 0
def RefNewPost (blocks : Int) (len : Nat) (f : Nat → Nat) (w : World) (e : Ending) (w' : World) : Prop :=
  ((blocks < 16 ∨ 8192 < blocks) ∧ e = .returned (.tuple #[.slice none 0 0, .int .i64 0, .int .i64 120]) ∧ w = w') ∨
  (∃ n : Nat, blocks = n ∧ 16 ≤ n ∧ n ≤ 8192 ∧ ((∃ j, j < len ∧ BadU n f j ∧ (∀ i, i < j → ¬ BadU n f i) ∧ e = .returned (.tuple #[.slice none 0 0, .int .i64 j, .int .i64 121]) ∧ Below w.heap.size w w') ∨
    ((∀ i, i < len → ¬ BadU n f i) ∧ ∃ g cap, e = .returned (.tuple #[.slice (some ⟨g, 0, none⟩) n cap, .int .i64 0, .int .i64 0]) ∧ w.heap.size ≤ g ∧ IntsAt w' g n (usedS f len) ∧ Below w.heap.size w w')))
theorem intsOf_succ (s : Nat → Int) (m : Nat) : intsOf s (m + 1) = intsOf s m ++ [.int .i64 (s m)] := by
  unfold intsOf
  rw [List.range_succ, List.map_append]; rfl
theorem ints_made_own (w : World) : (w.alloc (.cells #[.int .i64 0] 3)).ownsRow w.heap.size 3 1 (.slice (some ⟨w.heap.size, 0, none⟩) 1 1) 1 (intsOf freeS 1) := by
  exact ⟨by simp [intsOf], .inr ⟨w.heap.size, 1, #[.int .i64 0], rfl, Nat.le_refl _, heap_alloc_new w _, by omega, by simp [maxLen], by simp, by simp [intsOf, freeS]⟩⟩
theorem ints_one_own (w : World) : (w.alloc (.cells #[.int .i64 0] 3)).ownsRow w.heap.size 3 1 (.slice (some ⟨w.heap.size, 0, none⟩) 1 1) 1 (intsOf freeS 1) :=
  ints_made_own w
theorem badU_iff (n : Nat) (f : Nat → Nat) (j : Nat) : BadU n f j ↔ f j = 0 ∨ n ≤ f j ∨ usedS f j (f j) = 2 := by
  unfold BadU stI
  by_cases h : f j < n
  · rw [if_pos h]
    by_cases h0 : f j = 0
    · have : usedS f j (f j) = 0 := by unfold usedS; rw [if_pos h0]
      rw [this]; simp [h0]
    · have h1 : usedS f j (f j) = 2 ∨ usedS f j (f j) = 1 := by unfold usedS; rw [if_neg h0]; split; exact .inl rfl; exact .inr rfl
      rcases h1 with h1 | h1
      · rw [h1]; simp
      · rw [h1]; simp [h0]; omega
  · rw [if_neg h]
    simp; omega
set_option maxRecDepth 100000 in
set_option maxHeartbeats 2000000 in
theorem refnew_any (blocks : Int) (a : Option Addr) (len cap : Nat) (f : Nat → Nat) (w : World) (hx : U32s w a len f) (hlen : len ≤ maxLen) :
    Calls Try.prog 24 #[.int .i64 blocks, .slice a len cap] w (RefNewPost blocks len f w) := by
  unfold maxLen at hlen
  by_cases h1 : blocks < 16
  · clear hx
    go_enter Try.func24, Try.ntmps24
    go_wp2
    refine bodyPost_ret (v := .tuple #[.slice none 0 0, .int .i64 0, .int .i64 120]) (by simp [results, Try.results24, go_sem]) rfl ?_
    exact .inl ⟨.inl h1, rfl, rfl⟩
  by_cases h2 : 8192 < blocks
  · clear hx
    go_enter Try.func24, Try.ntmps24
    go_wp2
    refine bodyPost_ret (v := .tuple #[.slice none 0 0, .int .i64 0, .int .i64 120]) (by simp [results, Try.results24, go_sem]) rfl ?_
    exact .inl ⟨.inr h2, rfl, rfl⟩
  obtain ⟨n, rfl⟩ := Int.eq_ofNat_of_zero_le (by omega : 0 ≤ blocks)
  obtain ⟨i0, hi, hz0, hz1, hz2⟩ := info_parts info3
  have HX := Lib.hid hx
  have HO0 := Lib.hid (ints_one_own w)
  have HB0 := Lib.hid ((Below.refl w.heap.size w).alloc (Nat.le_refl _) (.cells #[.int .i64 0] 3))
  clear hx
  go_enter Try.func24, Try.ntmps24
  go_wp2_with fail
  go_loopw [7] (fun vv wr => ∃ p c g : Nat, 1 ≤ p ∧ p ≤ n ∧ vv = .slice (some ⟨g, 0, none⟩) p c ∧ wr.ownsRow w.heap.size 3 1 vv p (intsOf freeS p) ∧ Below w.heap.size w wr) (fun vv _ => n - lenOf vv)
  case atStart => exact ⟨1, 1, _, by omega, by omega, rfl, HO0.out, HB0.out⟩
  case round =>
    obtain ⟨p, c, g, hp1, hp, rfl, hown, hB⟩ := hrel
    have HO := Lib.hid hown
    have HB := Lib.hid hB
    have hsz := hB.size
    clear hown hB HO0 HB0
    by_cases hlt : p < n
    · go_wp2_with (at_builtin; go_must (refine wpList_append_own _ rfl (.tmp 21) (.tmp 22) 22 rfl w.heap.size 3 i0 (.int .i64 0) 1 8 Try.underlying22 hi hz0 hz1 hz2 rfl (by decide) _ _ _ rfl (HO.out.alloc _) ⟨wr.heap.size, 0, none⟩ 1 1 [.int .i64 1] rfl rfl (cell_one_at wr _ _ _ rfl) (fun u hu => by simp at hu; subst hu; rfl) (by unfold maxLen; omega) (by omega) (by simp; omega) ?_); intro v' w1 hown1 hgrow1 hnil; obtain ⟨g', c', rfl, _, _⟩ := owns_some hown1 (fun e => by have := (hnil.1 e).1; cases this); have HB1 := Lib.hid ((HB.out.alloc hsz _).grown hgrow1 (by simp; omega) (fun q hq => (HO.out.lt q hq).1)); have HO1 := Lib.hid hown1; clear hown1 hgrow1 hnil)
      go_roundw
      case rel => exact ⟨p + 1, c', g', by omega, by omega, rfl, by rw [intsOf_succ, show freeS p = 1 from if_neg (by omega)]; exact HO1.out, HB1.out⟩
      case measure => simp [lenOf]; omega
    · obtain rfl : p = n := by omega
      have hg := (HO.out.lt g rfl).1
      have hI := ints_owned HO.out (by omega)
      have HI0 := Lib.hid hI
      clear hI HO
      go_wp2_with fail
      go_loopw [26] (fun i wr => ∃ q : Nat, q ≤ len ∧ i = .int .i64 q ∧ IntsAt wr g p (usedS f q) ∧ Below w.heap.size w wr ∧ ∀ j, j < q → ¬ BadU p f j) (fun i _ => len - (intOf i).toNat)
      case atStart => exact ⟨0, by omega, rfl, HI0.out.congr (fun i _ => usedS_zero f i), HB.out, fun j hj => by omega⟩
      case round =>
        obtain ⟨q, hq, rfl, hI, hB, hall⟩ := hrel
        have HI := Lib.hid hI
        have HB2 := Lib.hid hB
        have HA := Lib.hid hall
        clear hI hB hall HI0 HB
        by_cases hql : q < len
        · obtain ⟨b0, off, rfl, hb0, hcs⟩ := (HX.out.below HB2.out).2 (by omega)
          have c0 := hcs q hql
          have hu := HX.out.1 q hql
          clear hcs
          have hbi := badU_iff p f q
          by_cases h0 : f q = 0
          · have HBD := Lib.hid (hbi.2 (.inl h0))
            rw [h0] at c0
            clear hbi h0
            go_wp2
            refine bodyPost_ret (v := .tuple #[.slice none 0 0, .int .i64 q, .int .i64 121]) (by simp [results, Try.results24, go_sem]) rfl ?_
            exact .inr ⟨p, rfl, by omega, by omega, .inl ⟨q, hql, HBD.out, HA.out, rfl, HB2.out⟩⟩
          have t0 : ((f q : Int) == 0) = false := by simp; omega
          by_cases h3 : p ≤ f q
          · have HBD := Lib.hid (hbi.2 (.inr (.inl h3)))
            clear hbi h0
            generalize f q = z at *
            go_wp2
            refine bodyPost_ret (v := .tuple #[.slice none 0 0, .int .i64 q, .int .i64 121]) (by simp [results, Try.results24, go_sem]) rfl ?_
            exact .inr ⟨p, rfl, by omega, by omega, .inl ⟨q, hql, HBD.out, HA.out, rfl, HB2.out⟩⟩
          have hfn : f q < p := by omega
          have c1 := HI.out.cell hfn
          have f1 := HI.out.free (f q)
          by_cases h4 : usedS f q (f q) = 2
          · have HBD := Lib.hid (hbi.2 (.inr (.inr h4)))
            rw [h4] at c1
            clear hbi h0 h4 h3
            generalize f q = z at *
            go_wp2
            refine bodyPost_ret (v := .tuple #[.slice none 0 0, .int .i64 q, .int .i64 121]) (by simp [results, Try.results24, go_sem]) rfl ?_
            exact .inr ⟨p, rfl, by omega, by omega, .inl ⟨q, hql, HBD.out, HA.out, rfl, HB2.out⟩⟩
          · have t4 : (usedS f q (f q) == 2) = false := by simp [h4]
            have HNB := Lib.hid (fun h => by rcases hbi.1 h with h | h | h; exact h0 h; exact h3 h; exact h4 h : ¬ BadU p f q)
            have HI3 := Lib.hid ((HI.out.set hfn 2).congr (fun i _ => usedS_succ f q h0 i))
            clear hbi h0 h4 h3
            generalize usedS f q (f q) = y at *
            generalize f q = z at *
            go_wp2
            go_roundw
            case rel => exact ⟨q + 1, by omega, by go_num, HI3.out, HB2.out.setCell (by exact hg) _, fun j hj => by by_cases e : j = q; subst e; exact HNB.out; exact HA.out j (by omega)⟩
            case measure => simp [intOf]; omega
        · obtain rfl : q = len := by omega
          go_wp2
          refine bodyPost_ret (v := .tuple #[.slice (some ⟨g, 0, none⟩) p c, .int .i64 0, .int .i64 0]) (by simp [results, Try.results24, go_sem]) rfl ?_
          exact .inr ⟨p, rfl, by omega, by omega, .inr ⟨HA.out, g, c, rfl, hg, HI.out, HB2.out⟩⟩
end Go.Proofs.Ytffdklcpkkcohaa
