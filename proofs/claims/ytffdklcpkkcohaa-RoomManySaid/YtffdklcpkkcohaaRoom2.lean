/- Contracts of package room's functions: New, Let, Swing, Back. -/
import Derived.Test.YtffdklcpkkcohaaRoom
namespace Go.Proofs.Ytffdklcpkkcohaa
open Go.RowKit
/-- a slice of blocks' numbers that came in -/
def U32s (w : World) (a : Option Addr) (len : Nat) (f : Nat → Nat) : Prop :=
  (∀ i, i < len → f i < 4294967296) ∧ (0 < len → ∃ b0 off, a = some ⟨b0, off, none⟩ ∧ b0 < w.heap.size ∧ ∀ i, i < len → w.cell? ⟨b0, off + i, none⟩ = some (.int .u32 (f i : Int)))
theorem U32s.below {w w' : World} {a : Option Addr} {len : Nat} {f : Nat → Nat} (h : U32s w a len f) (hb : Below w.heap.size w w') : U32s w' a len f := by
  refine ⟨h.1, fun hn => ?_⟩
  obtain ⟨b0, off, rfl, h0, hc⟩ := h.2 hn
  exact ⟨b0, off, rfl, Nat.lt_of_lt_of_le h0 hb.size, fun i hi => (hb.cell (p := ⟨b0, off + i, none⟩) h0).trans (hc i hi)⟩
def usedS (f : Nat → Nat) (j : Nat) : Nat → Int := fun i => if i = 0 then 0 else if (List.range j).any (fun q => f q == i) then 2 else 1
theorem usedS_zero (f : Nat → Nat) (i : Nat) : freeS i = usedS f 0 i := by simp [freeS, usedS]
theorem usedS_succ (f : Nat → Nat) (j : Nat) (h0 : f j ≠ 0) (i : Nat) : setS (usedS f j) (f j) 2 i = usedS f (j + 1) i := by
  unfold setS usedS
  rw [List.range_succ, List.any_append]
  by_cases e : i = f j
  · subst e; rw [if_pos rfl, if_neg h0, if_pos (by simp)]
  · rw [if_neg e]
    by_cases e0 : i = 0
    · rw [if_pos e0, if_pos e0]
    · rw [if_neg e0, if_neg e0]
      have : (f j == i) = false := by simp; exact fun h => e h.symm
      simp [this]
def BadU (n : Nat) (f : Nat → Nat) (j : Nat) : Prop := stI n (usedS f j) (f j) ≠ 1
def NewRPost (blocks : Int) (len : Nat) (f : Nat → Nat) (w : World) (e : Ending) (w' : World) : Prop :=
  ((blocks < 16 ∨ 8192 < blocks) ∧ e = .returned (.tuple #[.pointer none, .int .i64 0, .int .i64 120]) ∧ w = w') ∨
  (∃ n : Nat, blocks = n ∧ 16 ≤ n ∧ n ≤ 8192 ∧ ((∃ j, j < len ∧ BadU n f j ∧ (∀ i, i < j → ¬ BadU n f i) ∧ e = .returned (.tuple #[.pointer none, .int .i64 j, .int .i64 121]) ∧ Below w.heap.size w w') ∨
    ((∀ i, i < len → ¬ BadU n f i) ∧ ∃ b bb, e = .returned (.tuple #[.pointer (some ⟨b, 0, none⟩), .int .i64 0, .int .i64 0]) ∧ w.heap.size ≤ b ∧ w.heap.size ≤ bb ∧ RoomAt w' b bb n (usedS f len) ∧ Below w.heap.size w w')))
set_option maxHeartbeats 1000000 in
theorem rnew_any (blocks : Int) (a : Option Addr) (len cap : Nat) (f : Nat → Nat) (w : World) (hx : U32s w a len f) (hlen : len ≤ maxLen) :
    Calls Try.prog 22 #[.int .i64 blocks, .slice a len cap] w (NewRPost blocks len f w) := by
  unfold maxLen at hlen
  have HX := Lib.hid hx
  clear hx
  go_enter Try.func22, Try.ntmps22
  go_wp2_with fail
  refine (empty_any _ _).mono ?_
  rintro e w1 (⟨hbad, rfl, rfl⟩ | ⟨n, b, bb, rfl, rfl, hb, hbb, hR, hB⟩)
  · have HB := Lib.hid hbad
    clear hbad
    go_wp2
    refine bodyPost_ret (v := .tuple #[.pointer none, .int .i64 0, .int .i64 120]) (by simp [results, Try.results22, go_sem]) rfl ?_
    exact .inl ⟨HB.out, rfl, rfl⟩
  have hn1 := hR.least
  have hn2 := hR.most
  have HR0 := Lib.hid hR
  have HB0 := Lib.hid hB
  clear hR hB
  go_wp2_with fail
  go_loopw [21] (fun i wr => ∃ p : Nat, p ≤ len ∧ i = .int .i64 p ∧ RoomAt wr b bb n (usedS f p) ∧ Below w.heap.size w wr ∧ ∀ j, j < p → ¬ BadU n f j) (fun i _ => len - (intOf i).toNat)
  case atStart => exact ⟨0, by omega, rfl, HR0.out.congr (fun i _ => usedS_zero f i), HB0.out, fun j hj => by omega⟩
  case round =>
    obtain ⟨p, hp, rfl, hR, hB, hall⟩ := hrel
    obtain ⟨c, hc⟩ := hR.cell
    have HR := Lib.hid hR
    have HB := Lib.hid hB
    have HA := Lib.hid hall
    clear hR hB hall HR0 HB0
    by_cases hlt : p < len
    · obtain ⟨b0, off, rfl, hb0, hcs⟩ := (HX.out.below HB.out).2 (by omega)
      have c0 := hcs p hlt
      have hu := HX.out.1 p hlt
      clear hcs
      have HS := Lib.hid (state_any b bb n (usedS f p) wr (f p) hu HR.out)
      by_cases hbad : stI n (usedS f p) (f p) = 1
      · have hfn : f p < n := by
          unfold stI at hbad
          by_cases h : f p < n
          · exact h
          · rw [if_neg h] at hbad; cases hbad
        have hf0 : f p ≠ 0 := by
          intro h
          unfold stI at hbad
          rw [if_pos hfn, h] at hbad
          simp [usedS] at hbad
        have HNB : Hid (¬ BadU n f p) := Lib.hid (fun h => h hbad)
        rw [hbad] at HS
        have f1 := HR.out.row.free (f p)
        have c1 := HR.out.row.cell hfn
        have HR3 := Lib.hid ((HR.out.set hfn 2).congr (fun i _ => usedS_succ f p hf0 i))
        clear hbad
        generalize f p = y at *
        generalize usedS f p y = z at *
        go_wp2_with (go_at_call 26; go_must (refine HS.out.mono ?_); rintro e w2 ⟨rfl, rfl⟩)
        go_roundw
        case rel => exact ⟨p + 1, by omega, by go_num, HR3.out, HB.out.setCell (by exact hbb) _, fun j hj => by by_cases e : j = p; subst e; exact HNB.out; exact HA.out j (by omega)⟩
        case measure => simp [intOf]; omega
      · have HBD : Hid (BadU n f p) := Lib.hid hbad
        have t1 : (stI n (usedS f p) (f p) != 1) = true := by simp [hbad]
        clear hbad
        generalize stI n (usedS f p) (f p) = z at *
        go_wp2_with (go_at_call 26; go_must (refine HS.out.mono ?_); rintro e w2 ⟨rfl, rfl⟩)
        refine bodyPost_ret (v := .tuple #[.pointer none, .int .i64 p, .int .i64 121]) (by simp [results, Try.results22, go_sem]) rfl ?_
        exact .inr ⟨n, rfl, hn1, hn2, .inl ⟨p, hlt, HBD.out, HA.out, rfl, HB.out⟩⟩
    · go_wp2
      refine bodyPost_ret (v := .tuple #[.pointer (some ⟨b, 0, none⟩), .int .i64 0, .int .i64 0]) (by simp [results, Try.results22, go_sem]) rfl ?_
      obtain rfl : p = len := by omega
      exact .inr ⟨n, rfl, hn1, hn2, .inr ⟨HA.out, b, bb, rfl, hb, hbb, HR.out, HB.out⟩⟩
/-! Let, Swing, Back -/
def letS (n : Nat) (s : Nat → Int) (p : Nat) : Nat → Int := if p < n ∧ s p = 2 then setS s p 4 else if p < n ∧ s p = 3 then setS s p 1 else s
def letE (n : Nat) (s : Nat → Int) (p : Nat) : Int := if p < n ∧ (s p = 2 ∨ s p = 3) then 0 else 121
set_option maxHeartbeats 400000 in
theorem let_any (b bb n : Nat) (s : Nat → Int) (w : World) (p : Nat) (hp : p < 4294967296) (hr : RoomAt w b bb n s) :
    Calls Try.prog 27 #[.pointer (some ⟨b, 0, none⟩), .int .u32 p] w fun e w' => e = .returned (.int .i64 (letE n s p)) ∧ RoomAt w' b bb n (letS n s p) ∧ w.grownBy w' (some bb) := by
  have hn := hr.most
  obtain ⟨cap, hc⟩ := hr.cell
  have HS := Lib.hid (state_any b bb n s w p hp hr)
  by_cases h : p < n
  · have hst : stI n s p = s p := by unfold stI; rw [if_pos h]
    rw [hst] at HS
    have f1 := hr.row.free p
    have c1 := hr.row.cell h
    by_cases h2 : s p = 2
    · have hl : letS n s p = setS s p 4 := by unfold letS; rw [if_pos ⟨h, h2⟩]
      have he : letE n s p = 0 := by unfold letE; rw [if_pos ⟨h, .inl h2⟩]
      have HR := Lib.hid (hr.set h 4)
      rw [hl, he]
      rw [h2] at HS
      clear hl he h2 hst
      generalize s p = z at *
      go_enter Try.func27, Try.ntmps27
      go_wp2_with (go_at_call 26; go_must (refine HS.out.mono ?_); rintro e w2 ⟨rfl, rfl⟩)
      go_ret
      exact ⟨rfl, HR.out, only_setCell (only_refl _ _) (.inl rfl) _⟩
    by_cases h3 : s p = 3
    · have hl : letS n s p = setS s p 1 := by unfold letS; rw [if_neg (fun e => h2 e.2), if_pos ⟨h, h3⟩]
      have he : letE n s p = 0 := by unfold letE; rw [if_pos ⟨h, .inr h3⟩]
      have HR := Lib.hid (hr.set h 1)
      rw [hl, he]
      rw [h3] at HS
      clear hl he h2 h3 hst
      generalize s p = z at *
      go_enter Try.func27, Try.ntmps27
      go_wp2_with (go_at_call 26; go_must (refine HS.out.mono ?_); rintro e w2 ⟨rfl, rfl⟩)
      go_ret
      exact ⟨rfl, HR.out, only_setCell (only_refl _ _) (.inl rfl) _⟩
    · have hl : letS n s p = s := by unfold letS; rw [if_neg (fun e => h2 e.2), if_neg (fun e => h3 e.2)]
      have he : letE n s p = 121 := by unfold letE; rw [if_neg (fun e => e.2.elim h2 h3)]
      have t2 : (s p == 2) = false := by simp [h2]
      have t3 : (s p == 3) = false := by simp [h3]
      rw [hl, he]
      have HR := Lib.hid hr
      clear hl he h2 h3 hst hr
      generalize s p = z at *
      go_enter Try.func27, Try.ntmps27
      go_wp2_with (go_at_call 26; go_must (refine HS.out.mono ?_); rintro e w2 ⟨rfl, rfl⟩)
      go_ret
      exact ⟨rfl, HR.out, only_refl _ _⟩
  · have hst : stI n s p = 0 := by unfold stI; rw [if_neg h]
    have hl : letS n s p = s := by unfold letS; rw [if_neg (fun e => h e.1), if_neg (fun e => h e.1)]
    have he : letE n s p = 121 := by unfold letE; rw [if_neg (fun e => h e.1)]
    rw [hst] at HS
    rw [hl, he]
    have HR := Lib.hid hr
    clear hl he hst hr
    go_enter Try.func27, Try.ntmps27
    go_wp2_with (go_at_call 26; go_must (refine HS.out.mono ?_); rintro e w2 ⟨rfl, rfl⟩)
    go_ret
    exact ⟨rfl, HR.out, only_refl _ _⟩
/-- two kinds of states turned -/
def turnS (t l : Int) (s : Nat → Int) : Nat → Int := fun i => if s i = 3 then t else if s i = 4 then l else s i
def turnN (t l : Int) (s : Nat → Int) (p : Nat) : Nat → Int := fun i => if i < p then turnS t l s i else s i
theorem turnN_set (t l : Int) (s : Nat → Int) (p : Nat) (i : Nat) : setS (turnN t l s p) p (turnS t l s p) i = turnN t l s (p + 1) i := by
  unfold setS turnN
  by_cases e : i = p
  · subst e; rw [if_pos rfl, if_pos (by omega)]
  · rw [if_neg e]
    by_cases h : i < p
    · rw [if_pos h, if_pos (by omega)]
    · rw [if_neg h, if_neg (by omega)]
theorem turnN_stay (t l : Int) (s : Nat → Int) (p : Nat) (h : turnS t l s p = s p) (i : Nat) : turnN t l s p i = turnN t l s (p + 1) i := by
  unfold turnN
  by_cases e : i = p
  · subst e; rw [if_neg (by omega), if_pos (by omega), h]
  · by_cases h : i < p
    · rw [if_pos h, if_pos (by omega)]
    · rw [if_neg h, if_neg (by omega)]
set_option maxHeartbeats 1000000 in
theorem turn_any (b bb n : Nat) (s : Nat → Int) (w : World) (t l : Int) (hr : RoomAt w b bb n s) :
    Calls Try.prog 74 #[.pointer (some ⟨b, 0, none⟩), .int .i64 t, .int .i64 l] w fun e w' => (∃ v, e = .returned v) ∧ RoomAt w' b bb n (turnS t l s) ∧ w.grownBy w' (some bb) := by
  have hn := hr.most
  obtain ⟨cap, hc⟩ := hr.cell
  have HR0 := Lib.hid hr
  clear hr
  go_enter Try.func74, Try.ntmps74
  go_wp2_with fail
  go_loopw [15] (fun i wr => ∃ p : Nat, p ≤ n ∧ i = .int .i64 p ∧ RoomAt wr b bb n (turnN t l s p) ∧ w.grownBy wr (some bb)) (fun i _ => n - (intOf i).toNat)
  case atStart => exact ⟨0, by omega, rfl, HR0.out.congr (fun i _ => by simp [turnN]), only_refl _ _⟩
  case round =>
    obtain ⟨p, hp, rfl, hR, hG⟩ := hrel
    obtain ⟨cap2, hc2⟩ := hR.cell
    have HR := Lib.hid hR
    have HG := Lib.hid hG
    clear hG HR0 hc
    by_cases hlt : p < n
    · have c1 := hR.row.cell hlt
      have f1 := hR.row.free p
      have hself : turnN t l s p p = s p := by unfold turnN; rw [if_neg (by omega)]
      rw [hself] at c1
      clear hR
      by_cases h3 : s p = 3
      · have hv : turnS t l s p = t := by unfold turnS; rw [if_pos h3]
        have hS := HR.out.set hlt (turnS t l s p)
        have HS := Lib.hid (hS.congr (fun i _ => turnN_set t l s p i))
        rw [hv] at HS
        rw [h3] at c1
        clear hv hS h3 hself
        go_wp2
        go_roundw
        case rel => exact ⟨p + 1, by omega, by go_num, HS.out, only_setCell HG.out (.inl rfl) _⟩
        case measure => simp [intOf]; omega
      by_cases h4 : s p = 4
      · have hv : turnS t l s p = l := by unfold turnS; rw [if_neg h3, if_pos h4]
        have hS := HR.out.set hlt (turnS t l s p)
        have HS := Lib.hid (hS.congr (fun i _ => turnN_set t l s p i))
        rw [hv] at HS
        rw [h4] at c1
        clear hv hS h3 h4 hself
        go_wp2
        go_roundw
        case rel => exact ⟨p + 1, by omega, by go_num, HS.out, only_setCell HG.out (.inl rfl) _⟩
        case measure => simp [intOf]; omega
      · have hv : turnS t l s p = s p := by unfold turnS; rw [if_neg h3, if_neg h4]
        have t3 : (s p == 3) = false := by simp [h3]
        have t4 : (s p == 4) = false := by simp [h4]
        have HS := Lib.hid (HR.out.congr (fun i _ => turnN_stay t l s p hv i))
        clear hv h3 h4 hself
        generalize s p = z at *
        go_wp2
        go_roundw
        case rel => exact ⟨p + 1, by omega, by go_num, HS.out, HG.out⟩
        case measure => simp [intOf]; omega
    · clear hR
      go_wp2
      go_end0
      obtain rfl : p = n := by omega
      exact ⟨⟨_, rfl⟩, HR.out.congr (fun i hi => by unfold turnN; rw [if_pos hi]), HG.out⟩
theorem swing_any (b bb n : Nat) (s : Nat → Int) (w : World) (hr : RoomAt w b bb n s) :
    Calls Try.prog 33 #[.pointer (some ⟨b, 0, none⟩)] w fun e w' => (∃ v, e = .returned v) ∧ RoomAt w' b bb n (turnS 2 1 s) ∧ w.grownBy w' (some bb) := by
  have HT := Lib.hid (turn_any b bb n s w 2 1 hr)
  clear hr
  go_enter Try.func33, Try.ntmps33
  go_wp2_with fail
  refine HT.out.mono ?_
  rintro e w' ⟨⟨v, rfl⟩, hR, hG⟩
  have HR := Lib.hid hR
  have HG := Lib.hid hG
  clear hR hG
  go_wp2
  go_end0
  exact ⟨⟨_, rfl⟩, HR.out, HG.out⟩
theorem back_any (b bb n : Nat) (s : Nat → Int) (w : World) (hr : RoomAt w b bb n s) :
    Calls Try.prog 30 #[.pointer (some ⟨b, 0, none⟩)] w fun e w' => (∃ v, e = .returned v) ∧ RoomAt w' b bb n (turnS 1 2 s) ∧ w.grownBy w' (some bb) := by
  have HT := Lib.hid (turn_any b bb n s w 1 2 hr)
  clear hr
  go_enter Try.func30, Try.ntmps30
  go_wp2_with fail
  refine HT.out.mono ?_
  rintro e w' ⟨⟨v, rfl⟩, hR, hG⟩
  have HR := Lib.hid hR
  have HG := Lib.hid hG
  clear hR hG
  go_wp2
  go_end0
  exact ⟨⟨_, rfl⟩, HR.out, HG.out⟩
end Go.Proofs.Ytffdklcpkkcohaa
