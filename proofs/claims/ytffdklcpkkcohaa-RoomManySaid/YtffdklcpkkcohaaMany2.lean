/- Contract of LetAll. -/
import Derived.Test.YtffdklcpkkcohaaMany
import Derived.Test.YtffdklcpkkcohaaSett
namespace Go.Proofs.Ytffdklcpkkcohaa
open Go.RowKit
/-- the first blocks of a list, as a set -/
def inF (f : Nat → Nat) (i : Nat) : Nat → Bool := fun p => (List.range i).any fun j => f j == p
theorem inF_zero (f : Nat → Nat) : (fun _ => false) = inF f 0 := by funext p; simp [inF]
theorem inF_succ (f : Nat → Nat) (i : Nat) : setK (inF f i) (f i) true = inF f (i + 1) := by
  funext p
  unfold setK inF
  rw [List.range_succ, List.any_append]
  by_cases e : p = f i
  · subst e; simp
  · rw [if_neg e]
    have : (f i == p) = false := by simp; exact fun h => e h.symm
    simp [this]
theorem inF_seen (f : Nat → Nat) (i : Nat) : inF f i (f i) = seenF f i := rfl
theorem let_state' (n : Nat) (s : Nat → Int) (p : Nat) : ((stI n s p = 2 ∨ stI n s p = 3) ∧ letE n s p = 0) ∨ ((stI n s p ≠ 2 ∧ stI n s p ≠ 3) ∧ letE n s p = 121) := by
  unfold stI letE
  by_cases h : p < n
  · rw [if_pos h]
    by_cases h2 : s p = 2 ∨ s p = 3
    · exact .inl ⟨h2, if_pos ⟨h, h2⟩⟩
    · exact .inr ⟨⟨fun e => h2 (.inl e), fun e => h2 (.inr e)⟩, if_neg (fun e => h2 e.2)⟩
  · rw [if_neg h]
    exact .inr ⟨⟨by decide, by decide⟩, if_neg (fun e => h e.1)⟩
def LetAllPost (b bb n l : Nat) (s : Nat → Int) (f : Nat → Nat) (w : World) (e : Ending) (w' : World) : Prop :=
  (∃ i, i < l ∧ BadL n s f i ∧ (∀ j, j < i → ¬ BadL n s f j) ∧ e = .returned (.tuple #[.int .i64 (i : Nat), .int .i64 121]) ∧ Below w.heap.size w w') ∨
  ((∀ i, i < l → ¬ BadL n s f i) ∧ e = .returned (.tuple #[.int .i64 0, .int .i64 0]) ∧ RoomAt w' b bb n (letF n s f l) ∧ w.grownBy w' (some bb))
set_option maxRecDepth 100000 in
set_option maxHeartbeats 2000000 in
theorem letall_any (b bb n : Nat) (s : Nat → Int) (a : Option Addr) (l c : Nat) (f : Nat → Nat) (w : World) (hr : RoomAt w b bb n s) (hx : U32s w a l f) (hlen : l ≤ maxLen) (hab : 0 < l → ∀ ad, a = some ad → ad.block ≠ bb) :
    Calls Try.prog 35 #[.pointer (some ⟨b, 0, none⟩), .slice a l c] w (LetAllPost b bb n l s f w) := by
  have hlen' := hlen
  unfold maxLen at hlen
  have hmm := @run_makeMap Try.prog
  have hbb := hr.row.1
  have HR := Lib.hid hr
  have HX := Lib.hid hx
  have HAB := Lib.hid hab
  have hS0 := setAt_made w
  rw [inF_zero f] at hS0
  have HS0 := Lib.hid hS0
  have HB0 := Lib.hid ((Below.refl w.heap.size w).alloc (Nat.le_refl _) (.map #[] 0))
  clear hr hx hab hS0
  go_enter Try.func35, Try.ntmps35
  go_wp2_with fail
  go_loopw [15] (fun i wr => ∃ p : Nat, p ≤ l ∧ i = .int .i64 p ∧ SetAt wr w.heap.size p (inF f p) ∧ Below w.heap.size w wr ∧ ∀ j, j < p → ¬ BadL n s f j) (fun i _ => l - (intOf i).toNat)
  case atStart => exact ⟨0, by omega, rfl, HS0.out, HB0.out, fun j hj => by omega⟩
  case round =>
    obtain ⟨p, hp, rfl, hS, hB, hall⟩ := hrel
    have HS := Lib.hid hS
    have HB := Lib.hid hB
    have HA := Lib.hid hall
    clear hS hB hall HS0 HB0
    by_cases hlt : p < l
    · obtain ⟨b0, off, rfl, hb0, hcs⟩ := (HX.out.below HB.out).2 (by omega)
      have c0 := hcs p hlt
      have hu := HX.out.1 p hlt
      have HST := Lib.hid (state_any b bb n s wr (f p) hu (HR.out.below HB.out))
      have hls := let_state' n s (f p)
      have hlk := HS.out.look (f p) hu
      rw [inF_seen] at hlk
      obtain ⟨w7, hup, hS7, hg7⟩ := HS.out.put (by unfold maxLen; omega) (f p) hu
      rw [inF_succ] at hS7
      have HS7 := Lib.hid hS7
      have HG7 := Lib.hid hg7
      clear hcs hu hS7 hg7
      rcases hls with ⟨hst, hle⟩ | ⟨hst, hle⟩
      · cases hse : seenF f p
        · have HNB : Hid (¬ BadL n s f p) := Lib.hid (fun h => by
            rcases h with h | h
            · exact h hle
            · rw [hse] at h; cases h)
          rw [hse] at hlk
          clear hse hle
          generalize f p = z at *
          generalize stI n s z = st at *
          rcases hst with rfl | rfl
          all_goals
            go_wp2_with fail
            refine HST.out.mono ?_
            rintro e w' ⟨rfl, rfl⟩
            go_wp2_with fail
            exact ⟨⟨p + 1, by omega, by go_num, HS7.out, HB.out.grown HG7.out HB.out.size (fun k hk => by cases hk; exact Nat.le_refl _), fun j hj => by
              by_cases e : j = p
              · subst e; exact HNB.out
              · exact HA.out j (by omega)⟩, by simp [intOf]; omega⟩
        · have HNB : Hid (BadL n s f p) := Lib.hid (.inr hse)
          rw [hse] at hlk
          clear hse hle hup
          generalize f p = z at *
          generalize stI n s z = st at *
          rcases hst with rfl | rfl
          all_goals
            go_wp2_with fail
            refine HST.out.mono ?_
            rintro e w' ⟨rfl, rfl⟩
            go_wp2_with fail
            go_ret2
            exact .inl ⟨p, hlt, HNB.out, HA.out, rfl, HB.out⟩
      · have HNB : Hid (BadL n s f p) := Lib.hid (.inl (by rw [hle]; decide))
        have t2 : (stI n s (f p) != 2) = true := by simp [hst.1]
        have t3 : (stI n s (f p) != 3) = true := by simp [hst.2]
        clear hle hup hst hlk
        generalize f p = z at *
        generalize stI n s z = st at *
        go_wp2_with fail
        refine HST.out.mono ?_
        rintro e w' ⟨rfl, rfl⟩
        go_wp2_with fail
        go_ret2
        exact .inl ⟨p, hlt, HNB.out, HA.out, rfl, HB.out⟩
    · obtain rfl : p = l := by omega
      have HR1 := Lib.hid (HR.out.below HB.out)
      have HX1 := Lib.hid (HX.out.below HB.out)
      have HG := Lib.hid (only_of_below HB.out (some bb))
      clear HS
      go_wp2_with fail
      go_loopw [40] (fun i wr => ∃ q : Nat, q ≤ p ∧ i = .int .i64 q ∧ RoomAt wr b bb n (letF n s f q) ∧ U32s wr a p f ∧ w.grownBy wr (some bb)) (fun i _ => p - (intOf i).toNat)
      case atStart => exact ⟨0, by omega, rfl, HR1.out, HX1.out, HG.out⟩
      case round =>
        obtain ⟨q, hq, rfl, hR, hX, hG⟩ := hrel
        have HR2 := Lib.hid hR
        have HX2 := Lib.hid hX
        have HG2 := Lib.hid hG
        clear hR hX hG HR1 HX1 HG
        by_cases hlt : q < p
        · obtain ⟨b0, off, rfl, hb0, hcs⟩ := HX2.out.2 (by omega)
          have c0 := hcs q hlt
          have hu := HX2.out.1 q hlt
          have HL := Lib.hid (let_any b bb n (letF n s f q) wr (f q) hu HR2.out)
          have HU3 : Hid (∀ w', wr.grownBy w' (some bb) → U32s w' (some ⟨b0, off, none⟩) p f) := Lib.hid (fun w' hg => ⟨HX2.out.1, fun hn => ⟨b0, off, rfl, Nat.lt_of_lt_of_le hb0 hg.size, fun i hi => by
            rw [World.cell?_of_block (hg.block b0 hb0 (fun e => by injection e with e; exact HAB.out (by omega) _ rfl e))]; exact hcs i hi⟩⟩)
          have HQ : Hid (letS n (letF n s f q) (f q) = letF n s f (q + 1)) := Lib.hid rfl
          rw [HQ.out] at HL
          clear hcs hu HQ
          generalize f q = z at *
          generalize letE n (letF n s f q) z = le at *
          go_wp2_with fail
          refine HL.out.mono ?_
          rintro e w2 ⟨rfl, hR, hG⟩
          have HR4 := Lib.hid hR
          have HG4 := Lib.hid (only_trans HG2.out hG)
          have HU4 := Lib.hid (HU3.out _ hG)
          clear hR hG
          go_wp2_with fail
          exact ⟨⟨q + 1, by omega, by go_num, HR4.out, HU4.out, HG4.out⟩, by simp [intOf]; omega⟩
        · obtain rfl : q = p := by omega
          go_wp2_with fail
          go_ret2
          exact .inr ⟨HA.out, rfl, HR2.out, HG2.out⟩
end Go.Proofs.Ytffdklcpkkcohaa
