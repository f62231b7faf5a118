/- The law FdPlays, walked: descriptors opened, closed, moved, in any order, stand as the reference's list. -/
import Derived.Test.YtegeonompkgpeaaSays
import Derived.Test.YtegeonompkgpeaaFd4
import Derived.Test.YtegeonompkgpeaaAwake
namespace Go.Proofs.Ytegeonompkgpeaa
open Go.RowKit

structure Act5 where
  kind : Int
  fd : Int
  a : Int
  b : Int
  c : Int
/-- a slice of acts that came in -/
def Acts (w : World) (a : Option Addr) (len : Nat) (xs : Nat → Act5) : Prop :=
  0 < len → ∃ b0 off, a = some ⟨b0, off, none⟩ ∧ b0 < w.heap.size ∧ ∀ i, i < len →
    w.cell? ⟨b0, off + i * 5, none⟩ = some (.int .i64 (xs i).kind) ∧ w.cell? ⟨b0, off + i * 5 + 1, none⟩ = some (.int .i64 (xs i).fd) ∧ w.cell? ⟨b0, off + i * 5 + 2, none⟩ = some (.int .i64 (xs i).a) ∧
    w.cell? ⟨b0, off + i * 5 + 3, none⟩ = some (.int .i64 (xs i).b) ∧ w.cell? ⟨b0, off + i * 5 + 4, none⟩ = some (.int .i64 (xs i).c)
theorem Acts.below {w w' : World} {a : Option Addr} {len : Nat} {xs : Nat → Act5} (h : Acts w a len xs) (hb : Below w.heap.size w w') : Acts w' a len xs := by
  intro hn
  obtain ⟨b0, off, rfl, h0, hc⟩ := h hn
  refine ⟨b0, off, rfl, Nat.lt_of_lt_of_le h0 hb.size, fun i hi => ?_⟩
  obtain ⟨c0, c1, c2, c3, c4⟩ := hc i hi
  refine ⟨?_, ?_, ?_, ?_, ?_⟩
  · rw [hb.cell (p := ⟨b0, off + i * 5, none⟩) h0]; exact c0
  · rw [hb.cell (p := ⟨b0, off + i * 5 + 1, none⟩) h0]; exact c1
  · rw [hb.cell (p := ⟨b0, off + i * 5 + 2, none⟩) h0]; exact c2
  · rw [hb.cell (p := ⟨b0, off + i * 5 + 3, none⟩) h0]; exact c3
  · rw [hb.cell (p := ⟨b0, off + i * 5 + 4, none⟩) h0]; exact c4
theorem Pair.below {w w' : World} {b : Nat} {v : Value} {st : Nat → Fd} (h : Pair w b v st) (hb : Below w.heap.size w w') : Pair w' b v st := ⟨h.1.below hb, h.2.1.below hb, h.2.2⟩
theorem says_pair (b : Nat) (v : Value) (st : Nat → Fd) (fd ino : Int) (w : World) (hp : Pair w b v st) :
    Calls Try.prog 19 #[.pointer (some ⟨b, 0, none⟩), v, .int .i64 fd, .int .i64 ino] w fun e w' => e = .returned (.bool true) ∧ Below w.heap.size w w' := by
  obtain ⟨hf, ⟨g, cap, L, rfl, hr, hrel⟩, _⟩ := hp
  exact says_any b g cap L st fd ino w hf hr hrel
/-- how all stands at a round's head -/
structure Stands (w : World) (bo : Nat) (wr : World) (b : Nat) (v : Value) (st : Nat → Fd) : Prop where
  pair : Pair wr b v st
  other : FdsAt wr bo zeroSt
  ne : bo ≠ b
  new : w.heap.size ≤ b
  below : Below w.heap.size w wr
theorem Stands.later {w wr w' : World} {bo b : Nat} {v : Value} {st : Nat → Fd} (h : Stands w bo wr b v st) (hb : Below wr.heap.size wr w') : Stands w bo w' b v st :=
  ⟨h.pair.below hb, h.other.below hb, h.ne, h.new, below_trans' h.below hb⟩
theorem Stands.one {w wr w' : World} {bo b : Nat} {v v' : Value} {st st' : Nat → Fd} (h : Stands w bo wr b v st) (hp : Pair w' b v' st') (hg : wr.grownBy w' (some b)) : Stands w bo w' b v' st' :=
  ⟨hp, h.other.only hg (fun e => h.ne (by injection e)), h.ne, h.new, h.below.grown hg h.below.size (fun k hk => by cases hk; exact h.new)⟩
/-- the old descriptors are left; a copy goes on -/
theorem Stands.turn {w wr w1 w2 : World} {bo b b' : Nat} {v : Value} {st st2 : Nat → Fd} (h : Stands w bo wr b v st) (hf : FdsAt w1 b' st) (hn : wr.heap.size ≤ b') (h1 : Below wr.heap.size wr w1) (hg : w1.grownBy w2 (some b)) (_h2 : FdsAt w2 b st2) : Stands w bo w2 b' v st := by
  have hb := h.pair.1.1
  have hne : b' ≠ b := by omega
  have ho := h.other.1
  refine ⟨⟨hf.only hg (fun e => hne (by injection e)), (h.pair.2.1.below h1).only (h.pair.1.below h1) hg, h.pair.2.2⟩, (h.other.below h1).only hg (fun e => h.ne (by injection e)), by omega, by have := h.below.size; omega, ?_⟩
  exact (below_trans' h.below h1).grown hg (below_trans' h.below h1).size (fun k hk => by cases hk; exact h.new)
theorem own34 {w : World} : RefSt (w.alloc (.cells #[] 62)) (.slice (some ⟨w.heap.size, 0, none⟩) 0 0) zeroSt :=
  ⟨w.heap.size, 0, [], rfl, ⟨by simp, #[], heap_alloc_new w _, by simp, by simp [maxLen], by simp, by simp [roCells]⟩, rel_zero⟩
theorem openL_zero : (openL zeroSt 64).length = 0 := by decide +kernel
theorem len_zero (b : Nat) (w : World) (hf : FdsAt w b zeroSt) :
    Calls Try.prog 15 #[.pointer (some ⟨b, 0, none⟩)] w fun e w' => e = .returned (.int .i64 0) ∧ Below w.heap.size w w' := by
  have := len_any b zeroSt w hf; rwa [openL_zero] at this

set_option maxHeartbeats 2000000 in
theorem plays_any (a : Option Addr) (len cap : Nat) (xs : Nat → Act5) (ino : Int) (w : World) (hx : Acts w a len xs) (hlen : len ≤ maxLen) :
    Calls Try.prog 5 #[.slice a len cap, .int .i64 ino] w fun e w' => e = .returned (.bool true) ∧ Below w.heap.size w w' := by
  unfold maxLen at hlen
  have HX := Lib.hid hx
  clear hx
  go_enter Try.func5, Try.ntmps5
  go_wp2_with fail
  refine (new_any _).mono ?_; rintro e w1 ⟨b, rfl, hb, hf1, hB1⟩; have HB1 := Lib.hid hB1; clear hB1
  go_wp2_with fail
  refine (new_any _).mono ?_; rintro e w2 ⟨bo, rfl, hbo, hf2, hB2⟩
  have hf1' := hf1.below hB2
  have hne : bo ≠ b := by have := hf1.1; omega
  have HB2 := Lib.hid (below_trans' HB1.out hB2); clear hB2 hf1
  go_wp2_with fail
  refine (awake_any _).mono ?_; rintro e w3 ⟨rfl, hB3⟩
  have hS : Stands w bo (w3.alloc (.cells #[] 62)) b (.slice (some ⟨w3.heap.size, 0, none⟩) 0 0) zeroSt :=
    ⟨⟨(hf1'.below hB3).alloc _, own34, fun i _ => by simp [zeroSt, Fd.none]⟩, (hf2.below hB3).alloc _, hne, hb, (below_trans' HB2.out hB3).alloc (below_trans' HB2.out hB3).size _⟩
  have HS := Lib.hid hS
  clear hB3 hf1' hf2 hS
  go_wp2_with fail
  go_loopw [5, 7, 8] (fun f m i wr => ∃ (k b : Nat) (st : Nat → Fd), k ≤ len ∧ i = .int .i64 k ∧ f = .pointer (some ⟨b, 0, none⟩) ∧ Stands w bo wr b m st) (fun _ _ i _ => len - (intOf i).toNat)
  case atStart => exact ⟨0, b, zeroSt, by omega, rfl, rfl, HS.out⟩
  case round =>
    obtain ⟨k, b, st, hk, rfl, rfl, hS⟩ := hrel
    have hbs := hS.pair.1.1
    have hsz := hS.below.size
    have HST := Lib.hid hS
    clear hS HS
    by_cases hlt : k < len
    · obtain ⟨b0, off, rfl, hb0, hcs⟩ := (HX.out.below HST.out.below) (by omega)
      obtain ⟨c0, c1, c2, c3, c4⟩ := hcs k hlt
      clear hcs
      by_cases h5 : (xs k).kind = 5
      · have h5' : ((xs k).kind == 5) = true := by simp [h5]
        clear h5
        go_wp2_with fail
        refine (clone_any b st _ HST.out.pair.1).mono ?_
        rintro e w4 ⟨b', rfl, hb', hf4, hB4⟩
        have HB4 := Lib.hid hB4
        have hfb := HST.out.pair.1.below hB4
        clear hB4
        go_wp2_with fail
        refine (open_f b st 7 3 _ hfb).mono ?_
        rintro e w5 ⟨rfl, hf5, hg5⟩
        have HG5 := Lib.hid hg5
        clear hg5
        go_wp2_with fail
        refine (close_f b _ 0 _ hf5).mono ?_
        rintro e w6 ⟨rfl, hf6, hg6⟩
        have HT := Lib.hid (HST.out.turn hf4 hb' HB4.out (only_trans HG5.out hg6) hf6)
        clear hf4 hf5 hf6 hg6 hfb
        go_wp2
        go_roundw
        case rel => exact ⟨k + 1, b', st, by omega, by go_num, rfl, HT.out⟩
        case measure => simp [intOf]; omega
      · have h5' : ((xs k).kind == 5) = false := by simp [h5]
        clear h5
        go_wp2_with fail
        refine (one_any b _ st _ _ _ _ _ _ HST.out.pair).mono ?_
        rintro e w4 ⟨st', v', rfl, hp4, hg4⟩
        have HT := Lib.hid (HST.out.one hp4 hg4)
        have hb04 := Nat.lt_of_lt_of_le hb0 hg4.size
        have HA := Lib.hid (HX.out.below HT.out.below)
        clear hp4 hg4 c0 c1 c2 c3 c4
        obtain ⟨b2, off2, he, -, hcs⟩ := HA.out (by omega)
        cases he
        obtain ⟨-, c1, -, -, -⟩ := hcs k hlt
        clear hcs
        go_wp2_with fail
        refine (says_pair b v' st' _ _ _ HT.out.pair).mono ?_
        rintro e w5 ⟨rfl, hB5⟩
        have HT5 := Lib.hid (HT.out.later hB5)
        clear hB5 c1
        go_wp2_with fail
        go_roundw
        case rel => exact ⟨k + 1, b, st', by omega, by go_num, rfl, HT5.out⟩
        case measure => simp [intOf]; omega
    · go_wp2_with fail
      refine (len_zero bo _ HST.out.other).mono ?_
      rintro e w4 ⟨rfl, hB4⟩
      have HT := Lib.hid (HST.out.later hB4)
      clear hB4
      go_wp2_with fail
      refine (says_pair b _ st _ _ _ HT.out.pair).mono ?_
      rintro e w5 ⟨rfl, hB5⟩
      have HT5 := Lib.hid (HT.out.later hB5)
      clear hB5
      go_wp2_with fail
      go_ret
      exact ⟨rfl, HT5.out.below⟩
end Go.Proofs.Ytegeonompkgpeaa
