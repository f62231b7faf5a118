/- DeskTold: a text told, and its words again. -/
import Derived.Test.YtlblnoipiappbaaRtold
import Derived.Test.YtlblnoipiappbaaAwake
namespace Go.Proofs.Ytlblnoipiappbaa
open Go.RowKit
theorem strOf_size (l : List Nat) : (strOf l).size = l.length := by
  unfold strOf
  show (l.map UInt8.ofNat).toArray.size = _
  simp
set_option maxRecDepth 100000 in
set_option maxHeartbeats 1000000 in
theorem toldlaw_any (s : ByteArray) (w : World) (hs : s.size ≤ 1048576) : Calls Try.prog 4 #[.string s] w fun e w' => e = .returned (.bool true) ∧ Below w.heap.size w w' := by
  have hl := bys_lt s
  have htl : ∀ b ∈ tellR (bys s), b < 256 := by
    intro b hb
    rcases List.mem_append.1 hb with hb | hb
    · exact tellTo_lt _ hl b hb
    · simp at hb; omega
  have HT := Lib.hid (told_any s w hs)
  have HR := Lib.hid (fun W => rtold_any s W (by omega))
  have hsz : (strOf (tellR (bys s))).size ≤ 8388608 := by
    rw [strOf_size]
    have := tellTo_len (bys s)
    rw [bys_len] at this
    unfold tellR
    rw [List.length_append]
    simp; omega
  have HW := Lib.hid (fun W => words5_any (strOf (tellR (bys s))) W hsz)
  have HWT : Hid (wordsR (bys (strOf (tellR (bys s)))) = some [(bys s, true)]) := Lib.hid (by rw [bys_strOf _ htl, words_tell _ hl])
  generalize strOf (tellR (bys s)) = t at *
  clear htl hsz hl
  go_enter Try.func4, Try.ntmps4
  go_wp2_with fail
  refine HT.out.mono ?_
  rintro e w1 ⟨rfl, hB⟩
  have HB1 := Lib.hid hB
  clear hB HT
  go_wp2_with fail
  refine (HW.out _).mono ?_
  rintro e w2 ⟨hB, ⟨hn, _⟩ | ⟨l, v, hl, rfl, hll, hO⟩⟩
  · rw [HWT.out] at hn; cases hn
  rw [HWT.out] at hl
  cases hl
  obtain ⟨g, cap, rfl, hg, hcell⟩ : ∃ g cap, v = .slice (some ⟨g, 0, none⟩) 1 cap ∧ g < w2.heap.size ∧ w2.cell? ⟨g, 0, none⟩ = some (.string s) := by
    rcases hO.2 with ⟨_, h2⟩ | ⟨g, cap, cur, rfl, _, hg, _⟩
    · cases h2
    · refine ⟨g, cap, rfl, (Array.getElem?_eq_some_iff.1 hg).1, ?_⟩
      rw [hO.cellAt 0 (by show 0 < 1 * 1; omega)]
      show some (Value.string (strOf (bys s))) = _
      rw [strOf_bys]
  have HB2 := Lib.hid (below_trans' HB1.out hB)
  have HC := Lib.hid hcell
  clear hB hO hll HW hcell HB1
  go_wp2_with fail
  refine (dawake_any _).mono ?_
  rintro e w3 ⟨rfl, hB⟩
  have HB3 := Lib.hid (below_trans' HB2.out hB)
  have c3 := (hB.cell (p := ⟨g, 0, none⟩) hg).trans HC.out
  have hg3 := Nat.lt_of_lt_of_le hg hB.size
  clear hB HC HB2
  go_wp2_with fail
  refine (HR.out _).mono ?_
  rintro e w4 ⟨rfl, hB⟩
  have HB4 := Lib.hid (below_trans' HB3.out hB)
  have c4 := (hB.cell (p := ⟨g, 0, none⟩) hg3).trans c3
  clear hB c3 HR HB3
  go_wp2_with fail
  go_ret
  exact ⟨rfl, HB4.out⟩
end Go.Proofs.Ytlblnoipiappbaa
