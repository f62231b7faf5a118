/- Contract of the desk's awake. -/
import Derived.Test.YtlblnoipiappbaaTold
namespace Go.Proofs.Ytlblnoipiappbaa
open Go.RowKit
theorem awake_words : wordsR (bys ⟨#[97, 32, 34, 98, 32, 99, 34]⟩) = some [([97], false), ([98, 32, 99], true)] := by
  have h0 : bys ⟨#[97, 32, 34, 98, 32, 99, 34]⟩ = [97, 32, 34, 98, 32, 99, 34] := by decide
  have h1 : wordV [97, 32, 34, 98, 32, 99, 34] = some ([97], 1, false) := by simp [wordV, plainLen]
  have h2 : wordV [34, 98, 32, 99, 34] = some ([98, 32, 99], 5, true) := by simp [wordV, quoR]
  rw [h0, wordsR_some h1, if_neg (by simp), if_pos (by simp)]
  show (wordsR [34, 98, 32, 99, 34]).map _ = _
  rw [wordsR_some h2, if_pos (by simp)]; rfl
theorem awake_told : strOf (tellR (bys ⟨#[98]⟩)) = ⟨#[34, 98, 34]⟩ := by decide
theorem size_seven : (⟨#[97, 32, 34, 98, 32, 99, 34]⟩ : ByteArray).size = 7 := rfl
set_option maxRecDepth 100000 in
set_option maxHeartbeats 1000000 in
theorem dawake_any (w : World) : Calls Try.prog 7 #[] w fun e w' => e = .returned (.bool true) ∧ Below w.heap.size w w' := by
  have HW := Lib.hid (words5_any ⟨#[97, 32, 34, 98, 32, 99, 34]⟩ w (by rw [size_seven]; omega))
  have HT := Lib.hid (fun W => told_any ⟨#[98]⟩ W (by show (1 : Nat) ≤ _; omega))
  go_enter Try.func7, Try.ntmps7
  go_wp2_with fail
  refine HW.out.mono ?_
  rintro e w1 ⟨hB, ⟨hn, _⟩ | ⟨l, v, hl, rfl, hll, hO⟩⟩
  · rw [awake_words] at hn; cases hn
  rw [awake_words] at hl
  cases hl
  have hB1 := Lib.hid hB
  obtain ⟨g, cap, rfl, hcell⟩ : ∃ g cap, v = .slice (some ⟨g, 0, none⟩) 2 cap ∧ w1.cell? ⟨g, 1, none⟩ = some (.string ⟨#[98, 32, 99]⟩) := by
    rcases hO.2 with ⟨_, h2⟩ | ⟨g, cap, cur, rfl, _⟩
    · cases h2
    · exact ⟨g, cap, rfl, by rw [hO.cellAt 1 (by decide)]; rfl⟩
  clear hB hO hll HW
  go_wp2_with fail
  refine (HT.out _).mono ?_
  rintro e w2 ⟨rfl, hB⟩
  rw [awake_told]
  have HB2 := Lib.hid (below_trans' hB1.out hB)
  clear hB HT
  go_wp2_with fail
  go_ret
  exact ⟨rfl, HB2.out⟩
end Go.Proofs.Ytlblnoipiappbaa
