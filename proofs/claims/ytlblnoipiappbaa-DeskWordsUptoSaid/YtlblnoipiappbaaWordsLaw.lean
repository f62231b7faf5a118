/- DeskWords: the two readings of a line's words agree. -/
import Derived.Test.YtlblnoipiappbaaRsplit
import Derived.Test.YtlblnoipiappbaaAwake
namespace Go.Proofs.Ytlblnoipiappbaa
open Go.RowKit
/-- the shape of a row of words, and what its cells hold -/
theorem words_shape {w : World} {B : Nat} {l : List (List Nat × Bool)} {v : Value} {M : Nat} (hM : l.length = M) (hO : w.ownsRow B 9 1 v l.length (scells (l.map (·.1)))) :
    ∃ a c, v = .slice a M c ∧ (0 < M → ∃ g, a = some ⟨g, 0, none⟩ ∧ g < w.heap.size ∧ ∀ i x, l[i]? = some x → w.cell? ⟨g, i, none⟩ = some (.string (strOf x.1))) := by
  rw [hM] at hO
  rcases hO.2 with ⟨h1, h2⟩ | ⟨g, cap, cur, rfl, hb, hg, _⟩
  · exact ⟨none, 0, by rw [h2]; exact h1, fun h => by omega⟩
  · refine ⟨_, _, rfl, fun _ => ⟨g, rfl, (Array.getElem?_eq_some_iff.1 hg).1, fun i x hx => ?_⟩⟩
    have hi : i < M := by rw [← hM]; exact (List.getElem?_eq_some_iff.1 hx).1
    rw [hO.cellAt i (by omega)]
    simp [scells, hx]
set_option maxRecDepth 100000 in
set_option maxHeartbeats 2000000 in
theorem wordslaw_any (s : ByteArray) (w : World) (hs : s.size ≤ 1048576) : Calls Try.prog 3 #[.string s] w fun e w' => e = .returned (.bool true) ∧ Below w.heap.size w w' := by
  have HA := Lib.hid (words5_any s w (by omega))
  have HR := Lib.hid (fun W => rwords_any s W (by omega))
  go_enter Try.func3, Try.ntmps3
  go_wp2_with fail
  refine HA.out.mono ?_
  rintro e w1 ⟨hB, ⟨hn, rfl⟩ | ⟨l, v, hl, rfl, hll, hO⟩⟩
  · have HB1 := Lib.hid hB
    have HN := Lib.hid hn
    clear hB hn HA
    go_wp2_with fail
    refine (HR.out _).mono ?_
    rintro e w2 ⟨hB, ⟨_, rfl⟩ | ⟨l, v, hl, _⟩⟩
    rotate_left
    · rw [HN.out] at hl; cases hl
    have HB2 := Lib.hid (below_trans' HB1.out hB)
    clear hB HR
    go_wp2_with fail
    refine (dawake_any _).mono ?_
    rintro e w3 ⟨rfl, hB⟩
    have HB3 := Lib.hid (below_trans' HB2.out hB)
    clear hB
    go_wp2_with fail
    refine wp_loop_rounds 1 ?_
    rw [rounds_succ]
    go_wp2_with fail
    go_ret
    exact ⟨rfl, HB3.out⟩
  · obtain ⟨M, hM⟩ : ∃ M, l.length = M := ⟨_, rfl⟩
    have HM := Lib.hid hM
    have HB1 := Lib.hid hB
    have HL := Lib.hid hl
    rw [hM] at hll
    obtain ⟨a, c, rfl, hcs⟩ := words_shape hM hO
    have HC1 := Lib.hid hcs
    clear hB hl hM hO hcs HA
    go_wp2_with fail
    refine (HR.out _).mono ?_
    rintro e w2 ⟨hB, ⟨hn, _⟩ | ⟨l2, v2, hl2, rfl, hO2⟩⟩
    · rw [HL.out] at hn; cases hn
    rw [HL.out] at hl2
    cases hl2
    obtain ⟨a2, c2, rfl, hcs2⟩ := words_shape HM.out hO2
    have HB12 := Lib.hid hB
    have HC2 := Lib.hid hcs2
    clear hB hO2 hcs2 HR
    go_wp2_with fail
    refine (dawake_any _).mono ?_
    rintro e w3 ⟨rfl, hB⟩
    have HB23 := Lib.hid hB
    have HBA := Lib.hid (below_trans' (below_trans' HB1.out HB12.out) hB)
    clear hB
    go_wp2_with fail
    go_loopw [34] (fun i wr => ∃ j k : Nat, j ≤ M ∧ i = .int .i64 j ∧ wr = w3.drewN k) (fun i _ => M - (intOf i).toNat)
    case atStart => exact ⟨0, 0, by omega, rfl, rfl⟩
    case round =>
      obtain ⟨j, k, hj, rfl, rfl⟩ := hrel
      by_cases hlt : j < M
      · obtain ⟨g, rfl, hg, hcell⟩ := HC1.out (by omega)
        obtain ⟨g2, rfl, hg2, hcell2⟩ := HC2.out (by omega)
        have hx := List.getElem?_eq_getElem (l := l) (show j < l.length by rw [HM.out]; exact hlt)
        generalize l[j]'(show j < l.length by rw [HM.out]; exact hlt) = x at hx
        have hg' := Nat.lt_of_lt_of_le hg HB12.out.size
        have c0 : w3.cell? ⟨g, j, none⟩ = some (.string (strOf x.1)) := (HB23.out.cell (p := ⟨g, j, none⟩) hg').trans ((HB12.out.cell (p := ⟨g, j, none⟩) hg).trans (hcell j x hx))
        have c1 : w3.cell? ⟨g2, j, none⟩ = some (.string (strOf x.1)) := (HB23.out.cell (p := ⟨g2, j, none⟩) hg2).trans (hcell2 j x hx)
        clear hcell hcell2 hx
        generalize strOf x.1 = t at *
        go_wp2_with fail
        go_quiet (fail)
        go_wp2_with fail
        exact ⟨⟨j + 1, _, by omega, by go_num, rfl⟩, by simp [intOf]; omega⟩
      · obtain rfl : j = M := by omega
        go_wp2_with fail
        go_ret
        exact ⟨rfl, below_drewN HBA.out k⟩
end Go.Proofs.Ytlblnoipiappbaa
