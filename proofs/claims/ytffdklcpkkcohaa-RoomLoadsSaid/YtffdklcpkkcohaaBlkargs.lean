/- How a slice of blocks reads in memory. -/
import Derived.Test.YtffdklcpkkcohaaBlk
import Derived.Test.YtffdklcpkkcohaaBargs
namespace Go.Proofs.Ytffdklcpkkcohaa
open Go.ChangeShapes Go.WideShapes Go.ChangeAt Go.RowKit Go.Deep
section
variable {H : Type} {enc : TypeId × Value → H} {w : World} {base : Nat} {spare : Nat → Bool} {held : Bool} {fuel : Nat} {a : Option Addr} {len cap : Nat} {x : DataW H × List MemPlace}
set_option maxRecDepth 100000 in
theorem blks_of (h : DataW.trod enc Try.prog w base spare held fuel 73 [.slice a len cap] = some x) : len ≤ maxLen ∧ ∃ f, Blks w a len f ∧ ∀ i, f i < 256 := by
  have c78 : Try.prog.cellsOf 78 = 256 := by kernel_rfl
  have c5 : Try.prog.cellsOf 5 = 1 := by kernel_rfl
  rcases open_slice Try.underlying73 h with ⟨hcs, _⟩ | ⟨ad, len', cap', m, n, D, Pl, hcs, _, hl, hm, hmm, _, hi⟩
  · simp at hcs
    obtain ⟨rfl, rfl, rfl⟩ := hcs
    exact ⟨by simp [maxLen], fun _ => 0, fun h => absurd h (by decide), fun _ => by show (0 : Nat) < 256; decide⟩
  · simp at hcs
    obtain ⟨rfl, rfl, rfl⟩ := hcs
    refine ⟨by omega, ?_⟩
    have hlm : len ≤ m := by rw [hmm]; split <;> omega
    have key : ∀ k, ∃ y : Nat, y < 256 ∧ (k < 256 * len → w.cell? (ad.add k) = some (.int .u8 (y : Int))) := by
      intro k
      by_cases hk : k < 256 * len
      · obtain ⟨cs', hc, ht⟩ := hi (k / 256) (by omega)
        rw [c78] at hc
        obtain ⟨_, hcl, hat⟩ := World.cells?_some hc
        obtain ⟨xs, m', _, _, hl', hxl, hel⟩ := DataW.trod_array Try.underlying78 ht
        have hj : k % 256 < 256 := Nat.mod_lt _ (by decide)
        have he := hel (k % 256) hj
        rw [c5, Nat.mul_one] at he
        have hone : (cs'.drop (k % 256)).take 1 = [cs'[k % 256]'(by omega)] := by
          rw [List.drop_eq_getElem_cons (by omega)]
          rfl
        rw [hone, List.getElem?_eq_getElem (by omega)] at he
        obtain ⟨z, e0, _, hwf⟩ := DataW.trod_int Try.underlying5 he
        have hb := bounds_u8 hwf
        have hcell := hat (k % 256) hj
        rw [Go.Deep.add_add, show k / 256 * 256 + k % 256 = k by omega, List.getElem?_eq_getElem (by omega)] at hcell
        simp at e0
        rw [e0] at hcell
        exact ⟨z.toNat, by omega, fun _ => by rw [hcell, Int.toNat_of_nonneg hb.1]⟩
      · exact ⟨0, by decide, fun h' => absurd h' hk⟩
    obtain ⟨f, hf⟩ := Classical.axiomOfChoice key
    refine ⟨f, fun hn => ?_, fun i => (hf i).1⟩
    have k0 := (hf 0).2 (by omega)
    obtain ⟨b, off, rfl, hlt⟩ := cell_spot (show w.cell? ad = _ from k0)
    refine ⟨b, off, rfl, hlt, fun i hi' => ?_⟩
    have ki := (hf i).2 hi'
    rw [add_plain] at ki
    exact ki
end
end Go.Proofs.Ytffdklcpkkcohaa
