/- How RoomPlays' arguments read in memory. -/
import Derived.Test.YtffdklcpkkcohaaPlays
import Derived.Test.YtffdklcpkkcohaaRargs
import Derived.SizedLaws
namespace Go.Proofs.Ytffdklcpkkcohaa
open Go.ChangeShapes Go.WideShapes Go.ChangeAt Go.RowKit Go.Deep
theorem bytes46 : Try.prog.bytesOf 46 = 4 := by kernel_rfl
section
variable {H : Type} {enc : TypeId × Value → H} {w : World} {base : Nat} {spare : Nat → Bool} {held : Bool} {fuel : Nat} {a : Option Addr} {len cap : Nat} {x : DataW H × List MemPlace}
theorem slice_shape {P : Program} {t e : TypeId} (ht : P.underlying t = some (.slice e)) (h : DataW.trod enc P w base spare held fuel t [.slice a len cap] = some x) :
    (a = none → len = 0 ∧ cap = 0) ∧ (len = 0 ∨ ∃ el re, x.1 = .slice el re ∧ el.length = len) := by
  rcases DataW.trod_slice ht h with ⟨hcs, _⟩ | ⟨ad, len', cap', elems, rest, n, _, hcs, hx, hb, hl, hm, hlen, _⟩
  · simp at hcs
    obtain ⟨rfl, rfl, rfl⟩ := hcs
    exact ⟨fun _ => ⟨rfl, rfl⟩, .inl rfl⟩
  · simp at hcs
    obtain ⟨rfl, rfl, rfl⟩ := hcs
    exact ⟨fun h => (by cases h), .inr ⟨_, _, by rw [hx], by rw [List.length_map]; exact hlen⟩⟩
set_option maxRecDepth 100000 in
theorem dos_of (h : DataW.trod enc Try.prog w base spare held fuel 102 [.slice a len cap] = some x) : len ≤ maxLen ∧ ∃ xs, Dos w a len xs := by
  rcases open_slice_fields Try.underlying102 Try.underlying104 (by kernel_rfl) (by kernel_rfl) h with ⟨hcs, _⟩ | ⟨ad, len', cap', m, D, Pl, hcs, _, hl, hm, hmm, _, hi⟩
  · simp at hcs
    obtain ⟨rfl, rfl, rfl⟩ := hcs
    exact ⟨by simp [maxLen], fun _ => ⟨0, 0⟩, fun _ => by show (0 : Nat) < _; decide, fun h => absurd h (by decide)⟩
  · simp at hcs
    obtain ⟨rfl, rfl, rfl⟩ := hcs
    refine ⟨by omega, ?_⟩
    have hlm : len ≤ m := by rw [hmm]; split <;> omega
    have key : ∀ i, ∃ y : Do2, y.at_ < 4294967296 ∧ (i < len → w.cell? (ad.add (i * 2 + 0)) = some (.int .i64 y.kind) ∧ w.cell? (ad.add (i * 2 + 1)) = some (.int .u32 (y.at_ : Int))) := by
      intro i
      by_cases h : i < len
      · obtain ⟨ys, n, _, _, _, hf⟩ := hi i (by omega)
        obtain ⟨v0, y0, k0, _, t0⟩ := hf 0 _ rfl
        obtain ⟨v1, y1, k1, _, t1⟩ := hf 1 _ rfl
        obtain ⟨z0, e0, _, _⟩ := DataW.trod_int Try.underlying3 t0
        obtain ⟨z1, e1, _, hw⟩ := DataW.trod_int Try.underlying46 t1
        have hb := bounds_u32 hw
        simp at e0 e1
        subst e0 e1
        exact ⟨⟨z0, z1.toNat⟩, by show z1.toNat < _; omega, fun _ => ⟨k0, by show _ = some (Value.int .u32 ((z1.toNat : Nat) : Int)); rw [Int.toNat_of_nonneg hb.1]; exact k1⟩⟩
      · exact ⟨⟨0, 0⟩, by show (0 : Nat) < _; decide, fun h' => absurd h' h⟩
    obtain ⟨xs, hxs⟩ := Classical.axiomOfChoice key
    refine ⟨xs, fun i => (hxs i).1, fun hn => ?_⟩
    have k0 : w.cell? ad = some (.int .i64 (xs 0).kind) := ((hxs 0).2 hn).1
    obtain ⟨b, off, rfl, hlt⟩ := cell_spot k0
    refine ⟨b, off, rfl, hlt, fun i hi' => ?_⟩
    have ki := (hxs i).2 hi'
    simp only [add_plain, Nat.add_zero] at ki
    simp only [Nat.add_assoc]
    exact ki
end
end Go.Proofs.Ytffdklcpkkcohaa
