/- Contracts: all whole pieces. -/
import Derived.Test.YtpbjdbdlfobpmaaGreatDgV
namespace Go.Proofs.YtpbjdbdlfobpmaaGreat
open Go.RowKit Go.Eng
/-- the words behind so many pieces -/
def piecesI (l : List Int) (f : Nat → Int) : Nat → List Int
  | 0 => l
  | p + 1 => pieceI (piecesI l f p) (fun i => f (32 * p + i))
/-- bytes that lie in a block -/
def Bys (w : World) (g off m : Nat) (f : Nat → Int) : Prop := g < w.heap.size ∧ ∀ i, i < m → w.cell? ⟨g, off + i, none⟩ = some (.int .u8 (f i))
theorem Bys.of_block {w w' : World} {g off m : Nat} {f : Nat → Int} (h : Bys w g off m f) (hs : w.heap.size ≤ w'.heap.size) (hb : w'.heap[g]? = w.heap[g]?) : Bys w' g off m f :=
  ⟨Nat.lt_of_lt_of_le h.1 hs, fun i hi => (show w'.cell? ⟨g, off + i, none⟩ = w.cell? ⟨g, off + i, none⟩ from World.cell?_of_block hb).trans (h.2 i hi)⟩
theorem Bys.only {w w' : World} {g off m : Nat} {f : Nat → Int} {row : Option Nat} (h : Bys w g off m f) (hg : w.grownBy w' row) (hne : some g ≠ row) : Bys w' g off m f := h.of_block hg.size (hg.block g h.1 hne)
theorem Bys.below {w w' : World} {g off m : Nat} {f : Nat → Int} (h : Bys w g off m f) (hb : RowKit.Below w.heap.size w w') : Bys w' g off m f := h.of_block hb.size (hb.block g h.1)
set_option maxRecDepth 100000 in
set_option maxHeartbeats 1000000 in
theorem pieces_any (b g off m cap : Nat) (l : List Int) (v : Value) (n : Int) (f : Nat → Int) (w : World) (hmc : m ≤ cap) (hbig : cap ≤ 9223372036854775807) (hne : g ≠ b) (hh : HS w b l v n) (hb : Bys w g off m f) :
    Calls Tryz.prog 140 #[.pointer (some ⟨b, 0, none⟩), .slice (some ⟨g, off, none⟩) m cap] w fun e w' => ∃ o' c', e = .returned (.slice (some ⟨g, o', none⟩) (m % 32) c') ∧ (o' = off + 32 * (m / 32) ∨ m % 32 = 0) ∧ m % 32 ≤ c' ∧ HS w' b (piecesI l f (m / 32)) v n ∧ w.grownBy w' (some b) := by
  have HH := Lib.hid hh
  have HB := Lib.hid hb
  have HM := Lib.hid hmc
  have HBIG := Lib.hid hbig
  have HNE := Lib.hid hne
  clear hh hb hmc hne hbig
  go_enter Tryz.func140, Tryz.ntmps140
  go_wp2_with fail
  go_loopw [1] (fun x wr => ∃ (p m' c' o' : Nat), 32 * p + m' = m ∧ m' ≤ c' ∧ c' ≤ 9223372036854775807 ∧ x = .slice (some ⟨g, o', none⟩) m' c' ∧ (o' = off + 32 * p ∨ m' = 0) ∧ HS wr b (piecesI l f p) v n ∧ w.grownBy wr (some b)) (fun x _ => (match x with | .slice _ k _ => k | _ => 0))
  case atStart => exact ⟨0, m, cap, off, by omega, HM.out, HBIG.out, rfl, .inl (by omega), HH.out, only_refl _ _⟩
  case round =>
    obtain ⟨p, m', c', o', hpm, hmc, hbig, rfl, ho, hH, hG⟩ := hrel
    by_cases hlt : 32 ≤ m'
    · obtain rfl : o' = off + 32 * p := ho.resolve_right (by omega)
      have hBp : ∀ i, i < 32 → wr.cell? ⟨g, off + 32 * p + i, none⟩ = some (.int .u8 (f (32 * p + i))) := fun i hi => by
        have := (HB.out.only hG (fun e => HNE.out (by injection e))).2 (32 * p + i) (by omega)
        rw [← Nat.add_assoc] at this
        exact this
      have HC := Lib.hid (piece_any b g (off + 32 * p) c' (piecesI l f p) v n (fun i => f (32 * p + i)) wr hH (by omega) hBp)
      have HG := Lib.hid hG
      have HPM := Lib.hid hpm
      have hle1 : (32 : Int) ≤ (m' : Int) := by omega
      have hle2 : (32 : Int) ≤ (c' : Int) := by omega
      have hnc : ¬ c' = 0 := by omega
      have HMC := Lib.hid hmc
      have HCB := Lib.hid hbig
      clear hH hG hBp hpm ho hmc hbig
      go_wp2_with fail
      refine HC.out.mono ?_
      rintro e w4 ⟨⟨x, rfl⟩, hH4, hG4⟩
      have HH4 := Lib.hid hH4
      have HG4 := Lib.hid (only_trans HG.out hG4)
      clear hH4 hG4 HC HG
      by_cases hc : c' = 32
      · subst hc
        obtain rfl : m' = 32 := by have := HMC.out; omega
        go_wp2_with fail
        exact ⟨⟨p + 1, 0, 0, _, by have := HPM.out; omega, Nat.le_refl _, by omega, rfl, .inr rfl, HH4.out, HG4.out⟩, by simp⟩
      · go_wp2_with fail
        exact ⟨⟨p + 1, m' - 32, c' - 32, off + 32 * p + 32, by have := HPM.out; omega, by have := HMC.out; omega, by have := HCB.out; omega, rfl, .inl (by omega), HH4.out, HG4.out⟩, by simp; omega⟩
    · have HHF := Lib.hid hH
      have HGF := Lib.hid hG
      have HPM := Lib.hid hpm
      have HO := Lib.hid ho
      have HMC := Lib.hid hmc
      have hlt' : ¬ (32 : Int) ≤ (m' : Int) := by omega
      clear hH hG hpm ho hmc hbig
      go_wp2
      go_ret
      have hp := HPM.out
      obtain rfl : m' = m % 32 := by omega
      obtain rfl : p = m / 32 := by omega
      exact ⟨_, _, rfl, HO.out, HMC.out, HHF.out, HGF.out⟩
end Go.Proofs.YtpbjdbdlfobpmaaGreat
