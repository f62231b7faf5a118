/- Contract of the law's stands: a room stands as the document's states say. -/
import Derived.Test.YtffdklcpkkcohaaRref
import Derived.Test.YtffdklcpkkcohaaRleaf
namespace Go.Proofs.Ytffdklcpkkcohaa
open Go.RowKit
theorem sameTo_self (f : Nat → Nat) (m : Nat) : sameTo f f m = true := (sameTo_iff f f m).2 fun _ _ => rfl
theorem bsame_self (f : Nat → Nat) (m : Nat) : bsame m m f f = true := by unfold bsame; rw [sameTo_self]; simp
/-- cells that may be written -/
def CellsIn (w : World) (g m : Nat) : Prop := ∀ i, i < m → (∃ v, w.cell? ⟨g, i, none⟩ = some v) ∧ w.frozen? ⟨g, i, none⟩ = false
theorem CellsIn.set {w : World} {g m : Nat} (h : CellsIn w g m) (p : Nat) (v : Value) : CellsIn (w.setCell ⟨g, p, none⟩ v) g m := fun i hi => by
  obtain ⟨⟨x, hx⟩, h2⟩ := h i hi
  exact ⟨cell?_setCell_some hx, by rw [World.frozen?_setCell]; exact h2⟩
set_option maxRecDepth 100000 in
set_option maxHeartbeats 2000000 in
theorem stands_any (b bb n g cap : Nat) (s : Nat → Int) (a : Option Addr) (len c : Nat) (f : Nat → Nat) (w : World) (hr : RoomAt w b bb n s) (hi : IntsAt w g n s) (hx : U32s w a len f) (hlen : len ≤ maxLen) :
    Calls Try.prog 65 #[.pointer (some ⟨b, 0, none⟩), .slice (some ⟨g, 0, none⟩) n cap, .slice a len c] w fun e w' => e = .returned (.bool true) ∧ Below w.heap.size w w' := by
  have hn := hr.most
  have hn1 := hr.least
  unfold maxLen at hlen
  have HR := Lib.hid hr
  have HI := Lib.hid hi
  have HX := Lib.hid hx
  clear hr hi hx
  go_enter Try.func65, Try.ntmps65
  go_wp2_with fail
  refine (rblocks_any b bb n s w HR.out).mono ?_
  rintro e w' ⟨rfl, rfl⟩
  go_wp2_with fail
  go_loopw [7] (fun i wr => ∃ v : Int, -1 ≤ v ∧ v ≤ 6 ∧ i = .int .i64 v ∧ Below w.heap.size w wr) (fun i _ => (6 - intOf i).toNat)
  case atStart => exact ⟨-1, by omega, by omega, rfl, Below.refl _ _⟩
  case round =>
    obtain ⟨v, hv1, hv2, rfl, hB⟩ := hrel
    obtain ⟨wo, rfl⟩ : ∃ wo : World, wo = wr := ⟨_, rfl⟩
    have HB := Lib.hid hB
    have HR1 := Lib.hid (HR.out.below hB)
    have HI1 := Lib.hid (HI.out.below hB)
    clear hB
    by_cases hlt : v < 6
    · have hll := listS_len n s v
      have HW := Lib.hid (rlist_sl g n cap s wo v HI1.out)
      go_wp2_with fail
      refine HW.out.mono ?_
      rintro e w1 ⟨wa, wc, rfl, hU1, hB1⟩
      have HB1 := Lib.hid (below_trans' HB.out hB1)
      have HR2 := Lib.hid (HR1.out.below hB1)
      have HU1 := Lib.hid hU1
      have HG := Lib.hid (list_sl b bb n s v w1 HR2.out)
      clear hU1 hB1 HW
      go_wp2_with fail
      refine HG.out.mono ?_
      rintro e w2 ⟨ga, gc, rfl, hU2, hB2⟩
      have HB2 := Lib.hid (below_trans' HB1.out hB2)
      have HR3 := Lib.hid (HR2.out.below hB2)
      have HU2 := Lib.hid hU2
      have HU1 := Lib.hid (HU1.out.below hB2)
      have HC := Lib.hid (rcountS_any b bb n s v w2 HR3.out)
      have hz2 := hB2.size
      clear hU2 hB2 HG
      go_wp2_with fail
      refine HC.out.mono ?_
      rintro e w3 ⟨rfl, hB3⟩
      have HB3 := Lib.hid (below_trans' HB2.out hB3)
      have HU2' := Lib.hid (HU2.out.below hB3)
      have HU1' := Lib.hid (HU1.out.below hB3)
      have HS := Lib.hid (same32_any ga _ gc _ wa _ wc _ w3 HU2'.out.rd HU1'.out.rd (by unfold maxLen; omega) (by unfold maxLen; omega))
      rw [same32_lists] at HS
      rw [decide_eq_true rfl] at HS
      have hz3 := HB1.out.size
      clear hB3 HC HU2
      go_wp2_with fail
      refine HS.out.mono ?_
      rintro e w4 ⟨rfl, q, rfl⟩
      have HB4 := Lib.hid (below_drewN HB3.out q)
      have HK : Hid (0 < (listS n s v).length → ∃ gg, ga = some ⟨gg, 0, none⟩ ∧ w.heap.size ≤ gg ∧ CellsIn (w3.drewN q) gg (listS n s v).length) := Lib.hid (fun h0 => by
        obtain ⟨gg, h1, h2, h3, h4⟩ := HU2'.out h0
        exact ⟨gg, h1, by omega, fun i hi => by obtain ⟨k1, k2⟩ := h4 i _ (List.getElem?_eq_getElem hi); exact ⟨⟨_, k1⟩, k2⟩⟩)
      clear HS HU2' HU1' HU1 HB3
      generalize w3.drewN q = w5 at *
      generalize (listS n s v).length = m at *
      go_wp2_with fail
      go_loopw [44] (fun i w6 => ∃ p : Nat, p ≤ m ∧ i = .int .i64 p ∧ Below w.heap.size w w6 ∧ (0 < m → ∃ gg, ga = some ⟨gg, 0, none⟩ ∧ w.heap.size ≤ gg ∧ CellsIn w6 gg m)) (fun i _ => m - (intOf i).toNat)
      case atStart => exact ⟨0, by omega, rfl, HB4.out, HK.out⟩
      case round =>
        obtain ⟨p, hp, rfl, hB, hK⟩ := hrel
        have HB6 := Lib.hid hB
        have HK6 := Lib.hid hK
        clear hB hK HB4 HK
        by_cases hpm : p < m
        · obtain ⟨gg, rfl, hgg, hcs⟩ := HK6.out (by omega)
          obtain ⟨⟨x, c1⟩, f1⟩ := hcs p hpm
          have HCS := Lib.hid (hcs.set p (.int .u32 0))
          clear hcs
          go_wp2_with fail
          exact ⟨⟨p + 1, by omega, by go_num, HB6.out.setCell hgg _, fun _ => ⟨gg, rfl, hgg, HCS.out⟩⟩, by simp [intOf]; omega⟩
        · obtain rfl : p = m := by omega
          go_wp2_with fail
          exact ⟨⟨v + 1, by omega, by omega, rfl, HB6.out⟩, by simp [intOf]; omega⟩
    · obtain rfl : v = 6 := by omega
      have HX1 := Lib.hid (HX.out.below HB.out)
      go_wp2_with fail
      go_loop [53] (fun i => ∃ p : Nat, p ≤ len ∧ i = .int .i64 p) (fun i => len - (intOf i).toNat)
      case atStart => exact ⟨0, by omega, rfl⟩
      case round =>
        obtain ⟨p, hp, rfl⟩ := hrel
        by_cases hpm : p < len
        · obtain ⟨b0, o0, rfl, hb0, hcs⟩ := HX1.out.2 (by omega)
          have hu := HX1.out.1 p hpm
          have c1 := hcs p hpm
          have HS1 := Lib.hid (state_any b bb n s wo (f p) hu HR1.out)
          have HS2 := Lib.hid (rstate_any g n cap s wo (f p) hu HI1.out)
          clear hcs
          generalize f p = z at *
          generalize stI n s z = y at *
          go_wp2_with fail
          refine HS1.out.mono ?_
          rintro e w' ⟨rfl, rfl⟩
          go_wp2_with fail
          refine HS2.out.mono ?_
          rintro e w' ⟨rfl, rfl⟩
          go_wp2_with fail
          go_round
          case rel => exact ⟨p + 1, by omega, by go_num⟩
          case measure => simp [intOf]; omega
        · have HL1 := Lib.hid (lleaves_any g n cap s wo HI1.out (by omega))
          go_wp2_with fail
          refine HL1.out.mono ?_
          rintro e w1 ⟨wa, wc, rfl, hBl, hB1⟩
          have HB1 := Lib.hid (below_trans' HB.out hB1)
          have HBl := Lib.hid hBl
          have HL2 := Lib.hid (rleaves_any b bb n s w1 (HR1.out.below hB1))
          clear hBl hB1 HL1
          go_wp2_with fail
          refine HL2.out.mono ?_
          rintro e w2 ⟨ga, gc, rfl, hBl2, hB2⟩
          have HB2 := Lib.hid (below_trans' HB1.out hB2)
          have HE := Lib.hid (blocks_any ga wa (nLeaves n) (nLeaves n) gc wc _ _ w2 hBl2 (HBl.out.below hB2) (by unfold nLeaves maxLen; omega))
          rw [bsame_self] at HE
          clear hBl2 hB2 HL2 HBl
          go_wp2_with fail
          refine HE.out.mono ?_
          rintro e w3 ⟨rfl, q, rfl⟩
          go_wp2_with fail
          go_ret
          exact ⟨rfl, below_drewN HB2.out q⟩
end Go.Proofs.Ytffdklcpkkcohaa
