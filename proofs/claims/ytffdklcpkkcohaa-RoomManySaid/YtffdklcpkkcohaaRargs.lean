/- How the room's laws' arguments read in memory. -/
import Derived.Test.YtffdklcpkkcohaaRoom5
import Derived.Test.YtffdklcpkkcohaaBargs
namespace Go.Proofs.Ytffdklcpkkcohaa
open Go.ChangeShapes Go.WideShapes Go.ChangeAt Go.RowKit Go.Deep
section
variable {H : Type} {enc : TypeId × Value → H} {P : Program} {w : World} {base b0 : Nat} {spare : Nat → Bool} {held : Bool} {fuel : Nat} {a : Option Addr} {len cap : Nat} {x : DataW H × List MemPlace} {r : Reach}
theorem u32s_gen {t e : TypeId} (ht : P.underlying t = some (.slice e)) (he : P.underlying e = some (.int .u32)) (hc : P.cellsOf e = 1) {cs : List Value} (h : DataW.trod enc P w base spare held fuel t cs = some x) :
    ∃ a len cap, cs = [.slice a len cap] ∧ len ≤ maxLen ∧ ∃ f, U32s w a len f := by
  rcases open_ints ht he hc h with ⟨hcs, _⟩ | ⟨ad, l, c, zs, hcs, _, hl, hm, hz, _, hcell, hwz⟩
  · exact ⟨none, 0, 0, hcs, by simp [maxLen], fun _ => 0, fun i hi => by omega, fun h => absurd h (by decide)⟩
  · have hzl : l ≤ zs.length := by rw [hz]; split <;> omega
    have hb : ∀ i, i < l → 0 ≤ zs.getD i 0 ∧ zs.getD i 0 ≤ 4294967295 := fun i hi => by
      rw [List.getD, List.getElem?_eq_getElem (by omega)]
      exact bounds_u32 (hwz _ (List.getElem_mem _))
    refine ⟨some ad, l, c, hcs, by omega, fun i => (zs.getD i 0).toNat, fun i hi => ?_, fun hn => ?_⟩
    · have := hb i hi
      show (zs.getD i 0).toNat < 4294967296
      omega
    · have k0 := hcell 0 (by omega)
      obtain ⟨b, off, rfl, hlt⟩ := cell_spot (show w.cell? ad = _ from k0)
      refine ⟨b, off, rfl, hlt, fun i hi => ?_⟩
      have ki := hcell i (by omega)
      rw [add_plain] at ki
      rw [ki, Int.toNat_of_nonneg (hb i hi).1]
theorem many_gen {t e u q : TypeId} {fs : Array Field} {n0 n1 : Field} (ht : P.underlying t = some (.struct fs)) (hfs : fs = #[n0, n1]) (h0 : n0.type = e) (h1 : n1.type = u) (o0 : n0.offset = 0) (o1 : n1.offset = 1)
    (he : P.underlying e = some (.int .i64)) (hu : P.underlying u = some (.slice q)) (hq : P.underlying q = some (.int .u32)) (hc : P.cellsOf t = 2) (hce : P.cellsOf e = 1) (hcu : P.cellsOf u = 1) (hcq : P.cellsOf q = 1) {v : Value} (hv : Value.okWide P w r b0 t v)
    (h : DataW.trod enc P w base spare held fuel t v.cells.toList = some x) : ∃ y : Int × Option Addr × Nat × Nat × (Nat → Nat), v = .agg #[.int .i64 y.1, .slice y.2.1 y.2.2.1 y.2.2.2.1] ∧ y.2.2.1 ≤ maxLen ∧ U32s w y.2.1 y.2.2.1 y.2.2.2.2 := by
  obtain ⟨cs, rfl, h2⟩ := okWide_struct ht hv
  rw [hc] at h2
  obtain ⟨l⟩ := cs
  obtain ⟨c0, c1, rfl⟩ : ∃ c0 c1, l = [c0, c1] := by
    match l, h2 with
    | [c0, c1], _ => exact ⟨c0, c1, rfl⟩
  obtain ⟨xs, m, _, _, _, hl, hel⟩ := DataW.trod_struct ht h
  subst hfs
  have g0 := hel 0 n0 rfl
  have g1 := hel 1 n1 rfl
  have hl2 : xs.length = 2 := hl
  rw [h0, o0, hce, List.getElem?_eq_getElem (by omega)] at g0
  rw [h1, o1, hcu, List.getElem?_eq_getElem (by omega)] at g1
  obtain ⟨z0, e0, _, _⟩ := DataW.trod_int he g0
  obtain ⟨a, len, cap, e1, hlen, f, hf⟩ := u32s_gen hu hq hcq g1
  simp [Value.cells] at e0 e1
  subst e0 e1
  exact ⟨(z0, a, len, cap, f), rfl, hlen, hf⟩
end
section
variable {H : Type} {enc : TypeId × Value → H} {w : World} {base b0 : Nat} {spare : Nat → Bool} {held : Bool} {fuel : Nat} {a : Option Addr} {len cap : Nat} {x : DataW H × List MemPlace} {r : Reach}
set_option maxRecDepth 100000 in
theorem u32s_of (h : DataW.trod enc Try.prog w base spare held fuel 39 [.slice a len cap] = some x) : len ≤ maxLen ∧ ∃ f, U32s w a len f := by
  obtain ⟨a', l', c', hcs, h1, h2⟩ := u32s_gen Try.underlying39 Try.underlying46 (by kernel_rfl) h
  cases hcs
  exact ⟨h1, h2⟩
set_option maxRecDepth 100000 in
theorem many_of {v : Value} (hv : Value.okWide Try.prog w r b0 57 v) (h : DataW.trod enc Try.prog w base spare held fuel 57 v.cells.toList = some x) : ∃ y : Int × Option Addr × Nat × Nat × (Nat → Nat), v = .agg #[.int .i64 y.1, .slice y.2.1 y.2.2.1 y.2.2.2.1] ∧ y.2.2.1 ≤ maxLen ∧ U32s w y.2.1 y.2.2.1 y.2.2.2.2 :=
  many_gen Try.underlying57 rfl rfl rfl rfl rfl Try.underlying3 Try.underlying39 Try.underlying46 (by kernel_rfl) (by kernel_rfl) (by kernel_rfl) (by kernel_rfl) hv h
end
theorem rnone_v (w : World) {v : Value} (y : Int × Option Addr × Nat × Nat × (Nat → Nat)) (h : v = .agg #[.int .i64 y.1, .slice y.2.1 y.2.2.1 y.2.2.2.1] ∧ y.2.2.1 ≤ maxLen ∧ U32s w y.2.1 y.2.2.1 y.2.2.2.2) :
    Calls Try.prog 7 #[v] w fun e w' => e = .returned (.bool true) ∧ Below w.heap.size w w' := by
  obtain ⟨rfl, h1, h2⟩ := h
  exact rnone_any w y.1 y.2.1 y.2.2.1 y.2.2.2.1 y.2.2.2.2 h2 h1
end Go.Proofs.Ytffdklcpkkcohaa
