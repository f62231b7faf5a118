/- How BitsSets' pair of sizes reads. -/
import Derived.Test.YtffdklcpkkcohaaSets
import Derived.Test.YtffdklcpkkcohaaBargs
namespace Go.Proofs.Ytffdklcpkkcohaa
open Go.ChangeShapes Go.WideShapes Go.ChangeAt Go.RowKit Go.Deep
section
variable {H : Type} {enc : TypeId × Value → H} {P : Program} {w : World} {base b0 : Nat} {spare : Nat → Bool} {held : Bool} {fuel : Nat} {x : DataW H × List MemPlace} {r : Reach}
theorem pair_gen {t e : TypeId} {q : IntKind} (ht : P.underlying t = some (.array 2 e)) (he : P.underlying e = some (.int q)) (hc : P.cellsOf t = 2) (hc3 : P.cellsOf e = 1) {v : Value} (hv : Value.okWide P w r b0 t v)
    (h : DataW.trod enc P w base spare held fuel t v.cells.toList = some x) : ∃ s : Int × Int, v = .agg #[.int q s.1, .int q s.2] := by
  simp only [Value.okWide, ht] at hv
  obtain ⟨cs, rfl, h2, _⟩ := hv
  rw [hc] at h2
  obtain ⟨l⟩ := cs
  obtain ⟨c0, c1, rfl⟩ : ∃ c0 c1, l = [c0, c1] := by
    match l, h2 with
    | [c0, c1], _ => exact ⟨c0, c1, rfl⟩
  obtain ⟨xs, m, _, _, _, hl, hel⟩ := DataW.trod_array ht h
  have h0 := hel 0 (by omega)
  have h1 := hel 1 (by omega)
  rw [hc3, List.getElem?_eq_getElem (by omega)] at h0
  rw [hc3, List.getElem?_eq_getElem (by omega)] at h1
  obtain ⟨z0, e0, _, _⟩ := DataW.trod_int he h0
  obtain ⟨z1, e1, _, _⟩ := DataW.trod_int he h1
  simp [Value.cells] at e0 e1
  subst e0 e1
  exact ⟨(z0, z1), rfl⟩
set_option maxRecDepth 100000 in
theorem pair_of {v : Value} (hv : Value.okWide Try.prog w r b0 67 v) (h : DataW.trod enc Try.prog w base spare held fuel 67 v.cells.toList = some x) : ∃ s : Int × Int, v = .agg #[.int .i64 s.1, .int .i64 s.2] :=
  pair_gen (q := .i64) Try.underlying67 Try.underlying3 (by kernel_rfl) (by kernel_rfl) hv h
end
theorem sets_v (v : Value) (s : Int × Int) (hv : v = .agg #[.int .i64 s.1, .int .i64 s.2]) (a1 : Option Addr) (l1 c1 : Nat) (xs1 : Nat → Act3) (a2 : Option Addr) (l2 c2 : Nat) (xs2 : Nat → Act3) (w : World) (hx1 : Acts w a1 l1 xs1) (hl1 : l1 ≤ maxLen) (hx2 : Acts w a2 l2 xs2) (hl2 : l2 ≤ maxLen) :
    Calls Try.prog 8 #[v, .slice a1 l1 c1, .slice a2 l2 c2] w fun e w' => e = .returned (.bool true) ∧ Below w.heap.size w w' := by
  subst hv
  exact sets_any s.1 s.2 a1 l1 c1 xs1 a2 l2 c2 xs2 w hx1 hl1 hx2 hl2
end Go.Proofs.Ytffdklcpkkcohaa
