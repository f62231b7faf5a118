/- How RoomMany's arguments read in memory. -/
import Derived.Test.YtffdklcpkkcohaaRMany
import Derived.Test.YtffdklcpkkcohaaRargs
namespace Go.Proofs.Ytffdklcpkkcohaa
open Go.ChangeShapes Go.WideShapes Go.ChangeAt Go.RowKit Go.Deep
structure Many4 where
  num : Int
  a : Option Addr
  len : Nat
  cap : Nat
  f : Nat → Nat
def ManyAt (w : World) (v : Value) (y : Many4) : Prop :=
  v = .agg #[.int .i64 y.num, .slice y.a y.len y.cap] ∧ (-9223372036854775808 ≤ y.num ∧ y.num ≤ 9223372036854775807) ∧ y.len ≤ y.cap ∧ y.cap ≤ maxLen ∧ U32s w y.a y.len y.f
section
variable {H : Type} {enc : TypeId × Value → H} {P : Program} {w : World} {base b0 : Nat} {spare : Nat → Bool} {held : Bool} {fuel : Nat} {x : DataW H × List MemPlace} {r : Reach}
theorem slice_caps {t e : TypeId} {a : Option Addr} {len cap : Nat} (ht : P.underlying t = some (.slice e)) (h : DataW.trod enc P w base spare held fuel t [.slice a len cap] = some x) : len ≤ cap ∧ cap ≤ maxLen := by
  rcases DataW.trod_slice ht h with ⟨hcs, _⟩ | ⟨ad, len', cap', elems, rest, n, _, hcs, hx, hb, hl, hm, hlen, _⟩
  · simp at hcs
    obtain ⟨rfl, rfl, rfl⟩ := hcs
    exact ⟨Nat.le_refl _, by simp [maxLen]⟩
  · simp at hcs
    obtain ⟨rfl, rfl, rfl⟩ := hcs
    exact ⟨hl, hm⟩
theorem many_gen2 {t e u q : TypeId} {fs : Array Field} {n0 n1 : Field} (ht : P.underlying t = some (.struct fs)) (hfs : fs = #[n0, n1]) (h0 : n0.type = e) (h1 : n1.type = u) (o0 : n0.offset = 0) (o1 : n1.offset = 1)
    (he : P.underlying e = some (.int .i64)) (hu : P.underlying u = some (.slice q)) (hq : P.underlying q = some (.int .u32)) (hc : P.cellsOf t = 2) (hce : P.cellsOf e = 1) (hcu : P.cellsOf u = 1) (hcq : P.cellsOf q = 1) {v : Value} (hv : Value.okWide P w r b0 t v)
    (h : DataW.trod enc P w base spare held fuel t v.cells.toList = some x) : ∃ y, ManyAt w v y := by
  obtain ⟨cs, rfl, h2⟩ := okWide_struct ht hv
  rw [hc] at h2
  obtain ⟨l⟩ := cs
  obtain ⟨c0, c1, rfl⟩ : ∃ c0 c1, l = [c0, c1] := by
    match l, h2 with
    | [c0, c1], _ => exact ⟨c0, c1, rfl⟩
  obtain ⟨xs, m, _, _, _, hl, hel⟩ := DataW.trod_struct ht h
  subst hfs
  have g0 := hel 0 n0 rfl
  have g1 := hel 1 n1 rfl
  have hl2 : xs.length = 2 := hl
  rw [h0, o0, hce, List.getElem?_eq_getElem (by omega)] at g0
  rw [h1, o1, hcu, List.getElem?_eq_getElem (by omega)] at g1
  obtain ⟨z0, e0, _, hw0⟩ := DataW.trod_int he g0
  obtain ⟨a, len, cap, e1, hlen, f, hf⟩ := u32s_gen hu hq hcq g1
  rw [e1] at g1
  have hcaps := slice_caps hu g1
  have hb := bounds_i64 hw0
  simp [Value.cells] at e0 e1
  subst e0 e1
  exact ⟨⟨z0, a, len, cap, f⟩, rfl, hb, hcaps.1, hcaps.2, hf⟩
end
section
variable {H : Type} {enc : TypeId × Value → H} {w : World} {base b0 : Nat} {spare : Nat → Bool} {held : Bool} {fuel : Nat} {x : DataW H × List MemPlace} {r : Reach}
set_option maxRecDepth 100000 in
theorem many2_of {v : Value} (hv : Value.okWide Try.prog w r b0 57 v) (h : DataW.trod enc Try.prog w base spare held fuel 57 v.cells.toList = some x) : ∃ y, ManyAt w v y :=
  many_gen2 Try.underlying57 rfl rfl rfl rfl rfl Try.underlying3 Try.underlying39 Try.underlying46 (by kernel_rfl) (by kernel_rfl) (by kernel_rfl) (by kernel_rfl) hv h
end
theorem rmany_v (w : World) (blocks : Int) (a : Option Addr) (len cap : Nat) (f : Nat → Nat) {v : Value} (y : Many4) (h1 : U32s w a len f) (hl : len ≤ maxLen) (h : ManyAt w v y) :
    Calls Try.prog 13 #[.int .i64 blocks, .slice a len cap, v] w fun e w' => e = .returned (.bool true) ∧ Below w.heap.size w w' := by
  obtain ⟨rfl, h2, h3, h4, h5⟩ := h
  exact rmany_any blocks a len cap f y.num y.a y.len y.cap y.f w h1 hl h5 h3 h4 h2
end Go.Proofs.Ytffdklcpkkcohaa
