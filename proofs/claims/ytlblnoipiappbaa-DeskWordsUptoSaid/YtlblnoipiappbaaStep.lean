/- Step laws of regions that draw: an append, desk.small. -/
import Derived.Test.YtlblnoipiappbaaDmath
import Derived.Deep.RegionLaw
namespace Go.Proofs.Ytlblnoipiappbaa
open Go.RowKit
section
variable {P : Program} {ops : Array Oper} {o : Oper} {a : Act} {w : World} {K : Act → World → Prop} {Q : Exit → Act → World → Prop} {E : Prop}
/-- append to a slice of the call's own, as one step of a region that draws -/
theorem step_append_own (hg : o.guard = none) (s x : Operand) (t : TypeId) (ho : o.op = .call { callee := .builtin .append, args := #[s, x], argTypes := #[t, t] })
    (base : Nat) (e : TypeId) (i : TypeInfo) (z : Value) (size bytes : Nat) (ht : P.underlying t = some (.slice e)) (hi : P.info? e = some i) (hz : i.zero = some z)
    (hsize : i.size = size) (hby : i.bytes = bytes) (hzs : z.cells.size = size) (hsz : 0 < size)
    (v : Value) (n : Nat) (xs : List Value) (hs : a.eval s = v) (hown : w.ownsRow base e size v n xs)
    (ad : Addr) (m c : Nat) (news : List Value) (hx : a.eval x = .slice (some ad) m c) (hl : news.length = m * size) (hnews : ∀ j u, news[j]? = some u → w.cell? (ad.add j) = some u) (h1 : ∀ u ∈ news, u.oneCell' = true)
    (h63 : n + m ≤ maxLen) (hbytes : (n + m) * bytes ≤ 140737488355328) (hbase : base ≤ w.heap.size)
    (h : ∀ v' w', w'.ownsRow base e size v' (n + m) (xs ++ news) → w.grownBy w' v.ownBlock → (v' = .slice none 0 0 ↔ v = .slice none 0 0 ∧ m = 0) → K (a.put o.dst v') w') :
    if Region.wanted o (yielded ops a.tmps) = true then Oper.wp P o a w K Q else E := by
  rw [if_pos (by simp [Region.wanted, hg])]
  exact wp_append_own w s x t ho base e i z size bytes ht hi hz hsize hby hzs hsz v n xs hs hown ad m c news hx hl hnews h1 h63 hbytes hbase h
end
section
variable {ops : Array Oper} {o : Oper} {a : Act} {w : World} {K : Act → World → Prop} {Q : Exit → Act → World → Prop} {E : Prop}
theorem step_small (hg : o.guard = none) (x : Operand) (hop : o.op = .call { callee := .value (.func 16), args := #[x], argTypes := #[5] }) (c : Nat) (hc : c < 256) (v : Int) (hv : hexV c = v) (hx : a.eval x = .int .u8 (c : Int)) (hK : K (a.put o.dst (.int .i64 v)) w) :
    if Region.wanted o (yielded ops a.tmps) = true then Oper.wp Try.prog o a w K Q else E := by
  rw [if_pos (by simp [Region.wanted, hg])]
  subst hv
  have HS := small_any c hc w
  unfold Oper.wp
  have he : a.eval (.func 16) = .func (Fn.func 16) #[] #[] := rfl
  have hrun : (execOp a.eval o).run Try.prog w = .ok (.enter 16 #[.int .u8 (c : Int)]) w := by
    unfold execOp
    simp only [hop, resolve, Sem.run_bind, List.map_toArray, List.map_cons, List.map_nil, hx, he]
    simp [Deferred.ofValue, invoke, Result.andThen]
  rw [hrun]
  refine HS.mono ?_
  rintro e w' ⟨rfl, rfl⟩
  exact hK
end
end Go.Proofs.Ytlblnoipiappbaa
