/- Contracts: the sum of a hasher that holds nothing. -/
import Derived.Test.YtpbjdbdlfobpmaaGreatDgY
namespace Go.Proofs.YtpbjdbdlfobpmaaGreat
open Go.RowKit Go.Eng
theorem held_none (w : World) (k : Nat) (f : Nat → Int) (h : k = 0) : (Builtin.firstCells 1 k (.slice none k k)).run Tryz.prog w = .ok (bc (fBytes k f)).toArray w := by
  subst h
  simp [Builtin.firstCells, bc, fBytes]
set_option maxRecDepth 100000 in
set_option maxHeartbeats 8000000 in
theorem sum_none (b : Nat) (x0 x1 x2 x3 x4 x5 x6 x7 : Int) (n k : Nat) (f : Nat → Int) (w : World) (hn : n ≤ 1000000) (hk0 : k = 0) (hh : HS w b [x0, x1, x2, x3, x4, x5, x6, x7] (.slice none 0 0) n) :
    Calls Tryz.prog 139 #[.pointer (some ⟨b, 0, none⟩)] w fun e w' => e = .returned (.agg (bc (oB (piecesI [x0, x1, x2, x3, x4, x5, x6, x7] (fun i => (tailI (fBytes k f) (32 * ((k + 40) / 32) - k - 9) ++ n8 n).getD i 0) ((k + 40) / 32)) 8)).toArray) ∧ RowKit.Below w.heap.size w w' := by
  have H2 := Lib.hid ((hh.alloc (.cells #[.int .u8 0, .int .u8 0, .int .u8 0, .int .u8 0, .int .u8 0, .int .u8 0, .int .u8 0, .int .u8 0, .int .u8 0, .int .u8 0, .int .u8 0, .int .u8 0, .int .u8 0, .int .u8 0, .int .u8 0, .int .u8 0, .int .u8 0, .int .u8 0, .int .u8 0, .int .u8 0, .int .u8 0, .int .u8 0, .int .u8 0, .int .u8 0, .int .u8 0, .int .u8 0, .int .u8 0, .int .u8 0, .int .u8 0, .int .u8 0, .int .u8 0, .int .u8 0] 39)).alloc (.cells #[.int .u8 0, .int .u8 0, .int .u8 0, .int .u8 0, .int .u8 0, .int .u8 0, .int .u8 0, .int .u8 0, .int .u8 0, .int .u8 0, .int .u8 0, .int .u8 0, .int .u8 0, .int .u8 0, .int .u8 0, .int .u8 0, .int .u8 0, .int .u8 0, .int .u8 0, .int .u8 0, .int .u8 0, .int .u8 0, .int .u8 0, .int .u8 0, .int .u8 0, .int .u8 0, .int .u8 0, .int .u8 0, .int .u8 0, .int .u8 0, .int .u8 0, .int .u8 0] 39))
  have c0 : ((w.alloc (.cells #[.int .u8 0, .int .u8 0, .int .u8 0, .int .u8 0, .int .u8 0, .int .u8 0, .int .u8 0, .int .u8 0, .int .u8 0, .int .u8 0, .int .u8 0, .int .u8 0, .int .u8 0, .int .u8 0, .int .u8 0, .int .u8 0, .int .u8 0, .int .u8 0, .int .u8 0, .int .u8 0, .int .u8 0, .int .u8 0, .int .u8 0, .int .u8 0, .int .u8 0, .int .u8 0, .int .u8 0, .int .u8 0, .int .u8 0, .int .u8 0, .int .u8 0, .int .u8 0] 39)).alloc (.cells #[.int .u8 0, .int .u8 0, .int .u8 0, .int .u8 0, .int .u8 0, .int .u8 0, .int .u8 0, .int .u8 0, .int .u8 0, .int .u8 0, .int .u8 0, .int .u8 0, .int .u8 0, .int .u8 0, .int .u8 0, .int .u8 0, .int .u8 0, .int .u8 0, .int .u8 0, .int .u8 0, .int .u8 0, .int .u8 0, .int .u8 0, .int .u8 0, .int .u8 0, .int .u8 0, .int .u8 0, .int .u8 0, .int .u8 0, .int .u8 0, .int .u8 0, .int .u8 0] 39)).cell? ⟨b, 0, none⟩ = some (.int .u32 x0) := H2.out.word (i := 0) (by decide)
  have c1 : ((w.alloc (.cells #[.int .u8 0, .int .u8 0, .int .u8 0, .int .u8 0, .int .u8 0, .int .u8 0, .int .u8 0, .int .u8 0, .int .u8 0, .int .u8 0, .int .u8 0, .int .u8 0, .int .u8 0, .int .u8 0, .int .u8 0, .int .u8 0, .int .u8 0, .int .u8 0, .int .u8 0, .int .u8 0, .int .u8 0, .int .u8 0, .int .u8 0, .int .u8 0, .int .u8 0, .int .u8 0, .int .u8 0, .int .u8 0, .int .u8 0, .int .u8 0, .int .u8 0, .int .u8 0] 39)).alloc (.cells #[.int .u8 0, .int .u8 0, .int .u8 0, .int .u8 0, .int .u8 0, .int .u8 0, .int .u8 0, .int .u8 0, .int .u8 0, .int .u8 0, .int .u8 0, .int .u8 0, .int .u8 0, .int .u8 0, .int .u8 0, .int .u8 0, .int .u8 0, .int .u8 0, .int .u8 0, .int .u8 0, .int .u8 0, .int .u8 0, .int .u8 0, .int .u8 0, .int .u8 0, .int .u8 0, .int .u8 0, .int .u8 0, .int .u8 0, .int .u8 0, .int .u8 0, .int .u8 0] 39)).cell? ⟨b, 1, none⟩ = some (.int .u32 x1) := H2.out.word (i := 1) (by decide)
  have c2 : ((w.alloc (.cells #[.int .u8 0, .int .u8 0, .int .u8 0, .int .u8 0, .int .u8 0, .int .u8 0, .int .u8 0, .int .u8 0, .int .u8 0, .int .u8 0, .int .u8 0, .int .u8 0, .int .u8 0, .int .u8 0, .int .u8 0, .int .u8 0, .int .u8 0, .int .u8 0, .int .u8 0, .int .u8 0, .int .u8 0, .int .u8 0, .int .u8 0, .int .u8 0, .int .u8 0, .int .u8 0, .int .u8 0, .int .u8 0, .int .u8 0, .int .u8 0, .int .u8 0, .int .u8 0] 39)).alloc (.cells #[.int .u8 0, .int .u8 0, .int .u8 0, .int .u8 0, .int .u8 0, .int .u8 0, .int .u8 0, .int .u8 0, .int .u8 0, .int .u8 0, .int .u8 0, .int .u8 0, .int .u8 0, .int .u8 0, .int .u8 0, .int .u8 0, .int .u8 0, .int .u8 0, .int .u8 0, .int .u8 0, .int .u8 0, .int .u8 0, .int .u8 0, .int .u8 0, .int .u8 0, .int .u8 0, .int .u8 0, .int .u8 0, .int .u8 0, .int .u8 0, .int .u8 0, .int .u8 0] 39)).cell? ⟨b, 2, none⟩ = some (.int .u32 x2) := H2.out.word (i := 2) (by decide)
  have c3 : ((w.alloc (.cells #[.int .u8 0, .int .u8 0, .int .u8 0, .int .u8 0, .int .u8 0, .int .u8 0, .int .u8 0, .int .u8 0, .int .u8 0, .int .u8 0, .int .u8 0, .int .u8 0, .int .u8 0, .int .u8 0, .int .u8 0, .int .u8 0, .int .u8 0, .int .u8 0, .int .u8 0, .int .u8 0, .int .u8 0, .int .u8 0, .int .u8 0, .int .u8 0, .int .u8 0, .int .u8 0, .int .u8 0, .int .u8 0, .int .u8 0, .int .u8 0, .int .u8 0, .int .u8 0] 39)).alloc (.cells #[.int .u8 0, .int .u8 0, .int .u8 0, .int .u8 0, .int .u8 0, .int .u8 0, .int .u8 0, .int .u8 0, .int .u8 0, .int .u8 0, .int .u8 0, .int .u8 0, .int .u8 0, .int .u8 0, .int .u8 0, .int .u8 0, .int .u8 0, .int .u8 0, .int .u8 0, .int .u8 0, .int .u8 0, .int .u8 0, .int .u8 0, .int .u8 0, .int .u8 0, .int .u8 0, .int .u8 0, .int .u8 0, .int .u8 0, .int .u8 0, .int .u8 0, .int .u8 0] 39)).cell? ⟨b, 3, none⟩ = some (.int .u32 x3) := H2.out.word (i := 3) (by decide)
  have c4 : ((w.alloc (.cells #[.int .u8 0, .int .u8 0, .int .u8 0, .int .u8 0, .int .u8 0, .int .u8 0, .int .u8 0, .int .u8 0, .int .u8 0, .int .u8 0, .int .u8 0, .int .u8 0, .int .u8 0, .int .u8 0, .int .u8 0, .int .u8 0, .int .u8 0, .int .u8 0, .int .u8 0, .int .u8 0, .int .u8 0, .int .u8 0, .int .u8 0, .int .u8 0, .int .u8 0, .int .u8 0, .int .u8 0, .int .u8 0, .int .u8 0, .int .u8 0, .int .u8 0, .int .u8 0] 39)).alloc (.cells #[.int .u8 0, .int .u8 0, .int .u8 0, .int .u8 0, .int .u8 0, .int .u8 0, .int .u8 0, .int .u8 0, .int .u8 0, .int .u8 0, .int .u8 0, .int .u8 0, .int .u8 0, .int .u8 0, .int .u8 0, .int .u8 0, .int .u8 0, .int .u8 0, .int .u8 0, .int .u8 0, .int .u8 0, .int .u8 0, .int .u8 0, .int .u8 0, .int .u8 0, .int .u8 0, .int .u8 0, .int .u8 0, .int .u8 0, .int .u8 0, .int .u8 0, .int .u8 0] 39)).cell? ⟨b, 4, none⟩ = some (.int .u32 x4) := H2.out.word (i := 4) (by decide)
  have c5 : ((w.alloc (.cells #[.int .u8 0, .int .u8 0, .int .u8 0, .int .u8 0, .int .u8 0, .int .u8 0, .int .u8 0, .int .u8 0, .int .u8 0, .int .u8 0, .int .u8 0, .int .u8 0, .int .u8 0, .int .u8 0, .int .u8 0, .int .u8 0, .int .u8 0, .int .u8 0, .int .u8 0, .int .u8 0, .int .u8 0, .int .u8 0, .int .u8 0, .int .u8 0, .int .u8 0, .int .u8 0, .int .u8 0, .int .u8 0, .int .u8 0, .int .u8 0, .int .u8 0, .int .u8 0] 39)).alloc (.cells #[.int .u8 0, .int .u8 0, .int .u8 0, .int .u8 0, .int .u8 0, .int .u8 0, .int .u8 0, .int .u8 0, .int .u8 0, .int .u8 0, .int .u8 0, .int .u8 0, .int .u8 0, .int .u8 0, .int .u8 0, .int .u8 0, .int .u8 0, .int .u8 0, .int .u8 0, .int .u8 0, .int .u8 0, .int .u8 0, .int .u8 0, .int .u8 0, .int .u8 0, .int .u8 0, .int .u8 0, .int .u8 0, .int .u8 0, .int .u8 0, .int .u8 0, .int .u8 0] 39)).cell? ⟨b, 5, none⟩ = some (.int .u32 x5) := H2.out.word (i := 5) (by decide)
  have c6 : ((w.alloc (.cells #[.int .u8 0, .int .u8 0, .int .u8 0, .int .u8 0, .int .u8 0, .int .u8 0, .int .u8 0, .int .u8 0, .int .u8 0, .int .u8 0, .int .u8 0, .int .u8 0, .int .u8 0, .int .u8 0, .int .u8 0, .int .u8 0, .int .u8 0, .int .u8 0, .int .u8 0, .int .u8 0, .int .u8 0, .int .u8 0, .int .u8 0, .int .u8 0, .int .u8 0, .int .u8 0, .int .u8 0, .int .u8 0, .int .u8 0, .int .u8 0, .int .u8 0, .int .u8 0] 39)).alloc (.cells #[.int .u8 0, .int .u8 0, .int .u8 0, .int .u8 0, .int .u8 0, .int .u8 0, .int .u8 0, .int .u8 0, .int .u8 0, .int .u8 0, .int .u8 0, .int .u8 0, .int .u8 0, .int .u8 0, .int .u8 0, .int .u8 0, .int .u8 0, .int .u8 0, .int .u8 0, .int .u8 0, .int .u8 0, .int .u8 0, .int .u8 0, .int .u8 0, .int .u8 0, .int .u8 0, .int .u8 0, .int .u8 0, .int .u8 0, .int .u8 0, .int .u8 0, .int .u8 0] 39)).cell? ⟨b, 6, none⟩ = some (.int .u32 x6) := H2.out.word (i := 6) (by decide)
  have c7 : ((w.alloc (.cells #[.int .u8 0, .int .u8 0, .int .u8 0, .int .u8 0, .int .u8 0, .int .u8 0, .int .u8 0, .int .u8 0, .int .u8 0, .int .u8 0, .int .u8 0, .int .u8 0, .int .u8 0, .int .u8 0, .int .u8 0, .int .u8 0, .int .u8 0, .int .u8 0, .int .u8 0, .int .u8 0, .int .u8 0, .int .u8 0, .int .u8 0, .int .u8 0, .int .u8 0, .int .u8 0, .int .u8 0, .int .u8 0, .int .u8 0, .int .u8 0, .int .u8 0, .int .u8 0] 39)).alloc (.cells #[.int .u8 0, .int .u8 0, .int .u8 0, .int .u8 0, .int .u8 0, .int .u8 0, .int .u8 0, .int .u8 0, .int .u8 0, .int .u8 0, .int .u8 0, .int .u8 0, .int .u8 0, .int .u8 0, .int .u8 0, .int .u8 0, .int .u8 0, .int .u8 0, .int .u8 0, .int .u8 0, .int .u8 0, .int .u8 0, .int .u8 0, .int .u8 0, .int .u8 0, .int .u8 0, .int .u8 0, .int .u8 0, .int .u8 0, .int .u8 0, .int .u8 0, .int .u8 0] 39)).cell? ⟨b, 7, none⟩ = some (.int .u32 x7) := H2.out.word (i := 7) (by decide)
  have H3 := Lib.hid (H2.out.alloc (.cells #[.int .u32 x0, .int .u32 x1, .int .u32 x2, .int .u32 x3, .int .u32 x4, .int .u32 x5, .int .u32 x6, .int .u32 x7, .slice none 0 0, .int .i64 0] 249))
  have c9 : (((w.alloc (.cells #[.int .u8 0, .int .u8 0, .int .u8 0, .int .u8 0, .int .u8 0, .int .u8 0, .int .u8 0, .int .u8 0, .int .u8 0, .int .u8 0, .int .u8 0, .int .u8 0, .int .u8 0, .int .u8 0, .int .u8 0, .int .u8 0, .int .u8 0, .int .u8 0, .int .u8 0, .int .u8 0, .int .u8 0, .int .u8 0, .int .u8 0, .int .u8 0, .int .u8 0, .int .u8 0, .int .u8 0, .int .u8 0, .int .u8 0, .int .u8 0, .int .u8 0, .int .u8 0] 39)).alloc (.cells #[.int .u8 0, .int .u8 0, .int .u8 0, .int .u8 0, .int .u8 0, .int .u8 0, .int .u8 0, .int .u8 0, .int .u8 0, .int .u8 0, .int .u8 0, .int .u8 0, .int .u8 0, .int .u8 0, .int .u8 0, .int .u8 0, .int .u8 0, .int .u8 0, .int .u8 0, .int .u8 0, .int .u8 0, .int .u8 0, .int .u8 0, .int .u8 0, .int .u8 0, .int .u8 0, .int .u8 0, .int .u8 0, .int .u8 0, .int .u8 0, .int .u8 0, .int .u8 0] 39)).alloc (.cells #[.int .u32 x0, .int .u32 x1, .int .u32 x2, .int .u32 x3, .int .u32 x4, .int .u32 x5, .int .u32 x6, .int .u32 x7, .slice none 0 0, .int .i64 0] 249)).cell? ⟨b, 9, none⟩ = _ := H3.out.num
  have HB3 := Lib.hid ((((RowKit.Below.refl w.heap.size w).alloc (Nat.le_refl _) (.cells #[.int .u8 0, .int .u8 0, .int .u8 0, .int .u8 0, .int .u8 0, .int .u8 0, .int .u8 0, .int .u8 0, .int .u8 0, .int .u8 0, .int .u8 0, .int .u8 0, .int .u8 0, .int .u8 0, .int .u8 0, .int .u8 0, .int .u8 0, .int .u8 0, .int .u8 0, .int .u8 0, .int .u8 0, .int .u8 0, .int .u8 0, .int .u8 0, .int .u8 0, .int .u8 0, .int .u8 0, .int .u8 0, .int .u8 0, .int .u8 0, .int .u8 0, .int .u8 0] 39)).alloc (by simp) (.cells #[.int .u8 0, .int .u8 0, .int .u8 0, .int .u8 0, .int .u8 0, .int .u8 0, .int .u8 0, .int .u8 0, .int .u8 0, .int .u8 0, .int .u8 0, .int .u8 0, .int .u8 0, .int .u8 0, .int .u8 0, .int .u8 0, .int .u8 0, .int .u8 0, .int .u8 0, .int .u8 0, .int .u8 0, .int .u8 0, .int .u8 0, .int .u8 0, .int .u8 0, .int .u8 0, .int .u8 0, .int .u8 0, .int .u8 0, .int .u8 0, .int .u8 0, .int .u8 0] 39)).alloc (by simp; omega) (.cells #[.int .u32 x0, .int .u32 x1, .int .u32 x2, .int .u32 x3, .int .u32 x4, .int .u32 x5, .int .u32 x6, .int .u32 x7, .slice none 0 0, .int .i64 0] 249))
  have hx : HS (((w.alloc (.cells #[.int .u8 0, .int .u8 0, .int .u8 0, .int .u8 0, .int .u8 0, .int .u8 0, .int .u8 0, .int .u8 0, .int .u8 0, .int .u8 0, .int .u8 0, .int .u8 0, .int .u8 0, .int .u8 0, .int .u8 0, .int .u8 0, .int .u8 0, .int .u8 0, .int .u8 0, .int .u8 0, .int .u8 0, .int .u8 0, .int .u8 0, .int .u8 0, .int .u8 0, .int .u8 0, .int .u8 0, .int .u8 0, .int .u8 0, .int .u8 0, .int .u8 0, .int .u8 0] 39)).alloc (.cells #[.int .u8 0, .int .u8 0, .int .u8 0, .int .u8 0, .int .u8 0, .int .u8 0, .int .u8 0, .int .u8 0, .int .u8 0, .int .u8 0, .int .u8 0, .int .u8 0, .int .u8 0, .int .u8 0, .int .u8 0, .int .u8 0, .int .u8 0, .int .u8 0, .int .u8 0, .int .u8 0, .int .u8 0, .int .u8 0, .int .u8 0, .int .u8 0, .int .u8 0, .int .u8 0, .int .u8 0, .int .u8 0, .int .u8 0, .int .u8 0, .int .u8 0, .int .u8 0] 39)).alloc (.cells #[.int .u32 x0, .int .u32 x1, .int .u32 x2, .int .u32 x3, .int .u32 x4, .int .u32 x5, .int .u32 x6, .int .u32 x7, .slice none 0 0, .int .i64 0] 249)) (w.heap.size + 2) [x0, x1, x2, x3, x4, x5, x6, x7] (.slice none 0 0) 0 := by
    have := heap_alloc_new ((w.alloc (.cells #[.int .u8 0, .int .u8 0, .int .u8 0, .int .u8 0, .int .u8 0, .int .u8 0, .int .u8 0, .int .u8 0, .int .u8 0, .int .u8 0, .int .u8 0, .int .u8 0, .int .u8 0, .int .u8 0, .int .u8 0, .int .u8 0, .int .u8 0, .int .u8 0, .int .u8 0, .int .u8 0, .int .u8 0, .int .u8 0, .int .u8 0, .int .u8 0, .int .u8 0, .int .u8 0, .int .u8 0, .int .u8 0, .int .u8 0, .int .u8 0, .int .u8 0, .int .u8 0] 39)).alloc (.cells #[.int .u8 0, .int .u8 0, .int .u8 0, .int .u8 0, .int .u8 0, .int .u8 0, .int .u8 0, .int .u8 0, .int .u8 0, .int .u8 0, .int .u8 0, .int .u8 0, .int .u8 0, .int .u8 0, .int .u8 0, .int .u8 0, .int .u8 0, .int .u8 0, .int .u8 0, .int .u8 0, .int .u8 0, .int .u8 0, .int .u8 0, .int .u8 0, .int .u8 0, .int .u8 0, .int .u8 0, .int .u8 0, .int .u8 0, .int .u8 0, .int .u8 0, .int .u8 0] 39)) (.cells #[.int .u32 x0, .int .u32 x1, .int .u32 x2, .int .u32 x3, .int .u32 x4, .int .u32 x5, .int .u32 x6, .int .u32 x7, .slice none 0 0, .int .i64 0] 249)
    rw [World.size_alloc, World.size_alloc] at this
    refine ⟨rfl, _, _, _, this, Nat.le_refl _, fun i _ => by omega, fun i hi => ?_, rfl, rfl⟩
    rcases (show i = 0 ∨ i = 1 ∨ i = 2 ∨ i = 3 ∨ i = 4 ∨ i = 5 ∨ i = 6 ∨ i = 7 by omega) with rfl | rfl | rfl | rfl | rfl | rfl | rfl | rfl <;> rfl
  have HX3 := Lib.hid hx
  have ho : (((w.alloc (.cells #[.int .u8 0, .int .u8 0, .int .u8 0, .int .u8 0, .int .u8 0, .int .u8 0, .int .u8 0, .int .u8 0, .int .u8 0, .int .u8 0, .int .u8 0, .int .u8 0, .int .u8 0, .int .u8 0, .int .u8 0, .int .u8 0, .int .u8 0, .int .u8 0, .int .u8 0, .int .u8 0, .int .u8 0, .int .u8 0, .int .u8 0, .int .u8 0, .int .u8 0, .int .u8 0, .int .u8 0, .int .u8 0, .int .u8 0, .int .u8 0, .int .u8 0, .int .u8 0] 39)).alloc (.cells #[.int .u8 0, .int .u8 0, .int .u8 0, .int .u8 0, .int .u8 0, .int .u8 0, .int .u8 0, .int .u8 0, .int .u8 0, .int .u8 0, .int .u8 0, .int .u8 0, .int .u8 0, .int .u8 0, .int .u8 0, .int .u8 0, .int .u8 0, .int .u8 0, .int .u8 0, .int .u8 0, .int .u8 0, .int .u8 0, .int .u8 0, .int .u8 0, .int .u8 0, .int .u8 0, .int .u8 0, .int .u8 0, .int .u8 0, .int .u8 0, .int .u8 0, .int .u8 0] 39)).alloc (.cells #[.int .u32 x0, .int .u32 x1, .int .u32 x2, .int .u32 x3, .int .u32 x4, .int .u32 x5, .int .u32 x6, .int .u32 x7, .slice none 0 0, .int .i64 0] 249)).heap[w.heap.size + 1]? = some (.cells #[.int .u8 0, .int .u8 0, .int .u8 0, .int .u8 0, .int .u8 0, .int .u8 0, .int .u8 0, .int .u8 0, .int .u8 0, .int .u8 0, .int .u8 0, .int .u8 0, .int .u8 0, .int .u8 0, .int .u8 0, .int .u8 0, .int .u8 0, .int .u8 0, .int .u8 0, .int .u8 0, .int .u8 0, .int .u8 0, .int .u8 0, .int .u8 0, .int .u8 0, .int .u8 0, .int .u8 0, .int .u8 0, .int .u8 0, .int .u8 0, .int .u8 0, .int .u8 0] 39) := by
    rw [RowKit.Below.heap_alloc _ _ _ (by simp)]
    have := heap_alloc_new (w.alloc (.cells #[.int .u8 0, .int .u8 0, .int .u8 0, .int .u8 0, .int .u8 0, .int .u8 0, .int .u8 0, .int .u8 0, .int .u8 0, .int .u8 0, .int .u8 0, .int .u8 0, .int .u8 0, .int .u8 0, .int .u8 0, .int .u8 0, .int .u8 0, .int .u8 0, .int .u8 0, .int .u8 0, .int .u8 0, .int .u8 0, .int .u8 0, .int .u8 0, .int .u8 0, .int .u8 0, .int .u8 0, .int .u8 0, .int .u8 0, .int .u8 0, .int .u8 0, .int .u8 0] 39)) (.cells #[.int .u8 0, .int .u8 0, .int .u8 0, .int .u8 0, .int .u8 0, .int .u8 0, .int .u8 0, .int .u8 0, .int .u8 0, .int .u8 0, .int .u8 0, .int .u8 0, .int .u8 0, .int .u8 0, .int .u8 0, .int .u8 0, .int .u8 0, .int .u8 0, .int .u8 0, .int .u8 0, .int .u8 0, .int .u8 0, .int .u8 0, .int .u8 0, .int .u8 0, .int .u8 0, .int .u8 0, .int .u8 0, .int .u8 0, .int .u8 0, .int .u8 0, .int .u8 0] 39)
    rw [World.size_alloc] at this
    exact this
  have ho2 : (((w.alloc (.cells #[.int .u8 0, .int .u8 0, .int .u8 0, .int .u8 0, .int .u8 0, .int .u8 0, .int .u8 0, .int .u8 0, .int .u8 0, .int .u8 0, .int .u8 0, .int .u8 0, .int .u8 0, .int .u8 0, .int .u8 0, .int .u8 0, .int .u8 0, .int .u8 0, .int .u8 0, .int .u8 0, .int .u8 0, .int .u8 0, .int .u8 0, .int .u8 0, .int .u8 0, .int .u8 0, .int .u8 0, .int .u8 0, .int .u8 0, .int .u8 0, .int .u8 0, .int .u8 0] 39)).alloc (.cells #[.int .u8 0, .int .u8 0, .int .u8 0, .int .u8 0, .int .u8 0, .int .u8 0, .int .u8 0, .int .u8 0, .int .u8 0, .int .u8 0, .int .u8 0, .int .u8 0, .int .u8 0, .int .u8 0, .int .u8 0, .int .u8 0, .int .u8 0, .int .u8 0, .int .u8 0, .int .u8 0, .int .u8 0, .int .u8 0, .int .u8 0, .int .u8 0, .int .u8 0, .int .u8 0, .int .u8 0, .int .u8 0, .int .u8 0, .int .u8 0, .int .u8 0, .int .u8 0] 39)).alloc (.cells #[.int .u32 x0, .int .u32 x1, .int .u32 x2, .int .u32 x3, .int .u32 x4, .int .u32 x5, .int .u32 x6, .int .u32 x7, .slice none 0 0, .int .i64 0] 249)).heap[w.heap.size]? = some (.cells #[.int .u8 0, .int .u8 0, .int .u8 0, .int .u8 0, .int .u8 0, .int .u8 0, .int .u8 0, .int .u8 0, .int .u8 0, .int .u8 0, .int .u8 0, .int .u8 0, .int .u8 0, .int .u8 0, .int .u8 0, .int .u8 0, .int .u8 0, .int .u8 0, .int .u8 0, .int .u8 0, .int .u8 0, .int .u8 0, .int .u8 0, .int .u8 0, .int .u8 0, .int .u8 0, .int .u8 0, .int .u8 0, .int .u8 0, .int .u8 0, .int .u8 0, .int .u8 0] 39) := by
    rw [RowKit.Below.heap_alloc _ _ _ (by simp; omega), RowKit.Below.heap_alloc _ _ _ (by simp)]
    exact heap_alloc_new w (.cells #[.int .u8 0, .int .u8 0, .int .u8 0, .int .u8 0, .int .u8 0, .int .u8 0, .int .u8 0, .int .u8 0, .int .u8 0, .int .u8 0, .int .u8 0, .int .u8 0, .int .u8 0, .int .u8 0, .int .u8 0, .int .u8 0, .int .u8 0, .int .u8 0, .int .u8 0, .int .u8 0, .int .u8 0, .int .u8 0, .int .u8 0, .int .u8 0, .int .u8 0, .int .u8 0, .int .u8 0, .int .u8 0, .int .u8 0, .int .u8 0, .int .u8 0, .int .u8 0] 39)
  have HO3 := Lib.hid ho
  have HO3' := Lib.hid ho2
  have hk : k < 32 := by omega
  clear hx ho ho2 hh
  go_enter Tryz.func139, Tryz.ntmps139
  go_wp2_with fail
  clear c0 c1 c2 c3 c4 c5 c6 c7 c9 H2
  generalize (((w.alloc (.cells #[.int .u8 0, .int .u8 0, .int .u8 0, .int .u8 0, .int .u8 0, .int .u8 0, .int .u8 0, .int .u8 0, .int .u8 0, .int .u8 0, .int .u8 0, .int .u8 0, .int .u8 0, .int .u8 0, .int .u8 0, .int .u8 0, .int .u8 0, .int .u8 0, .int .u8 0, .int .u8 0, .int .u8 0, .int .u8 0, .int .u8 0, .int .u8 0, .int .u8 0, .int .u8 0, .int .u8 0, .int .u8 0, .int .u8 0, .int .u8 0, .int .u8 0, .int .u8 0] 39)).alloc (.cells #[.int .u8 0, .int .u8 0, .int .u8 0, .int .u8 0, .int .u8 0, .int .u8 0, .int .u8 0, .int .u8 0, .int .u8 0, .int .u8 0, .int .u8 0, .int .u8 0, .int .u8 0, .int .u8 0, .int .u8 0, .int .u8 0, .int .u8 0, .int .u8 0, .int .u8 0, .int .u8 0, .int .u8 0, .int .u8 0, .int .u8 0, .int .u8 0, .int .u8 0, .int .u8 0, .int .u8 0, .int .u8 0, .int .u8 0, .int .u8 0, .int .u8 0, .int .u8 0] 39)).alloc (.cells #[.int .u32 x0, .int .u32 x1, .int .u32 x2, .int .u32 x3, .int .u32 x4, .int .u32 x5, .int .u32 x6, .int .u32 x7, .slice none 0 0, .int .i64 0] 249)) = w3 at *
  refine (bytes64_any n w3).mono ?_
  rintro e w4 ⟨rfl, hb4⟩
  have hh4 := H3.out.below hb4
  have hB4 := below_trans' HB3.out hb4
  have hX4 := HX3.out.below hb4
  have hO4 := (hb4.block _ (Array.getElem?_eq_some_iff.1 HO3.out).1).trans HO3.out
  have hO4' := (hb4.block _ (Array.getElem?_eq_some_iff.1 HO3'.out).1).trans HO3'.out
  clear hb4 H3 HB3 HX3 HO3 HO3'
  have c8 : (w4.alloc (.cells #[.int .u8 (b64 (n : Int) 0), .int .u8 (b64 (n : Int) 1), .int .u8 (b64 (n : Int) 2), .int .u8 (b64 (n : Int) 3), .int .u8 (b64 (n : Int) 4), .int .u8 (b64 (n : Int) 5), .int .u8 (b64 (n : Int) 6), .int .u8 (b64 (n : Int) 7)] 170)).drew.cell? ⟨b, 8, none⟩ = _ := (hh4.alloc (.cells #[.int .u8 (b64 (n : Int) 0), .int .u8 (b64 (n : Int) 1), .int .u8 (b64 (n : Int) 2), .int .u8 (b64 (n : Int) 3), .int .u8 (b64 (n : Int) 4), .int .u8 (b64 (n : Int) 5), .int .u8 (b64 (n : Int) 6), .int .u8 (b64 (n : Int) 7)] 170)).held
  obtain ⟨i0, hi, hz0, hz1, hz2⟩ := infoB
  have c8 : (w4.alloc (.cells #[.int .u8 (b64 (n : Int) 0), .int .u8 (b64 (n : Int) 1), .int .u8 (b64 (n : Int) 2), .int .u8 (b64 (n : Int) 3), .int .u8 (b64 (n : Int) 4), .int .u8 (b64 (n : Int) 5), .int .u8 (b64 (n : Int) 6), .int .u8 (b64 (n : Int) 7)] 170)).cell? ⟨b, 8, none⟩ = _ := (hh4.alloc (.cells #[.int .u8 (b64 (n : Int) 0), .int .u8 (b64 (n : Int) 1), .int .u8 (b64 (n : Int) 2), .int .u8 (b64 (n : Int) 3), .int .u8 (b64 (n : Int) 4), .int .u8 (b64 (n : Int) 5), .int .u8 (b64 (n : Int) 6), .int .u8 (b64 (n : Int) 7)] 170)).held
  have hbl4 := hh4.lt
  have hbl6 : b < ((w4.alloc (.cells #[.int .u8 (b64 (n : Int) 0), .int .u8 (b64 (n : Int) 1), .int .u8 (b64 (n : Int) 2), .int .u8 (b64 (n : Int) 3), .int .u8 (b64 (n : Int) 4), .int .u8 (b64 (n : Int) 5), .int .u8 (b64 (n : Int) 6), .int .u8 (b64 (n : Int) 7)] 170)).alloc (.cells #[.int .u8 128] 5)).heap.size := by simp; omega
  have c8' : ((w4.alloc (.cells #[.int .u8 (b64 (n : Int) 0), .int .u8 (b64 (n : Int) 1), .int .u8 (b64 (n : Int) 2), .int .u8 (b64 (n : Int) 3), .int .u8 (b64 (n : Int) 4), .int .u8 (b64 (n : Int) 5), .int .u8 (b64 (n : Int) 6), .int .u8 (b64 (n : Int) 7)] 170)).alloc (.cells #[.int .u8 128] 5)).cell? ⟨b, 8, none⟩ = _ := ((hh4.alloc (.cells #[.int .u8 (b64 (n : Int) 0), .int .u8 (b64 (n : Int) 1), .int .u8 (b64 (n : Int) 2), .int .u8 (b64 (n : Int) 3), .int .u8 (b64 (n : Int) 4), .int .u8 (b64 (n : Int) 5), .int .u8 (b64 (n : Int) 6), .int .u8 (b64 (n : Int) 7)] 170)).alloc (.cells #[.int .u8 128] 5)).held
  go_wp2_with fail
  go_region_held3 (fun w' => w'.cell? ⟨b, 8, none⟩ = some (.slice none 0 0))
    (first
      | go_keep
      | (exact (World.cell?_of_block (a := ⟨b, 8, none⟩) (hgrow.block b hbl6 (by simp))).trans c8'))
    ((refine step_append_full rfl (.tmp 38) (.tmp 39) 155 rfl 5 i0 (.int .u8 0) Tryz.underlying155 hi hz0 hz1 hz2 rfl none 0 (bc (fBytes 0 f)) (by rfl) ⟨w4.heap.size + 1, 0, none⟩ (.int .u8 128) (by rfl) (cell_128 (w4.alloc (.cells #[.int .u8 (b64 (n : Int) 0), .int .u8 (b64 (n : Int) 1), .int .u8 (b64 (n : Int) 2), .int .u8 (b64 (n : Int) 3), .int .u8 (b64 (n : Int) 4), .int .u8 (b64 (n : Int) 5), .int .u8 (b64 (n : Int) 6), .int .u8 (b64 (n : Int) 7)] 170)) (w4.heap.size + 1) (by simp)) ⟨rfl, rfl⟩ rfl (held_none _ 0 f rfl) (by simp [bc, fBytes]) (by omega) ?_; intro v' w6 hown hgrow))
  have hO6 : w6.ownsRow (w4.heap.size + 1) 5 1 v' (k + 1) (bc (tailI (fBytes k f) 0)) := by
    have := owns_mono (base' := w4.heap.size + 1) hown (by show _ ≤ ((w4.alloc _).alloc _).heap.size; simp)
    simpa [bc, tailI, hk0] using this
  have hB6 : RowKit.Below (w4.heap.size + 1) (w4.alloc (.cells #[.int .u8 (b64 (n : Int) 0), .int .u8 (b64 (n : Int) 1), .int .u8 (b64 (n : Int) 2), .int .u8 (b64 (n : Int) 3), .int .u8 (b64 (n : Int) 4), .int .u8 (b64 (n : Int) 5), .int .u8 (b64 (n : Int) 6), .int .u8 (b64 (n : Int) 7)] 170)) w6 :=
    ⟨hgrow.os, hgrow.tape, hgrow.output, Nat.le_trans (by simp [World.drew]) hgrow.size, fun j hj => (hgrow.block j (by show _ < ((w4.alloc _).alloc _).heap.size; simp; omega) (by simp)).trans (RowKit.Below.heap_alloc (w4.alloc (.cells #[.int .u8 (b64 (n : Int) 0), .int .u8 (b64 (n : Int) 1), .int .u8 (b64 (n : Int) 2), .int .u8 (b64 (n : Int) 3), .int .u8 (b64 (n : Int) 4), .int .u8 (b64 (n : Int) 5), .int .u8 (b64 (n : Int) 6), .int .u8 (b64 (n : Int) 7)] 170)) _ j (by simp; omega))⟩
  have HO6 := Lib.hid hO6
  have HB6 := Lib.hid hB6
  have HX := Lib.hid hX4
  have HB4 := Lib.hid hB4
  have HO := Lib.hid hO4
  have HO' := Lib.hid hO4'
  have HI := Lib.hid hi
  clear hh4 hX4 hB4 hO4 hO4' c8 c8' hbl4 hbl6 hown hgrow hO6 hB6 hi
  go_wp2_with fail
  go_loopw [6] (fun x wr => ∃ j : Nat, k + 9 + j ≤ 32 * ((k + 40) / 32) ∧ wr.ownsRow (w4.heap.size + 1) 5 1 x (k + 1 + j) (bc (tailI (fBytes k f) j)) ∧ RowKit.Below (w4.heap.size + 1) (w4.alloc (.cells #[.int .u8 (b64 (n : Int) 0), .int .u8 (b64 (n : Int) 1), .int .u8 (b64 (n : Int) 2), .int .u8 (b64 (n : Int) 3), .int .u8 (b64 (n : Int) 4), .int .u8 (b64 (n : Int) 5), .int .u8 (b64 (n : Int) 6), .int .u8 (b64 (n : Int) 7)] 170)) wr) (fun x _ => (match x with | .slice _ m _ => 64 - m | _ => 0))
  case atStart => exact ⟨0, by omega, HO6.out, HB6.out⟩
  case round =>
    obtain ⟨j, hj, hO, hB⟩ := hrel
    have hO0 := hO
    obtain ⟨_, ⟨rfl, h0⟩ | ⟨g2, cap2, cur2, rfl, hg1, hg2, hg3, hg4, hg5, hg6⟩⟩ := hO0
    · omega
    by_cases hm : (k + 1 + j + 8) % 32 = 0
    · have HOj := Lib.hid hO
      have HBj := Lib.hid hB
      have hm' : (((k + 1 + j : Nat) : Int) + 8) % 32 = 0 := by omega
      have hnc : ∀ jj u, (bc (n8 n))[jj]? = some u → wr.cell? ((⟨w4.heap.size, 0, none⟩ : Addr).add jj) = some u := fun jj u hu => by
        have h8 := (hB.block w4.heap.size (by omega)).trans (heap_alloc_new w4 (.cells #[.int .u8 (b64 (n : Int) 0), .int .u8 (b64 (n : Int) 1), .int .u8 (b64 (n : Int) 2), .int .u8 (b64 (n : Int) 3), .int .u8 (b64 (n : Int) 4), .int .u8 (b64 (n : Int) 5), .int .u8 (b64 (n : Int) 6), .int .u8 (b64 (n : Int) 7)] 170))
        rw [Addr.add_mid, Nat.zero_add, cell_of_row wr w4.heap.size jj _ 170 (0, 0) h8, ← hu]
        simp [bc, n8]
      clear hO hB hg1 hg2 hg3 hg4 hg5 hg6
      go_wp2_with (at_builtin; go_must (refine wpList_append_own _ rfl (.tmp 49) (.tmp 50) 155 rfl (w4.heap.size + 1) 5 i0 (.int .u8 0) 1 1 Tryz.underlying155 HI.out hz0 hz1 hz2 rfl (by decide) _ _ _ rfl HOj.out ⟨w4.heap.size, 0, none⟩ 8 8 (bc (n8 n)) rfl rfl hnc (fun u hu => by obtain ⟨x, _, rfl⟩ := List.mem_map.1 hu; rfl) (by unfold maxLen; omega) (by omega) (by have := HBj.out.size; simp at this; omega) ?_); intro v' w9 hown1 hgrow1 _; have HO9 := Lib.hid hown1; have HG9 := Lib.hid (HBj.out.grown hgrow1 (by have := HBj.out.size; simp at this; omega) (fun q hq => (HOj.out.lt q hq).1)); clear hown1 hgrow1)
      obtain ⟨hl9, ⟨rfl, h0⟩ | ⟨g3, cap3, cur3, rfl, r1, r2, r3, r4, r5, r6⟩⟩ := HO9.out
      · omega
      have hs4 := HB4.out.size
      have hlt4 := HX.out.lt
      have hX9 : HS w9 (w.heap.size + 2) [x0, x1, x2, x3, x4, x5, x6, x7] (.slice none 0 0) 0 := (HX.out.alloc (.cells #[.int .u8 (b64 (n : Int) 0), .int .u8 (b64 (n : Int) 1), .int .u8 (b64 (n : Int) 2), .int .u8 (b64 (n : Int) 3), .int .u8 (b64 (n : Int) 4), .int .u8 (b64 (n : Int) 5), .int .u8 (b64 (n : Int) 6), .int .u8 (b64 (n : Int) 7)] 170)).of_block (HG9.out.block _ (by have := HX.out.lt; omega))
      have hBy9 : Bys w9 g3 0 (k + 1 + j + 8) (fun i => (tailI (fBytes k f) j ++ n8 n).getD i 0) := owns_bys (L := tailI (fBytes k f) j ++ n8 n) (by simp [tailI, fBytes, n8]; omega) r2 (by rw [r6]; simp [bc])
      refine (pieces_any (w.heap.size + 2) g3 0 (k + 1 + j + 8) cap3 [x0, x1, x2, x3, x4, x5, x6, x7] (.slice none 0 0) 0 (fun i => (tailI (fBytes k f) j ++ n8 n).getD i 0) w9 r3 (Nat.le_trans r4 (by decide)) (by omega) hX9 hBy9).mono ?_
      rintro e w10 ⟨o10, c10, rfl, -, -, hX10, hg10⟩
      have hsz9 := HG9.out.size
      simp only [World.size_alloc] at hsz9
      have hR10 : RowO w10 (w.heap.size + 1) (List.replicate 32 0) := (hg10.block (w.heap.size + 1) (by omega) (by simp)).trans ((HG9.out.block _ (by omega)).trans ((RowKit.Below.heap_alloc w4 _ _ (by omega)).trans HO.out))
      have hB10 : RowKit.Below w.heap.size w w10 := below_only2 (below_trans'' (HB4.out.alloc hs4 _) HG9.out (by omega)) hg10 (by omega) (by omega)
      have hZ10 : RowO w10 w.heap.size (List.replicate 32 0) := (hg10.block w.heap.size (by omega) (by simp)).trans ((HG9.out.block _ (by omega)).trans ((RowKit.Below.heap_alloc w4 _ _ (by omega)).trans HO'.out))
      have HZ10 := Lib.hid hZ10
      have HR10 := Lib.hid hR10
      have HB10 := Lib.hid hB10
      have hje : j = 32 * ((k + 40) / 32) - k - 9 := by omega
      rw [show (k + 1 + j + 8) / 32 = (k + 40) / 32 by omega, hje] at hX10
      clear hje
      generalize hP : piecesI _ _ _ = P at hX10
      obtain ⟨p0, p1, p2, p3, p4, p5, p6, p7, rfl⟩ := list8 hX10.1
      have d0 : w10.cell? ⟨w.heap.size + 1 + 1, 0, none⟩ = some (.int .u32 p0) := hX10.word (i := 0) (by decide)
      have d1 : w10.cell? ⟨w.heap.size + 1 + 1, 1, none⟩ = some (.int .u32 p1) := hX10.word (i := 1) (by decide)
      have d2 : w10.cell? ⟨w.heap.size + 1 + 1, 2, none⟩ = some (.int .u32 p2) := hX10.word (i := 2) (by decide)
      have d3 : w10.cell? ⟨w.heap.size + 1 + 1, 3, none⟩ = some (.int .u32 p3) := hX10.word (i := 3) (by decide)
      have d4 : w10.cell? ⟨w.heap.size + 1 + 1, 4, none⟩ = some (.int .u32 p4) := hX10.word (i := 4) (by decide)
      have d5 : w10.cell? ⟨w.heap.size + 1 + 1, 5, none⟩ = some (.int .u32 p5) := hX10.word (i := 5) (by decide)
      have d6 : w10.cell? ⟨w.heap.size + 1 + 1, 6, none⟩ = some (.int .u32 p6) := hX10.word (i := 6) (by decide)
      have d7 : w10.cell? ⟨w.heap.size + 1 + 1, 7, none⟩ = some (.int .u32 p7) := hX10.word (i := 7) (by decide)
      have HP := Lib.hid hP
      clear hP hX10 hg10 hR10 hB10 hZ10 hX9 hBy9 hm' hnc HOj HBj HO9 HG9 HX HB4 HO HO' HB6 HO6
      go_wp2_with fail
      go_loopw [55] (fun i wr => ∃ (p : Nat) (q : Int), q = p ∧ p ≤ 8 ∧ i = .int .i64 q ∧ RowO wr (w.heap.size + 1) (oB [p0, p1, p2, p3, p4, p5, p6, p7] p ++ List.replicate (32 - 4 * p) 0) ∧ RowKit.Below w.heap.size w wr ∧ RowO wr w.heap.size (List.replicate 32 0)) (fun i _ => 8 - (intOf i).toNat)
      case atStart => exact ⟨0, 0, rfl, by omega, rfl, HR10.out, HB10.out, HZ10.out⟩
      case round =>
        obtain ⟨p, q, hq, hp, rfl, hR, hB, hZ⟩ := hrel
        rcases (show p = 0 ∨ p = 1 ∨ p = 2 ∨ p = 3 ∨ p = 4 ∨ p = 5 ∨ p = 6 ∨ p = 7 ∨ p = 8 by omega) with rfl | rfl | rfl | rfl | rfl | rfl | rfl | rfl | rfl
        · obtain rfl : q = 0 := hq
          have hwr : IntKind.i64.wrap 0 = 0 := by decide
          have HR := Lib.hid hR
          have HB := Lib.hid hB
          have HZ := Lib.hid hZ
          clear hR hB hZ
          have hix := idx247_0 p0 p1 p2 p3 p4 p5 p6 p7
          go_wp2_with fail
          refine (bytes32_any p0 wr).mono ?_
          rintro e w11 ⟨rfl, hb11⟩
          have HR11 := Lib.hid ((HR.out.below hb11).alloc (.cells #[.int .u8 (b32 p0 0), .int .u8 (b32 p0 1), .int .u8 (b32 p0 2), .int .u8 (b32 p0 3)] 182)).drew
          have HB11 := Lib.hid ((below_trans' HB.out hb11).alloc (by have := HR.out.lt; have := hb11.size; omega) (.cells #[.int .u8 (b32 p0 0), .int .u8 (b32 p0 1), .int .u8 (b32 p0 2), .int .u8 (b32 p0 3)] 182))
          have HZ11 := Lib.hid ((HZ.out.below hb11).alloc (.cells #[.int .u8 (b32 p0 0), .int .u8 (b32 p0 1), .int .u8 (b32 p0 2), .int .u8 (b32 p0 3)] 182)).drew
          clear hb11 HR HB HZ
          have hcp := run_copy_cells (P := Tryz.prog) (w11.alloc (.cells #[.int .u8 (b32 p0 0), .int .u8 (b32 p0 1), .int .u8 (b32 p0 2), .int .u8 (b32 p0 3)] 182)).drew 155 155 3 5 (w.heap.size + 1) 0 32 32 ⟨w11.heap.size, 0, none⟩ 4 4 (bc [b32 p0 0, b32 p0 1, b32 p0 2, b32 p0 3]) Tryz.underlying155 (by kernel_rfl) rfl (fun jj u hj => by
            rw [Addr.add_mid, Nat.zero_add]; exact (cell_of_row (w11.alloc (.cells #[.int .u8 (b32 p0 0), .int .u8 (b32 p0 1), .int .u8 (b32 p0 2), .int .u8 (b32 p0 3)] 182)).drew w11.heap.size jj #[.int .u8 (b32 p0 0), .int .u8 (b32 p0 1), .int .u8 (b32 p0 2), .int .u8 (b32 p0 3)] 182 (0, 0) (heap_alloc_new w11 _)).trans (by rw [← hj]; simp [bc])) (fun jj hj => by
            rw [show (w11.alloc (.cells #[.int .u8 (b32 p0 0), .int .u8 (b32 p0 1), .int .u8 (b32 p0 2), .int .u8 (b32 p0 3)] 182)).drew.cell? ⟨w.heap.size + 1, 0 + jj, none⟩ = _ from HR11.out.cell (i := 0 + jj) (by simp [oB_len, bc] at hj ⊢; omega)]; rfl) (fun jj _ => HR11.out.free _) (fun u hu => by
            obtain ⟨x, _, rfl⟩ := List.mem_map.1 hu; rfl)
          have hR12 := setCells_mid (w11.alloc (.cells #[.int .u8 (b32 p0 0), .int .u8 (b32 p0 1), .int .u8 (b32 p0 2), .int .u8 (b32 p0 3)] 182)).drew (w.heap.size + 1) (oB [p0, p1, p2, p3, p4, p5, p6, p7] 0) (List.replicate 4 0) (List.replicate 28 0) [b32 p0 0, b32 p0 1, b32 p0 2, b32 p0 3] HR11.out rfl
          have hB12 := below_setCells (bc [b32 p0 0, b32 p0 1, b32 p0 2, b32 p0 3]) (oB [p0, p1, p2, p3, p4, p5, p6, p7] 0).length _ _ HR11.out.heap (B := w.heap.size) (by omega) HB11.out.drew
          have hZ12 := HZ11.out.other (oB [p0, p1, p2, p3, p4, p5, p6, p7] 0).length (bc [b32 p0 0, b32 p0 1, b32 p0 2, b32 p0 3]) HR11.out.heap (by omega)
          rw [show (oB [p0, p1, p2, p3, p4, p5, p6, p7] 0).length = 0 from rfl] at hR12 hB12 hZ12
          rw [show (bc [b32 p0 0, b32 p0 1, b32 p0 2, b32 p0 3]).length = 4 from rfl] at hcp
          generalize hw12 : (w11.alloc (.cells #[.int .u8 (b32 p0 0), .int .u8 (b32 p0 1), .int .u8 (b32 p0 2), .int .u8 (b32 p0 3)] 182)).drew.setCells (w.heap.size + 1) 0 (bc [b32 p0 0, b32 p0 1, b32 p0 2, b32 p0 3]) = w12 at *
          have HR12 := Lib.hid hR12
          have HB12 := Lib.hid hB12
          have HZ12 := Lib.hid hZ12
          clear hR12 hB12 hZ12 HZ11 HR11 HB11 hw12
          go_wp2_with fail
          refine wp_region_still_tail 4 (by kernel_rfl) (by kernel_rfl) ?_
          simp only [List.take_succ_cons, List.take_zero, List.drop_succ_cons, List.drop_zero]
          repeat still_step
          refine wpStill_nil ?_
          change wpList _ _ _ _ _ (w11.alloc (.cells #[.int .u8 (b32 p0 0), .int .u8 (b32 p0 1), .int .u8 (b32 p0 2), .int .u8 (b32 p0 3)] 182)).drew
          generalize (w11.alloc (.cells #[.int .u8 (b32 p0 0), .int .u8 (b32 p0 1), .int .u8 (b32 p0 2), .int .u8 (b32 p0 3)] 182)).drew = w11d at *
          go_wp2_with fail
          exact ⟨⟨1, 1, rfl, by omega, rfl, HR12.out, HB12.out, HZ12.out⟩, by simp [intOf]⟩
        · obtain rfl : q = 1 := hq
          have hwr : IntKind.i64.wrap 4 = 4 := by decide
          have HR := Lib.hid hR
          have HB := Lib.hid hB
          have HZ := Lib.hid hZ
          clear hR hB hZ
          have hix := idx247_1 p0 p1 p2 p3 p4 p5 p6 p7
          go_wp2_with fail
          refine (bytes32_any p1 wr).mono ?_
          rintro e w11 ⟨rfl, hb11⟩
          have HR11 := Lib.hid ((HR.out.below hb11).alloc (.cells #[.int .u8 (b32 p1 0), .int .u8 (b32 p1 1), .int .u8 (b32 p1 2), .int .u8 (b32 p1 3)] 182)).drew
          have HB11 := Lib.hid ((below_trans' HB.out hb11).alloc (by have := HR.out.lt; have := hb11.size; omega) (.cells #[.int .u8 (b32 p1 0), .int .u8 (b32 p1 1), .int .u8 (b32 p1 2), .int .u8 (b32 p1 3)] 182))
          have HZ11 := Lib.hid ((HZ.out.below hb11).alloc (.cells #[.int .u8 (b32 p1 0), .int .u8 (b32 p1 1), .int .u8 (b32 p1 2), .int .u8 (b32 p1 3)] 182)).drew
          clear hb11 HR HB HZ
          have hcp := run_copy_cells (P := Tryz.prog) (w11.alloc (.cells #[.int .u8 (b32 p1 0), .int .u8 (b32 p1 1), .int .u8 (b32 p1 2), .int .u8 (b32 p1 3)] 182)).drew 155 155 3 5 (w.heap.size + 1) 4 28 28 ⟨w11.heap.size, 0, none⟩ 4 4 (bc [b32 p1 0, b32 p1 1, b32 p1 2, b32 p1 3]) Tryz.underlying155 (by kernel_rfl) rfl (fun jj u hj => by
            rw [Addr.add_mid, Nat.zero_add]; exact (cell_of_row (w11.alloc (.cells #[.int .u8 (b32 p1 0), .int .u8 (b32 p1 1), .int .u8 (b32 p1 2), .int .u8 (b32 p1 3)] 182)).drew w11.heap.size jj #[.int .u8 (b32 p1 0), .int .u8 (b32 p1 1), .int .u8 (b32 p1 2), .int .u8 (b32 p1 3)] 182 (0, 0) (heap_alloc_new w11 _)).trans (by rw [← hj]; simp [bc])) (fun jj hj => by
            rw [show (w11.alloc (.cells #[.int .u8 (b32 p1 0), .int .u8 (b32 p1 1), .int .u8 (b32 p1 2), .int .u8 (b32 p1 3)] 182)).drew.cell? ⟨w.heap.size + 1, 4 + jj, none⟩ = _ from HR11.out.cell (i := 4 + jj) (by simp [oB_len, bc] at hj ⊢; omega)]; rfl) (fun jj _ => HR11.out.free _) (fun u hu => by
            obtain ⟨x, _, rfl⟩ := List.mem_map.1 hu; rfl)
          have hR12 := setCells_mid (w11.alloc (.cells #[.int .u8 (b32 p1 0), .int .u8 (b32 p1 1), .int .u8 (b32 p1 2), .int .u8 (b32 p1 3)] 182)).drew (w.heap.size + 1) (oB [p0, p1, p2, p3, p4, p5, p6, p7] 1) (List.replicate 4 0) (List.replicate 24 0) [b32 p1 0, b32 p1 1, b32 p1 2, b32 p1 3] HR11.out rfl
          have hB12 := below_setCells (bc [b32 p1 0, b32 p1 1, b32 p1 2, b32 p1 3]) (oB [p0, p1, p2, p3, p4, p5, p6, p7] 1).length _ _ HR11.out.heap (B := w.heap.size) (by omega) HB11.out.drew
          have hZ12 := HZ11.out.other (oB [p0, p1, p2, p3, p4, p5, p6, p7] 1).length (bc [b32 p1 0, b32 p1 1, b32 p1 2, b32 p1 3]) HR11.out.heap (by omega)
          rw [show (oB [p0, p1, p2, p3, p4, p5, p6, p7] 1).length = 4 from rfl] at hR12 hB12 hZ12
          rw [show (bc [b32 p1 0, b32 p1 1, b32 p1 2, b32 p1 3]).length = 4 from rfl] at hcp
          generalize hw12 : (w11.alloc (.cells #[.int .u8 (b32 p1 0), .int .u8 (b32 p1 1), .int .u8 (b32 p1 2), .int .u8 (b32 p1 3)] 182)).drew.setCells (w.heap.size + 1) 4 (bc [b32 p1 0, b32 p1 1, b32 p1 2, b32 p1 3]) = w12 at *
          have HR12 := Lib.hid hR12
          have HB12 := Lib.hid hB12
          have HZ12 := Lib.hid hZ12
          clear hR12 hB12 hZ12 HZ11 HR11 HB11 hw12
          go_wp2_with fail
          refine wp_region_still_tail 4 (by kernel_rfl) (by kernel_rfl) ?_
          simp only [List.take_succ_cons, List.take_zero, List.drop_succ_cons, List.drop_zero]
          repeat still_step
          refine wpStill_nil ?_
          change wpList _ _ _ _ _ (w11.alloc (.cells #[.int .u8 (b32 p1 0), .int .u8 (b32 p1 1), .int .u8 (b32 p1 2), .int .u8 (b32 p1 3)] 182)).drew
          generalize (w11.alloc (.cells #[.int .u8 (b32 p1 0), .int .u8 (b32 p1 1), .int .u8 (b32 p1 2), .int .u8 (b32 p1 3)] 182)).drew = w11d at *
          go_wp2_with fail
          exact ⟨⟨2, 2, rfl, by omega, rfl, HR12.out, HB12.out, HZ12.out⟩, by simp [intOf]⟩
        · obtain rfl : q = 2 := hq
          have hwr : IntKind.i64.wrap 8 = 8 := by decide
          have HR := Lib.hid hR
          have HB := Lib.hid hB
          have HZ := Lib.hid hZ
          clear hR hB hZ
          have hix := idx247_2 p0 p1 p2 p3 p4 p5 p6 p7
          go_wp2_with fail
          refine (bytes32_any p2 wr).mono ?_
          rintro e w11 ⟨rfl, hb11⟩
          have HR11 := Lib.hid ((HR.out.below hb11).alloc (.cells #[.int .u8 (b32 p2 0), .int .u8 (b32 p2 1), .int .u8 (b32 p2 2), .int .u8 (b32 p2 3)] 182)).drew
          have HB11 := Lib.hid ((below_trans' HB.out hb11).alloc (by have := HR.out.lt; have := hb11.size; omega) (.cells #[.int .u8 (b32 p2 0), .int .u8 (b32 p2 1), .int .u8 (b32 p2 2), .int .u8 (b32 p2 3)] 182))
          have HZ11 := Lib.hid ((HZ.out.below hb11).alloc (.cells #[.int .u8 (b32 p2 0), .int .u8 (b32 p2 1), .int .u8 (b32 p2 2), .int .u8 (b32 p2 3)] 182)).drew
          clear hb11 HR HB HZ
          have hcp := run_copy_cells (P := Tryz.prog) (w11.alloc (.cells #[.int .u8 (b32 p2 0), .int .u8 (b32 p2 1), .int .u8 (b32 p2 2), .int .u8 (b32 p2 3)] 182)).drew 155 155 3 5 (w.heap.size + 1) 8 24 24 ⟨w11.heap.size, 0, none⟩ 4 4 (bc [b32 p2 0, b32 p2 1, b32 p2 2, b32 p2 3]) Tryz.underlying155 (by kernel_rfl) rfl (fun jj u hj => by
            rw [Addr.add_mid, Nat.zero_add]; exact (cell_of_row (w11.alloc (.cells #[.int .u8 (b32 p2 0), .int .u8 (b32 p2 1), .int .u8 (b32 p2 2), .int .u8 (b32 p2 3)] 182)).drew w11.heap.size jj #[.int .u8 (b32 p2 0), .int .u8 (b32 p2 1), .int .u8 (b32 p2 2), .int .u8 (b32 p2 3)] 182 (0, 0) (heap_alloc_new w11 _)).trans (by rw [← hj]; simp [bc])) (fun jj hj => by
            rw [show (w11.alloc (.cells #[.int .u8 (b32 p2 0), .int .u8 (b32 p2 1), .int .u8 (b32 p2 2), .int .u8 (b32 p2 3)] 182)).drew.cell? ⟨w.heap.size + 1, 8 + jj, none⟩ = _ from HR11.out.cell (i := 8 + jj) (by simp [oB_len, bc] at hj ⊢; omega)]; rfl) (fun jj _ => HR11.out.free _) (fun u hu => by
            obtain ⟨x, _, rfl⟩ := List.mem_map.1 hu; rfl)
          have hR12 := setCells_mid (w11.alloc (.cells #[.int .u8 (b32 p2 0), .int .u8 (b32 p2 1), .int .u8 (b32 p2 2), .int .u8 (b32 p2 3)] 182)).drew (w.heap.size + 1) (oB [p0, p1, p2, p3, p4, p5, p6, p7] 2) (List.replicate 4 0) (List.replicate 20 0) [b32 p2 0, b32 p2 1, b32 p2 2, b32 p2 3] HR11.out rfl
          have hB12 := below_setCells (bc [b32 p2 0, b32 p2 1, b32 p2 2, b32 p2 3]) (oB [p0, p1, p2, p3, p4, p5, p6, p7] 2).length _ _ HR11.out.heap (B := w.heap.size) (by omega) HB11.out.drew
          have hZ12 := HZ11.out.other (oB [p0, p1, p2, p3, p4, p5, p6, p7] 2).length (bc [b32 p2 0, b32 p2 1, b32 p2 2, b32 p2 3]) HR11.out.heap (by omega)
          rw [show (oB [p0, p1, p2, p3, p4, p5, p6, p7] 2).length = 8 from rfl] at hR12 hB12 hZ12
          rw [show (bc [b32 p2 0, b32 p2 1, b32 p2 2, b32 p2 3]).length = 4 from rfl] at hcp
          generalize hw12 : (w11.alloc (.cells #[.int .u8 (b32 p2 0), .int .u8 (b32 p2 1), .int .u8 (b32 p2 2), .int .u8 (b32 p2 3)] 182)).drew.setCells (w.heap.size + 1) 8 (bc [b32 p2 0, b32 p2 1, b32 p2 2, b32 p2 3]) = w12 at *
          have HR12 := Lib.hid hR12
          have HB12 := Lib.hid hB12
          have HZ12 := Lib.hid hZ12
          clear hR12 hB12 hZ12 HZ11 HR11 HB11 hw12
          go_wp2_with fail
          refine wp_region_still_tail 4 (by kernel_rfl) (by kernel_rfl) ?_
          simp only [List.take_succ_cons, List.take_zero, List.drop_succ_cons, List.drop_zero]
          repeat still_step
          refine wpStill_nil ?_
          change wpList _ _ _ _ _ (w11.alloc (.cells #[.int .u8 (b32 p2 0), .int .u8 (b32 p2 1), .int .u8 (b32 p2 2), .int .u8 (b32 p2 3)] 182)).drew
          generalize (w11.alloc (.cells #[.int .u8 (b32 p2 0), .int .u8 (b32 p2 1), .int .u8 (b32 p2 2), .int .u8 (b32 p2 3)] 182)).drew = w11d at *
          go_wp2_with fail
          exact ⟨⟨3, 3, rfl, by omega, rfl, HR12.out, HB12.out, HZ12.out⟩, by simp [intOf]⟩
        · obtain rfl : q = 3 := hq
          have hwr : IntKind.i64.wrap 12 = 12 := by decide
          have HR := Lib.hid hR
          have HB := Lib.hid hB
          have HZ := Lib.hid hZ
          clear hR hB hZ
          have hix := idx247_3 p0 p1 p2 p3 p4 p5 p6 p7
          go_wp2_with fail
          refine (bytes32_any p3 wr).mono ?_
          rintro e w11 ⟨rfl, hb11⟩
          have HR11 := Lib.hid ((HR.out.below hb11).alloc (.cells #[.int .u8 (b32 p3 0), .int .u8 (b32 p3 1), .int .u8 (b32 p3 2), .int .u8 (b32 p3 3)] 182)).drew
          have HB11 := Lib.hid ((below_trans' HB.out hb11).alloc (by have := HR.out.lt; have := hb11.size; omega) (.cells #[.int .u8 (b32 p3 0), .int .u8 (b32 p3 1), .int .u8 (b32 p3 2), .int .u8 (b32 p3 3)] 182))
          have HZ11 := Lib.hid ((HZ.out.below hb11).alloc (.cells #[.int .u8 (b32 p3 0), .int .u8 (b32 p3 1), .int .u8 (b32 p3 2), .int .u8 (b32 p3 3)] 182)).drew
          clear hb11 HR HB HZ
          have hcp := run_copy_cells (P := Tryz.prog) (w11.alloc (.cells #[.int .u8 (b32 p3 0), .int .u8 (b32 p3 1), .int .u8 (b32 p3 2), .int .u8 (b32 p3 3)] 182)).drew 155 155 3 5 (w.heap.size + 1) 12 20 20 ⟨w11.heap.size, 0, none⟩ 4 4 (bc [b32 p3 0, b32 p3 1, b32 p3 2, b32 p3 3]) Tryz.underlying155 (by kernel_rfl) rfl (fun jj u hj => by
            rw [Addr.add_mid, Nat.zero_add]; exact (cell_of_row (w11.alloc (.cells #[.int .u8 (b32 p3 0), .int .u8 (b32 p3 1), .int .u8 (b32 p3 2), .int .u8 (b32 p3 3)] 182)).drew w11.heap.size jj #[.int .u8 (b32 p3 0), .int .u8 (b32 p3 1), .int .u8 (b32 p3 2), .int .u8 (b32 p3 3)] 182 (0, 0) (heap_alloc_new w11 _)).trans (by rw [← hj]; simp [bc])) (fun jj hj => by
            rw [show (w11.alloc (.cells #[.int .u8 (b32 p3 0), .int .u8 (b32 p3 1), .int .u8 (b32 p3 2), .int .u8 (b32 p3 3)] 182)).drew.cell? ⟨w.heap.size + 1, 12 + jj, none⟩ = _ from HR11.out.cell (i := 12 + jj) (by simp [oB_len, bc] at hj ⊢; omega)]; rfl) (fun jj _ => HR11.out.free _) (fun u hu => by
            obtain ⟨x, _, rfl⟩ := List.mem_map.1 hu; rfl)
          have hR12 := setCells_mid (w11.alloc (.cells #[.int .u8 (b32 p3 0), .int .u8 (b32 p3 1), .int .u8 (b32 p3 2), .int .u8 (b32 p3 3)] 182)).drew (w.heap.size + 1) (oB [p0, p1, p2, p3, p4, p5, p6, p7] 3) (List.replicate 4 0) (List.replicate 16 0) [b32 p3 0, b32 p3 1, b32 p3 2, b32 p3 3] HR11.out rfl
          have hB12 := below_setCells (bc [b32 p3 0, b32 p3 1, b32 p3 2, b32 p3 3]) (oB [p0, p1, p2, p3, p4, p5, p6, p7] 3).length _ _ HR11.out.heap (B := w.heap.size) (by omega) HB11.out.drew
          have hZ12 := HZ11.out.other (oB [p0, p1, p2, p3, p4, p5, p6, p7] 3).length (bc [b32 p3 0, b32 p3 1, b32 p3 2, b32 p3 3]) HR11.out.heap (by omega)
          rw [show (oB [p0, p1, p2, p3, p4, p5, p6, p7] 3).length = 12 from rfl] at hR12 hB12 hZ12
          rw [show (bc [b32 p3 0, b32 p3 1, b32 p3 2, b32 p3 3]).length = 4 from rfl] at hcp
          generalize hw12 : (w11.alloc (.cells #[.int .u8 (b32 p3 0), .int .u8 (b32 p3 1), .int .u8 (b32 p3 2), .int .u8 (b32 p3 3)] 182)).drew.setCells (w.heap.size + 1) 12 (bc [b32 p3 0, b32 p3 1, b32 p3 2, b32 p3 3]) = w12 at *
          have HR12 := Lib.hid hR12
          have HB12 := Lib.hid hB12
          have HZ12 := Lib.hid hZ12
          clear hR12 hB12 hZ12 HZ11 HR11 HB11 hw12
          go_wp2_with fail
          refine wp_region_still_tail 4 (by kernel_rfl) (by kernel_rfl) ?_
          simp only [List.take_succ_cons, List.take_zero, List.drop_succ_cons, List.drop_zero]
          repeat still_step
          refine wpStill_nil ?_
          change wpList _ _ _ _ _ (w11.alloc (.cells #[.int .u8 (b32 p3 0), .int .u8 (b32 p3 1), .int .u8 (b32 p3 2), .int .u8 (b32 p3 3)] 182)).drew
          generalize (w11.alloc (.cells #[.int .u8 (b32 p3 0), .int .u8 (b32 p3 1), .int .u8 (b32 p3 2), .int .u8 (b32 p3 3)] 182)).drew = w11d at *
          go_wp2_with fail
          exact ⟨⟨4, 4, rfl, by omega, rfl, HR12.out, HB12.out, HZ12.out⟩, by simp [intOf]⟩
        · obtain rfl : q = 4 := hq
          have hwr : IntKind.i64.wrap 16 = 16 := by decide
          have HR := Lib.hid hR
          have HB := Lib.hid hB
          have HZ := Lib.hid hZ
          clear hR hB hZ
          have hix := idx247_4 p0 p1 p2 p3 p4 p5 p6 p7
          go_wp2_with fail
          refine (bytes32_any p4 wr).mono ?_
          rintro e w11 ⟨rfl, hb11⟩
          have HR11 := Lib.hid ((HR.out.below hb11).alloc (.cells #[.int .u8 (b32 p4 0), .int .u8 (b32 p4 1), .int .u8 (b32 p4 2), .int .u8 (b32 p4 3)] 182)).drew
          have HB11 := Lib.hid ((below_trans' HB.out hb11).alloc (by have := HR.out.lt; have := hb11.size; omega) (.cells #[.int .u8 (b32 p4 0), .int .u8 (b32 p4 1), .int .u8 (b32 p4 2), .int .u8 (b32 p4 3)] 182))
          have HZ11 := Lib.hid ((HZ.out.below hb11).alloc (.cells #[.int .u8 (b32 p4 0), .int .u8 (b32 p4 1), .int .u8 (b32 p4 2), .int .u8 (b32 p4 3)] 182)).drew
          clear hb11 HR HB HZ
          have hcp := run_copy_cells (P := Tryz.prog) (w11.alloc (.cells #[.int .u8 (b32 p4 0), .int .u8 (b32 p4 1), .int .u8 (b32 p4 2), .int .u8 (b32 p4 3)] 182)).drew 155 155 3 5 (w.heap.size + 1) 16 16 16 ⟨w11.heap.size, 0, none⟩ 4 4 (bc [b32 p4 0, b32 p4 1, b32 p4 2, b32 p4 3]) Tryz.underlying155 (by kernel_rfl) rfl (fun jj u hj => by
            rw [Addr.add_mid, Nat.zero_add]; exact (cell_of_row (w11.alloc (.cells #[.int .u8 (b32 p4 0), .int .u8 (b32 p4 1), .int .u8 (b32 p4 2), .int .u8 (b32 p4 3)] 182)).drew w11.heap.size jj #[.int .u8 (b32 p4 0), .int .u8 (b32 p4 1), .int .u8 (b32 p4 2), .int .u8 (b32 p4 3)] 182 (0, 0) (heap_alloc_new w11 _)).trans (by rw [← hj]; simp [bc])) (fun jj hj => by
            rw [show (w11.alloc (.cells #[.int .u8 (b32 p4 0), .int .u8 (b32 p4 1), .int .u8 (b32 p4 2), .int .u8 (b32 p4 3)] 182)).drew.cell? ⟨w.heap.size + 1, 16 + jj, none⟩ = _ from HR11.out.cell (i := 16 + jj) (by simp [oB_len, bc] at hj ⊢; omega)]; rfl) (fun jj _ => HR11.out.free _) (fun u hu => by
            obtain ⟨x, _, rfl⟩ := List.mem_map.1 hu; rfl)
          have hR12 := setCells_mid (w11.alloc (.cells #[.int .u8 (b32 p4 0), .int .u8 (b32 p4 1), .int .u8 (b32 p4 2), .int .u8 (b32 p4 3)] 182)).drew (w.heap.size + 1) (oB [p0, p1, p2, p3, p4, p5, p6, p7] 4) (List.replicate 4 0) (List.replicate 12 0) [b32 p4 0, b32 p4 1, b32 p4 2, b32 p4 3] HR11.out rfl
          have hB12 := below_setCells (bc [b32 p4 0, b32 p4 1, b32 p4 2, b32 p4 3]) (oB [p0, p1, p2, p3, p4, p5, p6, p7] 4).length _ _ HR11.out.heap (B := w.heap.size) (by omega) HB11.out.drew
          have hZ12 := HZ11.out.other (oB [p0, p1, p2, p3, p4, p5, p6, p7] 4).length (bc [b32 p4 0, b32 p4 1, b32 p4 2, b32 p4 3]) HR11.out.heap (by omega)
          rw [show (oB [p0, p1, p2, p3, p4, p5, p6, p7] 4).length = 16 from rfl] at hR12 hB12 hZ12
          rw [show (bc [b32 p4 0, b32 p4 1, b32 p4 2, b32 p4 3]).length = 4 from rfl] at hcp
          generalize hw12 : (w11.alloc (.cells #[.int .u8 (b32 p4 0), .int .u8 (b32 p4 1), .int .u8 (b32 p4 2), .int .u8 (b32 p4 3)] 182)).drew.setCells (w.heap.size + 1) 16 (bc [b32 p4 0, b32 p4 1, b32 p4 2, b32 p4 3]) = w12 at *
          have HR12 := Lib.hid hR12
          have HB12 := Lib.hid hB12
          have HZ12 := Lib.hid hZ12
          clear hR12 hB12 hZ12 HZ11 HR11 HB11 hw12
          go_wp2_with fail
          refine wp_region_still_tail 4 (by kernel_rfl) (by kernel_rfl) ?_
          simp only [List.take_succ_cons, List.take_zero, List.drop_succ_cons, List.drop_zero]
          repeat still_step
          refine wpStill_nil ?_
          change wpList _ _ _ _ _ (w11.alloc (.cells #[.int .u8 (b32 p4 0), .int .u8 (b32 p4 1), .int .u8 (b32 p4 2), .int .u8 (b32 p4 3)] 182)).drew
          generalize (w11.alloc (.cells #[.int .u8 (b32 p4 0), .int .u8 (b32 p4 1), .int .u8 (b32 p4 2), .int .u8 (b32 p4 3)] 182)).drew = w11d at *
          go_wp2_with fail
          exact ⟨⟨5, 5, rfl, by omega, rfl, HR12.out, HB12.out, HZ12.out⟩, by simp [intOf]⟩
        · obtain rfl : q = 5 := hq
          have hwr : IntKind.i64.wrap 20 = 20 := by decide
          have HR := Lib.hid hR
          have HB := Lib.hid hB
          have HZ := Lib.hid hZ
          clear hR hB hZ
          have hix := idx247_5 p0 p1 p2 p3 p4 p5 p6 p7
          go_wp2_with fail
          refine (bytes32_any p5 wr).mono ?_
          rintro e w11 ⟨rfl, hb11⟩
          have HR11 := Lib.hid ((HR.out.below hb11).alloc (.cells #[.int .u8 (b32 p5 0), .int .u8 (b32 p5 1), .int .u8 (b32 p5 2), .int .u8 (b32 p5 3)] 182)).drew
          have HB11 := Lib.hid ((below_trans' HB.out hb11).alloc (by have := HR.out.lt; have := hb11.size; omega) (.cells #[.int .u8 (b32 p5 0), .int .u8 (b32 p5 1), .int .u8 (b32 p5 2), .int .u8 (b32 p5 3)] 182))
          have HZ11 := Lib.hid ((HZ.out.below hb11).alloc (.cells #[.int .u8 (b32 p5 0), .int .u8 (b32 p5 1), .int .u8 (b32 p5 2), .int .u8 (b32 p5 3)] 182)).drew
          clear hb11 HR HB HZ
          have hcp := run_copy_cells (P := Tryz.prog) (w11.alloc (.cells #[.int .u8 (b32 p5 0), .int .u8 (b32 p5 1), .int .u8 (b32 p5 2), .int .u8 (b32 p5 3)] 182)).drew 155 155 3 5 (w.heap.size + 1) 20 12 12 ⟨w11.heap.size, 0, none⟩ 4 4 (bc [b32 p5 0, b32 p5 1, b32 p5 2, b32 p5 3]) Tryz.underlying155 (by kernel_rfl) rfl (fun jj u hj => by
            rw [Addr.add_mid, Nat.zero_add]; exact (cell_of_row (w11.alloc (.cells #[.int .u8 (b32 p5 0), .int .u8 (b32 p5 1), .int .u8 (b32 p5 2), .int .u8 (b32 p5 3)] 182)).drew w11.heap.size jj #[.int .u8 (b32 p5 0), .int .u8 (b32 p5 1), .int .u8 (b32 p5 2), .int .u8 (b32 p5 3)] 182 (0, 0) (heap_alloc_new w11 _)).trans (by rw [← hj]; simp [bc])) (fun jj hj => by
            rw [show (w11.alloc (.cells #[.int .u8 (b32 p5 0), .int .u8 (b32 p5 1), .int .u8 (b32 p5 2), .int .u8 (b32 p5 3)] 182)).drew.cell? ⟨w.heap.size + 1, 20 + jj, none⟩ = _ from HR11.out.cell (i := 20 + jj) (by simp [oB_len, bc] at hj ⊢; omega)]; rfl) (fun jj _ => HR11.out.free _) (fun u hu => by
            obtain ⟨x, _, rfl⟩ := List.mem_map.1 hu; rfl)
          have hR12 := setCells_mid (w11.alloc (.cells #[.int .u8 (b32 p5 0), .int .u8 (b32 p5 1), .int .u8 (b32 p5 2), .int .u8 (b32 p5 3)] 182)).drew (w.heap.size + 1) (oB [p0, p1, p2, p3, p4, p5, p6, p7] 5) (List.replicate 4 0) (List.replicate 8 0) [b32 p5 0, b32 p5 1, b32 p5 2, b32 p5 3] HR11.out rfl
          have hB12 := below_setCells (bc [b32 p5 0, b32 p5 1, b32 p5 2, b32 p5 3]) (oB [p0, p1, p2, p3, p4, p5, p6, p7] 5).length _ _ HR11.out.heap (B := w.heap.size) (by omega) HB11.out.drew
          have hZ12 := HZ11.out.other (oB [p0, p1, p2, p3, p4, p5, p6, p7] 5).length (bc [b32 p5 0, b32 p5 1, b32 p5 2, b32 p5 3]) HR11.out.heap (by omega)
          rw [show (oB [p0, p1, p2, p3, p4, p5, p6, p7] 5).length = 20 from rfl] at hR12 hB12 hZ12
          rw [show (bc [b32 p5 0, b32 p5 1, b32 p5 2, b32 p5 3]).length = 4 from rfl] at hcp
          generalize hw12 : (w11.alloc (.cells #[.int .u8 (b32 p5 0), .int .u8 (b32 p5 1), .int .u8 (b32 p5 2), .int .u8 (b32 p5 3)] 182)).drew.setCells (w.heap.size + 1) 20 (bc [b32 p5 0, b32 p5 1, b32 p5 2, b32 p5 3]) = w12 at *
          have HR12 := Lib.hid hR12
          have HB12 := Lib.hid hB12
          have HZ12 := Lib.hid hZ12
          clear hR12 hB12 hZ12 HZ11 HR11 HB11 hw12
          go_wp2_with fail
          refine wp_region_still_tail 4 (by kernel_rfl) (by kernel_rfl) ?_
          simp only [List.take_succ_cons, List.take_zero, List.drop_succ_cons, List.drop_zero]
          repeat still_step
          refine wpStill_nil ?_
          change wpList _ _ _ _ _ (w11.alloc (.cells #[.int .u8 (b32 p5 0), .int .u8 (b32 p5 1), .int .u8 (b32 p5 2), .int .u8 (b32 p5 3)] 182)).drew
          generalize (w11.alloc (.cells #[.int .u8 (b32 p5 0), .int .u8 (b32 p5 1), .int .u8 (b32 p5 2), .int .u8 (b32 p5 3)] 182)).drew = w11d at *
          go_wp2_with fail
          exact ⟨⟨6, 6, rfl, by omega, rfl, HR12.out, HB12.out, HZ12.out⟩, by simp [intOf]⟩
        · obtain rfl : q = 6 := hq
          have hwr : IntKind.i64.wrap 24 = 24 := by decide
          have HR := Lib.hid hR
          have HB := Lib.hid hB
          have HZ := Lib.hid hZ
          clear hR hB hZ
          have hix := idx247_6 p0 p1 p2 p3 p4 p5 p6 p7
          go_wp2_with fail
          refine (bytes32_any p6 wr).mono ?_
          rintro e w11 ⟨rfl, hb11⟩
          have HR11 := Lib.hid ((HR.out.below hb11).alloc (.cells #[.int .u8 (b32 p6 0), .int .u8 (b32 p6 1), .int .u8 (b32 p6 2), .int .u8 (b32 p6 3)] 182)).drew
          have HB11 := Lib.hid ((below_trans' HB.out hb11).alloc (by have := HR.out.lt; have := hb11.size; omega) (.cells #[.int .u8 (b32 p6 0), .int .u8 (b32 p6 1), .int .u8 (b32 p6 2), .int .u8 (b32 p6 3)] 182))
          have HZ11 := Lib.hid ((HZ.out.below hb11).alloc (.cells #[.int .u8 (b32 p6 0), .int .u8 (b32 p6 1), .int .u8 (b32 p6 2), .int .u8 (b32 p6 3)] 182)).drew
          clear hb11 HR HB HZ
          have hcp := run_copy_cells (P := Tryz.prog) (w11.alloc (.cells #[.int .u8 (b32 p6 0), .int .u8 (b32 p6 1), .int .u8 (b32 p6 2), .int .u8 (b32 p6 3)] 182)).drew 155 155 3 5 (w.heap.size + 1) 24 8 8 ⟨w11.heap.size, 0, none⟩ 4 4 (bc [b32 p6 0, b32 p6 1, b32 p6 2, b32 p6 3]) Tryz.underlying155 (by kernel_rfl) rfl (fun jj u hj => by
            rw [Addr.add_mid, Nat.zero_add]; exact (cell_of_row (w11.alloc (.cells #[.int .u8 (b32 p6 0), .int .u8 (b32 p6 1), .int .u8 (b32 p6 2), .int .u8 (b32 p6 3)] 182)).drew w11.heap.size jj #[.int .u8 (b32 p6 0), .int .u8 (b32 p6 1), .int .u8 (b32 p6 2), .int .u8 (b32 p6 3)] 182 (0, 0) (heap_alloc_new w11 _)).trans (by rw [← hj]; simp [bc])) (fun jj hj => by
            rw [show (w11.alloc (.cells #[.int .u8 (b32 p6 0), .int .u8 (b32 p6 1), .int .u8 (b32 p6 2), .int .u8 (b32 p6 3)] 182)).drew.cell? ⟨w.heap.size + 1, 24 + jj, none⟩ = _ from HR11.out.cell (i := 24 + jj) (by simp [oB_len, bc] at hj ⊢; omega)]; rfl) (fun jj _ => HR11.out.free _) (fun u hu => by
            obtain ⟨x, _, rfl⟩ := List.mem_map.1 hu; rfl)
          have hR12 := setCells_mid (w11.alloc (.cells #[.int .u8 (b32 p6 0), .int .u8 (b32 p6 1), .int .u8 (b32 p6 2), .int .u8 (b32 p6 3)] 182)).drew (w.heap.size + 1) (oB [p0, p1, p2, p3, p4, p5, p6, p7] 6) (List.replicate 4 0) (List.replicate 4 0) [b32 p6 0, b32 p6 1, b32 p6 2, b32 p6 3] HR11.out rfl
          have hB12 := below_setCells (bc [b32 p6 0, b32 p6 1, b32 p6 2, b32 p6 3]) (oB [p0, p1, p2, p3, p4, p5, p6, p7] 6).length _ _ HR11.out.heap (B := w.heap.size) (by omega) HB11.out.drew
          have hZ12 := HZ11.out.other (oB [p0, p1, p2, p3, p4, p5, p6, p7] 6).length (bc [b32 p6 0, b32 p6 1, b32 p6 2, b32 p6 3]) HR11.out.heap (by omega)
          rw [show (oB [p0, p1, p2, p3, p4, p5, p6, p7] 6).length = 24 from rfl] at hR12 hB12 hZ12
          rw [show (bc [b32 p6 0, b32 p6 1, b32 p6 2, b32 p6 3]).length = 4 from rfl] at hcp
          generalize hw12 : (w11.alloc (.cells #[.int .u8 (b32 p6 0), .int .u8 (b32 p6 1), .int .u8 (b32 p6 2), .int .u8 (b32 p6 3)] 182)).drew.setCells (w.heap.size + 1) 24 (bc [b32 p6 0, b32 p6 1, b32 p6 2, b32 p6 3]) = w12 at *
          have HR12 := Lib.hid hR12
          have HB12 := Lib.hid hB12
          have HZ12 := Lib.hid hZ12
          clear hR12 hB12 hZ12 HZ11 HR11 HB11 hw12
          go_wp2_with fail
          refine wp_region_still_tail 4 (by kernel_rfl) (by kernel_rfl) ?_
          simp only [List.take_succ_cons, List.take_zero, List.drop_succ_cons, List.drop_zero]
          repeat still_step
          refine wpStill_nil ?_
          change wpList _ _ _ _ _ (w11.alloc (.cells #[.int .u8 (b32 p6 0), .int .u8 (b32 p6 1), .int .u8 (b32 p6 2), .int .u8 (b32 p6 3)] 182)).drew
          generalize (w11.alloc (.cells #[.int .u8 (b32 p6 0), .int .u8 (b32 p6 1), .int .u8 (b32 p6 2), .int .u8 (b32 p6 3)] 182)).drew = w11d at *
          go_wp2_with fail
          exact ⟨⟨7, 7, rfl, by omega, rfl, HR12.out, HB12.out, HZ12.out⟩, by simp [intOf]⟩
        · obtain rfl : q = 7 := hq
          have hwr : IntKind.i64.wrap 28 = 28 := by decide
          have HR := Lib.hid hR
          have HB := Lib.hid hB
          have HZ := Lib.hid hZ
          clear hR hB hZ
          have hix := idx247_7 p0 p1 p2 p3 p4 p5 p6 p7
          go_wp2_with fail
          refine (bytes32_any p7 wr).mono ?_
          rintro e w11 ⟨rfl, hb11⟩
          have HR11 := Lib.hid ((HR.out.below hb11).alloc (.cells #[.int .u8 (b32 p7 0), .int .u8 (b32 p7 1), .int .u8 (b32 p7 2), .int .u8 (b32 p7 3)] 182)).drew
          have HB11 := Lib.hid ((below_trans' HB.out hb11).alloc (by have := HR.out.lt; have := hb11.size; omega) (.cells #[.int .u8 (b32 p7 0), .int .u8 (b32 p7 1), .int .u8 (b32 p7 2), .int .u8 (b32 p7 3)] 182))
          have HZ11 := Lib.hid ((HZ.out.below hb11).alloc (.cells #[.int .u8 (b32 p7 0), .int .u8 (b32 p7 1), .int .u8 (b32 p7 2), .int .u8 (b32 p7 3)] 182)).drew
          clear hb11 HR HB HZ
          have hcp := run_copy_cells (P := Tryz.prog) (w11.alloc (.cells #[.int .u8 (b32 p7 0), .int .u8 (b32 p7 1), .int .u8 (b32 p7 2), .int .u8 (b32 p7 3)] 182)).drew 155 155 3 5 (w.heap.size + 1) 28 4 4 ⟨w11.heap.size, 0, none⟩ 4 4 (bc [b32 p7 0, b32 p7 1, b32 p7 2, b32 p7 3]) Tryz.underlying155 (by kernel_rfl) rfl (fun jj u hj => by
            rw [Addr.add_mid, Nat.zero_add]; exact (cell_of_row (w11.alloc (.cells #[.int .u8 (b32 p7 0), .int .u8 (b32 p7 1), .int .u8 (b32 p7 2), .int .u8 (b32 p7 3)] 182)).drew w11.heap.size jj #[.int .u8 (b32 p7 0), .int .u8 (b32 p7 1), .int .u8 (b32 p7 2), .int .u8 (b32 p7 3)] 182 (0, 0) (heap_alloc_new w11 _)).trans (by rw [← hj]; simp [bc])) (fun jj hj => by
            rw [show (w11.alloc (.cells #[.int .u8 (b32 p7 0), .int .u8 (b32 p7 1), .int .u8 (b32 p7 2), .int .u8 (b32 p7 3)] 182)).drew.cell? ⟨w.heap.size + 1, 28 + jj, none⟩ = _ from HR11.out.cell (i := 28 + jj) (by simp [oB_len, bc] at hj ⊢; omega)]; rfl) (fun jj _ => HR11.out.free _) (fun u hu => by
            obtain ⟨x, _, rfl⟩ := List.mem_map.1 hu; rfl)
          have hR12 := setCells_mid (w11.alloc (.cells #[.int .u8 (b32 p7 0), .int .u8 (b32 p7 1), .int .u8 (b32 p7 2), .int .u8 (b32 p7 3)] 182)).drew (w.heap.size + 1) (oB [p0, p1, p2, p3, p4, p5, p6, p7] 7) (List.replicate 4 0) (List.replicate 0 0) [b32 p7 0, b32 p7 1, b32 p7 2, b32 p7 3] HR11.out rfl
          have hB12 := below_setCells (bc [b32 p7 0, b32 p7 1, b32 p7 2, b32 p7 3]) (oB [p0, p1, p2, p3, p4, p5, p6, p7] 7).length _ _ HR11.out.heap (B := w.heap.size) (by omega) HB11.out.drew
          have hZ12 := HZ11.out.other (oB [p0, p1, p2, p3, p4, p5, p6, p7] 7).length (bc [b32 p7 0, b32 p7 1, b32 p7 2, b32 p7 3]) HR11.out.heap (by omega)
          rw [show (oB [p0, p1, p2, p3, p4, p5, p6, p7] 7).length = 28 from rfl] at hR12 hB12 hZ12
          rw [show (bc [b32 p7 0, b32 p7 1, b32 p7 2, b32 p7 3]).length = 4 from rfl] at hcp
          generalize hw12 : (w11.alloc (.cells #[.int .u8 (b32 p7 0), .int .u8 (b32 p7 1), .int .u8 (b32 p7 2), .int .u8 (b32 p7 3)] 182)).drew.setCells (w.heap.size + 1) 28 (bc [b32 p7 0, b32 p7 1, b32 p7 2, b32 p7 3]) = w12 at *
          have HR12 := Lib.hid hR12
          have HB12 := Lib.hid hB12
          have HZ12 := Lib.hid hZ12
          clear hR12 hB12 hZ12 HZ11 HR11 HB11 hw12
          go_wp2_with fail
          refine wp_region_still_tail 4 (by kernel_rfl) (by kernel_rfl) ?_
          simp only [List.take_succ_cons, List.take_zero, List.drop_succ_cons, List.drop_zero]
          repeat still_step
          refine wpStill_nil ?_
          change wpList _ _ _ _ _ (w11.alloc (.cells #[.int .u8 (b32 p7 0), .int .u8 (b32 p7 1), .int .u8 (b32 p7 2), .int .u8 (b32 p7 3)] 182)).drew
          generalize (w11.alloc (.cells #[.int .u8 (b32 p7 0), .int .u8 (b32 p7 1), .int .u8 (b32 p7 2), .int .u8 (b32 p7 3)] 182)).drew = w11d at *
          go_wp2_with fail
          exact ⟨⟨8, 8, rfl, by omega, rfl, HR12.out, HB12.out, HZ12.out⟩, by simp [intOf]⟩
        · obtain rfl : q = 8 := hq
          have hR' : RowO wr (w.heap.size + 1) (oB [p0, p1, p2, p3, p4, p5, p6, p7] 8) := by
            have := hR
            rw [show 32 - 4 * 8 = 0 from rfl, List.replicate_zero, List.append_nil] at this
            exact this
          have hL : (oB [p0, p1, p2, p3, p4, p5, p6, p7] 8).length = 32 := oB_len _ 8
          have hq8 : bc (oB (piecesI [x0, x1, x2, x3, x4, x5, x6, x7] (fun i => (tailI (fBytes k f) (32 * ((k + 40) / 32) - k - 9) ++ n8 n).getD i 0) ((k + 40) / 32)) 8) = bc (oB [p0, p1, p2, p3, p4, p5, p6, p7] 8) := by rw [HP.out]
          generalize oB [p0, p1, p2, p3, p4, p5, p6, p7] 8 = L at *
          have hL' : (bc L).length = 32 := by simp [bc, hL]
          have hld := run_loadVar_mid (P := Tryz.prog) wr (w.heap.size + 1) 0 39 (bc L) _ (fun jj u hu => by rw [Nat.zero_add]; exact hR'.cells jj u hu) Tryz.underlying39 (by kernel_rfl) (by rw [hL']; kernel_rfl)
          have hst : (storeCells ⟨w.heap.size, 0, none⟩ (bc L).toArray.toList).run Tryz.prog wr = .ok () (wr.setCells w.heap.size 0 (bc L)) :=
            run_storeCells_cells (P := Tryz.prog) w.heap.size 0 (bc L) 0 wr (fun jj hj => by
              rw [Nat.zero_add, hZ.cell (i := jj) (by rw [hL'] at hj; simpa using hj)]; rfl) (fun jj _ => hZ.free _) (fun u hu => by
              obtain ⟨x, _, rfl⟩ := List.mem_map.1 hu; rfl)
          have hR13 : RowO (wr.setCells w.heap.size 0 (bc L)) w.heap.size L := by
            have := setCells_mid wr w.heap.size [] (List.replicate 32 0) [] L (by rw [List.append_nil]; exact hZ) (by rw [hL]; rfl)
            rw [List.append_nil] at this
            exact this
          have hB13 := below_setCells (bc L) 0 _ _ hZ.heap (B := w.heap.size) (by omega) hB
          generalize hw13 : wr.setCells w.heap.size 0 (bc L) = w13 at *
          have hld13 := run_loadVar_mid (P := Tryz.prog) w13 w.heap.size 0 39 (bc L) _ (fun jj u hu => by rw [Nat.zero_add]; exact hR13.cells jj u hu) Tryz.underlying39 (by kernel_rfl) (by rw [hL']; kernel_rfl)
          have hsz : (bc L).toArray.size = 32 := by simpa using hL'
          have hq9 := congrArg List.toArray hq8
          generalize (bc L).toArray = A at *
          have HQ9 := Lib.hid hq9
          have HLD := Lib.hid hld
          have HB13 := Lib.hid hB13
          clear hR hR' hB hZ hw13 hR13 hB13 hL hL' hld hq8 hq9 HP
          go_wp2_with (refine wpList_load39 rfl (.tmp 3) (w.heap.size + 1) A rfl rfl HLD.out ?_)
          refine bodyPost_ret (v := .agg A) ?_ rfl ⟨by rw [HQ9.out], HB13.out⟩
          simp [results, Tryz.f139, asAddr, hld13]
    · have HOj := Lib.hid hO
      have HBj := Lib.hid hB
      have hm' : ¬ (((k + 1 + j : Nat) : Int) + 8) % 32 = 0 := by omega
      generalize hq : k + 1 + j = q at *
      clear hO hB hg1 hg2 hg3 hg4 hg5 hg6
      have hsz := HBj.out.size
      simp at hsz
      go_wp2_with (at_builtin; go_must (refine wpList_append_own _ rfl (.tmp 46) (.tmp 47) 155 rfl (w4.heap.size + 1) 5 i0 (.int .u8 0) 1 1 Tryz.underlying155 HI.out hz0 hz1 hz2 rfl (by decide) _ _ _ rfl (HOj.out.alloc _) ⟨wr.heap.size, 0, none⟩ 1 1 [.int .u8 0] rfl rfl (cell_one_at wr _ _ _ rfl) (fun u hu => by simp at hu; subst hu; rfl) (by unfold maxLen; omega) (by omega) (by simp; omega) ?_); intro v' w9 hown1 hgrow1 _; have HO9 := Lib.hid hown1; have HG9 := Lib.hid ((HBj.out.alloc (by omega) _).grown hgrow1 (by simp; omega) (fun q hq => (HOj.out.lt q hq).1)); clear hown1 hgrow1)
      obtain ⟨_, ⟨rfl, h0⟩ | ⟨g3, cap3, cur3, hv3, _⟩⟩ := HO9.out
      · omega
      subst hv3
      exact ⟨⟨j + 1, by omega, by rw [show k + 1 + (j + 1) = q + 1 by omega, show bc (tailI (fBytes k f) (j + 1)) = bc (tailI (fBytes k f) j) ++ [.int .u8 0] by simp [bc, tailI, List.replicate_succ']]; exact HO9.out, HG9.out⟩, by simp; omega⟩

end Go.Proofs.YtpbjdbdlfobpmaaGreat
