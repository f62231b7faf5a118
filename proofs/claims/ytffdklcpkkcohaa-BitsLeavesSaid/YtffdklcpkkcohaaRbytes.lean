/- Contract of the document's Bytes, at four bytes. -/
import Derived.Test.YtffdklcpkkcohaaLeaf
import Derived.Test.YtffdklcpkkcohaaMap3
namespace Go.Proofs.Ytffdklcpkkcohaa
open Go.RowKit
theorem rinfo5 : (Try.prog.info? 5).map (fun i => (i.zero, i.size, i.bytes)) = some (some (.int .u8 0), 1, 1) := by kernel_rfl
def lowB (p i : Nat) : Nat := p / 256 ^ i % 256
def lowCells (p j : Nat) : List Value := (List.range j).map fun i => Value.int .u8 ((lowB p i : Nat) : Int)
theorem lowCells_succ (p j : Nat) : lowCells p (j + 1) = lowCells p j ++ [.int .u8 ((lowB p j : Nat) : Int)] := by
  unfold lowCells
  rw [List.range_succ, List.map_append]; rfl
set_option maxRecDepth 100000 in
theorem rbytes_any (p : Nat) (hp : p < 4294967296) (w : World) : Calls Try.prog 83 #[.int .u64 (p : Int), .int .i64 4] w fun e w' => ∃ v, e = .returned v ∧ w'.ownsRow w.heap.size 5 1 v 4 (lowCells p 4) ∧ Below w.heap.size w w' := by
  obtain ⟨i0, hi, hz0, hz1, hz2⟩ := info_parts rinfo5
  go_enter Try.func83, Try.ntmps83
  go_wp2_with fail
  have HO0 := Lib.hid (own_empty w 5 1)
  have HB0 : Hid (Below w.heap.size w (w.alloc (.cells #[] 5))) := Lib.hid ((Below.refl _ _).alloc (Nat.le_refl _) _)
  go_loopw [0, 5, 6] (fun x v i wr => ∃ (j : Nat), j ≤ 4 ∧ i = .int .i64 j ∧ x = .int .u64 ((p / 256 ^ j : Nat) : Int) ∧ wr.ownsRow w.heap.size 5 1 v j (lowCells p j) ∧ Below w.heap.size w wr) (fun _ _ i _ => 4 - (intOf i).toNat)
  case atStart => exact ⟨0, by omega, rfl, by simp, HO0.out, HB0.out⟩
  case round =>
    obtain ⟨j, hj, rfl, rfl, hO, hB⟩ := hrel
    have HO := Lib.hid hO
    have HB := Lib.hid hB
    have hsz := hB.size
    clear hO hB HO0 HB0
    by_cases hlt : j < 4
    · obtain ⟨x, hx⟩ : ∃ x, p / 256 ^ j = x := ⟨_, rfl⟩
      have hxl : x < 4294967296 := by rw [← hx]; exact Nat.lt_of_le_of_lt (Nat.div_le_self _ _) hp
      have HX : Hid (lowB p j = x % 256) := Lib.hid (by unfold lowB; rw [hx])
      have HX2 : Hid (p / 256 ^ (j + 1) = x / 256) := Lib.hid (by rw [← hx, Nat.pow_succ, Nat.div_div_eq_div_mul])
      rw [hx]
      clear hx
      obtain ⟨b, hb⟩ : ∃ b, x % 256 = b := ⟨_, rfl⟩
      have e1 : IntKind.u8.wrap (x : Int) = (b : Int) := by rw [IntKind.wrap_u8]; omega
      rw [hb] at HX
      go_wp2_with (at_builtin; go_must (refine wpList_append_own _ rfl (.tmp 13) (.tmp 16) 119 rfl w.heap.size 5 i0 (.int .u8 0) 1 1 Try.underlying119 hi hz0 hz1 hz2 rfl (by decide) _ _ _ rfl (HO.out.alloc _) ⟨wr.heap.size, 0, none⟩ 1 1 [.int .u8 (b : Int)] rfl rfl (cell_one_at wr _ _ _ rfl) (fun u hu => by simp at hu; subst hu; rfl) (by unfold maxLen; omega) (by omega) (by simp; omega) ?_); intro v' w1 hown1 hgrow1 _; have HB1 := Lib.hid ((HB.out.alloc hsz _).grown hgrow1 (by simp; omega) (fun q hq => (HO.out.lt q hq).1)); have HO1 := Lib.hid hown1; clear hown1 hgrow1)
      exact ⟨⟨j + 1, by omega, by go_num, by rw [HX2.out]; go_num, by rw [lowCells_succ, HX.out]; exact HO1.out, HB1.out⟩, by simp [intOf]; omega⟩
    · obtain rfl : j = 4 := by omega
      go_wp2_with fail
      go_ret
      exact ⟨_, rfl, HO.out, HB.out⟩
end Go.Proofs.Ytffdklcpkkcohaa
