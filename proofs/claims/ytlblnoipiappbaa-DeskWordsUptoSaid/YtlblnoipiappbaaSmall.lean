/- Contracts: desk.small, desk.escaped. -/
import Derived.Test.YtlblnoipiappbaaProg
import Derived.Test.YtlblnoipiappbaaBase
import Derived.Lib.Bytealg
import Derived.Lib.Walk
import Derived.Lib.Strings
import Derived.Outline
import Derived.WalkLawsBesides
import Derived.WalkSpells
import Derived.Deep.QuietTactic
import Derived.BigQuiet
import Derived.Deep.RegionWith
import Derived.Laws.OwnMore
namespace Go.Proofs.Ytlblnoipiappbaa
open Go.RowKit
/-- a small digit to the base 16; -1: none -/
def hexV (c : Nat) : Int := if 48 ≤ c ∧ c ≤ 57 then (c : Int) - 48 else if 97 ≤ c ∧ c ≤ 102 then (c : Int) - 87 else -1
def digits16 : ByteArray := ⟨#[48, 49, 50, 51, 52, 53, 54, 55, 56, 57, 97, 98, 99, 100, 101, 102]⟩
theorem index_hex : ∀ c : Fin 256, Lib.indexByte digits16.data.toList ((c.val : Int).toNat.toUInt8) = hexV c.val := by decide +kernel
theorem hexV_le (c : Nat) : -1 ≤ hexV c ∧ hexV c ≤ 15 := by
  unfold hexV
  split
  · omega
  · split <;> omega
set_option maxHeartbeats 1000000 in
set_option maxRecDepth 100000 in
theorem bytes_index (s : ByteArray) (c : Int) (w : World) :
    Calls Try.prog 20 #[.string s, .int .u8 c] w fun e w' => e = .returned (.int .i64 (Lib.indexByte s.data.toList c.toNat.toUInt8)) ∧ w = w' := by
  go_enter Try.func20, Try.ntmps20
  go_wp2
  rw [run_callFunc_extern Try.func21 (by kernel_rfl) (by kernel_rfl) (by kernel_rfl) (e := Extern.BytealgIndexByte.indexByte) (by kernel_rfl), Lib.run_indexByteString]
  simp only [Result.andThen]
  rw [Oper.upon_value]
  go_wp2
  go_ret
  exact ⟨rfl, rfl⟩
theorem strings_index (s : ByteArray) (c : Int) (w : World) :
    Calls Try.prog 18 #[.string s, .int .u8 c] w fun e w' => e = .returned (.int .i64 (Lib.indexByte s.data.toList c.toNat.toUInt8)) ∧ w = w' := by
  go_enter Try.func18, Try.ntmps18
  go_wp2_with (go_at_call 20; refine (bytes_index s c _).mono ?_; rintro e w' ⟨rfl, rfl⟩)
  go_ret
  exact ⟨rfl, rfl⟩
theorem small_any (c : Nat) (hc : c < 256) (w : World) : Calls Try.prog 16 #[.int .u8 (c : Int)] w fun e w' => e = .returned (.int .i64 (hexV c)) ∧ w = w' := by
  have HX := Lib.hid (index_hex ⟨c, hc⟩)
  go_enter Try.func16, Try.ntmps16
  go_wp2_with (go_at_call 18; refine (strings_index digits16 c _).mono ?_; rintro e w' ⟨rfl, rfl⟩)
  go_ret
  exact ⟨ret_int HX.out, rfl⟩
/-- what a backslash and a letter say -/
def escL (c : Nat) : Option Nat := if c = 34 ∨ c = 92 then some c else if c = 110 then some 10 else if c = 114 then some 13 else if c = 116 then some 9 else none
theorem escaped_any (c : Nat) (_hc : c < 256) (w : World) : Calls Try.prog 15 #[.int .u8 (c : Int)] w fun e w' => e = .returned (.tuple #[.int .u8 ((escL c).getD 0 : Nat), .bool (escL c).isSome]) ∧ w = w' := by
  by_cases h1 : c = 34
  · subst h1
    go_enter Try.func15, Try.ntmps15
    go_wp2
    go_ret2
    exact ⟨rfl, rfl⟩
  by_cases h2 : c = 92
  · subst h2
    go_enter Try.func15, Try.ntmps15
    go_wp2
    go_ret2
    exact ⟨rfl, rfl⟩
  by_cases h3 : c = 110
  · subst h3
    go_enter Try.func15, Try.ntmps15
    go_wp2
    go_ret2
    exact ⟨rfl, rfl⟩
  by_cases h4 : c = 114
  · subst h4
    go_enter Try.func15, Try.ntmps15
    go_wp2
    go_ret2
    exact ⟨rfl, rfl⟩
  by_cases h5 : c = 116
  · subst h5
    go_enter Try.func15, Try.ntmps15
    go_wp2
    go_ret2
    exact ⟨rfl, rfl⟩
  have he : escL c = none := by unfold escL; rw [if_neg (by omega), if_neg h3, if_neg h4, if_neg h5]
  rw [he]
  have t1 : ((c : Int) == 34) = false := by simp; omega
  have t2 : ((c : Int) == 92) = false := by simp; omega
  have t3 : ((c : Int) == 110) = false := by simp; omega
  have t4 : ((c : Int) == 114) = false := by simp; omega
  have t5 : ((c : Int) == 116) = false := by simp; omega
  clear h1 h2 h3 h4 h5 he
  go_enter Try.func15, Try.ntmps15
  go_wp2
  go_ret2
  exact ⟨rfl, rfl⟩
end Go.Proofs.Ytlblnoipiappbaa
