/- RoomMany: the walk, whatever comes in. -/
import Derived.Test.YtffdklcpkkcohaaRManyA
import Derived.Test.YtffdklcpkkcohaaRManyB
import Derived.Test.YtffdklcpkkcohaaRManyC
namespace Go.Proofs.Ytffdklcpkkcohaa
open Go.RowKit
set_option maxRecDepth 100000 in
set_option maxHeartbeats 2000000 in
theorem rmany_bad (blocks : Int) (a1 : Option Addr) (l1 c1 : Nat) (f1 : Nat → Nat) (v : Value) (hv : ∃ N a2 l2 c2, v = .agg #[.int .i64 N, .slice a2 l2 c2]) (w : World) (hx1 : U32s w a1 l1 f1) (hl1 : l1 ≤ maxLen)
    (hbad : ∀ n : Nat, blocks = n → 16 ≤ n → n ≤ 8192 → ¬ ∀ i, i < l1 → ¬ BadU n f1 i) :
    Calls Try.prog 13 #[.int .i64 blocks, .slice a1 l1 c1, v] w fun e w' => e = .returned (.bool true) ∧ Below w.heap.size w w' := by
  obtain ⟨N, a2, l2, c2, rfl⟩ := hv
  have HB0 := Lib.hid ((Below.refl w.heap.size w).alloc (Nat.le_refl _) (.cells #[.int .i64 N, .slice a2 l2 c2] 57))
  have HX1 := Lib.hid hx1
  have HBD := Lib.hid hbad
  clear hx1 hbad
  have HRN := Lib.hid (rnew_any blocks a1 l1 c1 f1 _ (HX1.out.below HB0.out) hl1)
  go_enter Try.func13, Try.ntmps13
  go_wp2_with fail
  refine HRN.out.mono ?_
  rintro e w1 (⟨hout, rfl, rfl⟩ | ⟨n, rfl, hn1, hn2, ⟨j, hj, hbj, hgood, rfl, hB⟩ | ⟨hgood, _⟩⟩)
  · have HOUT := Lib.hid hout
    have HF := Lib.hid ((refnew_any blocks a1 l1 c1 f1 _ (HX1.out.below HB0.out) hl1).mono (fun e w' h => show e = .returned (.tuple #[.slice none 0 0, .int .i64 0, .int .i64 120]) ∧ (w.alloc (.cells #[.int .i64 N, .slice a2 l2 c2] 57)) = w' by
      rcases h with ⟨_, h2, h3⟩ | ⟨n, h2, _⟩
      · exact ⟨h2, h3⟩
      · have := HOUT.out; omega))
    clear hout
    go_wp2_with fail
    refine HF.out.mono ?_
    rintro e w' ⟨rfl, rfl⟩
    go_wp2_with fail
    refine (rawake_any _).mono ?_
    rintro e w3 ⟨rfl, hB⟩
    have HB3 := Lib.hid (below_trans' HB0.out hB)
    clear hB
    go_wp2_with fail
    go_ret
    exact ⟨rfl, HB3.out⟩
  · have HBJ := Lib.hid hbj
    have HGD := Lib.hid hgood
    have HB1 := Lib.hid (below_trans' HB0.out hB)
    have HF := Lib.hid ((refnew_any n a1 l1 c1 f1 w1 (HX1.out.below HB1.out) hl1).mono (fun e w' h => show e = .returned (.tuple #[.slice none 0 0, .int .i64 j, .int .i64 121]) ∧ Below w1.heap.size w1 w' by
      rcases h with ⟨h2, _⟩ | ⟨n', hn', _, _, ⟨j', hj', hbj', hgood', h5, h6⟩ | ⟨hg, _⟩⟩
      · omega
      · obtain rfl : n' = n := by omega
        have : j' = j := by
          by_cases h1 : j' < j
          · exact absurd hbj' (HGD.out j' h1)
          · by_cases h2 : j < j'
            · exact absurd HBJ.out (hgood' j h2)
            · omega
        subst this
        exact ⟨h5, h6⟩
      · obtain rfl : n' = n := by omega
        exact absurd HBJ.out (hg j hj)))
    clear hbj hgood hB
    go_wp2_with fail
    refine HF.out.mono ?_
    rintro e w4 ⟨rfl, hB⟩
    have HB4 := Lib.hid (below_trans' HB1.out hB)
    clear hB HF
    go_wp2_with fail
    refine (rawake_any _).mono ?_
    rintro e w5 ⟨rfl, hB⟩
    have HB5 := Lib.hid (below_trans' HB4.out hB)
    clear hB
    go_wp2_with fail
    go_ret
    exact ⟨rfl, HB5.out⟩
  · exact absurd hgood (HBD.out n rfl hn1 hn2)
theorem rmany_any (blocks : Int) (a1 : Option Addr) (l1 c1 : Nat) (f1 : Nat → Nat) (N : Int) (a2 : Option Addr) (l2 c2 : Nat) (f2 : Nat → Nat) (w : World) (hx1 : U32s w a1 l1 f1) (hl1 : l1 ≤ maxLen) (hx2 : U32s w a2 l2 f2) (hl2 : l2 ≤ c2) (hc2 : c2 ≤ maxLen) (hN : -9223372036854775808 ≤ N ∧ N ≤ 9223372036854775807) :
    Calls Try.prog 13 #[.int .i64 blocks, .slice a1 l1 c1, .agg #[.int .i64 N, .slice a2 l2 c2]] w fun e w' => e = .returned (.bool true) ∧ Below w.heap.size w w' := by
  by_cases hg : ∃ n : Nat, blocks = n ∧ 16 ≤ n ∧ n ≤ 8192 ∧ ∀ i, i < l1 → ¬ BadU n f1 i
  · obtain ⟨n, rfl, hn1, hn2, hg⟩ := hg
    by_cases h0 : N < 0
    · exact rmany_A n a1 l1 c1 f1 N a2 l2 c2 f2 w hx1 hl1 hx2 hl2 hc2 hN hn1 hn2 hg h0
    · by_cases h1 : ((listS n (usedS f1 l1) 1).length : Int) < N
      · exact rmany_B n a1 l1 c1 f1 N a2 l2 c2 f2 w hx1 hl1 hx2 hl2 hc2 hN hn1 hn2 hg (by omega) h1
      · obtain ⟨m, rfl⟩ := Int.eq_ofNat_of_zero_le (by omega : 0 ≤ N)
        exact rmany_C n a1 l1 c1 f1 m a2 l2 c2 f2 w hx1 hl1 hx2 hl2 hc2 hN hn1 hn2 hg (by omega)
  · exact rmany_bad blocks a1 l1 c1 f1 _ ⟨N, a2, l2, c2, rfl⟩ w hx1 hl1 (fun n h1 h2 h3 h4 => hg ⟨n, h1, h2, h3, h4⟩)
end Go.Proofs.Ytffdklcpkkcohaa
