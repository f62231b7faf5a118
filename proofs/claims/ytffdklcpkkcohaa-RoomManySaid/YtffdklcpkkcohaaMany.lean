/- Contracts of the room's functions that take many: TakeMany. -/
import Derived.Test.YtffdklcpkkcohaaManyMath
import Derived.Test.YtffdklcpkkcohaaStands
namespace Go.Proofs.Ytffdklcpkkcohaa
open Go.RowKit
def ManyPost (N : Int) (b bb n : Nat) (s : Nat → Int) (w : World) (e : Ending) (w' : World) : Prop :=
  (N < 0 ∧ e = .returned (.tuple #[.slice none 0 0, .int .i64 1]) ∧ Below w.heap.size w w') ∨
  (0 ≤ N ∧ ((listS n s 1).length : Int) < N ∧ e = .returned (.tuple #[.slice none 0 0, .int .i64 3]) ∧ Below w.heap.size w w') ∨
  (∃ m q : Nat, N = m ∧ m ≤ (listS n s 1).length ∧ q ≤ n ∧ (listS q s 1).length = m ∧ ∃ a c, e = .returned (.tuple #[.slice a m c, .int .i64 0]) ∧ U32In w' w.heap.size a (listS q s 1) ∧ RoomAt w' b bb n (tkS s q) ∧ w.grownBy w' (some bb))
theorem only_grown {a b c : World} {row r2 : Option Nat} (h : a.grownBy b row) (k : b.grownBy c r2) (hr : ∀ q, r2 = some q → a.heap.size ≤ q) : a.grownBy c row :=
  ⟨k.os.trans h.os, k.tape.trans h.tape, k.output.trans h.output, Nat.le_trans h.size k.size, fun i hi hne => (k.block i (Nat.lt_of_lt_of_le hi h.size) (fun e => by have := hr i e.symm; omega)).trans (h.block i hi hne)⟩
theorem own_apart {w : World} {base e size n bb : Nat} {v : Value} {xs : List Value} (h : w.ownsRow base e size v n xs) (hlt : bb < base) : v.ownBlock = none ∨ v.ownBlock ≠ some bb := by
  refine .inr (fun e => ?_)
  have := (h.lt bb e).1
  omega
theorem u32s_snoc (l : List Nat) (p : Nat) : u32s (l ++ [p]) = u32s l ++ [.int .u32 (p : Int)] := by simp [u32s]
set_option maxRecDepth 100000 in
set_option maxHeartbeats 1000000 in
theorem takemany_any (N : Int) (b bb n : Nat) (s : Nat → Int) (w : World) (hr : RoomAt w b bb n s) (hN : -9223372036854775808 ≤ N ∧ N ≤ 9223372036854775807) :
    Calls Try.prog 34 #[.pointer (some ⟨b, 0, none⟩), .int .i64 N] w (ManyPost N b bb n s w) := by
  have hn := hr.most
  have hbb := hr.row.1
  by_cases h0 : N < 0
  · clear hr
    go_enter Try.func34, Try.ntmps34
    go_wp2_with fail
    go_ret2
    exact .inl ⟨h0, rfl, Below.refl _ _⟩
  obtain ⟨m, rfl⟩ := Int.eq_ofNat_of_zero_le (by omega : 0 ≤ N)
  have HC := Lib.hid (rcountS_any b bb n s 1 w hr)
  have hF := listS_len n s 1
  have HR := Lib.hid hr
  clear hr
  obtain ⟨F, hFe⟩ : ∃ F, (listS n s 1).length = F := ⟨_, rfl⟩
  rw [hFe] at HC hF
  have HFE := Lib.hid hFe
  clear hFe
  by_cases h1 : F < m
  · go_enter Try.func34, Try.ntmps34
    go_wp2_with fail
    refine HC.out.mono ?_
    rintro e w1 ⟨rfl, hB⟩
    have HB := Lib.hid hB
    clear hB
    go_wp2_with fail
    go_ret2
    exact .inr (.inl ⟨by omega, by rw [HFE.out]; omega, rfl, HB.out⟩)
  obtain ⟨i0, hi, hz0, hz1, hz2⟩ := info_parts info46
  go_enter Try.func34, Try.ntmps34
  go_wp2_with fail
  refine HC.out.mono ?_
  rintro e w1 ⟨rfl, hB⟩
  have HG := Lib.hid (only_of_below hB (some bb))
  have HR1 := Lib.hid ((HR.out.below hB).congr (fun i _ => tkS_zero s i))
  clear hB HC
  go_wp2_with fail
  go_loopw [6, 22] (fun vv i wr => ∃ q j : Nat, j ≤ m ∧ i = .int .i64 j ∧ (listS q s 1).length = j ∧ q ≤ n ∧ wr.ownsRow w.heap.size 46 1 vv j (u32s (listS q s 1)) ∧ RoomAt wr b bb n (tkS s q) ∧ w.grownBy wr (some bb)) (fun _ i _ => m - (intOf i).toNat)
  case atStart => exact ⟨0, 0, by omega, rfl, rfl, by omega, World.ownsRow_nil w1 w.heap.size 46 1, HR1.out, HG.out⟩
  case round =>
    obtain ⟨q, j, hj, rfl, hlen, hq, hown, hR, hG⟩ := hrel
    have HO := Lib.hid hown
    have HR2 := Lib.hid hR
    have HG2 := Lib.hid hG
    have HLEN := Lib.hid hlen
    clear hown hR hG hlen HR1 HG
    by_cases hlt : j < m
    · obtain ⟨d, hd⟩ : ∃ d, n = q + d := ⟨n - q, by omega⟩
      have hnx := listS_next s 1 q j d HLEN.out (by rw [← hd, HFE.out]; omega)
      rw [← hd] at hnx
      have HD := Lib.hid hd
      clear hd
      obtain ⟨p, a1, a2, a3, a4, a5, a6⟩ := hnx
      have HT := Lib.hid ((take_any b bb n (tkS s q) wr HR2.out).mono (fun e w' h => show e = .returned (.tuple #[.int .u32 p, .int .i64 0]) ∧ RoomAt w' b bb n (tkS s (p + 1)) ∧ wr.grownBy w' (some bb) by
        rcases h with ⟨h, _⟩ | ⟨p', b1, b2, b3, b4, b5, b6⟩
        · exact absurd h (tkS_has s q p n a1 a3 a2)
        · obtain rfl := tkS_least s q p p' a1 a3 a4 b2 b3
          exact ⟨b4, b5.congr (fun i _ => tkS_step s q p' a1 a3 a4 i), b6⟩))
      have HA6 := Lib.hid a6
      clear a3 a4 a5 a6
      go_wp2_with fail
      refine HT.out.mono ?_
      rintro e w2 ⟨rfl, hR, hG⟩
      have HG3 := Lib.hid (only_trans HG2.out hG)
      have HR3 := Lib.hid hR
      have HO3 := Lib.hid (HO.out.kept hG (own_apart HO.out hbb))
      clear hR hG HG2 HR2 HO HT
      go_wp2_with (at_builtin; go_must (refine wpList_append_own _ rfl (.tmp 32) (.tmp 34) 39 rfl w.heap.size 46 i0 (.int .u32 0) 1 4 Try.underlying39 hi hz0 hz1 hz2 rfl (by decide) _ _ _ rfl (HO3.out.alloc _) ⟨w2.heap.size, 0, none⟩ 1 1 [.int .u32 p] rfl rfl (cell_one_at w2 _ _ _ rfl) (fun u hu => by simp at hu; subst hu; rfl) (by unfold maxLen; omega) (by omega) (by have := HG3.out.size; simp; omega) ?_); intro v' w3 hown1 hgrow1 _; have HG4 := Lib.hid (only_grown (only_alloc HG3.out _) hgrow1 (fun k hk => (HO3.out.lt k hk).1)); have HR4 := Lib.hid ((HR3.out.alloc _).only hgrow1 (fun e => by have := (HO3.out.lt b e.symm).1; have := HR.out.lt; omega) (fun e => by have := (HO3.out.lt bb e.symm).1; omega)); have HO4 := Lib.hid hown1; clear hown1 hgrow1)
      exact ⟨⟨p + 1, j + 1, by omega, by go_num, by rw [HA6.out, List.length_append, HLEN.out]; rfl, by omega, by rw [HA6.out, u32s_snoc]; exact HO4.out, HR4.out, HG4.out⟩, by simp [intOf]; omega⟩
    · obtain rfl : j = m := by omega
      have ho := HO.out
      rw [← HLEN.out] at ho
      obtain ⟨a, c, rfl, hU⟩ := u32_shape ho
      rw [HLEN.out]
      have HU := Lib.hid hU
      clear ho hU HO
      go_wp2_with fail
      go_ret2
      exact .inr (.inr ⟨j, q, rfl, by rw [HFE.out]; omega, hq, HLEN.out, a, c, rfl, HU.out, HR2.out, HG2.out⟩)
end Go.Proofs.Ytffdklcpkkcohaa
