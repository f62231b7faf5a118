/- Contracts: turning words, a quarter. -/
import Derived.Test.YtpbjdbdlfobpmaaGreatProg
import Derived.Test.YtpbjdbdlfobpmaaGreatBase
import Derived.Test.YtpbjdbdlfobpmaaGreatEngA
import Derived.Lib.Walk
import Derived.Outline
import Derived.WalkLawsBesides
import Derived.WalkSpells
namespace Go.Proofs.YtpbjdbdlfobpmaaGreat
open Go.RowKit Go.Eng
theorem and31 : ∀ k : Fin 32, bits .and .u64 (k.val : Int) 31 = k.val := by decide +kernel
theorem and31i : ∀ k : Fin 32, bits .and .i64 (k.val : Int) 31 = k.val := by decide +kernel
theorem wrap32 (n : Nat) : IntKind.u32.wrap (n : Int) = (n % 4294967296 : Nat) := by
  unfold IntKind.wrap
  simp [IntKind.signed, IntKind.bits]
/-- turning, of any number -/
def rotI (x : Int) (k : Nat) : Int := bits .or .u32 (x * 2 ^ k % 4294967296) (x / 2 ^ (32 - k))
def stepI (a b d : Int) (k : Nat) : Int × Int := ((a + b) % 4294967296, rotI (bits .xor .u32 d ((a + b) % 4294967296)) k)
def quarterI (a b c d : Int) : Int × Int × Int × Int :=
  ((stepI (stepI a b d 16).1 (stepI c (stepI a b d 16).2 b 12).2 (stepI a b d 16).2 8).1,
   (stepI (stepI c (stepI a b d 16).2 b 12).1 (stepI (stepI a b d 16).1 (stepI c (stepI a b d 16).2 b 12).2 (stepI a b d 16).2 8).2 (stepI c (stepI a b d 16).2 b 12).2 7).2,
   (stepI (stepI c (stepI a b d 16).2 b 12).1 (stepI (stepI a b d 16).1 (stepI c (stepI a b d 16).2 b 12).2 (stepI a b d 16).2 8).2 (stepI c (stepI a b d 16).2 b 12).2 7).1,
   (stepI (stepI a b d 16).1 (stepI c (stepI a b d 16).2 b 12).2 (stepI a b d 16).2 8).2)
theorem run_shl (x : Int) (k : Nat) (hk : k < 32) (w : World) {P : Program} : (Op.shift .shl .u32 x .u64 (k : Int)).run P w = .ok (.int .u32 (IntKind.u32.wrap (x * 2 ^ k))) w := by
  unfold Op.shift
  have h0 : ¬ ((k : Int) < 0) := by omega
  have h1 : min k 32 = k := by omega
  rw [if_neg h0]
  simp only [Int.toNat_natCast]
  rw [show IntKind.u32.bits = 32 from rfl, h1]
  rfl
theorem run_shr (x : Int) (k : Nat) (hk : k ≤ 32) (w : World) {P : Program} : (Op.shift .shr .u32 x .u64 (k : Int)).run P w = .ok (.int .u32 (x.fdiv (2 ^ k))) w := by
  unfold Op.shift
  have h0 : ¬ ((k : Int) < 0) := by omega
  have h1 : min k 32 = k := by omega
  rw [if_neg h0]
  simp only [Int.toNat_natCast]
  rw [show IntKind.u32.bits = 32 from rfl, h1]
  rfl
theorem rot_any (x : Int) (k : Nat) (hk : k < 32) (w : World) :
    Calls Tryz.prog 150 #[.int .u32 x, .int .i64 k] w fun e w' => e = .returned (.int .u32 (rotI x k)) ∧ w = w' := by
  have hb := and31 ⟨k, hk⟩
  simp only at hb
  have hs := fun W => run_shl x k hk W (P := Tryz.prog)
  have hr := fun W => run_shr x (32 - k) (by omega) W (P := Tryz.prog)
  rw [show ((32 - k : Nat) : Int) = 32 - (k : Int) by omega] at hr
  unfold rotI
  go_enter Tryz.func150, Tryz.ntmps150
  go_wp2
  go_ret
  exact ⟨rfl, rfl⟩
theorem turn_any (x : Int) (k : Nat) (hk : k < 32) (w : World) :
    Calls Tryz.prog 149 #[.int .u32 x, .int .i64 k] w fun e w' => e = .returned (.int .u32 (rotI x k)) ∧ w = w' := by
  have hb := and31i ⟨k, hk⟩
  simp only at hb
  go_enter Tryz.func149, Tryz.ntmps149
  go_wp2_with (go_at_call 150; refine (rot_any x k hk _).mono ?_; rintro e w' ⟨rfl, rfl⟩)
  go_ret
  exact ⟨rfl, rfl⟩
theorem step_any (a b d : Int) (k : Nat) (hk : k < 32) (w : World) :
    Calls Tryz.prog 147 #[.int .u32 a, .int .u32 b, .int .u32 d, .int .i64 k] w fun e w' => e = .returned (.tuple #[.int .u32 (stepI a b d k).1, .int .u32 (stepI a b d k).2]) ∧ w = w' := by
  have hq1 : (stepI a b d k).1 = (a + b) % 4294967296 := rfl
  have hq2 : (stepI a b d k).2 = rotI (bits .xor .u32 d ((a + b) % 4294967296)) k := rfl
  rw [hq1, hq2]
  have HC := Lib.hid (fun W => turn_any (bits .xor .u32 d ((a + b) % 4294967296)) k hk W)
  clear hq1 hq2
  go_enter Tryz.func147, Tryz.ntmps147
  go_wp2_with (go_at_call 149; refine (HC.out _).mono ?_; rintro e w' ⟨rfl, rfl⟩)
  go_ret2
  exact ⟨rfl, rfl⟩
theorem quarter_any (a b c d : Int) (w : World) :
    Calls Tryz.prog 145 #[.int .u32 a, .int .u32 b, .int .u32 c, .int .u32 d] w fun e w' => e = .returned (.tuple #[.int .u32 (quarterI a b c d).1, .int .u32 (quarterI a b c d).2.1, .int .u32 (quarterI a b c d).2.2.1, .int .u32 (quarterI a b c d).2.2.2]) ∧ w = w' := by
  have e1 := fun W => step_any a b d 16 (by decide) W
  have e2 := fun W => step_any c (stepI a b d 16).2 b 12 (by decide) W
  have e3 := fun W => step_any (stepI a b d 16).1 (stepI c (stepI a b d 16).2 b 12).2 (stepI a b d 16).2 8 (by decide) W
  have e4 := fun W => step_any (stepI c (stepI a b d 16).2 b 12).1 (stepI (stepI a b d 16).1 (stepI c (stepI a b d 16).2 b 12).2 (stepI a b d 16).2 8).2 (stepI c (stepI a b d 16).2 b 12).2 7 (by decide) W
  unfold quarterI
  generalize stepI (stepI c (stepI a b d 16).2 b 12).1 (stepI (stepI a b d 16).1 (stepI c (stepI a b d 16).2 b 12).2 (stepI a b d 16).2 8).2 (stepI c (stepI a b d 16).2 b 12).2 7 = q4 at *
  generalize stepI (stepI a b d 16).1 (stepI c (stepI a b d 16).2 b 12).2 (stepI a b d 16).2 8 = q3 at *
  generalize stepI c (stepI a b d 16).2 b 12 = q2 at *
  generalize stepI a b d 16 = q1 at *
  obtain ⟨a1, d1⟩ := q1
  obtain ⟨c1, b1⟩ := q2
  obtain ⟨a2, d2⟩ := q3
  obtain ⟨c2, b2⟩ := q4
  have E1 := Lib.hid e1
  have E2 := Lib.hid e2
  have E3 := Lib.hid e3
  have E4 := Lib.hid e4
  clear e1 e2 e3 e4
  go_enter Tryz.func145, Tryz.ntmps145
  go_wp2_with fail
  refine (E1.out _).mono ?_
  rintro e w' ⟨rfl, rfl⟩
  go_wp2_with fail
  refine (E2.out _).mono ?_
  rintro e w' ⟨rfl, rfl⟩
  go_wp2_with fail
  refine (E3.out _).mono ?_
  rintro e w' ⟨rfl, rfl⟩
  go_wp2_with fail
  refine (E4.out _).mono ?_
  rintro e w' ⟨rfl, rfl⟩
  go_wp2
  refine bodyPost_ret (v := .tuple #[.int .u32 a2, .int .u32 b2, .int .u32 c2, .int .u32 d2]) ?_ rfl ⟨rfl, rfl⟩
  simp [results, Tryz.f145, go_sem]

/-! ### of words -/
theorem ofInt_nat (n : Nat) : BitVec.ofInt 32 (n : Int) = BitVec.ofNat 32 n := by
  apply BitVec.eq_of_toNat_eq
  simp
theorem bits_or (a b : Nat) (ha : a < 4294967296) (hb : b < 4294967296) : bits .or .u32 (a : Int) (b : Int) = ((a ||| b : Nat) : Int) := by
  unfold bits
  simp only
  rw [show IntKind.u32.bits = 32 from rfl, ofInt_nat, ofInt_nat, wrap32, BitVec.toNat_or, BitVec.toNat_ofNat, BitVec.toNat_ofNat, Nat.mod_eq_of_lt ha, Nat.mod_eq_of_lt hb, Nat.mod_eq_of_lt (Nat.or_lt_two_pow (n := 32) ha hb)]
theorem bits_xor (a b : Nat) (ha : a < 4294967296) (hb : b < 4294967296) : bits .xor .u32 (a : Int) (b : Int) = ((a ^^^ b : Nat) : Int) := by
  unfold bits
  simp only
  rw [show IntKind.u32.bits = 32 from rfl, ofInt_nat, ofInt_nat, wrap32, BitVec.toNat_xor, BitVec.toNat_ofNat, BitVec.toNat_ofNat, Nat.mod_eq_of_lt ha, Nat.mod_eq_of_lt hb, Nat.mod_eq_of_lt (Nat.xor_lt_two_pow (n := 32) ha hb)]
theorem rotl_lt (x k : Nat) (hx : x < 4294967296) : rotl x k < 4294967296 := by
  unfold rotl
  exact Nat.or_lt_two_pow (n := 32) (Nat.mod_lt _ (by decide)) (Nat.lt_of_le_of_lt (Nat.div_le_self _ _) hx)
theorem rotI_nat (x k : Nat) (hx : x < 4294967296) : rotI (x : Int) k = (rotl x k : Nat) := by
  unfold rotI rotl
  rw [← bits_or _ _ (Nat.mod_lt _ (by decide)) (Nat.lt_of_le_of_lt (Nat.div_le_self _ _) hx)]
  simp
theorem qstep_lt (a b d k : Nat) (hd : d < 4294967296) : (qstep a b d k).1 < 4294967296 ∧ (qstep a b d k).2 < 4294967296 := by
  have hlt : (a + b) % 4294967296 < 4294967296 := Nat.mod_lt _ (by decide)
  exact ⟨hlt, rotl_lt _ _ (Nat.xor_lt_two_pow (n := 32) hd hlt)⟩
theorem stepI_nat (a b d k : Nat) (hd : d < 4294967296) : stepI (a : Int) b d k = (((qstep a b d k).1 : Int), ((qstep a b d k).2 : Int)) := by
  have hlt : (a + b) % 4294967296 < 4294967296 := Nat.mod_lt _ (by decide)
  unfold stepI qstep
  rw [show ((a : Int) + (b : Int)) % 4294967296 = (((a + b) % 4294967296 : Nat) : Int) by simp, bits_xor _ _ hd hlt, rotI_nat _ _ (Nat.xor_lt_two_pow (n := 32) hd hlt)]
theorem quarterI_nat (a b c d : Nat) (hb : b < 4294967296) (hd : d < 4294967296) : quarterI (a : Int) b c d = (((quarter a b c d).1 : Int), ((quarter a b c d).2.1 : Int), ((quarter a b c d).2.2.1 : Int), ((quarter a b c d).2.2.2 : Int)) := by
  have l1 := qstep_lt a b d 16 hd
  have l2 := qstep_lt c (qstep a b d 16).2 b 12 hb
  have l3 := qstep_lt (qstep a b d 16).1 (qstep c (qstep a b d 16).2 b 12).2 (qstep a b d 16).2 8 l1.2
  unfold quarterI
  rw [stepI_nat a b d 16 hd]
  simp only
  rw [stepI_nat c (qstep a b d 16).2 b 12 hb]
  simp only
  rw [stepI_nat (qstep a b d 16).1 (qstep c (qstep a b d 16).2 b 12).2 (qstep a b d 16).2 8 l1.2]
  simp only
  rw [stepI_nat (qstep c (qstep a b d 16).2 b 12).1 (qstep (qstep a b d 16).1 (qstep c (qstep a b d 16).2 b 12).2 (qstep a b d 16).2 8).2 (qstep c (qstep a b d 16).2 b 12).2 7 l2.2]
  rfl
theorem quarter_lt (a b c d : Nat) (hb : b < 4294967296) (hd : d < 4294967296) : (quarter a b c d).1 < 4294967296 ∧ (quarter a b c d).2.1 < 4294967296 ∧ (quarter a b c d).2.2.1 < 4294967296 ∧ (quarter a b c d).2.2.2 < 4294967296 := by
  have l1 := qstep_lt a b d 16 hd
  have l2 := qstep_lt c (qstep a b d 16).2 b 12 hb
  have l3 := qstep_lt (qstep a b d 16).1 (qstep c (qstep a b d 16).2 b 12).2 (qstep a b d 16).2 8 l1.2
  have l4 := qstep_lt (qstep c (qstep a b d 16).2 b 12).1 (qstep (qstep a b d 16).1 (qstep c (qstep a b d 16).2 b 12).2 (qstep a b d 16).2 8).2 (qstep c (qstep a b d 16).2 b 12).2 7 l2.2
  exact ⟨l3.1, l4.2, l4.1, l3.2⟩
end Go.Proofs.YtpbjdbdlfobpmaaGreat
