/- Contracts of the reference: hex, escape. -/
import Derived.Test.YtlblnoipiappbaaWords5
namespace Go.Proofs.Ytlblnoipiappbaa
open Go.RowKit
theorem rhex_any (c : Nat) (hc : c < 256) (w : World) : Calls Try.prog 19 #[.int .u8 (c : Int)] w fun e w' => e = .returned (.int .i64 (hexV c)) ∧ w = w' := by
  by_cases h1 : 48 ≤ c
  · by_cases h2 : c ≤ 57
    · have HV : Hid (hexV c = (c : Int) - 48) := Lib.hid (by unfold hexV; rw [if_pos ⟨h1, h2⟩])
      go_enter Try.func19, Try.ntmps19
      go_wp2
      go_ret
      exact ⟨ret_int (by rw [HV.out]), rfl⟩
    · by_cases h3 : 97 ≤ c
      · by_cases h4 : c ≤ 102
        · have HV : Hid (hexV c = (c : Int) - 87) := Lib.hid (by unfold hexV; rw [if_neg (by omega), if_pos ⟨h3, h4⟩])
          go_enter Try.func19, Try.ntmps19
          go_wp2
          go_ret
          exact ⟨ret_int (by rw [HV.out]; go_num), rfl⟩
        · have HV : Hid (hexV c = -1) := Lib.hid (by unfold hexV; rw [if_neg (by omega), if_neg (by omega)])
          go_enter Try.func19, Try.ntmps19
          go_wp2
          go_ret
          exact ⟨ret_int HV.out.symm, rfl⟩
      · have HV : Hid (hexV c = -1) := Lib.hid (by unfold hexV; rw [if_neg (by omega), if_neg (by omega)])
        go_enter Try.func19, Try.ntmps19
        go_wp2
        go_ret
        exact ⟨ret_int HV.out.symm, rfl⟩
  · have h3 : ¬ 97 ≤ c := by omega
    have HV : Hid (hexV c = -1) := Lib.hid (by unfold hexV; rw [if_neg (by omega), if_neg (by omega)])
    go_enter Try.func19, Try.ntmps19
    go_wp2
    go_ret
    exact ⟨ret_int HV.out.symm, rfl⟩
section
variable {P : Program} {ops : Array Oper} {o : Oper} {a : Act} {w : World} {K : Act → World → Prop} {Q : Exit → Act → World → Prop} {E : Prop}
/-- append to a slice of the call's own, as one step of a region that draws -/
theorem step_rhex (hg : o.guard = none) (x : Operand) (hop : o.op = .call { callee := .value (.func 19), args := #[x], argTypes := #[5] }) (c : Nat) (hc : c < 256) (v : Int) (hv : hexV c = v) (hx : a.eval x = .int .u8 (c : Int)) (hK : K (a.put o.dst (.int .i64 v)) w) :
    if Region.wanted o (yielded ops a.tmps) = true then Oper.wp Try.prog o a w K Q else E := by
  rw [if_pos (by simp [Region.wanted, hg])]
  subst hv
  have HS := rhex_any c hc w
  unfold Oper.wp
  have he : a.eval (.func 19) = .func (Fn.func 19) #[] #[] := rfl
  have hrun : (execOp a.eval o).run Try.prog w = .ok (.enter 19 #[.int .u8 (c : Int)]) w := by
    unfold execOp
    simp only [hop, resolve, Sem.run_bind, List.map_toArray, List.map_cons, List.map_nil, hx, he]
    simp [Deferred.ofValue, invoke, Result.andThen]
  rw [hrun]
  refine HS.mono ?_
  rintro e w' ⟨rfl, rfl⟩
  exact hK
end
def RescPost (L : List Nat) (w : World) (e : Ending) (w' : World) : Prop :=
  (∃ k, w' = w.drewN k) ∧ ((escR L = none ∧ e = .returned (.tuple #[.int .u8 0, .int .i64 0])) ∨
    ∃ (b n : Nat), escR L = some (b, n) ∧ e = .returned (.tuple #[.int .u8 (b : Int), .int .i64 (n : Int)]))
set_option maxRecDepth 100000 in
set_option maxHeartbeats 1500000 in
theorem resc_any (s : ByteArray) (p : Nat) (w : World) (hs : s.size ≤ 8388608) (hp : p ≤ s.size) : Calls Try.prog 17 #[.string s, .int .i64 (p : Int)] w (RescPost ((bys s).drop p) w) := by
  by_cases hlt : p < s.size
  · have HAT := Lib.hid (bys_at s p hlt)
    have hlt256 : s[p].toNat < 256 := s[p].toNat_lt
    by_cases k34 : s[p].toNat = 34
    · have t1 : ((s[p].toNat : Int) == 34) = true := by simp; omega
      have HE : Hid (escR ((bys s).drop p) = some (s[p].toNat, 1)) := Lib.hid (escR_one HAT.out (by unfold escL; rw [if_pos (by omega)]))
      clear k34
      go_enter Try.func17, Try.ntmps17
      go_wp2_with fail
      go_ret2
      exact ⟨⟨0, rfl⟩, .inr ⟨_, _, HE.out, rfl⟩⟩
    by_cases k92 : s[p].toNat = 92
    · have t1 : ((s[p].toNat : Int) == 34) = false := by simp; omega
      have t2 : ((s[p].toNat : Int) == 92) = true := by simp; omega
      have HE : Hid (escR ((bys s).drop p) = some (s[p].toNat, 1)) := Lib.hid (escR_one HAT.out (by unfold escL; rw [if_pos (by omega)]))
      clear k34 k92
      go_enter Try.func17, Try.ntmps17
      go_wp2_with fail
      go_ret2
      exact ⟨⟨0, rfl⟩, .inr ⟨_, _, HE.out, rfl⟩⟩
    have t1 : ((s[p].toNat : Int) == 34) = false := by simp; omega
    have t2 : ((s[p].toNat : Int) == 92) = false := by simp; omega
    by_cases k110 : s[p].toNat = 110
    · have t3 : ((s[p].toNat : Int) == 110) = true := by simp; omega
      have HE : Hid (escR ((bys s).drop p) = some (10, 1)) := Lib.hid (escR_one HAT.out (by unfold escL; rw [if_neg (by omega), if_pos k110]))
      clear k34 k92 k110
      go_enter Try.func17, Try.ntmps17
      go_wp2_with fail
      go_ret2
      exact ⟨⟨0, rfl⟩, .inr ⟨10, 1, HE.out, rfl⟩⟩
    have t3 : ((s[p].toNat : Int) == 110) = false := by simp; omega
    by_cases k114 : s[p].toNat = 114
    · have t4 : ((s[p].toNat : Int) == 114) = true := by simp; omega
      have HE : Hid (escR ((bys s).drop p) = some (13, 1)) := Lib.hid (escR_one HAT.out (by unfold escL; rw [if_neg (by omega), if_neg k110, if_pos k114]))
      clear k34 k92 k110 k114
      go_enter Try.func17, Try.ntmps17
      go_wp2_with fail
      go_ret2
      exact ⟨⟨0, rfl⟩, .inr ⟨13, 1, HE.out, rfl⟩⟩
    have t4 : ((s[p].toNat : Int) == 114) = false := by simp; omega
    by_cases k116 : s[p].toNat = 116
    · have t5 : ((s[p].toNat : Int) == 116) = true := by simp; omega
      have HE : Hid (escR ((bys s).drop p) = some (9, 1)) := Lib.hid (escR_one HAT.out (by unfold escL; rw [if_neg (by omega), if_neg k110, if_neg k114, if_pos k116]))
      clear k34 k92 k110 k114 k116
      go_enter Try.func17, Try.ntmps17
      go_wp2_with fail
      go_ret2
      exact ⟨⟨0, rfl⟩, .inr ⟨9, 1, HE.out, rfl⟩⟩
    have t5 : ((s[p].toNat : Int) == 116) = false := by simp; omega
    have HL : Hid (escL s[p].toNat = none) := Lib.hid (by unfold escL; rw [if_neg (by omega), if_neg k110, if_neg k114, if_neg k116])
    by_cases k120 : s[p].toNat = 120
    · have t6 : ((s[p].toNat : Int) == 120) = true := by simp; omega
      have HAT2 : Hid ((bys s)[p]? = some 120) := Lib.hid (by rw [← k120]; exact HAT.out)
      clear k34 k92 k110 k114 k116 k120
      by_cases hsh : s.size ≤ p + 2
      · have HE := Lib.hid (escR_short HAT2.out (by rw [bys_len]; omega))
        have tl : ¬ ((p : Int) + 2 < (s.size : Int)) := by omega
        go_enter Try.func17, Try.ntmps17
        go_wp2_with fail
        go_ret2
        exact ⟨⟨0, rfl⟩, .inl ⟨HE.out, rfl⟩⟩
      · have hq1 : p + 1 < s.size := by omega
        have hq2 : p + 2 < s.size := by omega
        have HX := Lib.hid (escR_hex HAT2.out (bys_at s (p + 1) hq1) (bys_at s (p + 2) hq2))
        have hc1 : s[p + 1].toNat < 256 := s[p + 1].toNat_lt
        have hc2 : s[p + 2].toNat < 256 := s[p + 2].toNat_lt
        have HS1 := Lib.hid (fun W => rhex_any s[p + 1].toNat hc1 W)
        have HS2 := Lib.hid (fun W => rhex_any s[p + 2].toNat hc2 W)
        have hv1 := hexV_le s[p + 1].toNat
        have hv2 := hexV_le s[p + 2].toNat
        generalize hg1 : hexV s[p + 1].toNat = v1 at *
        generalize hg2 : hexV s[p + 2].toNat = v2 at *
        have HG1 := Lib.hid hg1
        have HG2 := Lib.hid hg2
        clear hg1 hg2
        clear hsh
        by_cases hn1 : v1 < 0
        · have HE : Hid (escR ((bys s).drop p) = none) := Lib.hid (by rw [HX.out, if_neg (by omega)])
          have n1 : ¬ 0 ≤ v1 := by omega
          go_enter Try.func17, Try.ntmps17
          go_wp2_with fail
          refine (HS1.out _).mono ?_
          rintro e w' ⟨rfl, rfl⟩
          go_wp2_with fail
          go_ret2
          exact ⟨⟨0, rfl⟩, .inl ⟨HE.out, rfl⟩⟩
        · have n1 : 0 ≤ v1 := by omega
          by_cases hn2 : v2 < 0
          · have HE : Hid (escR ((bys s).drop p) = none) := Lib.hid (by rw [HX.out, if_neg (by omega)])
            have n2 : ¬ 0 ≤ v2 := by omega
            go_enter Try.func17, Try.ntmps17
            go_wp2_with fail
            refine (HS1.out _).mono ?_
            rintro e w' ⟨rfl, rfl⟩
            go_wp2_with fail
            refine (HS2.out _).mono ?_
            rintro e w' ⟨rfl, rfl⟩
            go_wp2_with fail
            go_ret2
            exact ⟨⟨0, rfl⟩, .inl ⟨HE.out, rfl⟩⟩
          · have n2 : 0 ≤ v2 := by omega
            obtain ⟨b, hbe⟩ : ∃ b, 16 * v1.toNat + v2.toNat = b := ⟨_, rfl⟩
            have HE : Hid (escR ((bys s).drop p) = some (b, 3)) := Lib.hid (by rw [HX.out, if_pos ⟨n1, n2⟩, hbe])
            have e1 : IntKind.i64.wrap (16 * v1) = 16 * v1 := IntWalk.i64_in _ (by omega)
            have e2 : IntKind.i64.wrap (16 * v1 + v2) = (b : Int) := by rw [IntWalk.i64_in _ (by omega)]; omega
            have e3 : IntKind.u8.wrap (b : Int) = (b : Int) := IntWalk.u8_in _ (by omega)
            have f1 : IntKind.i64.wrap ((p : Int) + 1) = (p : Int) + 1 := IntWalk.i64_in _ (by omega)
            have f2 : IntKind.i64.wrap ((p : Int) + 2) = (p : Int) + 2 := IntWalk.i64_in _ (by omega)
            have f3 : 0 ≤ (p : Int) + 1 := by omega
            have f4 : 0 ≤ (p : Int) + 2 := by omega
            have f5 : (p : Int) + 1 < (s.size : Int) := by omega
            have f6 : (p : Int) + 2 < (s.size : Int) := by omega
            have f7 : ((p : Int) + 1).toNat = p + 1 := by omega
            have f8 : ((p : Int) + 2).toNat = p + 2 := by omega
            clear hbe
            go_enter Try.func17, Try.ntmps17
            go_wp2_with fail
            refine (HS1.out _).mono ?_
            rintro e w' ⟨rfl, rfl⟩
            go_wp2_with fail
            refine (HS2.out _).mono ?_
            rintro e w' ⟨rfl, rfl⟩
            go_wp2_with fail
            go_region_law (first
              | refine step_rhex rfl (.tmp 51) rfl s[p + 1].toNat hc1 v1 HG1.out (by simp [Act.eval, Act.put]) ?_
              | refine step_rhex rfl (.tmp 57) rfl s[p + 2].toNat hc2 v2 HG2.out (by simp [Act.eval, Act.put]) ?_)
            all_goals
              go_wp2_with fail
              go_ret2
              exact ⟨⟨1, rfl⟩, .inr ⟨b, 3, HE.out, rfl⟩⟩
    · have t6 : ((s[p].toNat : Int) == 120) = false := by simp; omega
      have HE := Lib.hid (escR_other HAT.out HL.out k120)
      clear k34 k92 k110 k114 k116 k120
      go_enter Try.func17, Try.ntmps17
      go_wp2_with fail
      go_ret2
      exact ⟨⟨0, rfl⟩, .inl ⟨HE.out, rfl⟩⟩
  · have HE := Lib.hid (escR_nil (L := bys s) (i := p) (by rw [bys_len]; omega))
    go_enter Try.func17, Try.ntmps17
    go_wp2_with fail
    go_ret2
    exact ⟨⟨0, rfl⟩, .inl ⟨HE.out, rfl⟩⟩
end Go.Proofs.Ytlblnoipiappbaa
