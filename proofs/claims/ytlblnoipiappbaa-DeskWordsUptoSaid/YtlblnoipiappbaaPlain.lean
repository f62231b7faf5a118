/- Contract of desk.plain. -/
import Derived.Test.YtlblnoipiappbaaDmath
namespace Go.Proofs.Ytlblnoipiappbaa
open Go.RowKit
theorem plain_yes {L : List Nat} {i c : Nat} (h : L[i]? = some c) (h1 : 32 < c) (h2 : c < 127) (h3 : c ≠ 34) : plainLen (L.drop i) = plainLen (L.drop (i + 1)) + 1 := by
  rw [drop_at h]; simp only [plainLen]; rw [if_pos ⟨h1, h2, h3⟩]
theorem plain_no {L : List Nat} {i c : Nat} (h : L[i]? = some c) (h1 : ¬ (32 < c ∧ c < 127 ∧ c ≠ 34)) : plainLen (L.drop i) = 0 := by
  rw [drop_at h]; simp only [plainLen]; rw [if_neg h1]
theorem plain_end {L : List Nat} {i : Nat} (h : L.length ≤ i) : plainLen (L.drop i) = 0 := by rw [List.drop_eq_nil_of_le h]; rfl
def PlainPost (s : ByteArray) (w : World) (e : Ending) (w' : World) : Prop :=
  e = .returned (.tuple #[.string (s.extract 0 (plainLen (bys s))), .string (s.extract (plainLen (bys s)) s.size), .bool (decide (0 < plainLen (bys s)))]) ∧ ∃ n, w' = w.drewN n
set_option maxRecDepth 100000 in
set_option maxHeartbeats 4000000 in
theorem plain_any (s : ByteArray) (w : World) (hs : s.size ≤ 8388608) : Calls Try.prog 12 #[.string s] w (PlainPost s w) := by
  go_enter Try.func12, Try.ntmps12
  go_wp2_with fail
  go_loop [5] (fun i => ∃ p : Nat, p ≤ s.size ∧ i = .int .i64 p ∧ plainLen (bys s) = p + plainLen ((bys s).drop p)) (fun i => s.size - (intOf i).toNat)
  case atStart => exact ⟨0, by omega, rfl, by simp⟩
  case round =>
    obtain ⟨p, hp, rfl, hP⟩ := hrel
    have HP := Lib.hid hP
    clear hP
    have stop : plainLen ((bys s).drop p) = 0 → plainLen (bys s) = p := fun h => by rw [HP.out, h]; rfl
    have HST := Lib.hid stop
    clear stop
    by_cases hlt : p < s.size
    · have HAT := Lib.hid (bys_at s p hlt)
      have hlt256 : s[p].toNat < 256 := s[p].toNat_lt
      by_cases hc : 32 < s[p].toNat ∧ s[p].toNat < 127 ∧ s[p].toNat ≠ 34
      · have HN := Lib.hid (plain_yes HAT.out hc.1 hc.2.1 hc.2.2)
        have t1 := hc.1
        have t2 := hc.2.1
        have t3 : ((s[p].toNat : Int) != 34) = true := by simp; have := hc.2.2; omega
        clear hc
        go_wp2_with fail
        go_round
        case rel => exact ⟨p + 1, by omega, by go_num, by rw [HP.out, HN.out]; omega⟩
        case measure => simp [intOf]; omega
      · have HE := Lib.hid (HST.out (plain_no HAT.out hc))
        have e1 : 0 ≤ (p : Int) := by omega
        have e2 : (p : Int) ≤ (s.size : Int) := by omega
        by_cases h1 : 32 < s[p].toNat
        · by_cases h2 : s[p].toNat < 127
          · have t3 : ((s[p].toNat : Int) != 34) = false := by simp; omega
            clear hc
            go_wp2_with fail
            go_quiet (fail)
            go_wp2_with fail
            refine bodyPost_ret (v := .tuple #[.string (s.extract 0 p), .string (s.extract p s.size), .bool (decide (0 < p))]) (by simp [results, Try.results12, go_sem]) rfl ?_
            exact ⟨by rw [HE.out], _, rfl⟩
          · clear hc
            go_wp2_with fail
            go_quiet (fail)
            go_wp2_with fail
            refine bodyPost_ret (v := .tuple #[.string (s.extract 0 p), .string (s.extract p s.size), .bool (decide (0 < p))]) (by simp [results, Try.results12, go_sem]) rfl ?_
            exact ⟨by rw [HE.out], _, rfl⟩
        · clear hc
          go_wp2_with fail
          go_quiet (fail)
          go_wp2_with fail
          refine bodyPost_ret (v := .tuple #[.string (s.extract 0 p), .string (s.extract p s.size), .bool (decide (0 < p))]) (by simp [results, Try.results12, go_sem]) rfl ?_
          exact ⟨by rw [HE.out], _, rfl⟩
    · have HE := Lib.hid (HST.out (plain_end (by rw [bys_len]; omega)))
      have e1 : 0 ≤ (p : Int) := by omega
      have e2 : (p : Int) ≤ (s.size : Int) := by omega
      go_wp2_with fail
      go_quiet (fail)
      go_wp2_with fail
      refine bodyPost_ret (v := .tuple #[.string (s.extract 0 p), .string (s.extract p s.size), .bool (decide (0 < p))]) (by simp [results, Try.results12, go_sem]) rfl ?_
      exact ⟨by rw [HE.out], _, rfl⟩
end Go.Proofs.Ytlblnoipiappbaa
