/- Contracts: a room's leaves, the law's leaves. -/
import Derived.Test.YtffdklcpkkcohaaFroml
import Derived.Test.YtffdklcpkkcohaaRoom5
namespace Go.Proofs.Ytffdklcpkkcohaa
open Go.RowKit
/-- the first blocks that are used behind a swing -/
def usedK (n : Nat) (s : Nat → Int) : Nat → Bool := fun p => decide (p < n) && (s p == 2 || s p == 3)
theorem usedK_yes (s : Nat → Int) (p : Nat) (h : (s p == 2 || s p == 3) = true) : ∀ i, setK (usedK p s) p true i = usedK (p + 1) s i := by
  intro i
  unfold setK usedK
  by_cases e : i = p
  · subst e; rw [if_pos rfl, decide_eq_true (by omega), h]; rfl
  · rw [if_neg e]
    congr 1
    rw [decide_eq_decide]; omega
theorem usedK_no (s : Nat → Int) (p : Nat) (h : (s p == 2 || s p == 3) = false) : ∀ i, usedK p s i = usedK (p + 1) s i := by
  intro i
  unfold usedK
  by_cases e : i = p
  · subst e; rw [h, Bool.and_false, Bool.and_false]
  · congr 1
    rw [decide_eq_decide]; omega
theorem usedK_zero (s : Nat → Int) : ∀ i, zeroK i = usedK 0 s i := fun i => by simp [zeroK, usedK]
theorem new_in (n : Nat) (w : World) (h1 : 1 ≤ n) (h2 : n ≤ 8192) : Calls Try.prog 49 #[.int .i64 (n : Int)] w fun e w' => ∃ b bb, e = .returned (.tuple #[.pointer (some ⟨b, 0, none⟩), .int .i64 0]) ∧ w.heap.size ≤ b ∧ w.heap.size ≤ bb ∧ MapAt w' b bb n zeroK ∧ Below w.heap.size w w' :=
  (new_any n w).mono fun e w' h => by
    rcases h with ⟨h1, _⟩ | ⟨_, _, b, bb, h2⟩
    · omega
    · exact ⟨b, bb, h2⟩
set_option maxRecDepth 100000 in
set_option maxHeartbeats 1000000 in
theorem rleaves_any (b bb n : Nat) (s : Nat → Int) (w : World) (hr : RoomAt w b bb n s) :
    Calls Try.prog 57 #[.pointer (some ⟨b, 0, none⟩)] w fun e w' => ∃ a c, e = .returned (.slice a (nLeaves n) c) ∧ Blks w' a (nLeaves n) (leafAll (usedK n s) n) ∧ Below w.heap.size w w' := by
  have hn := hr.most
  have hn16 := hr.least
  obtain ⟨cap0, hc0⟩ := hr.cell
  have HN := Lib.hid (new_in n w (by omega) hn)
  have HR := Lib.hid hr
  clear hr
  go_enter Try.func57, Try.ntmps57
  go_wp2_with fail
  refine HN.out.mono ?_
  rintro e w1 ⟨m, mb, rfl, hm, hmb, hM, hB⟩
  have hc := (HR.out.below hB).cell
  have HM := Lib.hid (hM.congr (usedK_zero s))
  have HB := Lib.hid hB
  have HR1 := Lib.hid (HR.out.below hB)
  have HMB := Lib.hid hmb
  clear hM hB HN hm hmb
  obtain ⟨cap, hc⟩ := hc
  clear hc0
  go_wp2_with fail
  go_loopw [23] (fun i w9 => ∃ p : Nat, p ≤ n ∧ i = .int .i64 p ∧ MapAt w9 m mb n (usedK p s) ∧ RoomAt w9 b bb n s ∧ Below w.heap.size w w9) (fun i _ => n - (intOf i).toNat)
  case atStart => exact ⟨0, by omega, rfl, HM.out, HR1.out, HB.out⟩
  case round =>
    obtain ⟨p, hp, rfl, hM, hR, hB⟩ := hrel
    obtain ⟨w9, rfl⟩ : ∃ w9 : World, w9 = wr := ⟨_, rfl⟩
    have HM2 := Lib.hid hM
    have HR2 := Lib.hid hR
    have HB2 := Lib.hid hB
    clear hM hR hB HM HR1 HB
    by_cases hlt : p < n
    · have c1 := HR2.out.row.cell hlt
      have HS := Lib.hid (set_in m mb n (usedK p s) w9 p hlt HM2.out)
      by_cases h2 : s p = 2
      · have t2 : (s p == 2) = true := by simp [h2]
        have HY := Lib.hid (usedK_yes s p (by simp [h2]))
        clear h2
        go_wp2_with fail
        refine HS.out.mono ?_
        rintro e w2 ⟨rfl, hM, hG⟩
        have HM3 := Lib.hid (hM.congr HY.out)
        have HR3 := Lib.hid (HR2.out.only hG (fun e => by injection e with e; have := HMB.out; have := HR.out.lt; omega) (fun e => by injection e with e; have := HMB.out; have := HR.out.row.1; omega))
        have HB3 := Lib.hid (HB2.out.grown hG HB2.out.size (fun k hk => by cases hk; exact HMB.out))
        clear hM hG
        go_wp2_with fail
        exact ⟨⟨p + 1, by omega, by go_num, HM3.out, HR3.out, HB3.out⟩, by simp [intOf]; omega⟩
      · have t2 : (s p == 2) = false := by simp [h2]
        by_cases h3 : s p = 3
        · have t3 : (s p == 3) = true := by simp [h3]
          have HY := Lib.hid (usedK_yes s p (by simp [h3]))
          clear h2 h3
          go_wp2_with fail
          refine HS.out.mono ?_
          rintro e w2 ⟨rfl, hM, hG⟩
          have HM3 := Lib.hid (hM.congr HY.out)
          have HR3 := Lib.hid (HR2.out.only hG (fun e => by injection e with e; have := HMB.out; have := HR.out.lt; omega) (fun e => by injection e with e; have := HMB.out; have := HR.out.row.1; omega))
          have HB3 := Lib.hid (HB2.out.grown hG HB2.out.size (fun k hk => by cases hk; exact HMB.out))
          clear hM hG
          go_wp2_with fail
          exact ⟨⟨p + 1, by omega, by go_num, HM3.out, HR3.out, HB3.out⟩, by simp [intOf]; omega⟩
        · have t3 : (s p == 3) = false := by simp [h3]
          have HY := Lib.hid (usedK_no s p (by simp [h2, h3]))
          clear h2 h3
          go_wp2_with fail
          exact ⟨⟨p + 1, by omega, by go_num, HM2.out.congr HY.out, HR2.out, HB2.out⟩, by simp [intOf]; omega⟩
    · obtain rfl : p = n := by omega
      go_wp2_with fail
      refine (leaves_any m mb p (usedK p s) _ HM2.out).mono ?_
      rintro e W1 ⟨g, rfl, hg, hRB, hB1⟩
      have HBl := Lib.hid hRB.blks
      have HB4 := Lib.hid (below_trans' HB2.out hB1)
      clear hg hRB hB1
      go_wp2_with fail
      go_ret
      exact ⟨_, _, rfl, HBl.out, HB4.out⟩
set_option maxRecDepth 100000 in
set_option maxHeartbeats 1000000 in
theorem lleaves_any (g n cap : Nat) (s : Nat → Int) (w : World) (hr : IntsAt w g n s) (hn1 : 1 ≤ n) :
    Calls Try.prog 88 #[.slice (some ⟨g, 0, none⟩) n cap] w fun e w' => ∃ a c, e = .returned (.tuple #[.slice a (nLeaves n) c, .bool true]) ∧ Blks w' a (nLeaves n) (leafAll (usedK n s) n) ∧ Below w.heap.size w w' := by
  have hn := hr.2.1
  have HN := Lib.hid (new_in n w (by omega) hn)
  have HR := Lib.hid hr
  clear hr
  go_enter Try.func88, Try.ntmps88
  go_wp2_with fail
  refine HN.out.mono ?_
  rintro e w1 ⟨m, mb, rfl, hm, hmb, hM, hB⟩
  have hc := (HR.out.below hB)
  have HM := Lib.hid (hM.congr (usedK_zero s))
  have HB := Lib.hid hB
  have HR1 := Lib.hid (HR.out.below hB)
  have HMB := Lib.hid hmb
  clear hM hB HN hm hmb
  clear hc
  go_wp2_with fail
  go_loopw [22] (fun i w9 => ∃ p : Nat, p ≤ n ∧ i = .int .i64 p ∧ MapAt w9 m mb n (usedK p s) ∧ IntsAt w9 g n s ∧ Below w.heap.size w w9) (fun i _ => n - (intOf i).toNat)
  case atStart => exact ⟨0, by omega, rfl, HM.out, HR1.out, HB.out⟩
  case round =>
    obtain ⟨p, hp, rfl, hM, hR, hB⟩ := hrel
    obtain ⟨w9, rfl⟩ : ∃ w9 : World, w9 = wr := ⟨_, rfl⟩
    have HM2 := Lib.hid hM
    have HR2 := Lib.hid hR
    have HB2 := Lib.hid hB
    clear hM hR hB HM HR1 HB
    by_cases hlt : p < n
    · have c1 := HR2.out.cell hlt
      have HS := Lib.hid (set_in m mb n (usedK p s) w9 p hlt HM2.out)
      by_cases h2 : s p = 2
      · have t2 : (s p == 2) = true := by simp [h2]
        have HY := Lib.hid (usedK_yes s p (by simp [h2]))
        clear h2
        go_wp2_with fail
        refine HS.out.mono ?_
        rintro e w2 ⟨rfl, hM, hG⟩
        have HM3 := Lib.hid (hM.congr HY.out)
        have HR3 := Lib.hid (HR2.out.only hG (fun e => by injection e with e; have := HMB.out; have := HR.out.1; omega))
        have HB3 := Lib.hid (HB2.out.grown hG HB2.out.size (fun k hk => by cases hk; exact HMB.out))
        clear hM hG
        go_wp2_with fail
        exact ⟨⟨p + 1, by omega, by go_num, HM3.out, HR3.out, HB3.out⟩, by simp [intOf]; omega⟩
      · have t2 : (s p == 2) = false := by simp [h2]
        by_cases h3 : s p = 3
        · have t3 : (s p == 3) = true := by simp [h3]
          have HY := Lib.hid (usedK_yes s p (by simp [h3]))
          clear h2 h3
          go_wp2_with fail
          refine HS.out.mono ?_
          rintro e w2 ⟨rfl, hM, hG⟩
          have HM3 := Lib.hid (hM.congr HY.out)
          have HR3 := Lib.hid (HR2.out.only hG (fun e => by injection e with e; have := HMB.out; have := HR.out.1; omega))
          have HB3 := Lib.hid (HB2.out.grown hG HB2.out.size (fun k hk => by cases hk; exact HMB.out))
          clear hM hG
          go_wp2_with fail
          exact ⟨⟨p + 1, by omega, by go_num, HM3.out, HR3.out, HB3.out⟩, by simp [intOf]; omega⟩
        · have t3 : (s p == 3) = false := by simp [h3]
          have HY := Lib.hid (usedK_no s p (by simp [h2, h3]))
          clear h2 h3
          go_wp2_with fail
          exact ⟨⟨p + 1, by omega, by go_num, HM2.out.congr HY.out, HR2.out, HB2.out⟩, by simp [intOf]; omega⟩
    · obtain rfl : p = n := by omega
      go_wp2_with fail
      refine (leaves_any m mb p (usedK p s) _ HM2.out).mono ?_
      rintro e W1 ⟨g, rfl, hg, hRB, hB1⟩
      have HBl := Lib.hid hRB.blks
      have HB4 := Lib.hid (below_trans' HB2.out hB1)
      clear hg hRB hB1
      go_wp2_with fail
      go_ret2
      exact ⟨_, _, rfl, HBl.out, HB4.out⟩
end Go.Proofs.Ytffdklcpkkcohaa
