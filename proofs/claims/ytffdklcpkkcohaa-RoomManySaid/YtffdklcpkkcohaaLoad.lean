/- Contract of room.Load. -/
import Derived.Test.YtffdklcpkkcohaaRleaf
namespace Go.Proofs.Ytffdklcpkkcohaa
open Go.RowKit
def loadN (K : Nat → Bool) (p : Nat) : Nat → Int := fun i => if i < p ∧ K i = true then 2 else freeS i
/-- the states of a room that was loaded -/
def loadS (K : Nat → Bool) : Nat → Int := fun i => if K i = true then 2 else freeS i
theorem loadN_yes (K : Nat → Bool) (p : Nat) (h : K p = true) : ∀ i, setS (loadN K p) p 2 i = loadN K (p + 1) i := by
  intro i
  unfold setS loadN
  by_cases e : i = p
  · subst e; rw [if_pos rfl, if_pos ⟨by omega, h⟩]
  · rw [if_neg e]
    by_cases h2 : i < p ∧ K i = true
    · rw [if_pos h2, if_pos ⟨by omega, h2.2⟩]
    · rw [if_neg h2, if_neg (fun h3 => h2 ⟨by omega, h3.2⟩)]
theorem loadN_no (K : Nat → Bool) (p : Nat) (h : K p = false) : ∀ i, loadN K p i = loadN K (p + 1) i := by
  intro i
  unfold loadN
  by_cases h2 : i < p ∧ K i = true
  · rw [if_pos h2, if_pos ⟨by omega, h2.2⟩]
  · rw [if_neg h2, if_neg (fun h3 => h2 ⟨by
      by_cases e : i = p
      · subst e; rw [h] at h3; cases h3.2
      · omega, h3.2⟩)]
theorem loadN_zero (K : Nat → Bool) : ∀ i, freeS i = loadN K 0 i := fun i => by unfold loadN; rw [if_neg (by omega)]
theorem loadN_all (K : Nat → Bool) (n i : Nat) (h : i < n) : loadN K n i = loadS K i := by
  unfold loadN loadS
  by_cases h2 : K i = true
  · rw [if_pos ⟨h, h2⟩, if_pos h2]
  · rw [if_neg (fun h3 => h2 h3.2), if_neg h2]
def loadOk (n m : Nat) (f : Nat → Nat) : Bool := leafOk n m f && !fromK f n 0
def LoadPost (size : Int) (m : Nat) (f : Nat → Nat) (w : World) (e : Ending) (w' : World) : Prop :=
  ((size < 16 ∨ 8192 < size) ∧ e = .returned (.tuple #[.pointer none, .int .i64 120]) ∧ Below w.heap.size w w') ∨
  (16 ≤ size ∧ size ≤ 8192 ∧ loadOk size.toNat m f = false ∧ e = .returned (.tuple #[.pointer none, .int .i64 122]) ∧ Below w.heap.size w w') ∨
  (16 ≤ size ∧ size ≤ 8192 ∧ loadOk size.toNat m f = true ∧ ∃ b bb, e = .returned (.tuple #[.pointer (some ⟨b, 0, none⟩), .int .i64 0]) ∧ w.heap.size ≤ b ∧ w.heap.size ≤ bb ∧ RoomAt w' b bb size.toNat (loadS (fromK f size.toNat)) ∧ Below w.heap.size w w')
set_option maxRecDepth 100000 in
set_option maxHeartbeats 2000000 in
theorem load_any (size : Int) (a : Option Addr) (m cap : Nat) (f : Nat → Nat) (w : World) (h : Blks w a m f) (hm : m ≤ maxLen) (hf : ∀ i, f i < 256) :
    Calls Try.prog 59 #[.int .i64 size, .slice a m cap] w (LoadPost size m f w) := by
  have HE := Lib.hid (empty_any size w)
  by_cases hs : size < 16 ∨ 8192 < size
  · have HS := Lib.hid hs
    have HE2 : Hid (Calls Try.prog 71 #[.int .i64 size] w fun e w' => e = .returned (.tuple #[.pointer none, .int .i64 120]) ∧ w = w') := Lib.hid (HE.out.mono fun e w' h => by
      rcases h with ⟨_, h2, h3⟩ | ⟨m, b, bb, h1, h2, _, _, hR, _⟩
      · exact ⟨h2, h3⟩
      · have := HS.out; have := hR.least; have := hR.most; omega)
    clear HE hs h
    go_enter Try.func59, Try.ntmps59
    go_wp2_with fail
    refine HE2.out.mono ?_
    rintro e w' ⟨rfl, rfl⟩
    go_wp2_with fail
    go_ret2
    exact .inl ⟨HS.out, rfl, Below.refl _ _⟩
  obtain ⟨n, rfl⟩ := Int.eq_ofNat_of_zero_le (by omega : 0 ≤ size)
  have hn1 : 16 ≤ n := by omega
  have hn2 : n ≤ 8192 := by omega
  have HE2 : Hid (Calls Try.prog 71 #[.int .i64 (n : Int)] w fun e w' => ∃ b bb, e = .returned (.tuple #[.pointer (some ⟨b, 0, none⟩), .int .i64 0]) ∧ w.heap.size ≤ b ∧ w.heap.size ≤ bb ∧ RoomAt w' b bb n freeS ∧ Below w.heap.size w w') := Lib.hid (HE.out.mono fun e w' h => by
    rcases h with ⟨h1, _⟩ | ⟨m, b, bb, h1, h2⟩
    · omega
    · have : m = n := by omega
      subst this
      exact ⟨b, bb, h2⟩)
  clear HE hs
  have H := Lib.hid h
  have HF := Lib.hid hf
  clear h hf
  cases hlo : leafOk n m f
  · have HO := Lib.hid hlo
    clear hlo
    go_enter Try.func59, Try.ntmps59
    go_wp2_with fail
    refine HE2.out.mono ?_
    rintro e w1 ⟨b, bb, rfl, hb, hbb, hR, hB⟩
    have HB := Lib.hid hB
    have HFR := Lib.hid ((froml_any (n : Int) a m cap f w1 (H.out.below hB) hm HF.out).mono (fun e w' h => show e = .returned (.tuple #[.pointer none, .int .i64 111]) ∧ Below w1.heap.size w1 w' by
      rcases h with ⟨h1, _⟩ | ⟨_, _, _, h2⟩ | ⟨_, _, h1, _⟩
      · omega
      · exact h2
      · rw [Int.toNat_natCast, HO.out] at h1; cases h1))
    clear hR hB HE2 hb hbb
    go_wp2_with fail
    refine HFR.out.mono ?_
    rintro e w2 ⟨rfl, hB2⟩
    have HB2 := Lib.hid (below_trans' HB.out hB2)
    clear hB2 HFR
    go_wp2_with fail
    go_ret2
    exact .inr (.inl ⟨by omega, by omega, by unfold loadOk; rw [Int.toNat_natCast, HO.out]; rfl, rfl, HB2.out⟩)
  have HO := Lib.hid hlo
  clear hlo
  go_enter Try.func59, Try.ntmps59
  go_wp2_with fail
  refine HE2.out.mono ?_
  rintro e w1 ⟨b, bb, rfl, hb, hbb, hR, hB⟩
  have HB := Lib.hid hB
  have HR := Lib.hid hR
  have HFR := Lib.hid ((froml_any (n : Int) a m cap f w1 (H.out.below hB) hm HF.out).mono (fun e w' h => show ∃ b bb, e = .returned (.tuple #[.pointer (some ⟨b, 0, none⟩), .int .i64 0]) ∧ w1.heap.size ≤ b ∧ w1.heap.size ≤ bb ∧ MapAt w' b bb n (fromK f n) ∧ Below w1.heap.size w1 w' by
    rcases h with ⟨h1, _⟩ | ⟨_, _, h1, _⟩ | ⟨_, _, _, h2⟩
    · omega
    · rw [Int.toNat_natCast, HO.out] at h1; cases h1
    · rw [Int.toNat_natCast] at h2; exact h2))
  clear hR hB HE2
  have HBb := Lib.hid hb
  have HBB := Lib.hid hbb
  clear hb hbb
  go_wp2_with fail
  refine HFR.out.mono ?_
  rintro e w2 ⟨mb, mbb, rfl, hmb, hmbb, hM, hB2⟩
  have HB2 := Lib.hid (below_trans' HB.out hB2)
  have HR2 := Lib.hid ((HR.out.below hB2).congr (s' := loadN (fromK f n) 0) (fun i _ => loadN_zero _ i))
  have HM2 := Lib.hid hM
  have HNE : Hid (some mb ≠ some bb ∧ some mbb ≠ some bb) := Lib.hid ⟨fun e => by injection e with e; have := HR.out.row.1; omega, fun e => by injection e with e; have := HR.out.row.1; omega⟩
  clear hM hB2 HFR hmb hmbb
  have HH := Lib.hid (has_in mb mbb n (fromK f n) w2 0 HM2.out (by omega))
  cases hk0 : fromK f n 0
  case true =>
    rw [hk0] at HH
    have HK0 := Lib.hid hk0
    clear hk0
    go_wp2_with fail
    refine HH.out.mono ?_
    rintro e w' ⟨rfl, rfl⟩
    go_wp2_with fail
    go_ret2
    exact .inr (.inl ⟨by omega, by omega, by unfold loadOk; rw [Int.toNat_natCast, HO.out, HK0.out]; rfl, rfl, HB2.out⟩)
  rw [hk0] at HH
  have HK0 := Lib.hid hk0
  clear hk0
  go_wp2_with fail
  refine HH.out.mono ?_
  rintro e w' ⟨rfl, rfl⟩
  obtain ⟨cp, hc⟩ := HR2.out.cell
  clear HH HR HB
  go_wp2_with fail
  clear hc
  go_loopw [35] (fun i w9 => ∃ p : Nat, p ≤ n ∧ i = .int .i64 p ∧ RoomAt w9 b bb n (loadN (fromK f n) p) ∧ MapAt w9 mb mbb n (fromK f n) ∧ Below w.heap.size w w9) (fun i _ => n - (intOf i).toNat)
  case atStart => exact ⟨0, by omega, rfl, HR2.out, HM2.out, HB2.out⟩
  case round =>
    obtain ⟨p, hp, rfl, hR, hM, hB⟩ := hrel
    obtain ⟨w9, rfl⟩ : ∃ w9 : World, w9 = wr := ⟨_, rfl⟩
    have HR9 := Lib.hid hR
    have HM9 := Lib.hid hM
    have HB9 := Lib.hid hB
    clear hR hM hB HR2 HM2 HB2
    by_cases hlt : p < n
    · have HH := Lib.hid (has_in mb mbb n (fromK f n) w9 p HM9.out hlt)
      cases hk : fromK f n p
      · rw [hk] at HH
        have HY := Lib.hid (loadN_no _ _ hk)
        clear hk
        go_wp2_with fail
        refine HH.out.mono ?_
        rintro e w' ⟨rfl, rfl⟩
        go_wp2_with fail
        exact ⟨⟨p + 1, by omega, by go_num, HR9.out.congr (fun i _ => HY.out i), HM9.out, HB9.out⟩, by simp [intOf]; omega⟩
      · rw [hk] at HH
        have HY := Lib.hid ((HR9.out.set hlt 2).congr (fun i _ => loadN_yes _ _ hk i))
        have HG := Lib.hid (only_setCell (only_refl w9 (some bb)) (p := ⟨bb, p, none⟩) (.inl rfl) (.int .i64 2))
        clear hk
        go_wp2_with fail
        refine HH.out.mono ?_
        rintro e w' ⟨rfl, rfl⟩
        obtain ⟨cp, hc⟩ := HR9.out.cell
        have c1 := HR9.out.row.cell hlt
        have f1 := HR9.out.row.free p
        go_wp2_with fail
        exact ⟨⟨p + 1, by omega, by go_num, HY.out, HM9.out.only HG.out HNE.out.1 HNE.out.2, HB9.out.setCell HBB.out _⟩, by simp [intOf]; omega⟩
    · obtain rfl : p = n := by omega
      go_wp2_with fail
      go_ret2
      exact .inr (.inr ⟨by omega, by omega, by unfold loadOk; rw [Int.toNat_natCast, HO.out, HK0.out]; rfl, b, bb, rfl, HBb.out, HBB.out, HR9.out.congr (fun i hi => loadN_all _ _ i hi), HB9.out⟩)
end Go.Proofs.Ytffdklcpkkcohaa
