/- two maps put together: the law BitsSets, walked. -/
import Derived.Test.YtffdklcpkkcohaaBlaw
import Derived.Deep.DeepCutAuto
import Derived.BigRegion
namespace Go.Proofs.Ytffdklcpkkcohaa
open Go.RowKit
/-- three lists of bools, each by itself -/
structure Three (w wr : World) (gx gy gz n : Nat) (kx ky kz : Nat → Bool) : Prop where
  x : BoolsAt wr gx n kx
  y : BoolsAt wr gy n ky
  z : BoolsAt wr gz n kz
  xy : gx ≠ gy
  xz : gx ≠ gz
  yz : gy ≠ gz
  newx : w.heap.size ≤ gx
  newy : w.heap.size ≤ gy
  newz : w.heap.size ≤ gz
  below : Below w.heap.size w wr
section
variable {w wr : World} {gx gy gz n : Nat} {kx ky kz kx' ky' kz' : Nat → Bool}
theorem Three.drewN (h : Three w wr gx gy gz n kx ky kz) (m : Nat) : Three w (wr.drewN m) gx gy gz n kx ky kz :=
  ⟨h.x.drewN m, h.y.drewN m, h.z.drewN m, h.xy, h.xz, h.yz, h.newx, h.newy, h.newz, below_drewN h.below m⟩
theorem Three.congr (h : Three w wr gx gy gz n kx ky kz) (hx : ∀ i, i < n → kx i = kx' i) (hy : ∀ i, i < n → ky i = ky' i) (hz : ∀ i, i < n → kz i = kz' i) : Three w wr gx gy gz n kx' ky' kz' :=
  ⟨h.x.congr hx, h.y.congr hy, h.z.congr hz, h.xy, h.xz, h.yz, h.newx, h.newy, h.newz, h.below⟩
theorem BoolsAt.other {w : World} {g n : Nat} {k : Nat → Bool} (h : BoolsAt w g n k) {q p : Nat} (hne : g ≠ q) (v : Value) : BoolsAt (w.setCell ⟨q, p, none⟩ v) g n k :=
  h.of_block (Below.heap_setCell _ _ _ _ (fun e => hne e))
theorem Three.set (h : Three w wr gx gy gz n kx ky kz) {p : Nat} (hp : p < n) (a b c : Bool) :
    Three w (((wr.setCell ⟨gx, p, none⟩ (.bool a)).setCell ⟨gy, p, none⟩ (.bool b)).setCell ⟨gz, p, none⟩ (.bool c)) gx gy gz n (setK kx p a) (setK ky p b) (setK kz p c) :=
  ⟨((h.x.set hp a).other h.xy _).other h.xz _, ((h.y.other (fun e => h.xy e.symm) _).set hp b).other h.yz _, ((h.z.other (fun e => h.xz e.symm) _).other (fun e => h.yz e.symm) _).set hp c, h.xy, h.xz, h.yz, h.newx, h.newy, h.newz,
    ((h.below.setCell (by exact h.newx) _).setCell (by exact h.newy) _).setCell (by exact h.newz) _⟩
theorem three_made (w : World) (n : Nat) (h : n ≤ 8192) : Three w (((w.alloc (.cells (madeCells #[.bool false] n) 4)).alloc (.cells (madeCells #[.bool false] n) 4)).alloc (.cells (madeCells #[.bool false] n) 4)) w.heap.size (w.heap.size + 1) (w.heap.size + 2) n zeroK zeroK zeroK := by
  have h1 := bools_made w n h
  have h2 := bools_made (w.alloc (.cells (madeCells #[.bool false] n) 4)) n h
  have h3 := bools_made ((w.alloc (.cells (madeCells #[.bool false] n) 4)).alloc (.cells (madeCells #[.bool false] n) 4)) n h
  have s1 : (w.alloc (.cells (madeCells #[.bool false] n) 4)).heap.size = w.heap.size + 1 := by simp
  have s2 : ((w.alloc (.cells (madeCells #[.bool false] n) 4)).alloc (.cells (madeCells #[.bool false] n) 4)).heap.size = w.heap.size + 2 := by simp
  rw [s1] at h2
  rw [s2] at h3
  have B := (((Below.refl w.heap.size w).alloc (Nat.le_refl _) (.cells (madeCells #[.bool false] n) 4)).alloc (by simp) (.cells (madeCells #[.bool false] n) 4)).alloc (by simp; omega) (.cells (madeCells #[.bool false] n) 4)
  exact ⟨(h1.alloc _).alloc _, h2.alloc _, h3, by omega, by omega, by omega, by omega, by omega, by omega, B⟩
theorem Three.drew (h : Three w wr gx gy gz n kx ky kz) : Three w wr.drew gx gy gz n kx ky kz :=
  ⟨h.x.of_block rfl, h.y.of_block rfl, h.z.of_block rfl, h.xy, h.xz, h.yz, h.newx, h.newy, h.newz, ⟨h.below.os, h.below.tape, h.below.output, h.below.size, h.below.block⟩⟩
theorem Three.sxy (h : Three w wr gx gy gz n kx ky kz) : Three w wr gy gx gz n ky kx kz := ⟨h.y, h.x, h.z, fun e => h.xy e.symm, h.yz, h.xz, h.newy, h.newx, h.newz, h.below⟩
theorem Three.syz (h : Three w wr gx gy gz n kx ky kz) : Three w wr gx gz gy n kx kz ky := ⟨h.x, h.z, h.y, h.xz, h.xy, fun e => h.yz e.symm, h.newx, h.newz, h.newy, h.below⟩
end
/-- the first places -/
def upK (p : Nat) (f : Nat → Bool) : Nat → Bool := fun i => decide (i < p) && f i
theorem upK_zero (f : Nat → Bool) (i : Nat) : zeroK i = upK 0 f i := by simp [zeroK, upK]
theorem upK_succ (f : Nat → Bool) (p : Nat) {v : Bool} (hv : f p = v) (i : Nat) : setK (upK p f) p v i = upK (p + 1) f i := by
  unfold setK upK
  by_cases e : i = p
  · subst e; rw [if_pos rfl, decide_eq_true (by omega), hv]; rfl
  · rw [if_neg e]
    by_cases h : i < p
    · rw [decide_eq_true h, decide_eq_true (by omega)]
    · rw [decide_eq_false h, decide_eq_false (by omega)]
theorem upK_all (f : Nat → Bool) (n i : Nat) (h : i < n) : upK n f i = f i := by
  unfold upK; rw [decide_eq_true h]; rfl
/-- the same so far -/
def eqK (k h : Nat → Bool) : Nat → Bool
  | 0 => true
  | p + 1 => eqK k h p && (k p == h p)
open Classical in
theorem eqK_same {n : Nat} {k h : Nat → Bool} (hk : ∀ p, n ≤ p → k p = false) (hh : ∀ p, n ≤ p → h p = false) : eqK k h n = sameB n n k h := by
  have H : ∀ m, (eqK k h m = true ↔ ∀ p, p < m → k p = h p) := by
    intro m
    induction m with
    | zero => simp [eqK]
    | succ m ih =>
      rw [eqK, Bool.and_eq_true, ih]
      simp only [beq_iff_eq]
      constructor
      · rintro ⟨h1, h2⟩ p hp
        by_cases e : p = m
        · subst e; exact h2
        · exact h1 p (by omega)
      · intro h1
        exact ⟨fun p hp => h1 p (by omega), h1 m (by omega)⟩
  unfold sameB
  rw [Bool.eq_iff_iff, H, decide_eq_true_eq]
  constructor
  · intro h1
    refine ⟨rfl, fun p => ?_⟩
    by_cases e : p < n
    · exact h1 p e
    · rw [hk p (by omega), hh p (by omega)]
  · rintro ⟨_, h1⟩ p _
    exact h1 p
open Classical in
theorem sameB_refl (n : Nat) (k : Nat → Bool) : sameB n n k k = true := by unfold sameB; exact decide_eq_true ⟨rfl, fun _ => rfl⟩
open Classical in
theorem sameB_ne {n m : Nat} {k h : Nat → Bool} (hne : n ≠ m) : sameB n m k h = false := by unfold sameB; exact decide_eq_false (fun e => hne e.1)
set_option maxRecDepth 100000 in
set_option maxHeartbeats 4000000 in
theorem sets_any (s1 s2 : Int) (a1 : Option Addr) (l1 c1 : Nat) (xs1 : Nat → Act3) (a2 : Option Addr) (l2 c2 : Nat) (xs2 : Nat → Act3) (w : World) (hx1 : Acts w a1 l1 xs1) (hl1 : l1 ≤ maxLen) (hx2 : Acts w a2 l2 xs2) (hl2 : l2 ≤ maxLen) :
    Calls Try.prog 8 #[.agg #[.int .i64 s1, .int .i64 s2], .slice a1 l1 c1, .slice a2 l2 c2] w fun e w' => e = .returned (.bool true) ∧ Below w.heap.size w w' := by
  have HX1 := Lib.hid hx1
  have HX2 := Lib.hid hx2
  clear hx1 hx2
  go_enter Try.func8, Try.ntmps8
  go_wp2_with fail
  have hb0 := (Below.refl w.heap.size w).alloc (Nat.le_refl _) (.cells #[.int .i64 s1, .int .i64 s2] 67)
  have HB0 := Lib.hid hb0
  have z0 : (w.alloc (.cells #[.int .i64 s1, .int .i64 s2] 67)).cell? ⟨w.heap.size, 0, none⟩ = some (.int .i64 s1) := cell_two_at w _ _ _ _ rfl 0 _ rfl
  have z1 : (w.alloc (.cells #[.int .i64 s1, .int .i64 s2] 67)).cell? ⟨w.heap.size, 1, none⟩ = some (.int .i64 s2) := cell_two_at w _ _ _ _ rfl 1 _ rfl
  clear hb0
  generalize w.alloc (.cells #[.int .i64 s1, .int .i64 s2] 67) = w0 at *
  go_quiet (fail)
  have HB1 := Lib.hid (below_drewN HB0.out nq)
  clear HB0 z0 z1
  generalize w0.drewN nq = w1 at *
  go_wp2_with fail
  have P1 := Lib.hid (played_any s1 a1 l1 c1 xs1 w1 (HX1.out.below HB1.out) hl1)
  refine P1.out.mono ?_
  clear P1
  rintro e w2 (⟨_, rfl, hB⟩ | ⟨n, b, bb, g, k, rfl, rfl, hBo⟩)
  · have HB2 := Lib.hid (below_trans' HB1.out hB)
    clear hB HB1
    go_wp2_with fail
    have P2 := Lib.hid (played_any s2 a2 l2 c2 xs2 w2 (HX2.out.below HB2.out) hl2)
    refine P2.out.mono ?_
    clear P2
    rintro e w3 (⟨_, rfl, hB⟩ | ⟨n, b, bb, g, k, rfl, rfl, hBo⟩)
    · have HB3 := Lib.hid (below_trans' HB2.out hB)
      clear hB HB2
      go_wp2_with fail
      refine (awake_any _).mono ?_
      rintro e w4 ⟨rfl, hB⟩
      have HB4 := Lib.hid (below_trans' HB3.out hB)
      clear hB
      go_wp2_with fail
      refine (awake_any _).mono ?_
      rintro e w5 ⟨rfl, hB⟩
      have HB5 := Lib.hid (below_trans' HB4.out hB)
      clear hB
      go_wp2_with fail
      go_ret
      exact ⟨rfl, HB5.out⟩
    · have HB3 := Lib.hid (below_trans' HB2.out hBo.below)
      clear hBo HB2
      go_wp2_with fail
      refine (awake_any _).mono ?_
      rintro e w4 ⟨rfl, hB⟩
      have HB4 := Lib.hid (below_trans' HB3.out hB)
      clear hB
      go_wp2_with fail
      refine (awake_any _).mono ?_
      rintro e w5 ⟨rfl, hB⟩
      have HB5 := Lib.hid (below_trans' HB4.out hB)
      clear hB
      go_wp2_with fail
      go_ret
      exact ⟨rfl, HB5.out⟩
  have HB2 := Lib.hid (below_trans' HB1.out hBo.below)
  have HM2 := Lib.hid hBo.map
  have HG2 := Lib.hid hBo.bools
  clear hBo HB1
  go_wp2_with fail
  have P2 := Lib.hid (played_any s2 a2 l2 c2 xs2 w2 (HX2.out.below HB2.out) hl2)
  refine P2.out.mono ?_
  clear P2
  rintro e w3 (⟨_, rfl, hB⟩ | ⟨m, b', bb', g', h, rfl, rfl, hBo⟩)
  · have HB3 := Lib.hid (below_trans' HB2.out hB)
    clear hB HB2
    go_wp2_with fail
    refine (awake_any _).mono ?_
    rintro e w4 ⟨rfl, hB⟩
    have HB4 := Lib.hid (below_trans' HB3.out hB)
    clear hB
    go_wp2_with fail
    refine (awake_any _).mono ?_
    rintro e w5 ⟨rfl, hB⟩
    have HB5 := Lib.hid (below_trans' HB4.out hB)
    clear hB
    go_wp2_with fail
    go_ret
    exact ⟨rfl, HB5.out⟩
  have HB3 := Lib.hid (below_trans' HB2.out hBo.below)
  have HM3 := Lib.hid (HM2.out.below hBo.below)
  have HG3 := Lib.hid (HG2.out.below hBo.below)
  have HN3 := Lib.hid hBo.map
  have HH3 := Lib.hid hBo.bools
  clear hBo HB2 HM2 HG2
  go_wp2_with fail
  refine (awake_any _).mono ?_
  rintro e w4 ⟨rfl, hB⟩
  have HB4 := Lib.hid (below_trans' HB3.out hB)
  have HM4 := Lib.hid (HM3.out.below hB)
  have HG4 := Lib.hid (HG3.out.below hB)
  have HN4 := Lib.hid (HN3.out.below hB)
  have HH4 := Lib.hid (HH3.out.below hB)
  clear hB HB3 HM3 HG3 HN3 HH3
  by_cases hnm : n = m
  case neg =>
    have hne : ((n : Int) != (m : Int)) = true := by simp; omega
    have hs : sameB n m k h = false := sameB_ne hnm
    have HS := Lib.hid (same_any b bb n k b' bb' m h w4 HM4.out HN4.out)
    rw [hs] at HS
    clear hs
    go_wp2_with fail
    refine (either_any b bb n k b' bb' m h w4 HM4.out HN4.out).mono ?_
    rintro e w5 (⟨_, rfl, rfl⟩ | ⟨h', _⟩)
    case inr => exact absurd h' hnm
    go_wp2_with fail
    refine (mless_any b bb n k b' bb' m h w4 HM4.out HN4.out).mono ?_
    rintro e w5 (⟨_, rfl, rfl⟩ | ⟨h', _⟩)
    case inr => exact absurd h' hnm
    go_wp2_with fail
    refine (mcross_any b bb n k b' bb' m h w4 HM4.out HN4.out).mono ?_
    rintro e w5 (⟨_, rfl, rfl⟩ | ⟨h', _⟩)
    case inr => exact absurd h' hnm
    go_wp2_with fail
    refine HS.out.mono ?_
    rintro e w6 ⟨rfl, q, rfl⟩
    have HB6 := Lib.hid (below_drewN HB4.out q)
    go_wp2_with fail
    go_ret
    exact ⟨rfl, HB6.out⟩
  subst hnm
  go_wp2_with fail
  refine (either_any b bb n k b' bb' n h w4 HM4.out HN4.out).mono ?_
  rintro e w5 (⟨h', _⟩ | ⟨_, p1, q1, rfl, _, hq1, hm, hB⟩)
  · exact absurd rfl h'
  have BX5 := Lib.hid hB
  have HP5 := Lib.hid hm
  clear hB hm
  go_wp2_with fail
  refine (mless_any b bb n k b' bb' n h w5 (HM4.out.below BX5.out) (HN4.out.below BX5.out)).mono ?_
  rintro e w6 (⟨h', _⟩ | ⟨_, p2, q2, rfl, hp2, hq2, hm, hB⟩)
  · exact absurd rfl h'
  have HNE := Lib.hid (show q1 < p2 ∧ q1 < q2 from ⟨Nat.lt_of_lt_of_le HP5.out.2.1 hp2, Nat.lt_of_lt_of_le HP5.out.2.1 hq2⟩)
  have hq2 : w4.heap.size ≤ q2 := Nat.le_trans BX5.out.size hq2
  have BX6 := Lib.hid (below_trans' BX5.out hB)
  have HP6 := Lib.hid (HP5.out.below hB)
  have HQ6 := Lib.hid hm
  clear hB hm BX5 HP5
  go_wp2_with fail
  refine (mcross_any b bb n k b' bb' n h w6 (HM4.out.below BX6.out) (HN4.out.below BX6.out)).mono ?_
  rintro e w7 (⟨h', _⟩ | ⟨_, p3, q3, rfl, _, _, hm, hB⟩)
  · exact absurd rfl h'
  have BX7 := Lib.hid (below_trans' BX6.out hB)
  have HP7 := Lib.hid (HP6.out.below hB)
  have HQ7 := Lib.hid (HQ6.out.below hB)
  have HR7 := Lib.hid hm
  clear hB hm BX6 HP6 HQ6
  have hn2 : n ≤ 8192 := HM4.out.2.2.2.1
  have hmk := make28 n hn2
  go_upto_region 11 with fail
  go_cut [21, 22, 23, 24] (fun s21 s22 s23 s24 wx => ∃ gx gy gz, s21 = .slice (some ⟨gx, 0, none⟩) n n ∧ s22 = .slice (some ⟨gy, 0, none⟩) n n ∧ s23 = .slice (some ⟨gz, 0, none⟩) n n ∧ s24 = .bool true ∧ Three w7 wx gx gy gz n zeroK zeroK zeroK)
  case first =>
   as_aux_lemma =>
    go_region
    all_goals go_wp2_with fail
    all_goals go_meet
    all_goals
      refine ⟨_, _, _, rfl, rfl, rfl, rfl, ?_⟩
      have T := (three_made w7 n hn2).drew
      first
        | exact T
        | exact T.sxy
        | exact T.syz
        | exact T.sxy.syz
        | exact T.syz.sxy
        | exact T.sxy.syz.sxy
  case rest =>
    obtain ⟨gx, gy, gz, rfl, rfl, rfl, rfl, hT⟩ := hcut
    clear hmk
    have HT := Lib.hid hT
    clear hT
    go_wp2_with fail
    go_loopw [24, 25] (fun s i wr => ∃ p : Nat, p ≤ n ∧ i = .int .i64 p ∧ s = .bool (eqK k h p) ∧ Three w7 wr gx gy gz n (upK p fun i => k i || h i) (upK p fun i => k i && !h i) (upK p fun i => k i && h i)) (fun _ i _ => n - (intOf i).toNat)
    case atStart => exact ⟨0, by omega, rfl, rfl, HT.out.congr (fun i _ => upK_zero _ i) (fun i _ => upK_zero _ i) (fun i _ => upK_zero _ i)⟩
    case round =>
      obtain ⟨p, hp, rfl, rfl, hT⟩ := hrel
      have HT2 := Lib.hid hT
      clear hT HT
      by_cases hlt : p < n
      · have BX := Lib.hid (below_trans' BX7.out HT2.out.below)
        have ck := (HG4.out.below BX.out).cell hlt
        have ch := (HH4.out.below BX.out).cell hlt
        have cx := HT2.out.x.cell hlt
        have cy := HT2.out.y.cell hlt
        have cz := HT2.out.z.cell hlt
        have fx := HT2.out.x.free p
        have fy := HT2.out.y.free p
        have fz := HT2.out.z.free p
        have e1 : ¬ gx = gy := HT2.out.xy
        have e2 : ¬ gx = gz := HT2.out.xz
        have e3 : ¬ gy = gz := HT2.out.yz
        have e4 : ¬ gy = gx := fun e => e1 e.symm
        have e5 : ¬ gz = gx := fun e => e2 e.symm
        have e6 : ¬ gz = gy := fun e => e3 e.symm
        cases hk : k p <;> cases hh : h p
        · as_aux_lemma =>
          rw [hk] at ck
          rw [hh] at ch
          have HK := Lib.hid hk
          have HH := Lib.hid hh
          clear hk hh
          go_wp2_with fail
          go_region
          all_goals go_wp2_with fail
          have hT3 : Three w7 (((wr.setCell ⟨gx, p, none⟩ (.bool false)).setCell ⟨gy, p, none⟩ (.bool false)).setCell ⟨gz, p, none⟩ (.bool false)).drew gx gy gz n (upK (p + 1) fun i => k i || h i) (upK (p + 1) fun i => k i && !h i) (upK (p + 1) fun i => k i && h i) :=
            ((HT2.out.set hlt false false false).congr (fun i _ => upK_succ (fun i => k i || h i) p (by simp [HK.out, HH.out]) i) (fun i _ => upK_succ (fun i => k i && !h i) p (by simp [HK.out, HH.out]) i) (fun i _ => upK_succ (fun i => k i && h i) p (by simp [HK.out, HH.out]) i)).drew
          clear cx cy cz fx fy fz e1 e2 e3 e4 e5 e6 ck ch HT2
          have HT3 := Lib.hid hT3
          clear hT3
          generalize (((wr.setCell ⟨gx, p, none⟩ (.bool false)).setCell ⟨gy, p, none⟩ (.bool false)).setCell ⟨gz, p, none⟩ (.bool false)).drew = w8 at *
          have BX3 := Lib.hid (below_trans' BX7.out HT3.out.below)
          have ck := (HG4.out.below BX3.out).cell hlt
          have ch := (HH4.out.below BX3.out).cell hlt
          rw [HK.out] at ck
          rw [HH.out] at ch
          have hE : eqK k h (p + 1) = (eqK k h p && true) := by simp [eqK, HK.out, HH.out]
          have HE := Lib.hid hE
          clear hE
          cases he : eqK k h p
          all_goals
            rw [he] at HE
            clear he
            go_quiet (fail)
            have HT4 := Lib.hid (HT3.out.drewN nq)
            go_wp2_with fail
            go_roundw
            case rel => exact ⟨p + 1, by omega, by go_num, by rw [HE.out]; rfl, HT4.out⟩
            case measure => simp [intOf]; omega
        · as_aux_lemma =>
          rw [hk] at ck
          rw [hh] at ch
          have HK := Lib.hid hk
          have HH := Lib.hid hh
          clear hk hh
          go_wp2_with fail
          go_region
          all_goals go_wp2_with fail
          have hT3 : Three w7 (((wr.setCell ⟨gx, p, none⟩ (.bool true)).setCell ⟨gy, p, none⟩ (.bool false)).setCell ⟨gz, p, none⟩ (.bool false)).drew gx gy gz n (upK (p + 1) fun i => k i || h i) (upK (p + 1) fun i => k i && !h i) (upK (p + 1) fun i => k i && h i) :=
            ((HT2.out.set hlt true false false).congr (fun i _ => upK_succ (fun i => k i || h i) p (by simp [HK.out, HH.out]) i) (fun i _ => upK_succ (fun i => k i && !h i) p (by simp [HK.out, HH.out]) i) (fun i _ => upK_succ (fun i => k i && h i) p (by simp [HK.out, HH.out]) i)).drew
          clear cx cy cz fx fy fz e1 e2 e3 e4 e5 e6 ck ch HT2
          have HT3 := Lib.hid hT3
          clear hT3
          generalize (((wr.setCell ⟨gx, p, none⟩ (.bool true)).setCell ⟨gy, p, none⟩ (.bool false)).setCell ⟨gz, p, none⟩ (.bool false)).drew = w8 at *
          have BX3 := Lib.hid (below_trans' BX7.out HT3.out.below)
          have ck := (HG4.out.below BX3.out).cell hlt
          have ch := (HH4.out.below BX3.out).cell hlt
          rw [HK.out] at ck
          rw [HH.out] at ch
          have hE : eqK k h (p + 1) = (eqK k h p && false) := by simp [eqK, HK.out, HH.out]
          have HE := Lib.hid hE
          clear hE
          cases he : eqK k h p
          all_goals
            rw [he] at HE
            clear he
            go_quiet (fail)
            have HT4 := Lib.hid (HT3.out.drewN nq)
            go_wp2_with fail
            go_roundw
            case rel => exact ⟨p + 1, by omega, by go_num, by rw [HE.out]; rfl, HT4.out⟩
            case measure => simp [intOf]; omega
        · as_aux_lemma =>
          rw [hk] at ck
          rw [hh] at ch
          have HK := Lib.hid hk
          have HH := Lib.hid hh
          clear hk hh
          go_wp2_with fail
          go_region
          all_goals go_wp2_with fail
          have hT3 : Three w7 (((wr.setCell ⟨gx, p, none⟩ (.bool true)).setCell ⟨gy, p, none⟩ (.bool true)).setCell ⟨gz, p, none⟩ (.bool false)).drew gx gy gz n (upK (p + 1) fun i => k i || h i) (upK (p + 1) fun i => k i && !h i) (upK (p + 1) fun i => k i && h i) :=
            ((HT2.out.set hlt true true false).congr (fun i _ => upK_succ (fun i => k i || h i) p (by simp [HK.out, HH.out]) i) (fun i _ => upK_succ (fun i => k i && !h i) p (by simp [HK.out, HH.out]) i) (fun i _ => upK_succ (fun i => k i && h i) p (by simp [HK.out, HH.out]) i)).drew
          clear cx cy cz fx fy fz e1 e2 e3 e4 e5 e6 ck ch HT2
          have HT3 := Lib.hid hT3
          clear hT3
          generalize (((wr.setCell ⟨gx, p, none⟩ (.bool true)).setCell ⟨gy, p, none⟩ (.bool true)).setCell ⟨gz, p, none⟩ (.bool false)).drew = w8 at *
          have BX3 := Lib.hid (below_trans' BX7.out HT3.out.below)
          have ck := (HG4.out.below BX3.out).cell hlt
          have ch := (HH4.out.below BX3.out).cell hlt
          rw [HK.out] at ck
          rw [HH.out] at ch
          have hE : eqK k h (p + 1) = (eqK k h p && false) := by simp [eqK, HK.out, HH.out]
          have HE := Lib.hid hE
          clear hE
          cases he : eqK k h p
          all_goals
            rw [he] at HE
            clear he
            go_quiet (fail)
            have HT4 := Lib.hid (HT3.out.drewN nq)
            go_wp2_with fail
            go_roundw
            case rel => exact ⟨p + 1, by omega, by go_num, by rw [HE.out]; rfl, HT4.out⟩
            case measure => simp [intOf]; omega
        · as_aux_lemma =>
          rw [hk] at ck
          rw [hh] at ch
          have HK := Lib.hid hk
          have HH := Lib.hid hh
          clear hk hh
          go_wp2_with fail
          go_region
          all_goals go_wp2_with fail
          have hT3 : Three w7 (((wr.setCell ⟨gx, p, none⟩ (.bool true)).setCell ⟨gy, p, none⟩ (.bool false)).setCell ⟨gz, p, none⟩ (.bool true)).drew gx gy gz n (upK (p + 1) fun i => k i || h i) (upK (p + 1) fun i => k i && !h i) (upK (p + 1) fun i => k i && h i) :=
            ((HT2.out.set hlt true false true).congr (fun i _ => upK_succ (fun i => k i || h i) p (by simp [HK.out, HH.out]) i) (fun i _ => upK_succ (fun i => k i && !h i) p (by simp [HK.out, HH.out]) i) (fun i _ => upK_succ (fun i => k i && h i) p (by simp [HK.out, HH.out]) i)).drew
          clear cx cy cz fx fy fz e1 e2 e3 e4 e5 e6 ck ch HT2
          have HT3 := Lib.hid hT3
          clear hT3
          generalize (((wr.setCell ⟨gx, p, none⟩ (.bool true)).setCell ⟨gy, p, none⟩ (.bool false)).setCell ⟨gz, p, none⟩ (.bool true)).drew = w8 at *
          have BX3 := Lib.hid (below_trans' BX7.out HT3.out.below)
          have ck := (HG4.out.below BX3.out).cell hlt
          have ch := (HH4.out.below BX3.out).cell hlt
          rw [HK.out] at ck
          rw [HH.out] at ch
          have hE : eqK k h (p + 1) = (eqK k h p && true) := by simp [eqK, HK.out, HH.out]
          have HE := Lib.hid hE
          clear hE
          cases he : eqK k h p
          all_goals
            rw [he] at HE
            clear he
            go_quiet (fail)
            have HT4 := Lib.hid (HT3.out.drewN nq)
            go_wp2_with fail
            go_roundw
            case rel => exact ⟨p + 1, by omega, by go_num, by rw [HE.out]; rfl, HT4.out⟩
            case measure => simp [intOf]; omega
      · obtain rfl : p = n := by omega
        have hE := eqK_same HM4.out.2.2.2.2.1 HN4.out.2.2.2.2.1
        have hT := HT2.out.congr (fun i hi => upK_all _ _ _ hi) (fun i hi => upK_all _ _ _ hi) (fun i hi => upK_all _ _ _ hi)
        have HX := Lib.hid hT.x
        have HY := Lib.hid hT.y
        have HZ := Lib.hid hT.z
        have HP := Lib.hid (HP7.out.below hT.below)
        have HQ := Lib.hid (HQ7.out.below hT.below)
        have HR := Lib.hid (HR7.out.below hT.below)
        have BX := Lib.hid (below_trans' BX7.out hT.below)
        have d0 : decide (p < p) = false := by simp
        clear hT HT2 HP7 HQ7 HR7 BX7
        rw [hE]
        clear hE
        go_wp2_with fail
        refine (same_any b bb p k b' bb' p h wr (HM4.out.below BX.out) (HN4.out.below BX.out)).mono ?_
        rintro e w8 ⟨rfl, q, rfl⟩
        generalize sameB p p k h = E
        have hss : (E != E) = false := by simp
        go_wp2_with fail
        refine (clone_any b bb p k (wr.drewN q) ((HM4.out.below BX.out).drewN q)).mono ?_
        rintro e w8 ⟨c, cb, rfl, _, _, hm, hB⟩
        have HP8 := Lib.hid ((HP.out.drewN q).below hB)
        have HQ8 := Lib.hid ((HQ.out.drewN q).below hB)
        have HR8 := Lib.hid ((HR.out.drewN q).below hB)
        have HX8 := Lib.hid ((HX.out.drewN q).below hB)
        have HY8 := Lib.hid ((HY.out.drewN q).below hB)
        have HZ8 := Lib.hid ((HZ.out.drewN q).below hB)
        have BX8 := Lib.hid (below_trans' (below_drewN BX.out q) hB)
        have HC := Lib.hid (same_any b bb p k c cb p k w8 (HM4.out.below BX8.out) hm)
        rw [sameB_refl] at HC
        clear hB hm HP HQ HR HX HY HZ BX
        go_wp2_with fail
        refine HC.out.mono ?_
        rintro e w9 ⟨rfl, q', rfl⟩
        have HP9 := Lib.hid (HP8.out.drewN q')
        have HQ9 := Lib.hid (HQ8.out.drewN q')
        have HR9 := Lib.hid (HR8.out.drewN q')
        have HX9 := Lib.hid (HX8.out.drewN q')
        have HY9 := Lib.hid (HY8.out.drewN q')
        have HZ9 := Lib.hid (HZ8.out.drewN q')
        have BX9 := Lib.hid (below_drewN BX8.out q')
        clear HC HP8 HQ8 HR8 HX8 HY8 HZ8 BX8
        generalize w8.drewN q' = w9 at *
        go_wp2_with fail
        have hp1 : 1 ≤ p := HM4.out.2.2.1
        refine (says_any p1 q1 gx p p _ 0 w9 HP9.out HX9.out).mono ?_
        rintro e w10 ⟨rfl, hB⟩
        have HP10 := Lib.hid (HP9.out.below hB)
        have HQ10 := Lib.hid (HQ9.out.below hB)
        have HR10 := Lib.hid (HR9.out.below hB)
        have HY10 := Lib.hid (HY9.out.below hB)
        have HZ10 := Lib.hid (HZ9.out.below hB)
        have BX10 := Lib.hid (below_trans' BX9.out hB)
        clear hB HP9 HQ9 HR9 HX9 HY9 HZ9 BX9
        go_wp2_with fail
        refine (says_any p2 q2 gy p p _ 0 w10 HQ10.out HY10.out).mono ?_
        rintro e w11 ⟨rfl, hB⟩
        have HP11 := Lib.hid (HP10.out.below hB)
        have HQ11 := Lib.hid (HQ10.out.below hB)
        have HR11 := Lib.hid (HR10.out.below hB)
        have HZ11 := Lib.hid (HZ10.out.below hB)
        have BX11 := Lib.hid (below_trans' BX10.out hB)
        clear hB HP10 HQ10 HR10 HY10 HZ10 BX10
        go_wp2_with fail
        refine (says_any p3 q3 gz p p _ 0 w11 HR11.out HZ11.out).mono ?_
        rintro e w12 ⟨rfl, hB⟩
        have HP12 := Lib.hid (HP11.out.below hB)
        have HQ12 := Lib.hid (HQ11.out.below hB)
        have BX12 := Lib.hid (below_trans' BX11.out hB)
        clear hB HP11 HQ11 HR11 HZ11 BX11
        go_wp2_with fail
        refine (set_in p1 q1 p _ w12 0 (by omega) HP12.out).mono ?_
        rintro e w13 ⟨rfl, _, hg⟩
        have hne := HNE.out
        have BX13 := Lib.hid (BX12.out.grown hg BX12.out.size (fun q hq => by cases hq; exact hq1))
        have HQ13 := Lib.hid (HQ12.out.only hg (fun e => by injection e; omega) (fun e => by injection e; omega))
        clear hg HP12 HQ12 BX12
        go_wp2_with fail
        refine (clear_in p2 q2 p _ w13 0 (by omega) HQ13.out).mono ?_
        rintro e w14 ⟨rfl, _, hg⟩
        have BX14 := Lib.hid (BX13.out.grown hg BX13.out.size (fun q hq => by cases hq; exact hq2))
        clear hg HQ13 BX13
        go_wp2_with fail
        refine (says_any b bb g p p k 0 w14 (HM4.out.below BX14.out) (HG4.out.below BX14.out)).mono ?_
        rintro e w15 ⟨rfl, hB⟩
        have BX15 := Lib.hid (below_trans' BX14.out hB)
        clear hB BX14
        go_wp2_with fail
        refine (says_any b' bb' g' p p h 0 w15 (HN4.out.below BX15.out) (HH4.out.below BX15.out)).mono ?_
        rintro e w16 ⟨rfl, hB⟩
        have BX16 := Lib.hid (below_trans' BX15.out hB)
        clear hB BX15
        go_wp2_with fail
        go_ret
        exact ⟨rfl, below_trans' HB4.out BX16.out⟩
end Go.Proofs.Ytffdklcpkkcohaa
