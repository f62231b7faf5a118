/- the law RoomKeeps, walked. -/
import Derived.Test.YtffdklcpkkcohaaKeepsMath
namespace Go.Proofs.Ytffdklcpkkcohaa
open Go.RowKit
def sumC (n : Nat) (s : Nat → Int) : Nat → Nat
  | 0 => 0
  | t + 1 => sumC n s t + (listS n s t).length
theorem sumC_le (n : Nat) (s : Nat → Int) (t : Nat) : sumC n s t ≤ t * n := by
  induction t with
  | zero => simp [sumC]
  | succ t ih =>
    have := listS_len n s t
    rw [sumC, Nat.succ_mul]; omega
theorem sumC_five {n : Nat} {s0 s : Nat → Int} (h0 : Fresh s0) (h : TakeI s0 s) : sumC n s 5 = n := by
  have := cnt_sum (n := n) (s := s) (fun i _ => takeI_range h0 h i)
  simp only [cnt] at this
  simp only [sumC]
  exact Eq.trans (by simp [Nat.zero_add]) this
theorem U32In.only {w w' : World} {B bb : Nat} {a : Option Addr} {L : List Nat} (h : U32In w B a L) (hb : w.grownBy w' (some bb)) (hlt : bb < B) : U32In w' B a L := by
  intro hn
  obtain ⟨g, h1, h2, h3, h4⟩ := h hn
  refine ⟨g, h1, h2, Nat.lt_of_lt_of_le h3 hb.size, fun i x hx => ?_⟩
  obtain ⟨c1, c2⟩ := h4 i x hx
  have hg := hb.block g h3 (fun e => by injection e; omega)
  exact ⟨(World.cell?_of_block hg).trans c1, by rw [← c2]; simp [World.frozen?, hg]⟩
theorem let_state (n : Nat) (s : Nat → Int) (p : Nat) : ((stI n s p = 2 ∨ stI n s p = 3) ∧ letE n s p = 0) ∨ ((stI n s p ≠ 2 ∧ stI n s p ≠ 3) ∧ letE n s p = 121) := by
  unfold stI letE
  by_cases h : p < n
  · rw [if_pos h]
    by_cases h2 : s p = 2 ∨ s p = 3
    · exact .inl ⟨h2, if_pos ⟨h, h2⟩⟩
    · exact .inr ⟨⟨fun e => h2 (.inl e), fun e => h2 (.inr e)⟩, if_neg (fun e => h2 e.2)⟩
  · rw [if_neg h]
    exact .inr ⟨⟨by decide, by decide⟩, if_neg (fun e => h e.1)⟩
set_option maxRecDepth 100000 in
set_option maxHeartbeats 4000000 in
theorem keeps_any (blocks : Int) (a1 : Option Addr) (l1 c1 : Nat) (f1 : Nat → Nat) (a2 : Option Addr) (l2 c2 : Nat) (f2 : Nat → Nat) (w : World) (hx1 : U32s w a1 l1 f1) (hl1 : l1 ≤ maxLen) (hx2 : U32s w a2 l2 f2) (hl2 : l2 ≤ maxLen) :
    Calls Try.prog 6 #[.int .i64 blocks, .slice a1 l1 c1, .slice a2 l2 c2] w fun e w' => e = .returned (.bool true) ∧ Below w.heap.size w w' := by
  have N := Lib.hid (rnew_any blocks a1 l1 c1 f1 w hx1 hl1)
  have hl2' := hl2
  unfold maxLen at hl2
  have HX1 := Lib.hid hx1
  have HX2 := Lib.hid hx2
  clear hx1 hx2
  go_enter Try.func6, Try.ntmps6
  go_wp2_with fail
  refine N.out.mono ?_
  clear N
  rintro e w1 (⟨hbad, rfl, rfl⟩ | ⟨n, rfl, hn1, hn2, ⟨j, hj, hbj, hgood, rfl, hB⟩ | ⟨hgood, b, bb, rfl, hb, hbb, hR, hB⟩⟩)
  · have HBAD := Lib.hid hbad
    clear hbad
    go_wp2_with fail
    refine (rawake_any _).mono ?_
    rintro e w2 ⟨rfl, hB⟩
    have HB := Lib.hid hB
    have R := Lib.hid (refnew_any blocks a1 l1 c1 f1 w2 (HX1.out.below hB) hl1)
    clear hB
    go_wp2_with fail
    refine R.out.mono ?_
    clear R
    rintro e w3 (⟨_, rfl, rfl⟩ | ⟨n, rfl, _, _, _⟩)
    · go_wp2_with fail
      go_ret
      exact ⟨rfl, HB.out⟩
    · exfalso; have := HBAD.out; omega
  · have HBJ := Lib.hid hbj
    have HGD := Lib.hid hgood
    have HB1 := Lib.hid hB
    clear hbj hgood hB
    go_wp2_with fail
    refine (rawake_any _).mono ?_
    rintro e w2 ⟨rfl, hB⟩
    have HB := Lib.hid (below_trans' HB1.out hB)
    have R := Lib.hid (refnew_any n a1 l1 c1 f1 w2 (HX1.out.below HB.out) hl1)
    clear hB
    go_wp2_with fail
    refine R.out.mono ?_
    clear R
    rintro e w3 (⟨h, _⟩ | ⟨n', hn', _, _, ⟨j', _, _, _, rfl, hB⟩ | ⟨hg, _⟩⟩)
    · exfalso; omega
    · have HB3 := Lib.hid (below_trans' HB.out hB)
      clear hB hn'
      go_wp2_with fail
      go_ret
      exact ⟨rfl, HB3.out⟩
    · exfalso
      obtain rfl : n' = n := by omega
      exact hg j hj HBJ.out
  have hf0 : Fresh (usedS f1 l1) := fun i => usedS_kind f1 l1 i
  generalize usedS f1 l1 = s0 at *
  have HF := Lib.hid hf0
  have HR1 := Lib.hid hR
  have HB1 := Lib.hid hB
  clear hf0 hR hB hgood
  go_wp2_with fail
  refine (rawake_any _).mono ?_
  rintro e w2 ⟨rfl, hB⟩
  have HB2 := Lib.hid (below_trans' HB1.out hB)
  have HR2 := Lib.hid (HR1.out.below hB)
  clear hB HB1 HR1
  go_wp2_with fail
  refine (copy_any b bb n s0 w2 HR2.out).mono ?_
  rintro e w3 ⟨q, qq, rfl, hq, hqq, hR, hB⟩
  have HQ3 := Lib.hid hR
  have HR3 := Lib.hid (HR2.out.below hB)
  have HB3 := Lib.hid (below_trans' HB2.out hB)
  have hbq : b < q ∧ b < qq ∧ bb < q ∧ bb < qq := ⟨Nat.lt_of_lt_of_le HR2.out.lt hq, Nat.lt_of_lt_of_le HR2.out.lt hqq, Nat.lt_of_lt_of_le HR2.out.row.1 hq, Nat.lt_of_lt_of_le HR2.out.row.1 hqq⟩
  clear hR hB HR2 HB2
  go_wp2_with fail
  go_loopw [60] (fun i wr => ∃ (p : Nat) (s : Nat → Int), p ≤ l2 ∧ i = .int .i64 p ∧ RoomAt wr b bb n s ∧ RoomAt wr q qq n s0 ∧ LetI s0 s ∧ Below w.heap.size w wr) (fun i _ => l2 - (intOf i).toNat)
  case atStart => exact ⟨0, s0, by omega, rfl, HR3.out, HQ3.out, fun i => .inl rfl, HB3.out⟩
  case round =>
    obtain ⟨p, s, hp, rfl, hR, hQ, hL, hB⟩ := hrel
    have HR := Lib.hid hR
    have HQ := Lib.hid hQ
    have HL := Lib.hid hL
    have HB := Lib.hid hB
    clear hR hQ hL hB HR3 HQ3 HB3
    by_cases hlt : p < l2
    · obtain ⟨b0, off, rfl, hb0, hcs⟩ := (HX2.out.below HB.out).2 (by omega)
      have c0 := hcs p hlt
      have hu := HX2.out.1 p hlt
      clear hcs
      have hls := let_state n s (f2 p)
      have HS := Lib.hid (state_any b bb n s wr (f2 p) hu HR.out)
      have HLET := Lib.hid (let_any b bb n s wr (f2 p) hu HR.out)
      have HL2 := Lib.hid (letI_step (n := n) HF.out HL.out (f2 p))
      clear hu
      generalize letE n s (f2 p) = le at *
      generalize stI n s (f2 p) = st at *
      generalize letS n s (f2 p) = s' at *
      generalize f2 p = z at *
      have tail : ∀ w', RoomAt w' b bb n s' → wr.grownBy w' (some bb) → RoomAt w' b bb n s' ∧ RoomAt w' q qq n s0 ∧ Below w.heap.size w w' := fun w' h hg =>
        ⟨h, HQ.out.only hg (fun e => by injection e; omega) (fun e => by injection e; omega), HB.out.grown hg HB.out.size (fun k hk => by cases hk; exact hbb)⟩
      have HT := Lib.hid tail
      clear tail
      rcases hls with ⟨hst, rfl⟩ | ⟨hst, rfl⟩
      · rcases hst with rfl | rfl
        all_goals
          go_wp2_with fail
          refine HS.out.mono ?_
          rintro e w4 ⟨rfl, rfl⟩
          go_wp2_with fail
          refine HLET.out.mono ?_
          rintro e w4 ⟨rfl, hR, hg⟩
          have HT2 := Lib.hid (HT.out w4 hR hg)
          clear hR hg
          go_wp2_with fail
          go_roundw
          case rel => exact ⟨p + 1, s', by omega, by go_num, HT2.out.1, HT2.out.2.1, HL2.out, HT2.out.2.2⟩
          case measure => simp [intOf]; omega
      · have t2 : (st == 2) = false := by simp [hst.1]
        have t3 : (st == 3) = false := by simp [hst.2]
        clear hst
        go_wp2_with fail
        refine HS.out.mono ?_
        rintro e w4 ⟨rfl, rfl⟩
        go_wp2_with fail
        refine HLET.out.mono ?_
        rintro e w4 ⟨rfl, hR, hg⟩
        have HT2 := Lib.hid (HT.out w4 hR hg)
        clear hR hg
        go_wp2_with fail
        go_roundw
        case rel => exact ⟨p + 1, s', by omega, by go_num, HT2.out.1, HT2.out.2.1, HL2.out, HT2.out.2.2⟩
        case measure => simp [intOf]; omega
    · have HC := Lib.hid (rcountS_any b bb n s 1 wr HR.out)
      have HTI := Lib.hid HL.out.take
      have hmm := @run_makeMap Try.prog
      clear HL
      go_wp2_with fail
      refine HC.out.mono ?_
      clear HC
      rintro e w4 ⟨rfl, hB⟩
      have HR4 := Lib.hid (HR.out.below hB)
      have HQ4 := Lib.hid (HQ.out.below hB)
      have HB4 := Lib.hid (below_trans' HB.out hB)
      clear hB HR HQ HB
      have hfl : (listS n s 1).length ≤ n := listS_len n s 1
      have hcn : cnt n s 1 = (listS n s 1).length := rfl
      generalize (listS n s 1).length = F at *
      have HCN := Lib.hid hcn
      clear hcn
      obtain ⟨M, hM⟩ : ∃ M, w4.heap.size = M := ⟨_, rfl⟩
      have hbM : bb < M ∧ b < M ∧ q < M ∧ qq < M := by have h1 := HR4.out.row.1; have h2 := HR4.out.lt; have h3 := HQ4.out.row.1; have h4 := HQ4.out.lt; omega
      have hset := setAt_made w4
      rw [hM] at hset
      have HS5 := Lib.hid hset
      have HR5 := Lib.hid (HR4.out.alloc (.map #[] 0))
      have HQ5 := Lib.hid (HQ4.out.alloc (.map #[] 0))
      have HB5 := Lib.hid (HB4.out.alloc HB4.out.size (.map #[] 0))
      clear hset HR4 HQ4 HB4
      go_wp2_with fail
      try rw [hM]
      generalize w4.alloc (.map #[] 0) = w5 at *
      go_loopw [83] (fun i wr => ∃ (p : Nat) (s : Nat → Int) (T : Nat → Bool), p ≤ F ∧ i = .int .i64 p ∧ RoomAt wr b bb n s ∧ RoomAt wr q qq n s0 ∧ TakeI s0 s ∧ cnt n s 1 + p = F ∧ SetAt wr M p T ∧ (∀ i, T i = true → s i = 3) ∧ Below w.heap.size w wr) (fun i _ => F - (intOf i).toNat)
      case atStart => exact ⟨0, s, fun _ => false, by omega, rfl, HR5.out, HQ5.out, HTI.out, HCN.out, HS5.out, by intro i h; simp at h, HB5.out⟩
      case round =>
        clear HR5 HQ5 HTI HCN HS5 HB5 hlt hp
        obtain ⟨p, s, T, hp, rfl, hR, hQ, hTI, hcn, hS, hT, hB⟩ := hrel
        have HR := Lib.hid hR
        have HQ := Lib.hid hQ
        have HTI := Lib.hid hTI
        have HCN := Lib.hid hcn
        have HS := Lib.hid hS
        have HT := Lib.hid hT
        have HB := Lib.hid hB
        clear hR hQ hTI hcn hS hT hB
        by_cases hlt : p < F
        · rcases Classical.em (∀ i, i < n → s i ≠ 1) with hno | hyes
          · exfalso
            have h1 := cnt_all hno
            have h2 := HCN.out
            omega
          have HTK := Lib.hid (take_any b bb n s wr HR.out)
          go_wp2_with fail
          refine HTK.out.mono ?_
          rintro e w6 (⟨hno, _⟩ | ⟨z, hz, hs1, _, rfl, hR, hg⟩)
          · exact absurd hno hyes
          have hz2 : z < 4294967296 := by omega
          have hQ6 := HQ.out.only hg (fun e => by injection e; omega) (fun e => by injection e; omega)
          have hS6 := HS.out.kept hg (fun e => by injection e; omega)
          have hB6 := HB.out.grown hg HB.out.size (fun k hk => by cases hk; exact hbb)
          obtain ⟨hTI6, hs01⟩ := takeI_step HF.out HTI.out hs1
          have hTz : T z = false := by
            cases e : T z
            · rfl
            · have := HT.out z e; omega
          have hlk := hS6.look z hz2
          rw [hTz] at hlk
          obtain ⟨w7, hup, hS7, hg7⟩ := hS6.put (by unfold maxLen; omega) z hz2
          have e1 : stI n s0 z = 1 := by unfold stI; rw [if_pos hz]; exact hs01
          have e2 : stI n (setS s z 3) z = 3 := by unfold stI setS; rw [if_pos hz, if_pos rfl]
          have ST1 := Lib.hid (state_any q qq n s0 w6 z hz2 hQ6)
          have ST2 := Lib.hid (state_any b bb n (setS s z 3) w6 z hz2 hR)
          rw [e1] at ST1
          rw [e2] at ST2
          have hcn7 : cnt n (setS s z 3) 1 + (p + 1) = F := by
            have h1 := cnt_take hz hs1
            have h2 := HCN.out
            omega
          have hT7 : ∀ i, setK T z true i = true → setS s z 3 i = 3 := by
            intro i hi
            unfold setK at hi
            unfold setS
            by_cases e : i = z
            · rw [if_pos e]
            · rw [if_neg e] at hi ⊢; exact HT.out i hi
          have K1 := Lib.hid hcn7
          have K2 := Lib.hid hT7
          have K3 := Lib.hid hTI6
          have K4 := Lib.hid hS7
          have K5 := Lib.hid (hR.only hg7 (fun e => by injection e; omega) (fun e => by injection e; omega))
          have K6 := Lib.hid (hQ6.only hg7 (fun e => by injection e; omega) (fun e => by injection e; omega))
          have K7 := Lib.hid (hB6.grown hg7 hB6.size (fun k hk => by cases hk; have := hbM; omega))
          clear hcn7 hT7 hTI6 hS7 hR hQ6 hS6 hB6 hg hg7 e1 e2 hs1 hs01 hTz hyes HTK
          go_wp2_with fail
          refine ST1.out.mono ?_
          clear ST1
          rintro e w' ⟨rfl, rfl⟩
          go_wp2_with fail
          refine ST2.out.mono ?_
          clear ST2
          rintro e w' ⟨rfl, rfl⟩
          go_wp2_with fail
          go_roundw
          case rel => exact ⟨p + 1, setS s z 3, setK T z true, by omega, by go_num, K5.out, K6.out, K3.out, K1.out, K4.out, K2.out, K7.out⟩
          case measure => simp [intOf]; omega
        · have h0 : cnt n s 1 = 0 := by have := HCN.out; omega
          have HNO := Lib.hid (cnt_none h0)
          clear h0 HCN HS HT
          go_wp2_with fail
          refine (take_any b bb n s wr HR.out).mono ?_
          rintro e w6 (⟨_, rfl, rfl⟩ | ⟨z, hz, hs1, _⟩)
          case inr => exact absurd hs1 (HNO.out z hz)
          go_wp2_with fail
          go_loopw [23, 24] (fun al i wv => ∃ t : Nat, t ≤ 5 ∧ i = .int .i64 t ∧ al = .int .i64 (sumC n s t) ∧ RoomAt wv b bb n s ∧ RoomAt wv q qq n s0 ∧ Below w.heap.size w wv) (fun _ i _ => 5 - (intOf i).toNat)
          case atStart => exact ⟨0, by omega, rfl, rfl, HR.out, HQ.out, HB.out⟩
          case round =>
            clear HR HQ HB
            obtain ⟨t, ht, rfl, rfl, hR, hQ, hB⟩ := hrel
            have HR := Lib.hid hR
            have HQ := Lib.hid hQ
            have HB := Lib.hid hB
            clear hR hQ hB
            by_cases hlt5 : t < 5
            · have HC := Lib.hid (rcountS_any b bb n s t wr HR.out)
              have hsu : sumC n s (t + 1) = sumC n s t + (listS n s t).length := rfl
              have hsl : sumC n s t ≤ 5 * 8192 := Nat.le_trans (sumC_le n s t) (Nat.mul_le_mul (by omega) hn2)
              have hll := listS_len n s t
              have HSU := Lib.hid hsu
              clear hsu
              generalize (listS n s t).length = C at *
              generalize sumC n s t = S at *
              go_wp2_with fail
              refine HC.out.mono ?_
              clear HC
              rintro e w7 ⟨rfl, hB⟩
              have HR7 := Lib.hid (HR.out.below hB)
              have HQ7 := Lib.hid (HQ.out.below hB)
              have HB7 := Lib.hid (below_trans' HB.out hB)
              clear hB HR HQ HB
              go_wp2_with fail
              go_roundw
              case rel => exact ⟨t + 1, by omega, by go_num, by rw [HSU.out]; go_num, HR7.out, HQ7.out, HB7.out⟩
              case measure => simp [intOf]; omega
            · obtain rfl : t = 5 := by omega
              have hs5 : sumC n s 5 = n := sumC_five HF.out HTI.out
              rw [hs5]
              clear hs5
              go_wp2_with fail
              refine (copy_any b bb n s wr HR.out).mono ?_
              rintro e w7 ⟨o, oo, rfl, ho, hoo, hO, hB⟩
              have hbo : b < o ∧ b < oo ∧ bb < o ∧ bb < oo ∧ q < o ∧ q < oo ∧ qq < o ∧ qq < oo := by
                have h1 := HR.out.lt; have h2 := HR.out.row.1; have h3 := HQ.out.lt; have h4 := HQ.out.row.1; omega
              have hwo : w.heap.size ≤ oo := by have := HB.out.size; omega
              have HO7 := Lib.hid hO
              have HR7 := Lib.hid (HR.out.below hB)
              have HQ7 := Lib.hid (HQ.out.below hB)
              have HB7 := Lib.hid (below_trans' HB.out hB)
              clear hO hB HR HQ HB
              go_wp2_with fail
              refine (back_any o oo n s w7 HO7.out).mono ?_
              rintro e w8 ⟨⟨v8, rfl⟩, hO, hg⟩
              have HO8 := Lib.hid (hO.congr (fun i _ => takeI_back HF.out HTI.out i))
              have HR8 := Lib.hid (HR7.out.only hg (fun e => by injection e; omega) (fun e => by injection e; omega))
              have HQ8 := Lib.hid (HQ7.out.only hg (fun e => by injection e; omega) (fun e => by injection e; omega))
              have HB8 := Lib.hid (HB7.out.grown hg HB7.out.size (fun k hk => by cases hk; exact hwo))
              clear hO hg HO7 HR7 HQ7 HB7
              go_wp2_with fail
              refine (list_sl o oo n s0 1 w8 HO8.out).mono ?_
              rintro e w9 ⟨A1, C1, rfl, hA1, hB⟩
              have hla := listS_len n s0 1
              have HA1 := Lib.hid hA1
              have HO9 := Lib.hid (HO8.out.below hB)
              have HR9 := Lib.hid (HR8.out.below hB)
              have HQ9 := Lib.hid (HQ8.out.below hB)
              have HB9 := Lib.hid (below_trans' HB8.out hB)
              clear hA1 hB HO8 HR8 HQ8 HB8
              go_wp2_with fail
              refine (list_sl q qq n s0 1 w9 HQ9.out).mono ?_
              rintro e w10 ⟨A2, C2, rfl, hA2, hB⟩
              have HSA := Lib.hid (same32_any A1 _ C1 _ A2 _ C2 _ w10 (HA1.out.below hB).rd hA2.rd (by unfold maxLen; omega) (by unfold maxLen; omega))
              rw [same32_lists, decide_eq_true rfl] at HSA
              have HO10 := Lib.hid (HO9.out.below hB)
              have HR10 := Lib.hid (HR9.out.below hB)
              have HQ10 := Lib.hid (HQ9.out.below hB)
              have HB10 := Lib.hid (below_trans' HB9.out hB)
              clear hA2 hB HA1 HO9 HR9 HQ9 HB9
              go_wp2_with fail
              refine HSA.out.mono ?_
              clear HSA
              rintro e w11 ⟨rfl, dd, rfl⟩
              have HO11 := Lib.hid (HO10.out.drewN dd)
              have HR11 := Lib.hid (HR10.out.drewN dd)
              have HQ11 := Lib.hid (HQ10.out.drewN dd)
              have HB11 := Lib.hid (below_drewN HB10.out dd)
              clear HO10 HR10 HQ10 HB10
              generalize w10.drewN dd = w11 at *
              go_wp2_with fail
              refine (list_sl o oo n s0 2 w11 HO11.out).mono ?_
              rintro e w12 ⟨A3, C3, rfl, hA3, hB⟩
              have hlb := listS_len n s0 2
              have HA3 := Lib.hid hA3
              have HO12 := Lib.hid (HO11.out.below hB)
              have HR12 := Lib.hid (HR11.out.below hB)
              have HQ12 := Lib.hid (HQ11.out.below hB)
              have HB12 := Lib.hid (below_trans' HB11.out hB)
              clear hA3 hB HO11 HR11 HQ11 HB11
              go_wp2_with fail
              refine (list_sl q qq n s0 2 w12 HQ12.out).mono ?_
              rintro e w13 ⟨A4, C4, rfl, hA4, hB⟩
              have HSB := Lib.hid (same32_any A3 _ C3 _ A4 _ C4 _ w13 (HA3.out.below hB).rd hA4.rd (by unfold maxLen; omega) (by unfold maxLen; omega))
              rw [same32_lists, decide_eq_true rfl] at HSB
              have HO13 := Lib.hid (HO12.out.below hB)
              have HR13 := Lib.hid (HR12.out.below hB)
              have HB13 := Lib.hid (below_trans' HB12.out hB)
              clear hA4 hB HA3 HO12 HR12 HQ12 HB12
              go_wp2_with fail
              refine HSB.out.mono ?_
              clear HSB
              rintro e w14 ⟨rfl, d2, rfl⟩
              have HO14 := Lib.hid (HO13.out.drewN d2)
              have HR14 := Lib.hid (HR13.out.drewN d2)
              have HB14 := Lib.hid (below_drewN HB13.out d2)
              clear HO13 HR13 HB13
              generalize w13.drewN d2 = w14 at *
              go_wp2_with fail
              refine (rcountS_any o oo n s0 2 w14 HO14.out).mono ?_
              rintro e w15 ⟨rfl, hB⟩
              have HO15 := Lib.hid (HO14.out.below hB)
              have HR15 := Lib.hid (HR14.out.below hB)
              have HB15 := Lib.hid (below_trans' HB14.out hB)
              clear hB HO14 HR14 HB14
              go_wp2_with fail
              refine (rcountS_any o oo n s0 1 w15 HO15.out).mono ?_
              rintro e w16 ⟨rfl, hB⟩
              have HR16 := Lib.hid (HR15.out.below hB)
              have HB16 := Lib.hid (below_trans' HB15.out hB)
              have hfs : (listS n s0 2).length + (listS n s0 1).length = n - 1 := fresh_sum HF.out (by omega)
              clear hB HO15 HR15 HB15
              generalize (listS n s0 2).length = x2 at *
              generalize (listS n s0 1).length = x1 at *
              have tt : ((x2 : Int) + (x1 : Int) != (n : Int) - 1) = false := by simp; omega
              go_wp2_with fail
              refine (list_sl b bb n s 4 w16 HR16.out).mono ?_
              rintro e w17 ⟨A5, C5, rfl, hA5, hB⟩
              have hlc := listS_len n s 4
              have HA5 := Lib.hid hA5
              have HR17 := Lib.hid (HR16.out.below hB)
              have HB17 := Lib.hid (below_trans' HB16.out hB)
              have hbw := HR16.out.row.1
              clear hA5 hB HR16 HB16 tt
              go_wp2_with fail
              refine (swing_any b bb n s w17 HR17.out).mono ?_
              rintro e w18 ⟨⟨v18, rfl⟩, hR, hg⟩
              have HR18 := Lib.hid hR
              have HA18 := Lib.hid (HA5.out.only hg hbw)
              have HB18 := Lib.hid (HB17.out.grown hg HB17.out.size (fun k hk => by cases hk; exact hbb))
              clear hR hg HR17 HA5 HB17
              go_wp2_with fail
              refine (list_sl b bb n (turnS 2 1 s) 1 w18 HR18.out).mono ?_
              rintro e w19 ⟨A6, C6, rfl, hA6, hB⟩
              rw [swing_free HNO.out] at hA6 ⊢
              have HSC := Lib.hid (same32_any A6 _ C6 _ A5 _ C5 _ w19 hA6.rd (HA18.out.below hB).rd (by unfold maxLen; omega) (by unfold maxLen; omega))
              rw [same32_lists, decide_eq_true rfl] at HSC
              have HR19 := Lib.hid (HR18.out.below hB)
              have HB19 := Lib.hid (below_trans' HB18.out hB)
              clear hA6 hB HA18 HR18 HB18
              go_wp2_with fail
              refine HSC.out.mono ?_
              clear HSC
              rintro e w20 ⟨rfl, d3, rfl⟩
              have HR20 := Lib.hid (HR19.out.drewN d3)
              have HB20 := Lib.hid (below_drewN HB19.out d3)
              clear HR19 HB19
              generalize w19.drewN d3 = w20 at *
              go_wp2_with fail
              refine (rcountS_any b bb n (turnS 2 1 s) 2 w20 HR20.out).mono ?_
              rintro e w21 ⟨rfl, hB⟩
              have HB21 := Lib.hid (below_trans' HB20.out hB)
              have hsu : (listS n (turnS 2 1 s) 2).length + (listS n s 4).length = n - 1 := swing_used HF.out HTI.out HNO.out (by omega)
              clear hB HR20 HB20
              generalize (listS n (turnS 2 1 s) 2).length = y2 at *
              generalize (listS n s 4).length = y4 at *
              have tu : ((y2 : Int) == (n : Int) - 1 - (y4 : Int)) = true := by simp; omega
              go_wp2_with fail
              go_ret
              exact ⟨rfl, HB21.out⟩
end Go.Proofs.Ytffdklcpkkcohaa
