/- Contract of the document's Told; what is told, and its words again. -/
import Derived.Test.YtlblnoipiappbaaTold
namespace Go.Proofs.Ytlblnoipiappbaa
open Go.RowKit
set_option maxRecDepth 100000 in
set_option maxHeartbeats 4000000 in
theorem rtold_any (s : ByteArray) (w : World) (hs : s.size ≤ 8388608) : Calls Try.prog 9 #[.string s] w fun e w' => e = .returned (.string (strOf (tellR (bys s)))) ∧ Below w.heap.size w w' := by
  obtain ⟨i0, hi, hz0, hz1, hz2⟩ := info_parts info5
  have HO0 := Lib.hid (one_own w (.int .u8 34) 5)
  have HB0 := Lib.hid ((Below.refl w.heap.size w).alloc (Nat.le_refl _) (.cells #[.int .u8 34] 5))
  go_enter Try.func9, Try.ntmps9
  go_wp2_with fail
  go_loopw [3, 4] (fun v i wr => ∃ p : Nat, p ≤ s.size ∧ i = .int .i64 p ∧ wr.ownsRow w.heap.size 5 1 v (tellTo ((bys s).take p)).length (bcells (tellTo ((bys s).take p))) ∧ Below w.heap.size w wr) (fun _ i _ => s.size - (intOf i).toNat)
  case atStart => exact ⟨0, by omega, rfl, HO0.out, HB0.out⟩
  case round =>
    obtain ⟨p, hp, rfl, hO, hB⟩ := hrel
    have HO := Lib.hid hO
    have HB := Lib.hid hB
    have hsz := hB.size
    have hlen := tellTo_len ((bys s).take p)
    rw [List.length_take, bys_len, Nat.min_eq_left hp] at hlen
    clear hO hB HO0 HB0
    by_cases hlt : p < s.size
    · have HTK : Hid ((bys s).take (p + 1) = (bys s).take p ++ [s[p].toNat]) := Lib.hid (by rw [List.take_add_one, bys_at s p hlt]; rfl)
      have hc : s[p].toNat < 256 := s[p].toNat_lt
      by_cases h1 : s[p].toNat = 34
      · have t1 : ((s[p].toNat : Int) == 34) = true := by simp; omega
        have HT : Hid (tellTo ((bys s).take (p + 1)) = tellTo ((bys s).take p) ++ [92, s[p].toNat]) := Lib.hid (by rw [HTK.out, tellTo_snoc]; congr 1; unfold escT; rw [if_pos (.inl h1)])
        clear h1
        go_wp2_with (at_builtin; go_must (refine wpList_append_own _ rfl (.tmp 32) (.tmp 34) 36 rfl w.heap.size 5 i0 (.int .u8 0) 1 1 Try.underlying36 hi hz0 hz1 hz2 rfl (by decide) _ _ _ rfl (HO.out.alloc _) ⟨wr.heap.size, 0, none⟩ 2 2 [.int .u8 92, .int .u8 (s[p].toNat : Int)] rfl rfl (cells_at wr [.int .u8 92, .int .u8 (s[p].toNat : Int)] _ _ rfl) (fun u hu => by simp at hu; rcases hu with rfl | rfl <;> rfl) (by unfold maxLen; omega) (by omega) (by simp; omega) ?_); intro v' w3 hown1 hgrow1 _; have HB3 := Lib.hid ((HB.out.alloc hsz _).grown hgrow1 (by simp; omega) (fun k hk => (HO.out.lt k hk).1)); have HO3 := Lib.hid hown1; clear hown1 hgrow1)
        exact ⟨⟨p + 1, by omega, by go_num, by rw [HT.out, List.length_append, bcells_append]; exact HO3.out, HB3.out⟩, by simp [intOf]; omega⟩
      have t1 : ((s[p].toNat : Int) == 34) = false := by simp; omega
      by_cases h2 : s[p].toNat = 92
      · have t2 : ((s[p].toNat : Int) == 92) = true := by simp; omega
        have HT : Hid (tellTo ((bys s).take (p + 1)) = tellTo ((bys s).take p) ++ [92, s[p].toNat]) := Lib.hid (by rw [HTK.out, tellTo_snoc]; congr 1; unfold escT; rw [if_pos (.inr h2)])
        clear h2 h1
        go_wp2_with (at_builtin; go_must (refine wpList_append_own _ rfl (.tmp 32) (.tmp 34) 36 rfl w.heap.size 5 i0 (.int .u8 0) 1 1 Try.underlying36 hi hz0 hz1 hz2 rfl (by decide) _ _ _ rfl (HO.out.alloc _) ⟨wr.heap.size, 0, none⟩ 2 2 [.int .u8 92, .int .u8 (s[p].toNat : Int)] rfl rfl (cells_at wr [.int .u8 92, .int .u8 (s[p].toNat : Int)] _ _ rfl) (fun u hu => by simp at hu; rcases hu with rfl | rfl <;> rfl) (by unfold maxLen; omega) (by omega) (by simp; omega) ?_); intro v' w3 hown1 hgrow1 _; have HB3 := Lib.hid ((HB.out.alloc hsz _).grown hgrow1 (by simp; omega) (fun k hk => (HO.out.lt k hk).1)); have HO3 := Lib.hid hown1; clear hown1 hgrow1)
        exact ⟨⟨p + 1, by omega, by go_num, by rw [HT.out, List.length_append, bcells_append]; exact HO3.out, HB3.out⟩, by simp [intOf]; omega⟩
      have t2 : ((s[p].toNat : Int) == 92) = false := by simp; omega
      by_cases h3 : s[p].toNat = 10
      · have t3 : ((s[p].toNat : Int) == 10) = true := by simp; omega
        have HT : Hid (tellTo ((bys s).take (p + 1)) = tellTo ((bys s).take p) ++ [92, 110]) := Lib.hid (by rw [HTK.out, tellTo_snoc]; congr 1; unfold escT; rw [if_neg (by omega), if_neg (by omega), if_pos h3])
        clear h3 h1 h2
        go_wp2_with (at_builtin; go_must (refine wpList_append_own _ rfl (.tmp 39) (.tmp 40) 36 rfl w.heap.size 5 i0 (.int .u8 0) 1 1 Try.underlying36 hi hz0 hz1 hz2 rfl (by decide) _ _ _ rfl (HO.out.alloc _) ⟨wr.heap.size, 0, none⟩ 2 2 [.int .u8 92, .int .u8 110] rfl rfl (cells_at wr [.int .u8 92, .int .u8 110] _ _ rfl) (fun u hu => by simp at hu; rcases hu with rfl | rfl <;> rfl) (by unfold maxLen; omega) (by omega) (by simp; omega) ?_); intro v' w3 hown1 hgrow1 _; have HB3 := Lib.hid ((HB.out.alloc hsz _).grown hgrow1 (by simp; omega) (fun k hk => (HO.out.lt k hk).1)); have HO3 := Lib.hid hown1; clear hown1 hgrow1)
        exact ⟨⟨p + 1, by omega, by go_num, by rw [HT.out, List.length_append, bcells_append]; exact HO3.out, HB3.out⟩, by simp [intOf]; omega⟩
      have t3 : ((s[p].toNat : Int) == 10) = false := by simp; omega
      by_cases h4 : s[p].toNat = 13
      · have t4 : ((s[p].toNat : Int) == 13) = true := by simp; omega
        have HT : Hid (tellTo ((bys s).take (p + 1)) = tellTo ((bys s).take p) ++ [92, 114]) := Lib.hid (by rw [HTK.out, tellTo_snoc]; congr 1; unfold escT; rw [if_neg (by omega), if_neg (by omega), if_neg h3, if_pos h4])
        clear h4 h1 h2 h3
        go_wp2_with (at_builtin; go_must (refine wpList_append_own _ rfl (.tmp 45) (.tmp 46) 36 rfl w.heap.size 5 i0 (.int .u8 0) 1 1 Try.underlying36 hi hz0 hz1 hz2 rfl (by decide) _ _ _ rfl (HO.out.alloc _) ⟨wr.heap.size, 0, none⟩ 2 2 [.int .u8 92, .int .u8 114] rfl rfl (cells_at wr [.int .u8 92, .int .u8 114] _ _ rfl) (fun u hu => by simp at hu; rcases hu with rfl | rfl <;> rfl) (by unfold maxLen; omega) (by omega) (by simp; omega) ?_); intro v' w3 hown1 hgrow1 _; have HB3 := Lib.hid ((HB.out.alloc hsz _).grown hgrow1 (by simp; omega) (fun k hk => (HO.out.lt k hk).1)); have HO3 := Lib.hid hown1; clear hown1 hgrow1)
        exact ⟨⟨p + 1, by omega, by go_num, by rw [HT.out, List.length_append, bcells_append]; exact HO3.out, HB3.out⟩, by simp [intOf]; omega⟩
      have t4 : ((s[p].toNat : Int) == 13) = false := by simp; omega
      by_cases h5 : s[p].toNat = 9
      · have t5 : ((s[p].toNat : Int) == 9) = true := by simp; omega
        have HT : Hid (tellTo ((bys s).take (p + 1)) = tellTo ((bys s).take p) ++ [92, 116]) := Lib.hid (by rw [HTK.out, tellTo_snoc]; congr 1; unfold escT; rw [if_neg (by omega), if_neg (by omega), if_neg h3, if_neg h4, if_pos h5])
        clear h5 h1 h2 h3 h4
        go_wp2_with (at_builtin; go_must (refine wpList_append_own _ rfl (.tmp 51) (.tmp 52) 36 rfl w.heap.size 5 i0 (.int .u8 0) 1 1 Try.underlying36 hi hz0 hz1 hz2 rfl (by decide) _ _ _ rfl (HO.out.alloc _) ⟨wr.heap.size, 0, none⟩ 2 2 [.int .u8 92, .int .u8 116] rfl rfl (cells_at wr [.int .u8 92, .int .u8 116] _ _ rfl) (fun u hu => by simp at hu; rcases hu with rfl | rfl <;> rfl) (by unfold maxLen; omega) (by omega) (by simp; omega) ?_); intro v' w3 hown1 hgrow1 _; have HB3 := Lib.hid ((HB.out.alloc hsz _).grown hgrow1 (by simp; omega) (fun k hk => (HO.out.lt k hk).1)); have HO3 := Lib.hid hown1; clear hown1 hgrow1)
        exact ⟨⟨p + 1, by omega, by go_num, by rw [HT.out, List.length_append, bcells_append]; exact HO3.out, HB3.out⟩, by simp [intOf]; omega⟩
      have t5 : ((s[p].toNat : Int) == 9) = false := by simp; omega
      by_cases h6 : 32 ≤ s[p].toNat ∧ s[p].toNat ≤ 126
      · have h6a := h6.1
        have h6b := h6.2
        have HT : Hid (tellTo ((bys s).take (p + 1)) = tellTo ((bys s).take p) ++ [s[p].toNat]) := Lib.hid (by rw [HTK.out, tellTo_snoc]; congr 1; unfold escT; rw [if_neg (by omega), if_pos h6])
        clear h6 h1 h2 h3 h4 h5
        go_wp2_with (at_builtin; go_must (refine wpList_append_own _ rfl (.tmp 61) (.tmp 63) 36 rfl w.heap.size 5 i0 (.int .u8 0) 1 1 Try.underlying36 hi hz0 hz1 hz2 rfl (by decide) _ _ _ rfl (HO.out.alloc _) ⟨wr.heap.size, 0, none⟩ 1 1 [.int .u8 (s[p].toNat : Int)] rfl rfl (cells_at wr [.int .u8 (s[p].toNat : Int)] _ _ rfl) (fun u hu => by simp at hu; subst hu; rfl) (by unfold maxLen; omega) (by omega) (by simp; omega) ?_); intro v' w3 hown1 hgrow1 _; have HB3 := Lib.hid ((HB.out.alloc hsz _).grown hgrow1 (by simp; omega) (fun k hk => (HO.out.lt k hk).1)); have HO3 := Lib.hid hown1; clear hown1 hgrow1)
        exact ⟨⟨p + 1, by omega, by go_num, by rw [HT.out, List.length_append, bcells_append]; exact HO3.out, HB3.out⟩, by simp [intOf]; omega⟩
      have HT : Hid (tellTo ((bys s).take (p + 1)) = tellTo ((bys s).take p) ++ [92, 120, hexD (s[p].toNat / 16), hexD (s[p].toNat % 16)]) := Lib.hid (by rw [HTK.out, tellTo_snoc]; congr 1; unfold escT; rw [if_neg (by omega), if_neg h6, if_neg h3, if_neg h4, if_neg h5])
      have HOd : Hid (wr.drew.ownsRow w.heap.size 5 1 u3 (tellTo ((bys s).take p)).length (bcells (tellTo ((bys s).take p)))) := Lib.hid HO.out.drew
      by_cases h7 : s[p].toNat < 32
      · clear h1 h2 h3 h4 h5 h6
        go_wp2_with fail
        obtain ⟨d1, hd1⟩ : ∃ d1 : Nat, s[p].toNat / 16 = d1 := ⟨_, rfl⟩
        obtain ⟨d2, hd2⟩ : ∃ d2 : Nat, s[p].toNat % 16 = d2 := ⟨_, rfl⟩
        have e1 : (s[p].toNat : Int) / 16 = (d1 : Int) := by omega
        have e2 : (s[p].toNat : Int) % 16 = (d2 : Int) := by omega
        have e3 : (s[p].toNat : Int).tdiv 16 = (d1 : Int) := by rw [Int.tdiv_eq_ediv_of_nonneg (by omega)]; exact e1
        have e4 : (s[p].toNat : Int).tmod 16 = (d2 : Int) := by rw [Int.tmod_eq_emod_of_nonneg (by omega)]; exact e2
        have b1 : d1 < 16 := by omega
        have b2 : d2 < 16 := by omega
        have b3 : (d1 : Int) < 16 := by omega
        have b4 : (d2 : Int) < 16 := by omega
        have e5 : IntKind.u8.wrap (d1 : Int) = (d1 : Int) := IntWalk.u8_in _ (by omega)
        have e6 : IntKind.u8.wrap (d2 : Int) = (d2 : Int) := IntWalk.u8_in _ (by omega)
        have e7 : (d1 : Int) % 256 = (d1 : Int) := by omega
        have g1 := digit_at ⟨d1, b1⟩
        have g2 := digit_at ⟨d2, b2⟩
        simp only at g1 g2
        rw [hd1, hd2] at HT
        generalize hexD d1 = k1 at *
        generalize hexD d2 = k2 at *
        clear hd1 hd2
        go_region_law (refine step_append_own rfl (.tmp 16) (.tmp 23) 36 rfl w.heap.size 5 i0 (.int .u8 0) 1 1 Try.underlying36 hi hz0 hz1 hz2 rfl (by decide) u3 _ _ (by simp [Act.eval]) (HOd.out.alloc _) ⟨wr.heap.size, 0, none⟩ 4 4 [.int .u8 92, .int .u8 120, .int .u8 (k1 : Int), .int .u8 (k2 : Int)] (by simp [Act.eval]) rfl (cells_at wr.drew [.int .u8 92, .int .u8 120, .int .u8 (k1 : Int), .int .u8 (k2 : Int)] _ _ rfl) (fun u hu => by simp at hu; rcases hu with rfl | rfl | rfl | rfl <;> rfl) (by unfold maxLen; omega) (by omega) (by simp; omega) ?_; intro v' w3 hown1 hgrow1 _; have HB3 := Lib.hid ((HB.out.drew.alloc (show w.heap.size ≤ wr.drew.heap.size from hsz) _).grown hgrow1 (by simp; omega) (fun k hk => (HO.out.lt k hk).1)); have HO3 := Lib.hid hown1; clear hown1 hgrow1)
        all_goals
          go_wp2_with fail
          exact ⟨⟨p + 1, by omega, by go_num, by rw [HT.out, List.length_append, bcells_append]; exact HO3.out, HB3.out⟩, by simp [intOf]; omega⟩
      · have h8 : 126 < s[p].toNat := by omega
        clear h1 h2 h3 h4 h5 h6
        go_wp2_with fail
        obtain ⟨d1, hd1⟩ : ∃ d1 : Nat, s[p].toNat / 16 = d1 := ⟨_, rfl⟩
        obtain ⟨d2, hd2⟩ : ∃ d2 : Nat, s[p].toNat % 16 = d2 := ⟨_, rfl⟩
        have e1 : (s[p].toNat : Int) / 16 = (d1 : Int) := by omega
        have e2 : (s[p].toNat : Int) % 16 = (d2 : Int) := by omega
        have e3 : (s[p].toNat : Int).tdiv 16 = (d1 : Int) := by rw [Int.tdiv_eq_ediv_of_nonneg (by omega)]; exact e1
        have e4 : (s[p].toNat : Int).tmod 16 = (d2 : Int) := by rw [Int.tmod_eq_emod_of_nonneg (by omega)]; exact e2
        have b1 : d1 < 16 := by omega
        have b2 : d2 < 16 := by omega
        have b3 : (d1 : Int) < 16 := by omega
        have b4 : (d2 : Int) < 16 := by omega
        have e5 : IntKind.u8.wrap (d1 : Int) = (d1 : Int) := IntWalk.u8_in _ (by omega)
        have e6 : IntKind.u8.wrap (d2 : Int) = (d2 : Int) := IntWalk.u8_in _ (by omega)
        have e7 : (d1 : Int) % 256 = (d1 : Int) := by omega
        have g1 := digit_at ⟨d1, b1⟩
        have g2 := digit_at ⟨d2, b2⟩
        simp only at g1 g2
        rw [hd1, hd2] at HT
        generalize hexD d1 = k1 at *
        generalize hexD d2 = k2 at *
        clear hd1 hd2
        go_region_law (refine step_append_own rfl (.tmp 16) (.tmp 23) 36 rfl w.heap.size 5 i0 (.int .u8 0) 1 1 Try.underlying36 hi hz0 hz1 hz2 rfl (by decide) u3 _ _ (by simp [Act.eval]) (HOd.out.alloc _) ⟨wr.heap.size, 0, none⟩ 4 4 [.int .u8 92, .int .u8 120, .int .u8 (k1 : Int), .int .u8 (k2 : Int)] (by simp [Act.eval]) rfl (cells_at wr.drew [.int .u8 92, .int .u8 120, .int .u8 (k1 : Int), .int .u8 (k2 : Int)] _ _ rfl) (fun u hu => by simp at hu; rcases hu with rfl | rfl | rfl | rfl <;> rfl) (by unfold maxLen; omega) (by omega) (by simp; omega) ?_; intro v' w3 hown1 hgrow1 _; have HB3 := Lib.hid ((HB.out.drew.alloc (show w.heap.size ≤ wr.drew.heap.size from hsz) _).grown hgrow1 (by simp; omega) (fun k hk => (HO.out.lt k hk).1)); have HO3 := Lib.hid hown1; clear hown1 hgrow1)
        all_goals
          go_wp2_with fail
          exact ⟨⟨p + 1, by omega, by go_num, by rw [HT.out, List.length_append, bcells_append]; exact HO3.out, HB3.out⟩, by simp [intOf]; omega⟩
    · obtain rfl : p = s.size := by omega
      have htk : (bys s).take s.size = bys s := List.take_of_length_le (by rw [bys_len]; omega)
      rw [htk] at HO hlen
      have hcv2 : ∀ W v n, W.ownsRow w.heap.size 5 1 v n (bcells (tellR (bys s))) → (convert 36 9 v).run Try.prog W = .ok (.string (strOf (tellR (bys s)))) W := fun W v n h => conv_own h (by
        intro b hb
        rcases List.mem_append.1 hb with hb | hb
        · exact tellTo_lt _ (bys_lt s) b hb
        · simp at hb; omega)
      have HCV := Lib.hid hcv2
      clear htk hcv2
      go_wp2_with (at_builtin; go_must (refine wpList_append_own _ rfl (.tmp 65) (.tmp 66) 36 rfl w.heap.size 5 i0 (.int .u8 0) 1 1 Try.underlying36 hi hz0 hz1 hz2 rfl (by decide) _ _ _ rfl (HO.out.alloc _) ⟨wr.heap.size, 0, none⟩ 1 1 [.int .u8 34] rfl rfl (cells_at wr [.int .u8 34] _ _ rfl) (fun u hu => by simp at hu; subst hu; rfl) (by unfold maxLen; omega) (by omega) (by simp; omega) ?_); intro v' w3 hown1 hgrow1 _; have HB3 := Lib.hid ((HB.out.alloc hsz _).grown hgrow1 (by simp; omega) (fun k hk => (HO.out.lt k hk).1)); have hcv3 := HCV.out w3 v' _ (by unfold tellR; rw [bcells_append]; exact hown1); clear hown1 hgrow1)
      go_ret
      exact ⟨rfl, HB3.out⟩
theorem hexV_hexD : ∀ d : Fin 16, hexV (hexD d.val) = (d.val : Int) := by decide +kernel
theorem quo_esc1 (c : Nat) (hc : c < 256) (rest : List Nat) : quoR (escT c ++ rest) = (quoR rest).map fun x => (c :: x.1, x.2 + (escT c).length) := by
  have two : ∀ b : Nat, escL b = some c → quoR (92 :: b :: rest) = (quoR rest).map fun x => (c :: x.1, x.2 + 2) := fun b hb => by
    have h := quo_esc (L := 92 :: b :: rest) (i := 0) (b := c) (n := 1) rfl (escR_one (c := b) rfl hb)
    simpa using h
  unfold escT
  by_cases h1 : c = 34 ∨ c = 92
  · rw [if_pos h1]
    exact two c (by unfold escL; rw [if_pos h1])
  rw [if_neg h1]
  by_cases h2 : 32 ≤ c ∧ c ≤ 126
  · rw [if_pos h2]
    have h := quo_one (L := c :: rest) (i := 0) (c := c) rfl (by omega) (by omega) (by omega)
    simpa using h
  rw [if_neg h2]
  by_cases h3 : c = 10
  · subst h3; exact two 110 rfl
  rw [if_neg h3]
  by_cases h4 : c = 13
  · subst h4; exact two 114 rfl
  rw [if_neg h4]
  by_cases h5 : c = 9
  · subst h5; exact two 116 rfl
  rw [if_neg h5]
  have e1 := hexV_hexD ⟨c / 16, by omega⟩
  have e2 := hexV_hexD ⟨c % 16, by omega⟩
  simp only at e1 e2
  have he := escR_hex (L := 92 :: 120 :: hexD (c / 16) :: hexD (c % 16) :: rest) (i := 1) rfl rfl rfl
  rw [e1, e2, if_pos ⟨by omega, by omega⟩, show 16 * ((c / 16 : Nat) : Int).toNat + ((c % 16 : Nat) : Int).toNat = c by simp only [Int.toNat_natCast]; omega] at he
  have h := quo_esc (L := 92 :: 120 :: hexD (c / 16) :: hexD (c % 16) :: rest) (i := 0) (b := c) (n := 3) rfl he
  simpa using h
theorem quo_tell (l : List Nat) (hl : ∀ b ∈ l, b < 256) : quoR (l.flatMap escT ++ [34]) = some (l, (l.flatMap escT).length + 1) := by
  induction l with
  | nil => rw [List.flatMap_nil, List.nil_append, quoR, if_pos rfl]; rfl
  | cons c r ih =>
    rw [List.flatMap_cons, List.append_assoc, quo_esc1 c (hl c (by simp)), ih (fun b hb => hl b (by simp [hb]))]
    simp; omega
theorem words_tell (l : List Nat) (hl : ∀ b ∈ l, b < 256) : wordsR (tellR l) = some [(l, true)] := by
  have hv : wordV (tellR l) = some (l, (l.flatMap escT).length + 1 + 1, true) := by
    unfold tellR tellTo
    rw [List.cons_append]
    simp only [wordV, if_true]
    rw [quo_tell l hl]; rfl
  rw [wordsR_some hv, if_pos (by simp [tellR, tellTo])]
end Go.Proofs.Ytlblnoipiappbaa
