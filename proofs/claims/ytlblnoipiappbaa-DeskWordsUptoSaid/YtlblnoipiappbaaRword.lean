/- Contract of the reference's word. -/
import Derived.Test.YtlblnoipiappbaaResc
namespace Go.Proofs.Ytlblnoipiappbaa
open Go.RowKit
theorem own_empty (w : World) (e size : Nat) : (w.alloc (.cells #[] e)).ownsRow w.heap.size e size (.slice (some ⟨w.heap.size, 0, none⟩) 0 0) 0 [] :=
  World.ownsRow_made w #[] 0 (Nat.le_refl _) (by simp [maxLen]) (by simp)
def RwordPost (s : ByteArray) (p : Nat) (w : World) (e : Ending) (w' : World) : Prop :=
  Below w.heap.size w w' ∧ ((wordV ((bys s).drop p) = none ∧ ∃ x q, e = .returned (.tuple #[.string x, .int .i64 0, .bool q])) ∨
    ∃ (c : List Nat) (n : Nat) (q : Bool), wordV ((bys s).drop p) = some (c, n, q) ∧ e = .returned (.tuple #[.string (strOf c), .int .i64 (n : Int), .bool q]))
structure RquoI (s : ByteArray) (p i : Nat) (acc : List Nat) : Prop where
  pos : p + 1 ≤ i
  len : acc.length ≤ i
  small : ∀ b ∈ acc, b < 256
  so : quoR ((bys s).drop (p + 1)) = (quoR ((bys s).drop i)).map fun x => (acc ++ x.1, x.2 + (i - (p + 1)))
theorem escR_len {l : List Nat} {b n : Nat} (hl : ∀ x ∈ l, x < 256) (h : escR l = some (b, n)) : 1 ≤ n ∧ n ≤ l.length ∧ b < 256 := by
  unfold escR at h
  split at h
  · cases h
  · rename_i c r
    have hc : c < 256 := hl c (by simp)
    split at h
    · rename_i b' hb'
      cases h
      have := escL_lt hc hb'
      simp; omega
    · split at h
      · split at h
        · rename_i h1 h2 r' 
          split at h
          · cases h
            have := hexV_le h1
            have := hexV_le h2
            simp; omega
          · cases h
        · cases h
      · cases h
set_option maxRecDepth 100000 in
set_option maxHeartbeats 4000000 in
theorem rword_any (s : ByteArray) (p : Nat) (w : World) (hs : s.size ≤ 8388608) (hp : p ≤ s.size) : Calls Try.prog 14 #[.string s, .int .i64 (p : Int)] w (RwordPost s p w) := by
  obtain ⟨i0, hi, hz0, hz1, hz2⟩ := info_parts info5
  by_cases hlt : p < s.size
  · have HC0 := Lib.hid (drop_at (bys_at s p hlt))
    have hd1 : decide (s.size ≤ p) = false := by simp; omega
    by_cases h34 : s[p].toNat = 34
    · have t34 : ((s[p].toNat : Int) != 34) = false := by simp; omega
      have HWV : Hid (wordV ((bys s).drop p) = (quoR ((bys s).drop (p + 1))).map fun x => (x.1, x.2 + 1, true)) := Lib.hid (by
        rw [HC0.out, h34]; simp only [wordV, if_true])
      clear h34
      go_enter Try.func14, Try.ntmps14
      go_wp2_with fail
      have HO0 := Lib.hid (own_empty w 5 1)
      have HB0 : Hid (Below w.heap.size w (w.alloc (.cells #[] 5))) := Lib.hid ((Below.refl _ _).alloc (Nat.le_refl _) _)
      go_loopw [8, 9] (fun v i wr => ∃ (i' : Nat) (acc : List Nat), i' ≤ s.size ∧ i = .int .i64 i' ∧ RquoI s p i' acc ∧ wr.ownsRow w.heap.size 5 1 v acc.length (bcells acc) ∧ Below w.heap.size w wr) (fun _ i _ => s.size - (intOf i).toNat)
      case atStart => exact ⟨p + 1, [], by omega, by go_num, ⟨by omega, by simp, by simp, by simp⟩, HO0.out, HB0.out⟩
      case round =>
        obtain ⟨i, acc, hi', rfl, hQ, hO, hB⟩ := hrel
        have HQ := Lib.hid hQ
        have HO := Lib.hid hO
        have HB := Lib.hid hB
        have hp1 := hQ.pos
        have hsz := hB.size
        have hal := hQ.len
        clear hQ hO hB HO0 HB0
        by_cases hlt2 : i < s.size
        · have HAT := Lib.hid (bys_at s i hlt2)
          have hlt256 : s[i].toNat < 256 := s[i].toNat_lt
          by_cases h1 : s[i].toNat = 34
          · have t1 : ((s[i].toNat : Int) == 34) = true := by simp; omega
            have hcv := conv_own HO.out HQ.out.small
            have HE : Hid (wordV ((bys s).drop p) = some (acc, i + 1 - p, true)) := Lib.hid (by
              have h := HAT.out
              rw [h1] at h
              rw [HWV.out, HQ.out.so, quo_end h]
              simp; omega)
            clear h1
            go_wp2_with fail
            refine bodyPost_ret (v := .tuple #[.string (strOf acc), .int .i64 ((i + 1 - p : Nat) : Int), .bool true]) (by simp [results, Try.results14, go_sem]; try go_num) rfl ?_
            exact ⟨HB.out, .inr ⟨acc, _, true, HE.out, rfl⟩⟩
          · have t1 : ((s[i].toNat : Int) == 34) = false := by simp; omega
            by_cases h2 : s[i].toNat < 32 ∨ 126 < s[i].toNat
            · have HE : Hid (wordV ((bys s).drop p) = none) := Lib.hid (by rw [HWV.out, HQ.out.so, quo_bad HAT.out h1 h2]; rfl)
              rcases h2 with h2 | h2
              all_goals
                clear h1
                go_wp2_with fail
                refine bodyPost_ret (v := .tuple #[.string ⟨#[]⟩, .int .i64 0, .bool false]) (by simp [results, Try.results14, go_sem]) rfl ?_
                exact ⟨HB.out, .inl ⟨HE.out, _, _, rfl⟩⟩
            · have h2a : ¬ s[i].toNat < 32 := fun h => h2 (.inl h)
              have h2b : ¬ 126 < s[i].toNat := fun h => h2 (.inr h)
              by_cases h3 : s[i].toNat = 92
              · have t3 : ((s[i].toNat : Int) != 92) = false := by simp; omega
                have HAT2 : Hid ((bys s)[i]? = some 92) := Lib.hid (by rw [← h3]; exact HAT.out)
                have HC := Lib.hid (resc_any s (i + 1) wr hs (by omega))
                clear h1 h2 h3
                go_wp2_with fail
                refine HC.out.mono ?_
                rintro e w' ⟨⟨k, rfl⟩, ⟨he, rfl⟩ | ⟨b, n, he, rfl⟩⟩
                · have HE : Hid (wordV ((bys s).drop p) = none) := Lib.hid (by rw [HWV.out, HQ.out.so, quo_none HAT2.out he]; rfl)
                  clear he HC
                  go_wp2_with fail
                  refine bodyPost_ret (v := .tuple #[.string ⟨#[]⟩, .int .i64 0, .bool false]) (by simp [results, Try.results14, go_sem]) rfl ?_
                  exact ⟨below_drewN HB.out _, .inl ⟨HE.out, _, _, rfl⟩⟩
                · have hn := escR_len (fun x hx => bys_lt s x (List.mem_of_mem_drop hx)) he
                  rw [List.length_drop, bys_len] at hn
                  obtain ⟨hn1, hn2, hb⟩ := hn
                  have HQ' : Hid (RquoI s p (i + 1 + n) (acc ++ [b])) := Lib.hid ⟨by omega, by simp; omega, by
                    intro x hx
                    rcases List.mem_append.1 hx with hx | hx
                    · exact HQ.out.small x hx
                    · simp at hx; omega, by
                    rw [HQ.out.so, quo_esc HAT2.out he, Option.map_map]
                    congr 1; funext x; simp [Function.comp]; omega⟩
                  have HOk : Hid ((wr.drewN k).ownsRow w.heap.size 5 1 u8 acc.length (bcells acc)) := Lib.hid HO.out
                  have HBk := Lib.hid (below_drewN HB.out k)
                  have hszk := HBk.out.size
                  have tn : ((n : Int) == 0) = false := by simp; omega
                  generalize wr.drewN k = wk at *
                  clear he HC
                  go_wp2_with (at_builtin; go_must (refine wpList_append_own _ rfl (.tmp 100) (.tmp 102) 36 rfl w.heap.size 5 i0 (.int .u8 0) 1 1 Try.underlying36 hi hz0 hz1 hz2 rfl (by decide) _ _ _ rfl (HOk.out.alloc _) ⟨wk.heap.size, 0, none⟩ 1 1 [.int .u8 (b : Int)] rfl rfl (cell_one_at wk _ _ _ rfl) (fun u hu => by simp at hu; subst hu; rfl) (by unfold maxLen; omega) (by omega) (by simp; omega) ?_); intro v' w1 hown1 hgrow1 _; have HB1 := Lib.hid ((HBk.out.alloc hszk _).grown hgrow1 (by simp; omega) (fun q hq => (HOk.out.lt q hq).1)); have HO1 := Lib.hid hown1; clear hown1 hgrow1)
                  exact ⟨⟨i + 1 + n, acc ++ [b], by omega, by go_num, HQ'.out, by rw [bcells_snoc, List.length_append]; exact HO1.out, HB1.out⟩, by simp [intOf]; omega⟩
              · have t3 : ((s[i].toNat : Int) != 92) = true := by simp; omega
                have HQ' : Hid (RquoI s p (i + 1) (acc ++ [s[i].toNat])) := Lib.hid ⟨by omega, by simp; omega, by
                  intro b hb
                  rcases List.mem_append.1 hb with hb | hb
                  · exact HQ.out.small b hb
                  · simp at hb; omega, by
                  rw [HQ.out.so, quo_one HAT.out h1 h2 h3, Option.map_map]
                  congr 1; funext x; simp [Function.comp]; omega⟩
                clear h1 h2 h3
                go_wp2_with (at_builtin; go_must (refine wpList_append_own _ rfl (.tmp 83) (.tmp 87) 36 rfl w.heap.size 5 i0 (.int .u8 0) 1 1 Try.underlying36 hi hz0 hz1 hz2 rfl (by decide) _ _ _ rfl (HO.out.alloc _) ⟨wr.heap.size, 0, none⟩ 1 1 [.int .u8 (s[i].toNat : Int)] rfl rfl (cell_one_at wr _ _ _ rfl) (fun u hu => by simp at hu; subst hu; rfl) (by unfold maxLen; omega) (by omega) (by simp; omega) ?_); intro v' w1 hown1 hgrow1 _; have HB1 := Lib.hid ((HB.out.alloc hsz _).grown hgrow1 (by simp; omega) (fun q hq => (HO.out.lt q hq).1)); have HO1 := Lib.hid hown1; clear hown1 hgrow1)
                exact ⟨⟨i + 1, acc ++ [s[i].toNat], by omega, by go_num, HQ'.out, by rw [bcells_snoc, List.length_append]; exact HO1.out, HB1.out⟩, by simp [intOf]; omega⟩
        · have HE : Hid (wordV ((bys s).drop p) = none) := Lib.hid (by rw [HWV.out, HQ.out.so, quo_nil (by rw [bys_len]; omega)]; rfl)
          go_wp2_with fail
          refine bodyPost_ret (v := .tuple #[.string ⟨#[]⟩, .int .i64 0, .bool false]) (by simp [results, Try.results14, go_sem]) rfl ?_
          exact ⟨HB.out, .inl ⟨HE.out, _, _, rfl⟩⟩
    · have t34 : ((s[p].toNat : Int) != 34) = true := by simp; omega
      have HWV : Hid (∀ n, plainLen ((bys s).drop p) = n → RwordPost s p w (.returned (.tuple #[.string (s.extract p (p + n)), .int .i64 (n : Int), .bool false])) w) := Lib.hid (by
        intro n hn
        have hv : wordV ((bys s).drop p) = if plainLen ((bys s).drop p) = 0 then none else some (((bys s).drop p).take (plainLen ((bys s).drop p)), plainLen ((bys s).drop p), false) := by
          rw [HC0.out]; simp only [wordV]; rw [if_neg h34]
        refine ⟨Below.refl _ _, ?_⟩
        rw [hn] at hv
        by_cases h0 : n = 0
        · subst h0
          exact .inl ⟨by rw [hv, if_pos rfl], _, _, rfl⟩
        · refine .inr ⟨_, _, _, by rw [hv, if_neg h0], ?_⟩
          rw [← strOf_bys (s.extract p (p + n)), bys_extract, show p + n - p = n by omega])
      clear h34 HC0
      go_enter Try.func14, Try.ntmps14
      go_wp2_with fail
      go_loop [7] (fun i => ∃ q : Nat, p ≤ q ∧ q ≤ s.size ∧ i = .int .i64 q ∧ plainLen ((bys s).drop p) = (q - p) + plainLen ((bys s).drop q)) (fun i => s.size - (intOf i).toNat)
      case atStart => exact ⟨p, by omega, by omega, rfl, by simp⟩
      case round =>
        obtain ⟨q, hpq, hq, rfl, hP⟩ := hrel
        have HP := Lib.hid hP
        clear hP
        have HST : Hid (plainLen ((bys s).drop q) = 0 → RwordPost s p w (.returned (.tuple #[.string (s.extract p q), .int .i64 ((q : Int) - (p : Int)), .bool false])) w) := Lib.hid (fun h => by
          have h1 := HWV.out (q - p) (by rw [HP.out, h]; rfl)
          rw [show p + (q - p) = q by omega, show ((q - p : Nat) : Int) = (q : Int) - (p : Int) by omega] at h1
          exact h1)
        have e1 : 0 ≤ (p : Int) := by omega
        have e2 : (p : Int) ≤ (q : Int) := by omega
        have e3 : (q : Int) ≤ (s.size : Int) := by omega
        have e4 : IntKind.i64.wrap ((q : Int) - (p : Int)) = (q : Int) - (p : Int) := IntWalk.i64_in _ (by omega)
        by_cases hlt2 : q < s.size
        · have HAT := Lib.hid (bys_at s q hlt2)
          have hlt256 : s[q].toNat < 256 := s[q].toNat_lt
          by_cases hc : 32 < s[q].toNat ∧ s[q].toNat < 127 ∧ s[q].toNat ≠ 34
          · have HN := Lib.hid (plain_yes HAT.out hc.1 hc.2.1 hc.2.2)
            have t1 : 33 ≤ s[q].toNat := hc.1
            have t2 : s[q].toNat ≤ 126 := by have := hc.2.1; omega
            have t3 : ((s[q].toNat : Int) != 34) = true := by simp; have := hc.2.2; omega
            clear hc
            go_wp2_with fail
            go_round
            case rel => exact ⟨q + 1, by omega, by omega, by go_num, by rw [HP.out, HN.out]; omega⟩
            case measure => simp [intOf]; omega
          · have HE := Lib.hid (HST.out (plain_no HAT.out hc))
            by_cases h1 : 33 ≤ s[q].toNat
            · by_cases h2 : s[q].toNat ≤ 126
              · have t3 : ((s[q].toNat : Int) != 34) = false := by simp; omega
                clear hc
                go_wp2_with fail
                refine bodyPost_ret (v := .tuple #[.string (s.extract p q), .int .i64 ((q : Int) - (p : Int)), .bool false]) (by simp [results, Try.results14, go_sem]) rfl ?_
                exact HE.out
              · clear hc
                go_wp2_with fail
                refine bodyPost_ret (v := .tuple #[.string (s.extract p q), .int .i64 ((q : Int) - (p : Int)), .bool false]) (by simp [results, Try.results14, go_sem]) rfl ?_
                exact HE.out
            · clear hc
              go_wp2_with fail
              refine bodyPost_ret (v := .tuple #[.string (s.extract p q), .int .i64 ((q : Int) - (p : Int)), .bool false]) (by simp [results, Try.results14, go_sem]) rfl ?_
              exact HE.out
        · have HE := Lib.hid (HST.out (plain_end (by rw [bys_len]; omega)))
          go_wp2_with fail
          refine bodyPost_ret (v := .tuple #[.string (s.extract p q), .int .i64 ((q : Int) - (p : Int)), .bool false]) (by simp [results, Try.results14, go_sem]) rfl ?_
          exact HE.out
  · have HN : Hid (wordV ((bys s).drop p) = none) := Lib.hid (by rw [List.drop_eq_nil_of_le (by rw [bys_len]; omega)]; rfl)
    go_enter Try.func14, Try.ntmps14
    go_wp2_with fail
    refine bodyPost_ret (v := .tuple #[.string ⟨#[]⟩, .int .i64 0, .bool false]) (by simp [results, Try.results14, go_sem]) rfl ?_
    exact ⟨Below.refl _ _, .inl ⟨HN.out, _, _, rfl⟩⟩
end Go.Proofs.Ytlblnoipiappbaa
