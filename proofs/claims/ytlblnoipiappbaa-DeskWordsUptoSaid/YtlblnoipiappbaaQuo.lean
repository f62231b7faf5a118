/- Contract of desk.quoted. -/
import Derived.Test.YtlblnoipiappbaaStep
import Derived.RegionTactic
import Derived.Deep.RegionLaw
import Derived.Laws.AppendOwnNone
import Derived.Deep.MidRow
import Derived.StillTailTactics
import Derived.Laws.IdiomStrings
import Derived.Lib.BufferRead
namespace Go.Proofs.Ytlblnoipiappbaa
open Go.RowKit
theorem info5 : (Try.prog.info? 5).map (fun i => (i.zero, i.size, i.bytes)) = some (some (.int .u8 0), 1, 1) := by kernel_rfl
/-- bytes as cells -/
def bcells (l : List Nat) : List Value := l.map fun (b : Nat) => Value.int .u8 (b : Int)
theorem bcells_snoc (l : List Nat) (b : Nat) : bcells (l ++ [b]) = bcells l ++ [.int .u8 (b : Int)] := by simp [bcells]
theorem conv_own {w : World} {B n : Nat} {v : Value} {acc : List Nat} (h : w.ownsRow B 5 1 v n (bcells acc)) (hb : ∀ b ∈ acc, b < 256) : (convert 36 9 v).run Try.prog w = .ok (.string (strOf acc)) w := by
  obtain ⟨hl, ⟨rfl, rfl⟩ | ⟨g, cap, cur, rfl, hb', hg, hnc, hcm, hcs, htake⟩⟩ := h
  · have : acc = [] := by
      cases acc with
      | nil => rfl
      | cons a r => simp [bcells] at hl
    subst this
    exact Lib.run_convert_nil_bytes (P := Try.prog) w 36 9 5 0 Try.underlying36 Try.underlying5 Try.underlying9
  · have hlen : acc.length = n := by simpa [bcells] using hl
    have hcell : ∀ j u, (bcells acc)[j]? = some u → w.cell? ⟨g, j, none⟩ = some u := by
      intro j u hu
      have hj : j < n := by
        have := (List.getElem?_eq_some_iff.1 hu).1
        simpa [bcells, hlen] using this
      rw [cell_of_row w g j cur 5 (0, 0) hg, ← hu, ← htake, List.getElem?_take, if_pos (by omega)]
      simp
    have := run_convert_bytes_back (P := Try.prog) w 36 9 5 ⟨g, 0, none⟩ cap (acc.map UInt8.ofNat) Try.underlying36 Try.underlying5 Try.underlying9 (fun j hj => by
      rw [Addr.add_mid, Nat.zero_add]
      simp only [List.length_map] at hj
      rw [hcell j (.int .u8 (acc[j] : Int)) (by simp [bcells, hj])]
      have hm := hb acc[j] (List.getElem_mem hj)
      have e : (UInt8.ofNat acc[j]).toNat = acc[j] := by simpa using Nat.mod_eq_of_lt hm
      simp [e])
    rw [List.length_map, hlen] at this
    exact this
theorem hex_fin : ∀ a b : Fin 16, IntKind.u8.wrap (bits BinOp.or .i64 (IntKind.i64.wrap ((a.val : Int) * 16)) (b.val : Int)) = ((16 * a.val + b.val : Nat) : Int) := by decide +kernel
theorem hex_two (v1 v2 : Int) (h1 : 0 ≤ v1) (h2 : v1 ≤ 15) (h3 : 0 ≤ v2) (h4 : v2 ≤ 15) : IntKind.u8.wrap (bits BinOp.or .i64 (IntKind.i64.wrap (v1 * 16)) v2) = ((16 * v1.toNat + v2.toNat : Nat) : Int) := by
  have h := hex_fin ⟨v1.toNat, by omega⟩ ⟨v2.toNat, by omega⟩
  simp only [Int.toNat_of_nonneg h1, Int.toNat_of_nonneg h3] at h
  exact h
def QuoPost (s : ByteArray) (w : World) (e : Ending) (w' : World) : Prop :=
  Below w.heap.size w w' ∧ ((quoR ((bys s).drop 1) = none ∧ e = .returned (.tuple #[.string ⟨#[]⟩, .string ⟨#[]⟩, .bool false])) ∨
    ∃ c n, quoR ((bys s).drop 1) = some (c, n) ∧ e = .returned (.tuple #[.string (strOf c), .string (s.extract (n + 1) s.size), .bool true]))
/-- how the reading of a quoted word stands -/
structure QuoI (s : ByteArray) (i : Nat) (acc : List Nat) : Prop where
  pos : 1 ≤ i
  len : acc.length ≤ i
  small : ∀ b ∈ acc, b < 256
  so : quoR ((bys s).drop 1) = (quoR ((bys s).drop i)).map fun x => (acc ++ x.1, x.2 + (i - 1))
set_option maxRecDepth 100000 in
set_option maxHeartbeats 4000000 in
theorem quoted_any (s : ByteArray) (w : World) (hs : s.size ≤ 8388608) : Calls Try.prog 13 #[.string s] w (QuoPost s w) := by
  obtain ⟨i0, hi, hz0, hz1, hz2⟩ := info_parts info5
  go_enter Try.func13, Try.ntmps13
  go_wp2_with fail
  go_loopw [5, 6] (fun v i wr => ∃ (p : Nat) (acc : List Nat), p ≤ s.size + 4 ∧ i = .int .i64 p ∧ QuoI s p acc ∧ wr.ownsRow w.heap.size 5 1 v acc.length (bcells acc) ∧ Below w.heap.size w wr) (fun _ i _ => s.size + 4 - (intOf i).toNat)
  case atStart => exact ⟨1, [], by omega, rfl, ⟨by omega, by simp, by simp, by simp⟩, (World.ownsRow_nil w w.heap.size 5 1 : w.ownsRow w.heap.size 5 1 _ 0 []), Below.refl _ _⟩
  case round =>
    obtain ⟨p, acc, hp, rfl, hQ, hO, hB⟩ := hrel
    have HQ := Lib.hid hQ
    have HO := Lib.hid hO
    have HB := Lib.hid hB
    have hp1 := hQ.pos
    have hsz := hB.size
    have hal := hQ.len
    clear hQ hO hB
    by_cases hlt : p < s.size
    · have hat := bys_at s p hlt
      have hlt256 : s[p].toNat < 256 := s[p].toNat_lt
      have HAT := Lib.hid hat
      clear hat
      by_cases h1 : s[p].toNat = 34
      · have t1 : ((s[p].toNat : Int) == 34) = true := by simp; omega
        have hcv : ∀ n, (convert 36 9 u5).run Try.prog (wr.drewN n) = .ok (.string (strOf acc)) (wr.drewN n) := fun n => conv_own (show (wr.drewN n).ownsRow w.heap.size 5 1 u5 acc.length (bcells acc) from HO.out) HQ.out.small
        have HE : Hid (quoR ((bys s).drop 1) = some (acc, p)) := Lib.hid (by
          have h := HAT.out
          rw [h1] at h
          rw [HQ.out.so, quo_end h]
          simp; omega)
        have e1 : IntKind.i64.wrap ((p : Int) + 1) = (p : Int) + 1 := IntWalk.i64_in _ (by omega)
        have e2 : 0 ≤ (p : Int) + 1 := by omega
        have e3 : (p : Int) + 1 ≤ (s.size : Int) := by omega
        have e4 : ((p : Int) + 1).toNat = p + 1 := by omega
        clear h1
        go_wp2_with fail
        go_quiet (fail)
        go_wp2_with fail
        refine bodyPost_ret (v := .tuple #[.string (strOf acc), .string (s.extract (p + 1) s.size), .bool true]) (by simp [results, Try.results13, go_sem]) rfl ?_
        exact ⟨below_drewN HB.out _, .inr ⟨acc, p, HE.out, rfl⟩⟩
      · have t1 : ((s[p].toNat : Int) == 34) = false := by simp; omega
        by_cases h2 : s[p].toNat < 32 ∨ 126 < s[p].toNat
        · have HE : Hid (quoR ((bys s).drop 1) = none) := Lib.hid (by rw [HQ.out.so, quo_bad HAT.out h1 h2]; rfl)
          rcases h2 with h2 | h2
          all_goals
            clear h1
            go_wp2_with fail
            refine bodyPost_ret (v := .tuple #[.string ⟨#[]⟩, .string ⟨#[]⟩, .bool false]) (by simp [results, Try.results13, go_sem]) rfl ?_
            exact ⟨HB.out, .inl ⟨HE.out, rfl⟩⟩
        · have h2a : ¬ s[p].toNat < 32 := fun h => h2 (.inl h)
          have h2b : ¬ 126 < s[p].toNat := fun h => h2 (.inr h)
          by_cases h3 : s[p].toNat = 92
          · have t3 : ((s[p].toNat : Int) != 92) = false := by simp; omega
            have HAT2 : Hid ((bys s)[p]? = some 92) := Lib.hid (by rw [← h3]; exact HAT.out)
            clear h1 h2 h3
            by_cases hend : p + 1 = s.size
            · have HE : Hid (quoR ((bys s).drop 1) = none) := Lib.hid (by rw [HQ.out.so, quo_none HAT2.out (escR_nil (by rw [bys_len]; omega))]; rfl)
              have tend : ((p : Int) + 1 == (s.size : Int)) = true := by simp; omega
              clear hend
              go_wp2_with fail
              refine bodyPost_ret (v := .tuple #[.string ⟨#[]⟩, .string ⟨#[]⟩, .bool false]) (by simp [results, Try.results13, go_sem]) rfl ?_
              exact ⟨HB.out, .inl ⟨HE.out, rfl⟩⟩
            · have tend : ((p : Int) + 1 == (s.size : Int)) = false := by simp; omega
              have hp1' : p + 1 < s.size := by omega
              have HN := Lib.hid (bys_at s (p + 1) hp1')
              have hn256 : s[p + 1].toNat < 256 := s[p + 1].toNat_lt
              have HC := Lib.hid (escaped_any s[p + 1].toNat hn256 wr)
              clear hend
              cases he : escL s[p + 1].toNat with
              | some b =>
                have hb := escL_lt hn256 he
                have HQ' : Hid (QuoI s (p + 2) (acc ++ [b])) := Lib.hid ⟨by omega, by simp; omega, by
                  intro x hx
                  rcases List.mem_append.1 hx with hx | hx
                  · exact HQ.out.small x hx
                  · simp at hx; omega, by
                  rw [HQ.out.so, quo_esc HAT2.out (escR_one HN.out he), show p + 1 + 1 = p + 2 by omega, Option.map_map]
                  congr 1; funext x; simp [Function.comp]; omega⟩
                have HC2 : Hid (Calls Try.prog 15 #[.int .u8 (s[p + 1].toNat : Int)] wr fun e w' => e = .returned (.tuple #[.int .u8 (b : Int), .bool true]) ∧ wr = w') := Lib.hid (by have h := HC.out; rw [he] at h; exact h)
                clear he HC
                go_wp2_with fail
                refine HC2.out.mono ?_
                rintro e w' ⟨rfl, rfl⟩
                go_wp2_with (at_builtin; go_must (refine wpList_append_own _ rfl (.tmp 56) (.tmp 58) 36 rfl w.heap.size 5 i0 (.int .u8 0) 1 1 Try.underlying36 hi hz0 hz1 hz2 rfl (by decide) _ _ _ rfl (HO.out.alloc _) ⟨wr.heap.size, 0, none⟩ 1 1 [.int .u8 (b : Int)] rfl rfl (cell_one_at wr _ _ _ rfl) (fun u hu => by simp at hu; subst hu; rfl) (by unfold maxLen; omega) (by omega) (by simp; omega) ?_); intro v' w1 hown1 hgrow1 _; have HB1 := Lib.hid ((HB.out.alloc hsz _).grown hgrow1 (by simp; omega) (fun q hq => (HO.out.lt q hq).1)); have HO1 := Lib.hid hown1; clear hown1 hgrow1)
                exact ⟨⟨p + 2, acc ++ [b], by omega, by go_num, HQ'.out, by rw [bcells_snoc, List.length_append]; exact HO1.out, HB1.out⟩, by simp [intOf]; omega⟩
              | none =>
                have HC2 : Hid (Calls Try.prog 15 #[.int .u8 (s[p + 1].toNat : Int)] wr fun e w' => e = .returned (.tuple #[.int .u8 0, .bool false]) ∧ wr = w') := Lib.hid (by have h := HC.out; rw [he] at h; exact h)
                by_cases hx : s[p + 1].toNat = 120
                · have tx : ((s[p + 1].toNat : Int) != 120) = false := by simp; omega
                  have HN2 : Hid ((bys s)[p + 1]? = some 120) := Lib.hid (by rw [← hx]; exact HN.out)
                  clear hx he HC
                  by_cases hsh : s.size ≤ p + 1 + 2
                  · have HE : Hid (quoR ((bys s).drop 1) = none) := Lib.hid (by rw [HQ.out.so, quo_none HAT2.out (escR_short HN2.out (by rw [bys_len]; omega))]; rfl)
                    go_wp2_with fail
                    refine HC2.out.mono ?_
                    rintro e w' ⟨rfl, rfl⟩
                    go_wp2_with fail
                    refine bodyPost_ret (v := .tuple #[.string ⟨#[]⟩, .string ⟨#[]⟩, .bool false]) (by simp [results, Try.results13, go_sem]) rfl ?_
                    exact ⟨HB.out, .inl ⟨HE.out, rfl⟩⟩
                  · have hq2 : p + 1 + 1 < s.size := by omega
                    have hq3 : p + 1 + 2 < s.size := by omega
                    have HH1 := Lib.hid (bys_at s (p + 1 + 1) hq2)
                    have HH2 := Lib.hid (bys_at s (p + 1 + 2) hq3)
                    have hc1 : s[p + 1 + 1].toNat < 256 := s[p + 1 + 1].toNat_lt
                    have hc2 : s[p + 1 + 2].toNat < 256 := s[p + 1 + 2].toNat_lt
                    have HX := Lib.hid (escR_hex HN2.out HH1.out HH2.out)
                    have HS1 := Lib.hid (fun W => small_any s[p + 1 + 1].toNat hc1 W)
                    have HS2 := Lib.hid (fun W => small_any s[p + 1 + 2].toNat hc2 W)
                    have hv1 := hexV_le s[p + 1 + 1].toNat
                    have hv2 := hexV_le s[p + 1 + 2].toNat
                    generalize hg1 : hexV s[p + 1 + 1].toNat = v1 at *
                    generalize hg2 : hexV s[p + 1 + 2].toNat = v2 at *
                    have HG1 := Lib.hid hg1
                    have HG2 := Lib.hid hg2
                    clear hg1 hg2
                    by_cases hn1 : v1 < 0
                    · have HE : Hid (quoR ((bys s).drop 1) = none) := Lib.hid (by rw [HQ.out.so, quo_none HAT2.out (by rw [HX.out, if_neg (by omega)])]; rfl)
                      go_wp2_with fail
                      refine HC2.out.mono ?_
                      rintro e w' ⟨rfl, rfl⟩
                      go_wp2_with fail
                      refine (HS1.out _).mono ?_
                      rintro e w' ⟨rfl, rfl⟩
                      go_wp2_with fail
                      refine bodyPost_ret (v := .tuple #[.string ⟨#[]⟩, .string ⟨#[]⟩, .bool false]) (by simp [results, Try.results13, go_sem]) rfl ?_
                      exact ⟨HB.out, .inl ⟨HE.out, rfl⟩⟩
                    · by_cases hn2 : v2 < 0
                      · have HE : Hid (quoR ((bys s).drop 1) = none) := Lib.hid (by rw [HQ.out.so, quo_none HAT2.out (by rw [HX.out, if_neg (by omega)])]; rfl)
                        go_wp2_with fail
                        refine HC2.out.mono ?_
                        rintro e w' ⟨rfl, rfl⟩
                        go_wp2_with fail
                        refine (HS1.out _).mono ?_
                        rintro e w' ⟨rfl, rfl⟩
                        go_wp2_with fail
                        refine (HS2.out _).mono ?_
                        rintro e w' ⟨rfl, rfl⟩
                        go_wp2_with fail
                        refine bodyPost_ret (v := .tuple #[.string ⟨#[]⟩, .string ⟨#[]⟩, .bool false]) (by simp [results, Try.results13, go_sem]) rfl ?_
                        exact ⟨HB.out, .inl ⟨HE.out, rfl⟩⟩
                      · go_wp2_with fail
                        refine HC2.out.mono ?_
                        rintro e w' ⟨rfl, rfl⟩
                        go_wp2_with fail
                        refine (HS1.out _).mono ?_
                        rintro e w' ⟨rfl, rfl⟩
                        go_wp2_with fail
                        refine (HS2.out _).mono ?_
                        rintro e w' ⟨rfl, rfl⟩
                        go_wp2_with fail
                        have e1 : IntKind.i64.wrap ((p : Int) + 1 + 1) = (p : Int) + 1 + 1 := IntWalk.i64_in _ (by omega)
                        have e2 : IntKind.i64.wrap ((p : Int) + 1 + 2) = (p : Int) + 1 + 2 := IntWalk.i64_in _ (by omega)
                        have e3 : 0 ≤ (p : Int) + 1 + 1 := by omega
                        have e4 : 0 ≤ (p : Int) + 1 + 2 := by omega
                        have e5 : (p : Int) + 1 + 1 < (s.size : Int) := by omega
                        have e6 : (p : Int) + 1 + 2 < (s.size : Int) := by omega
                        have e7 : ((p : Int) + 1 + 1).toNat = p + 1 + 1 := by omega
                        have e8 : ((p : Int) + 1 + 2).toNat = p + 1 + 2 := by omega
                        have HOd : Hid (wr.drew.ownsRow w.heap.size 5 1 u5 acc.length (bcells acc)) := Lib.hid HO.out.drew
                        obtain ⟨b, hbe⟩ : ∃ b, 16 * v1.toNat + v2.toNat = b := ⟨_, rfl⟩
                        have hval : IntKind.u8.wrap (bits BinOp.or .i64 (IntKind.i64.wrap (v1 * 16)) v2) = (b : Int) := by
                          rw [hex_two v1 v2 (by omega) (by omega) (by omega) (by omega), hbe]
                        have hb256 : b < 256 := by omega
                        have HQ' : Hid (QuoI s (p + 4) (acc ++ [b])) := Lib.hid ⟨by omega, by simp; omega, by
                          intro x hx
                          rcases List.mem_append.1 hx with hx | hx
                          · exact HQ.out.small x hx
                          · simp at hx; omega, by
                          rw [HQ.out.so, quo_esc HAT2.out (by rw [HX.out, if_pos ⟨by omega, by omega⟩, hbe]), show p + 1 + 3 = p + 4 by omega, Option.map_map]
                          congr 1; funext x; simp [Function.comp]; omega⟩
                        clear hbe
                        go_region_law (first
                          | refine step_small rfl (.tmp 91) rfl s[p + 1 + 1].toNat hc1 v1 HG1.out (by simp [Act.eval, Act.put]) ?_
                          | refine step_small rfl (.tmp 97) rfl s[p + 1 + 2].toNat hc2 v2 HG2.out (by simp [Act.eval, Act.put]) ?_
                          | (refine step_append_own rfl (.tmp 87) (.tmp 101) 36 rfl w.heap.size 5 i0 (.int .u8 0) 1 1 Try.underlying36 hi hz0 hz1 hz2 rfl (by decide) u5 acc.length (bcells acc) (by simp [Act.eval]) (HOd.out.alloc _) ⟨wr.heap.size, 0, none⟩ 1 1 [.int .u8 (b : Int)] (by simp [Act.eval]) rfl (cell_one_at wr.drew _ _ _ rfl) (fun u hu => by simp at hu; subst hu; rfl) (by unfold maxLen; omega) (by omega) (by simp; omega) ?_; intro v' w1 hown1 hgrow1 _; have HB1 := Lib.hid ((HB.out.drew.alloc (show w.heap.size ≤ wr.drew.heap.size from hsz) _).grown hgrow1 (by simp; omega) (fun q hq => (HO.out.lt q hq).1)); have HO1 := Lib.hid hown1; clear hown1 hgrow1))
                        all_goals
                          go_wp2_with fail
                          exact ⟨⟨p + 4, acc ++ [b], by omega, by go_num, HQ'.out, by rw [bcells_snoc, List.length_append]; exact HO1.out, HB1.out⟩, by simp [intOf]; omega⟩
                · have tx : ((s[p + 1].toNat : Int) != 120) = true := by simp; omega
                  have HE : Hid (quoR ((bys s).drop 1) = none) := Lib.hid (by rw [HQ.out.so, quo_none HAT2.out (escR_other HN.out he hx)]; rfl)
                  clear hx he HC
                  go_wp2_with fail
                  refine HC2.out.mono ?_
                  rintro e w' ⟨rfl, rfl⟩
                  go_wp2_with fail
                  refine bodyPost_ret (v := .tuple #[.string ⟨#[]⟩, .string ⟨#[]⟩, .bool false]) (by simp [results, Try.results13, go_sem]) rfl ?_
                  exact ⟨HB.out, .inl ⟨HE.out, rfl⟩⟩
          · have t3 : ((s[p].toNat : Int) != 92) = true := by simp; omega
            have HQ' : Hid (QuoI s (p + 1) (acc ++ [s[p].toNat])) := Lib.hid ⟨by omega, by simp; omega, by
              intro b hb
              rcases List.mem_append.1 hb with hb | hb
              · exact HQ.out.small b hb
              · simp at hb; omega, by
              rw [HQ.out.so, quo_one HAT.out h1 h2 h3, Option.map_map]
              congr 1; funext x; simp [Function.comp]; omega⟩
            clear h1 h2 h3
            go_wp2_with (at_builtin; go_must (refine wpList_append_own _ rfl (.tmp 38) (.tmp 40) 36 rfl w.heap.size 5 i0 (.int .u8 0) 1 1 Try.underlying36 hi hz0 hz1 hz2 rfl (by decide) _ _ _ rfl (HO.out.alloc _) ⟨wr.heap.size, 0, none⟩ 1 1 [.int .u8 (s[p].toNat : Int)] rfl rfl (cell_one_at wr _ _ _ rfl) (fun u hu => by simp at hu; subst hu; rfl) (by unfold maxLen; omega) (by omega) (by simp; omega) ?_); intro v' w1 hown1 hgrow1 _; have HB1 := Lib.hid ((HB.out.alloc hsz _).grown hgrow1 (by simp; omega) (fun q hq => (HO.out.lt q hq).1)); have HO1 := Lib.hid hown1; clear hown1 hgrow1)
            exact ⟨⟨p + 1, acc ++ [s[p].toNat], by omega, by go_num, HQ'.out, by rw [bcells_snoc, List.length_append]; exact HO1.out, HB1.out⟩, by simp [intOf]; omega⟩
    · have HE : Hid (quoR ((bys s).drop 1) = none) := Lib.hid (by rw [HQ.out.so, quo_nil (by rw [bys_len]; omega)]; rfl)
      go_wp2_with fail
      refine bodyPost_ret (v := .tuple #[.string ⟨#[]⟩, .string ⟨#[]⟩, .bool false]) (by simp [results, Try.results13, go_sem]) rfl ?_
      exact ⟨HB.out, .inl ⟨HE.out, rfl⟩⟩
end Go.Proofs.Ytlblnoipiappbaa
