/- Contracts of desk.words, desk.Words. -/
import Derived.Test.YtlblnoipiappbaaQuo
import Derived.Test.YtlblnoipiappbaaPlain
namespace Go.Proofs.Ytlblnoipiappbaa
open Go.RowKit
theorem info32 : (Try.prog.info? 32).map (fun i => (i.zero, i.size, i.bytes)) = some (some (.agg #[.string ⟨#[]⟩, .bool false]), 2, 24) := by kernel_rfl
theorem enter12 (args : Array Value) (w : World) : (callFunc 12 args).run Try.prog w = .ok (.enter 12 args) w := by kernel_rfl
theorem enter13 (args : Array Value) (w : World) : (callFunc 13 args).run Try.prog w = .ok (.enter 13 args) w := by kernel_rfl
def wcells (l : List (List Nat × Bool)) : List Value := l.flatMap fun x => [.string (strOf x.1), .bool x.2]
theorem wcells_snoc (l : List (List Nat × Bool)) (x : List Nat × Bool) : wcells (l ++ [x]) = wcells l ++ [.string (strOf x.1), .bool x.2] := by simp [wcells]
theorem wcells_len (l : List (List Nat × Bool)) : (wcells l).length = l.length * 2 := by
  induction l with
  | nil => rfl
  | cons x r ih => simp [wcells] at ih ⊢; omega
def strLen : Value → Nat
  | .string s => s.size
  | _ => 0
def WordsPost (s : ByteArray) (w : World) (e : Ending) (w' : World) : Prop :=
  Below w.heap.size w w' ∧ ((wordsR (bys s) = none ∧ e = .returned (.tuple #[.slice none 0 0, .bool false])) ∨
    ∃ l v, wordsR (bys s) = some l ∧ e = .returned (.tuple #[v, .bool true]) ∧ l.length ≤ s.size ∧ w'.ownsRow w.heap.size 32 2 v l.length (wcells l))
structure WordsI (s t : ByteArray) (acc : List (List Nat × Bool)) : Prop where
  so : wordsR (bys s) = (wordsR (bys t)).map (acc ++ ·)
  len : acc.length + t.size ≤ s.size
theorem cell_str_bool (w : World) (a b : Value) (t : TypeId) (n : Nat) (h : n = w.heap.size) : ∀ j u, [a, b][j]? = some u → (w.alloc (.cells #[a, b] t)).cell? ((⟨n, 0, none⟩ : Addr).add j) = some u := by
  subst h
  intro j u hu
  rw [Addr.add_mid, Nat.zero_add, cell_of_row _ _ _ _ _ _ (heap_alloc_new w _)]
  match j, hu with
  | 0, hu => exact hu
  | 1, hu => exact hu
theorem str_ne {t : ByteArray} (h : 0 < t.size) : t.toList.isEmpty = false ∧ ¬ t.toList = [] := by
  rw [Lib.toList_data]
  cases hd : t.data.toList with
  | nil =>
    have h2 := congrArg List.length hd
    rw [Array.length_toList] at h2
    have h3 : t.size = 0 := h2
    omega
  | cons a b => exact ⟨rfl, by simp⟩
theorem str_nil {t : ByteArray} (h : t.size = 0) : t.toList = [] := by
  rw [Lib.toList_data]
  exact List.eq_nil_of_length_eq_zero (by simpa using h)
/-- what becomes of the words at one that was read -/
theorem words_step {t r : ByteArray} {cw : List Nat} {m : Nat} {q : Bool} (hv : wordV (bys t) = some (cw, m, q)) (hr : r = t.extract m t.size) :
    r.size + m = t.size ∧ 1 ≤ m ∧ (r.size = 0 → wordsR (bys t) = some [(cw, q)]) ∧
    (∀ h : 0 < r.size, (r[0]'h).toNat = 32 → wordsR (bys t) = (wordsR (bys (r.extract 1 r.size))).map ((cw, q) :: ·)) ∧
    (∀ h : 0 < r.size, (r[0]'h).toNat ≠ 32 → wordsR (bys t) = none) := by
  have hl := wordV_len hv
  rw [bys_len] at hl
  have hb : bys r = (bys t).drop m := by rw [hr, bys_tail]
  have hsz : r.size + m = t.size := by
    have h1 := congrArg List.length hb
    rw [bys_len, List.length_drop, bys_len] at h1
    omega
  have hat : ∀ h : 0 < r.size, (bys t)[m]? = some ((r[0]'h).toNat) := fun h => by
    have h1 := bys_at r 0 h
    rw [hb, List.getElem?_drop] at h1
    exact h1
  refine ⟨hsz, hl.1, fun h => ?_, fun h h32 => ?_, fun h h32 => ?_⟩
  · rw [wordsR_some hv, if_pos (by rw [bys_len]; omega)]
  · rw [wordsR_some hv, if_neg (by rw [bys_len]; omega), if_pos (by rw [hat h, h32]), bys_tail, hb, List.drop_drop]
  · rw [wordsR_some hv, if_neg (by rw [bys_len]; omega), if_neg (by rw [hat h]; intro e; injection e with e; exact h32 e)]
theorem own_any {w : World} {B e size n : Nat} {v : Value} {xs : List Value} (_h : w.ownsRow B e size v n xs) : v.ownBlock = none ∨ v.ownBlock ≠ (none : Option Nat) := by
  cases v.ownBlock with
  | none => exact .inl rfl
  | some k => exact .inr (by simp)
set_option maxRecDepth 100000 in
set_option maxHeartbeats 4000000 in
theorem words_any (s : ByteArray) (w : World) (hs : s.size ≤ 8388608) : Calls Try.prog 10 #[.string s] w (WordsPost s w) := by
  obtain ⟨i0, hi, hz0, hz1, hz2⟩ := info_parts info32
  have hen12 := enter12
  have hen13 := enter13
  go_enter Try.func10, Try.ntmps10
  go_wp2_with fail
  go_loopw [0, 4] (fun v0 vv wr => ∃ (t : ByteArray) (acc : List (List Nat × Bool)), v0 = .string t ∧ WordsI s t acc ∧ wr.ownsRow w.heap.size 32 2 vv acc.length (wcells acc) ∧ Below w.heap.size w wr) (fun v0 _ _ => strLen v0)
  case atStart => exact ⟨s, [], rfl, ⟨by simp, by simp⟩, (World.ownsRow_nil w w.heap.size 32 2 : w.ownsRow w.heap.size 32 2 _ 0 []), Below.refl _ _⟩
  case round =>
    obtain ⟨t, acc, rfl, hI, hO, hB⟩ := hrel
    have HI := Lib.hid hI
    have HO := Lib.hid hO
    have HB := Lib.hid hB
    have hlen := hI.len
    have hsz := hB.size
    clear hI hO hB
    by_cases h0 : t.size = 0
    · have ht := str_nil h0
      have hb0 : bys t = [] := List.eq_nil_of_length_eq_zero (by rw [bys_len]; exact h0)
      have HN : Hid (wordsR (bys s) = none) := Lib.hid (by rw [HI.out.so, hb0, wordsR_none (by rfl)]; rfl)
      have HPL := Lib.hid (fun W => (plain_any t W (by omega)).mono (fun e w' h => show (∃ x y, e = .returned (.tuple #[.string x, .string y, .bool false])) ∧ ∃ n, w' = W.drewN n from ⟨by
        have h1 := h.1
        rw [hb0] at h1
        exact ⟨_, _, h1⟩, h.2⟩))
      clear hb0
      go_wp2_with fail
      go_quiet (fail)
      go_wp2_with fail
      refine (HPL.out _).mono ?_
      rintro e w5 ⟨⟨x, y, rfl⟩, n5, rfl⟩
      go_wp2_with fail
      go_ret2
      exact ⟨below_drewN HB.out _, .inl ⟨HN.out, rfl⟩⟩
    · have hpos : 0 < t.size := by omega
      obtain ⟨hne1, hne2⟩ := str_ne hpos
      have HC0 := Lib.hid (drop_at (bys_at t 0 hpos))
      have hd0 : (bys t).drop 0 = bys t := rfl
      rw [hd0] at HC0
      clear hd0 h0
      by_cases h1 : (t[0]'hpos).toNat = 34
      · have t1 : (((t[0]'hpos).toNat : Int) == 34) = true := by simp; omega
        have HWV : Hid (wordV (bys t) = (quoR ((bys t).drop 1)).map fun x => (x.1, x.2 + 1, true)) := Lib.hid (by
          rw [HC0.out, h1]; simp only [wordV, if_true, List.drop_succ_cons, List.drop_zero, Nat.zero_add])
        have HQ := Lib.hid (fun W => quoted_any t W (by omega))
        clear h1
        go_wp2_with fail
        go_quiet (fail)
        go_wp2_with fail
        refine (HQ.out _).mono ?_
        rintro e w5 ⟨hB5, ⟨hq, rfl⟩ | ⟨cw, n, hq, rfl⟩⟩
        · have HB5 := Lib.hid (below_trans' (below_drewN HB.out nq) hB5)
          have HN : Hid (wordsR (bys s) = none) := Lib.hid (by rw [HI.out.so, wordsR_none (by rw [HWV.out, hq]; rfl)]; rfl)
          clear hq hB5
          go_wp2_with fail
          go_ret2
          exact ⟨HB5.out, .inl ⟨HN.out, rfl⟩⟩
        · have HB5 := Lib.hid (below_trans' (below_drewN HB.out nq) hB5)
          have HO5 := Lib.hid ((show (wr.drewN nq).ownsRow w.heap.size 32 2 u4 acc.length (wcells acc) from HO.out).kept (only_of_below hB5 none) (own_any HO.out))
          have HV : Hid (wordV (bys t) = some (cw, n + 1, true)) := Lib.hid (by rw [HWV.out, hq]; rfl)
          clear hq hB5 HWV HQ
          have hsz5 := HB5.out.size
          obtain ⟨r, hr⟩ : ∃ r, t.extract (n + 1) t.size = r := ⟨_, rfl⟩
          obtain ⟨hst1, hst2, hst3, hst4, hst5⟩ := words_step HV.out hr.symm
          rw [hr]
          clear hr
          by_cases hr0 : r.size = 0
          · have HW := Lib.hid (hst3 hr0)
            have hrn := str_nil hr0
            clear hst3 hst4 hst5 hr0
            go_wp2_with (at_builtin; go_must (refine wpList_append_own _ rfl (.tmp 27) (.tmp 31) 28 rfl w.heap.size 32 i0 (.agg #[.string ⟨#[]⟩, .bool false]) 2 24 Try.underlying28 hi hz0 hz1 hz2 rfl (by decide) _ _ _ rfl (HO5.out.alloc _) ⟨w5.heap.size, 0, none⟩ 1 1 [.string (strOf cw), .bool true] rfl rfl (cell_str_bool w5 _ _ _ _ rfl) (fun u hu => by simp at hu; rcases hu with rfl | rfl <;> rfl) (by unfold maxLen; omega) (by omega) (by simp; omega) ?_); intro v' w6 hown1 hgrow1 _; have HB6 := Lib.hid ((HB5.out.alloc hsz5 _).grown hgrow1 (by simp; omega) (fun k hk => (HO5.out.lt k hk).1)); have HO6 := Lib.hid hown1; clear hown1 hgrow1)
            go_ret2
            exact ⟨HB6.out, .inr ⟨acc ++ [(cw, true)], _, by rw [HI.out.so, HW.out]; rfl, rfl, by rw [List.length_append]; show acc.length + 1 ≤ s.size; omega, by rw [wcells_snoc, List.length_append]; exact HO6.out⟩⟩
          · have hrp : 0 < r.size := by omega
            obtain ⟨hrn1, hrn2⟩ := str_ne hrp
            by_cases h32 : (r[0]'hrp).toNat = 32
            · have t32 : (((r[0]'hrp).toNat : Int) != 32) = false := by simp; omega
              have HW := Lib.hid (hst4 hrp h32)
              have hrx : (r.extract 1 r.size).size = r.size - 1 := by rw [ByteArray.size_extract]; omega
              have HRX := Lib.hid hrx
              clear hst3 hst4 hst5 h32 hr0 hrx
              go_wp2_with (at_builtin; go_must (refine wpList_append_own _ rfl (.tmp 27) (.tmp 31) 28 rfl w.heap.size 32 i0 (.agg #[.string ⟨#[]⟩, .bool false]) 2 24 Try.underlying28 hi hz0 hz1 hz2 rfl (by decide) _ _ _ rfl (HO5.out.alloc _) ⟨w5.heap.size, 0, none⟩ 1 1 [.string (strOf cw), .bool true] rfl rfl (cell_str_bool w5 _ _ _ _ rfl) (fun u hu => by simp at hu; rcases hu with rfl | rfl <;> rfl) (by unfold maxLen; omega) (by omega) (by simp; omega) ?_); intro v' w6 hown1 hgrow1 _; have HB6 := Lib.hid ((HB5.out.alloc hsz5 _).grown hgrow1 (by simp; omega) (fun k hk => (HO5.out.lt k hk).1)); have HO6 := Lib.hid hown1; clear hown1 hgrow1)
              exact ⟨⟨r.extract 1 r.size, acc ++ [(cw, true)], rfl, ⟨by rw [HI.out.so, HW.out, Option.map_map]; congr 1; funext x; simp [Function.comp], by rw [List.length_append, HRX.out]; show acc.length + 1 + (r.size - 1) ≤ s.size; omega⟩, by rw [wcells_snoc, List.length_append]; exact HO6.out, HB6.out⟩, by simp only [strLen]; rw [HRX.out]; omega⟩
            · have t32 : (((r[0]'hrp).toNat : Int) != 32) = true := by simp; omega
              have HW := Lib.hid (hst5 hrp h32)
              clear hst3 hst4 hst5 h32 hr0
              go_wp2_with (at_builtin; go_must (refine wpList_append_own _ rfl (.tmp 27) (.tmp 31) 28 rfl w.heap.size 32 i0 (.agg #[.string ⟨#[]⟩, .bool false]) 2 24 Try.underlying28 hi hz0 hz1 hz2 rfl (by decide) _ _ _ rfl (HO5.out.alloc _) ⟨w5.heap.size, 0, none⟩ 1 1 [.string (strOf cw), .bool true] rfl rfl (cell_str_bool w5 _ _ _ _ rfl) (fun u hu => by simp at hu; rcases hu with rfl | rfl <;> rfl) (by unfold maxLen; omega) (by omega) (by simp; omega) ?_); intro v' w6 hown1 hgrow1 _; have HB6 := Lib.hid ((HB5.out.alloc hsz5 _).grown hgrow1 (by simp; omega) (fun k hk => (HO5.out.lt k hk).1)); have HO6 := Lib.hid hown1; clear hown1 hgrow1)
              go_ret2
              exact ⟨HB6.out, .inl ⟨by rw [HI.out.so, HW.out]; rfl, rfl⟩⟩
      · have t1 : (((t[0]'hpos).toNat : Int) == 34) = false := by simp; omega
        have HWV : Hid (wordV (bys t) = if plainLen (bys t) = 0 then none else some ((bys t).take (plainLen (bys t)), plainLen (bys t), false)) := Lib.hid (by
          rw [HC0.out]; simp only [wordV]; rw [if_neg h1])
        have HPL := Lib.hid (fun W => plain_any t W (by omega))
        have hle := plainLen_le (bys t)
        rw [bys_len] at hle
        clear h1
        by_cases hz : plainLen (bys t) = 0
        · have HN : Hid (wordsR (bys s) = none) := Lib.hid (by rw [HI.out.so, wordsR_none (by rw [HWV.out, if_pos hz])]; rfl)
          have HPL2 := Lib.hid (fun W => (HPL.out W).mono (fun e w' h => show (∃ x y, e = .returned (.tuple #[.string x, .string y, .bool false])) ∧ ∃ n, w' = W.drewN n from ⟨by
            have h1 := h.1
            rw [hz] at h1
            exact ⟨_, _, h1⟩, h.2⟩))
          clear hz HPL hle
          go_wp2_with fail
          go_quiet (fail)
          go_wp2_with fail
          refine (HPL2.out _).mono ?_
          rintro e w5 ⟨⟨x, y, rfl⟩, n5, rfl⟩
          go_wp2_with fail
          go_ret2
          exact ⟨below_drewN HB.out _, .inl ⟨HN.out, rfl⟩⟩
        · obtain ⟨cw, hcw⟩ : ∃ cw, (bys t).take (plainLen (bys t)) = cw := ⟨_, rfl⟩
          obtain ⟨n, hn⟩ : ∃ n, plainLen (bys t) = n := ⟨_, rfl⟩
          have HV : Hid (wordV (bys t) = some (cw, n, false)) := Lib.hid (by rw [HWV.out, if_neg hz, hcw, hn])
          have HPL2 := Lib.hid (fun W => (HPL.out W).mono (fun e w' h => show e = .returned (.tuple #[.string (strOf cw), .string (t.extract n t.size), .bool true]) ∧ ∃ n, w' = W.drewN n from ⟨by
            have h1 := h.1
            have hx : t.extract 0 n = strOf cw := by
              rw [← strOf_bys (t.extract 0 n), bys_extract, ← hcw, hn]; rfl
            rw [hn, hx, decide_eq_true (by omega)] at h1
            exact h1, h.2⟩))
          clear hz HPL hle hcw hn HWV
          go_wp2_with fail
          go_quiet (fail)
          go_wp2_with fail
          refine (HPL2.out _).mono ?_
          rintro e w5' ⟨rfl, n5, rfl⟩
          have HB5 := Lib.hid (below_drewN (below_drewN HB.out nq) n5)
          have HO5 : Hid (((wr.drewN nq).drewN n5).ownsRow w.heap.size 32 2 u4 acc.length (wcells acc)) := Lib.hid HO.out
          generalize (wr.drewN nq).drewN n5 = w5 at *
          clear HPL2
          have hsz5 := HB5.out.size
          obtain ⟨r, hr⟩ : ∃ r, t.extract n t.size = r := ⟨_, rfl⟩
          obtain ⟨hst1, hst2, hst3, hst4, hst5⟩ := words_step HV.out hr.symm
          rw [hr]
          clear hr
          by_cases hr0 : r.size = 0
          · have HW := Lib.hid (hst3 hr0)
            have hrn := str_nil hr0
            clear hst3 hst4 hst5 hr0
            go_wp2_with (at_builtin; go_must (refine wpList_append_own _ rfl (.tmp 27) (.tmp 31) 28 rfl w.heap.size 32 i0 (.agg #[.string ⟨#[]⟩, .bool false]) 2 24 Try.underlying28 hi hz0 hz1 hz2 rfl (by decide) _ _ _ rfl (HO5.out.alloc _) ⟨w5.heap.size, 0, none⟩ 1 1 [.string (strOf cw), .bool false] rfl rfl (cell_str_bool w5 _ _ _ _ rfl) (fun u hu => by simp at hu; rcases hu with rfl | rfl <;> rfl) (by unfold maxLen; omega) (by omega) (by simp; omega) ?_); intro v' w6 hown1 hgrow1 _; have HB6 := Lib.hid ((HB5.out.alloc hsz5 _).grown hgrow1 (by simp; omega) (fun k hk => (HO5.out.lt k hk).1)); have HO6 := Lib.hid hown1; clear hown1 hgrow1)
            go_ret2
            exact ⟨HB6.out, .inr ⟨acc ++ [(cw, false)], _, by rw [HI.out.so, HW.out]; rfl, rfl, by rw [List.length_append]; show acc.length + 1 ≤ s.size; omega, by rw [wcells_snoc, List.length_append]; exact HO6.out⟩⟩
          · have hrp : 0 < r.size := by omega
            obtain ⟨hrn1, hrn2⟩ := str_ne hrp
            by_cases h32 : (r[0]'hrp).toNat = 32
            · have t32 : (((r[0]'hrp).toNat : Int) != 32) = false := by simp; omega
              have HW := Lib.hid (hst4 hrp h32)
              have hrx : (r.extract 1 r.size).size = r.size - 1 := by rw [ByteArray.size_extract]; omega
              have HRX := Lib.hid hrx
              clear hst3 hst4 hst5 h32 hr0 hrx
              go_wp2_with (at_builtin; go_must (refine wpList_append_own _ rfl (.tmp 27) (.tmp 31) 28 rfl w.heap.size 32 i0 (.agg #[.string ⟨#[]⟩, .bool false]) 2 24 Try.underlying28 hi hz0 hz1 hz2 rfl (by decide) _ _ _ rfl (HO5.out.alloc _) ⟨w5.heap.size, 0, none⟩ 1 1 [.string (strOf cw), .bool false] rfl rfl (cell_str_bool w5 _ _ _ _ rfl) (fun u hu => by simp at hu; rcases hu with rfl | rfl <;> rfl) (by unfold maxLen; omega) (by omega) (by simp; omega) ?_); intro v' w6 hown1 hgrow1 _; have HB6 := Lib.hid ((HB5.out.alloc hsz5 _).grown hgrow1 (by simp; omega) (fun k hk => (HO5.out.lt k hk).1)); have HO6 := Lib.hid hown1; clear hown1 hgrow1)
              exact ⟨⟨r.extract 1 r.size, acc ++ [(cw, false)], rfl, ⟨by rw [HI.out.so, HW.out, Option.map_map]; congr 1; funext x; simp [Function.comp], by rw [List.length_append, HRX.out]; show acc.length + 1 + (r.size - 1) ≤ s.size; omega⟩, by rw [wcells_snoc, List.length_append]; exact HO6.out, HB6.out⟩, by simp only [strLen]; rw [HRX.out]; omega⟩
            · have t32 : (((r[0]'hrp).toNat : Int) != 32) = true := by simp; omega
              have HW := Lib.hid (hst5 hrp h32)
              clear hst3 hst4 hst5 h32 hr0
              go_wp2_with (at_builtin; go_must (refine wpList_append_own _ rfl (.tmp 27) (.tmp 31) 28 rfl w.heap.size 32 i0 (.agg #[.string ⟨#[]⟩, .bool false]) 2 24 Try.underlying28 hi hz0 hz1 hz2 rfl (by decide) _ _ _ rfl (HO5.out.alloc _) ⟨w5.heap.size, 0, none⟩ 1 1 [.string (strOf cw), .bool false] rfl rfl (cell_str_bool w5 _ _ _ _ rfl) (fun u hu => by simp at hu; rcases hu with rfl | rfl <;> rfl) (by unfold maxLen; omega) (by omega) (by simp; omega) ?_); intro v' w6 hown1 hgrow1 _; have HB6 := Lib.hid ((HB5.out.alloc hsz5 _).grown hgrow1 (by simp; omega) (fun k hk => (HO5.out.lt k hk).1)); have HO6 := Lib.hid hown1; clear hown1 hgrow1)
              go_ret2
              exact ⟨HB6.out, .inl ⟨by rw [HI.out.so, HW.out]; rfl, rfl⟩⟩
end Go.Proofs.Ytlblnoipiappbaa
