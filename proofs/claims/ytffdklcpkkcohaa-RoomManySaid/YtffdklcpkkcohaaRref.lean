/- Contracts of the document's room: State, List, Take, LetGo, Swing, Back. -/
import Derived.Test.YtffdklcpkkcohaaSame
namespace Go.Proofs.Ytffdklcpkkcohaa
open Go.RowKit
section
variable (g n cap : Nat) (s : Nat → Int) (w : World)
theorem rstate_any (p : Nat) (hp : p < 4294967296) (hr : IntsAt w g n s) : Calls Try.prog 87 #[.slice (some ⟨g, 0, none⟩) n cap, .int .u32 p] w fun e w' => e = .returned (.int .i64 (stI n s p)) ∧ w = w' := by
  have hn := hr.2.1
  by_cases h : p < n
  · have c1 := hr.cell h
    have hs : stI n s p = s p := by unfold stI; rw [if_pos h]
    have HS := Lib.hid hs
    clear hs
    go_enter Try.func87, Try.ntmps87
    go_wp2
    go_ret
    exact ⟨ret_int HS.out.symm, rfl⟩
  · have hs : stI n s p = 0 := by unfold stI; rw [if_neg h]
    have HS := Lib.hid hs
    clear hs
    go_enter Try.func87, Try.ntmps87
    go_wp2
    go_ret
    exact ⟨ret_int HS.out.symm, rfl⟩
set_option maxRecDepth 100000 in
set_option maxHeartbeats 1000000 in
theorem rlist_any (v : Int) (hr : IntsAt w g n s) : Calls Try.prog 61 #[.slice (some ⟨g, 0, none⟩) n cap, .int .i64 v] w (ListPost (listS n s v) w) := by
  have hn := hr.2.1
  obtain ⟨i0, hi, hz0, hz1, hz2⟩ := info_parts info46
  have HO0 := Lib.hid (own_empty w 46 1)
  have HB0 := Lib.hid ((Below.refl w.heap.size w).alloc (Nat.le_refl _) (.cells #[] 46))
  have HR0 := Lib.hid hr
  clear hr
  go_enter Try.func61, Try.ntmps61
  go_wp2_with fail
  go_loopw [5, 10] (fun vv i wr => ∃ p : Nat, p ≤ n ∧ i = .int .i64 p ∧ wr.ownsRow w.heap.size 46 1 vv (listS p s v).length (u32s (listS p s v)) ∧ Below w.heap.size w wr) (fun _ i _ => n - (intOf i).toNat)
  case atStart => exact ⟨0, by omega, rfl, HO0.out, HB0.out⟩
  case round =>
    obtain ⟨p, hp, rfl, hown, hB⟩ := hrel
    have hR := HR0.out.below hB
    have HB := Lib.hid hB
    have hsz := hB.size
    clear hB HO0 HB0
    by_cases hlt : p < n
    · have c1 := hR.cell hlt
      have hl := listS_len p s v
      have hsu := listS_succ p s v
      clear hR
      by_cases he : s p = v
      · have t1 : (s p == v) = true := by simp [he]
        rw [t1, if_pos rfl] at hsu
        have HS := Lib.hid hsu
        clear hsu he
        generalize s p = z at *
        have HO := Lib.hid hown
        clear hown
        go_wp2_with (at_builtin; go_must (refine wpList_append_own _ rfl (.tmp 19) (.tmp 22) 39 rfl w.heap.size 46 i0 (.int .u32 0) 1 4 Try.underlying39 hi hz0 hz1 hz2 rfl (by decide) _ _ _ rfl (HO.out.alloc _) ⟨wr.heap.size, 0, none⟩ 1 1 [.int .u32 p] rfl rfl (cell_one_at wr _ _ _ rfl) (fun u hu => by simp at hu; subst hu; rfl) (by unfold maxLen; omega) (by omega) (by simp; omega) ?_); intro v' w1 hown1 hgrow1 _; have HB1 := Lib.hid ((HB.out.alloc hsz _).grown hgrow1 (by simp; omega) (fun q hq => (HO.out.lt q hq).1)); have HO1 := Lib.hid (listS_own hown1); clear hown1 hgrow1)
        go_roundw
        case rel => exact ⟨p + 1, by omega, by go_num, by rw [HS.out]; exact HO1.out, HB1.out⟩
        case measure => simp [intOf]; omega
      · have t1 : (s p == v) = false := by simp [he]
        rw [t1, if_neg (by simp)] at hsu
        have HS := Lib.hid hsu
        have HO := Lib.hid hown
        clear hsu he hown
        generalize s p = z at *
        go_wp2
        go_roundw
        case rel => exact ⟨p + 1, by omega, by go_num, by rw [HS.out]; exact HO.out, HB.out⟩
        case measure => simp [intOf]; omega
    · obtain rfl : p = n := by omega
      have HO := Lib.hid hown
      clear hown hR
      go_wp2
      go_ret
      exact ⟨_, rfl, HO.out, HB.out⟩
theorem rlist_sl (v : Int) (hr : IntsAt w g n s) : Calls Try.prog 61 #[.slice (some ⟨g, 0, none⟩) n cap, .int .i64 v] w fun e w' => ∃ a cap, e = .returned (.slice a (listS n s v).length cap) ∧ U32In w' w.heap.size a (listS n s v) ∧ Below w.heap.size w w' := by
  refine (rlist_any g n cap s w v hr).mono ?_
  rintro e w' ⟨u, rfl, ho, hb⟩
  obtain ⟨a, cap, rfl, h⟩ := u32_shape ho
  exact ⟨a, cap, rfl, h, hb⟩
/-- the document's Take -/
def RTakePost (e : Ending) (w' : World) : Prop :=
  ((∀ i, i < n → s i ≠ 1) ∧ e = .returned (.tuple #[.slice (some ⟨g, 0, none⟩) n cap, .int .u32 0, .int .i64 3]) ∧ w = w') ∨
  (∃ p g' c' : Nat, p < n ∧ s p = 1 ∧ (∀ i, i < p → s i ≠ 1) ∧ e = .returned (.tuple #[.slice (some ⟨g', 0, none⟩) n c', .int .u32 p, .int .i64 0]) ∧ w.heap.size ≤ g' ∧ IntsAt w' g' n (setS s p 3) ∧ Below w.heap.size w w')
set_option maxRecDepth 100000 in
set_option maxHeartbeats 1000000 in
theorem rtake_any (hr : IntsAt w g n s) : Calls Try.prog 62 #[.slice (some ⟨g, 0, none⟩) n cap] w (RTakePost g n cap s w) := by
  have hn := hr.2.1
  obtain ⟨i0, hi, hz0, hz1, hz2⟩ := info_parts info3
  have HNW := Lib.hid (show ∀ j u, (intsOf s n)[j]? = some u → (w.alloc (.cells #[] 3)).cell? ((⟨g, 0, none⟩ : Addr).add j) = some u by
    intro j u hu
    obtain ⟨hj, rfl⟩ := intsOf_at s n j u hu
    rw [Addr.add_mid, Nat.zero_add, World.cell?_of_block (Below.heap_alloc w _ g hr.1)]; exact hr.cell hj)
  have HL := Lib.hid (show (intsOf s n).length = n * 1 by rw [intsOf_len]; omega)
  have HR := Lib.hid hr
  clear hr
  go_enter Try.func62, Try.ntmps62
  go_wp2_with fail
  go_loop [9] (fun i => ∃ p : Nat, p ≤ n ∧ i = .int .i64 p ∧ ∀ j, j < p → s j ≠ 1) (fun i => n - (intOf i).toNat)
  case atStart => exact ⟨0, by omega, rfl, fun j hj => by omega⟩
  case round =>
    obtain ⟨p, hp, rfl, hall⟩ := hrel
    have HA := Lib.hid hall
    clear hall
    by_cases hlt : p < n
    · have c1 := HR.out.cell hlt
      by_cases he : s p = 1
      · rw [he] at c1
        have HE := Lib.hid he
        clear he
        have hwrap : p < 4294967296 := by omega
        go_wp2_with (at_builtin; go_must (refine wpList_append_own _ rfl (.tmp 17) (.tmp 18) 22 rfl w.heap.size 3 i0 (.int .i64 0) 1 8 Try.underlying22 hi hz0 hz1 hz2 rfl (by decide) _ _ _ rfl (own_empty w 3 1) ⟨g, 0, none⟩ n cap (intsOf s n) rfl HL.out HNW.out (intsOf_one s n) (by unfold maxLen; omega) (by omega) (by simp) ?_); intro v1 w1 hown1 hgrow1 hnil; obtain ⟨g1, k1, rfl, hb1, hs1⟩ := owns_some hown1 (fun e => by have := (hnil.1 e).1; cases this); have HO1 := Lib.hid (ints_owned (by simpa using hown1) hn : IntsAt w1 g1 n s); have HB1 := Lib.hid (below_one hgrow1 rfl); have f1 := HO1.out.free p; have d1 := HO1.out.cell hlt; clear hown1 hgrow1 hnil)
        refine bodyPost_ret (v := .tuple #[.slice (some ⟨g1, 0, none⟩) n k1, .int .u32 p, .int .i64 0]) (by simp [results, Try.results62, go_sem]) rfl ?_
        exact .inr ⟨p, g1, k1, hlt, HE.out, HA.out, rfl, hb1, HO1.out.set hlt 3, HB1.out.setCell (by exact hb1) _⟩
      · have t1 : (s p == 1) = false := by simp [he]
        have HE := Lib.hid he
        clear he
        go_wp2_with fail
        go_round
        case rel => exact ⟨p + 1, by omega, by go_num, fun j hj => by by_cases e : j = p; subst e; exact HE.out; exact HA.out j (by omega)⟩
        case measure => simp [intOf]; omega
    · obtain rfl : p = n := by omega
      go_wp2_with fail
      refine bodyPost_ret (v := .tuple #[.slice (some ⟨g, 0, none⟩) p cap, .int .u32 0, .int .i64 3]) (by simp [results, Try.results62, go_sem]) rfl ?_
      exact .inl ⟨HA.out, rfl, rfl⟩
/-- the document's LetGo -/
theorem ret_two {a : Value} {x y : Int} (h : x = y) : Ending.returned (.tuple #[a, .int .i64 x]) = .returned (.tuple #[a, .int .i64 y]) := by rw [h]
def RLetPost (p : Nat) (e : Ending) (w' : World) : Prop :=
  ∃ g' c' : Nat, e = .returned (.tuple #[.slice (some ⟨g', 0, none⟩) n c', .int .i64 (letE n s p)]) ∧ (g' = g ∨ w.heap.size ≤ g') ∧ IntsAt w' g' n (letS n s p) ∧ Below w.heap.size w w'
set_option maxRecDepth 100000 in
set_option maxHeartbeats 1000000 in
theorem rlet_any (p : Nat) (hp : p < 4294967296) (hr : IntsAt w g n s) : Calls Try.prog 63 #[.slice (some ⟨g, 0, none⟩) n cap, .int .u32 p] w (RLetPost g n s w p) := by
  have hn := hr.2.1
  obtain ⟨i0, hi, hz0, hz1, hz2⟩ := info_parts info3
  have HNW := Lib.hid (show ∀ j u, (intsOf s n)[j]? = some u → (w.alloc (.cells #[] 3)).cell? ((⟨g, 0, none⟩ : Addr).add j) = some u by
    intro j u hu
    obtain ⟨hj, rfl⟩ := intsOf_at s n j u hu
    rw [Addr.add_mid, Nat.zero_add, World.cell?_of_block (Below.heap_alloc w _ g hr.1)]; exact hr.cell hj)
  have HL := Lib.hid (show (intsOf s n).length = n * 1 by rw [intsOf_len]; omega)
  have HR := Lib.hid hr
  clear hr
  by_cases hlt : p < n
  · by_cases h2 : s p = 2
    · have HS := Lib.hid (show letS n s p = setS s p 4 by unfold letS; rw [if_pos ⟨hlt, h2⟩])
      have HE := Lib.hid (show letE n s p = 0 by unfold letE; rw [if_pos ⟨hlt, .inl h2⟩])
      have c1 := HR.out.cell hlt
      rw [h2] at c1
      have he := h2
      clear h2
      have H2 := Lib.hid he
      clear he
      go_enter Try.func63, Try.ntmps63
      go_wp2_with (at_builtin; go_must (refine wpList_append_own _ rfl (.tmp 28) (.tmp 29) 22 rfl w.heap.size 3 i0 (.int .i64 0) 1 8 Try.underlying22 hi hz0 hz1 hz2 rfl (by decide) _ _ _ rfl (own_empty w 3 1) ⟨g, 0, none⟩ n cap (intsOf s n) rfl HL.out HNW.out (intsOf_one s n) (by unfold maxLen; omega) (by omega) (by simp) ?_); intro v1 w1 hown1 hgrow1 hnil; obtain ⟨g1, k1, rfl, hb1, hs1⟩ := owns_some hown1 (fun e => by have := (hnil.1 e).1; cases this); have HO1 := Lib.hid (ints_owned (by simpa using hown1) hn : IntsAt w1 g1 n s); have HB1 := Lib.hid (below_one hgrow1 rfl); have f1 := HO1.out.free p; have d1 := HO1.out.cell hlt; have d0 := (HR.out.below HB1.out).cell hlt; rw [H2.out] at d0 d1; clear hown1 hgrow1 hnil)
      go_ret2
      exact ⟨g1, k1, ret_two HE.out.symm, .inr hb1, by rw [HS.out]; exact HO1.out.set hlt 4, HB1.out.setCell (by exact hb1) _⟩
    · by_cases h3 : s p = 3
      · have HS := Lib.hid (show letS n s p = setS s p 1 by unfold letS; rw [if_neg (fun h => h2 h.2), if_pos ⟨hlt, h3⟩])
        have HE := Lib.hid (show letE n s p = 0 by unfold letE; rw [if_pos ⟨hlt, .inr h3⟩])
        have c1 := HR.out.cell hlt
        rw [h3] at c1
        have H2 := Lib.hid h3
        clear h2 h3
        go_enter Try.func63, Try.ntmps63
        go_wp2_with (at_builtin; go_must (refine wpList_append_own _ rfl (.tmp 28) (.tmp 29) 22 rfl w.heap.size 3 i0 (.int .i64 0) 1 8 Try.underlying22 hi hz0 hz1 hz2 rfl (by decide) _ _ _ rfl (own_empty w 3 1) ⟨g, 0, none⟩ n cap (intsOf s n) rfl HL.out HNW.out (intsOf_one s n) (by unfold maxLen; omega) (by omega) (by simp) ?_); intro v1 w1 hown1 hgrow1 hnil; obtain ⟨g1, k1, rfl, hb1, hs1⟩ := owns_some hown1 (fun e => by have := (hnil.1 e).1; cases this); have HO1 := Lib.hid (ints_owned (by simpa using hown1) hn : IntsAt w1 g1 n s); have HB1 := Lib.hid (below_one hgrow1 rfl); have f1 := HO1.out.free p; have d1 := HO1.out.cell hlt; have d0 := (HR.out.below HB1.out).cell hlt; rw [H2.out] at d0 d1; clear hown1 hgrow1 hnil)
        go_ret2
        exact ⟨g1, k1, ret_two HE.out.symm, .inr hb1, by rw [HS.out]; exact HO1.out.set hlt 1, HB1.out.setCell (by exact hb1) _⟩
      · have HS := Lib.hid (show letS n s p = s by unfold letS; rw [if_neg (fun h => h2 h.2), if_neg (fun h => h3 h.2)])
        have HE := Lib.hid (show letE n s p = 121 by unfold letE; rw [if_neg (fun h => h.2.elim h2 h3)])
        have c1 := HR.out.cell hlt
        have t2 : (s p != 2) = true := by simp [h2]
        have t3 : (s p != 3) = true := by simp [h3]
        clear h2 h3
        go_enter Try.func63, Try.ntmps63
        go_wp2_with fail
        go_ret2
        exact ⟨g, cap, ret_two HE.out.symm, .inl rfl, by rw [HS.out]; exact HR.out, Below.refl _ _⟩
  · have HS := Lib.hid (show letS n s p = s by unfold letS; rw [if_neg (fun h => hlt h.1), if_neg (fun h => hlt h.1)])
    have HE := Lib.hid (show letE n s p = 121 by unfold letE; rw [if_neg (fun h => hlt h.1)])
    go_enter Try.func63, Try.ntmps63
    go_wp2_with fail
    go_ret2
    exact ⟨g, cap, ret_two HE.out.symm, .inl rfl, by rw [HS.out]; exact HR.out, Below.refl _ _⟩
def RTurnPost (t l : Int) (e : Ending) (w' : World) : Prop :=
  ∃ g' c' : Nat, e = .returned (.slice (some ⟨g', 0, none⟩) n c') ∧ w.heap.size ≤ g' ∧ IntsAt w' g' n (turnS t l s) ∧ Below w.heap.size w w'
set_option maxRecDepth 100000 in
set_option maxHeartbeats 1000000 in
theorem rturn_any (t l : Int) (hr : IntsAt w g n s) : Calls Try.prog 89 #[.slice (some ⟨g, 0, none⟩) n cap, .int .i64 3, .int .i64 t, .int .i64 4, .int .i64 l] w (RTurnPost n s w t l) := by
  have hn := hr.2.1
  obtain ⟨i0, hi, hz0, hz1, hz2⟩ := info_parts info3
  have HNW := Lib.hid (show ∀ j u, (intsOf s n)[j]? = some u → (w.alloc (.cells #[] 3)).cell? ((⟨g, 0, none⟩ : Addr).add j) = some u by
    intro j u hu
    obtain ⟨hj, rfl⟩ := intsOf_at s n j u hu
    rw [Addr.add_mid, Nat.zero_add, World.cell?_of_block (Below.heap_alloc w _ g hr.1)]; exact hr.cell hj)
  have HL := Lib.hid (show (intsOf s n).length = n * 1 by rw [intsOf_len]; omega)
  have HR := Lib.hid hr
  clear hr
  go_enter Try.func89, Try.ntmps89
  go_wp2_with (at_builtin; go_must (refine wpList_append_own _ rfl (.tmp 13) (.tmp 14) 22 rfl w.heap.size 3 i0 (.int .i64 0) 1 8 Try.underlying22 hi hz0 hz1 hz2 rfl (by decide) _ _ _ rfl (own_empty w 3 1) ⟨g, 0, none⟩ n cap (intsOf s n) rfl HL.out HNW.out (intsOf_one s n) (by unfold maxLen; omega) (by omega) (by simp) ?_); intro v1 w1 hown1 hgrow1 hnil; obtain ⟨g1, k1, rfl, hb1, hs1⟩ := owns_some hown1 (fun e => by have := (hnil.1 e).1; cases this); have HO1 := Lib.hid (ints_owned (by simpa using hown1) hn : IntsAt w1 g1 n s); have HB1 := Lib.hid (below_one hgrow1 rfl); have hsz := Lib.hid hb1; clear hown1 hgrow1 hnil)
  go_loopw [18] (fun i wr => ∃ p : Nat, p ≤ n ∧ i = .int .i64 p ∧ IntsAt wr g1 n (turnN t l s p) ∧ Below w.heap.size w wr) (fun i _ => n - (intOf i).toNat)
  case atStart => exact ⟨0, by omega, rfl, HO1.out.congr (fun i _ => by simp [turnN]), HB1.out⟩
  case round =>
    obtain ⟨p, hp, rfl, hI, hB⟩ := hrel
    have HI := Lib.hid hI
    have HB := Lib.hid hB
    clear hI hB HO1 HB1
    by_cases hlt : p < n
    · have c1 := HI.out.cell hlt
      have f1 := HI.out.free p
      have c0 := (HR.out.below HB.out).cell hlt
      have hself : turnN t l s p p = s p := by unfold turnN; rw [if_neg (by omega)]
      rw [hself] at c1
      by_cases h3 : s p = 3
      · have hv : turnS t l s p = t := by unfold turnS; rw [if_pos h3]
        have hS := HI.out.set hlt (turnS t l s p)
        have HS := Lib.hid (hS.congr (fun i _ => turnN_set t l s p i))
        rw [hv] at HS
        rw [h3] at c1 c0
        have hne : wr.heap.size = wr.heap.size := rfl
        have d0 : (wr.setCell ⟨g1, p, none⟩ (.int .i64 t)).cell? ⟨g, p, none⟩ = some (.int .i64 3) := by
          rw [World.cell?_of_block (Below.heap_setCell wr ⟨g1, p, none⟩ (.int .i64 t) g (by have := HR.out.1; have := hsz.out; show g ≠ g1; omega))]; exact c0
        clear hv hS h3 hself hne
        go_wp2_with fail
        exact ⟨⟨p + 1, by omega, by go_num, HS.out, HB.out.setCell hsz.out _⟩, by simp [intOf]; omega⟩
      by_cases h4 : s p = 4
      · have hv : turnS t l s p = l := by unfold turnS; rw [if_neg h3, if_pos h4]
        have hS := HI.out.set hlt (turnS t l s p)
        have HS := Lib.hid (hS.congr (fun i _ => turnN_set t l s p i))
        rw [hv] at HS
        rw [h4] at c1 c0
        clear hv hS h3 h4 hself
        go_wp2_with fail
        exact ⟨⟨p + 1, by omega, by go_num, HS.out, HB.out.setCell hsz.out _⟩, by simp [intOf]; omega⟩
      · have hv : turnS t l s p = s p := by unfold turnS; rw [if_neg h3, if_neg h4]
        have t3 : (s p == 3) = false := by simp [h3]
        have t4 : (s p == 4) = false := by simp [h4]
        have HS := Lib.hid (HI.out.congr (fun i _ => turnN_stay t l s p hv i))
        clear hv h3 h4 hself
        generalize s p = z at *
        go_wp2_with fail
        exact ⟨⟨p + 1, by omega, by go_num, HS.out, HB.out⟩, by simp [intOf]; omega⟩
    · obtain rfl : p = n := by omega
      go_wp2_with fail
      go_ret
      exact ⟨g1, k1, rfl, hsz.out, HI.out.congr (fun i hi => by unfold turnN; rw [if_pos hi]), HB.out⟩
theorem rswing_any (hr : IntsAt w g n s) : Calls Try.prog 66 #[.slice (some ⟨g, 0, none⟩) n cap] w (RTurnPost n s w 2 1) := by
  have HT := Lib.hid (rturn_any g n cap s w 2 1 hr)
  clear hr
  go_enter Try.func66, Try.ntmps66
  go_wp2_with fail
  refine HT.out.mono ?_
  rintro e w1 ⟨g1, c1, rfl, h1, h2, h3⟩
  have H1 := Lib.hid h1
  have H2 := Lib.hid h2
  have H3 := Lib.hid h3
  clear h1 h2 h3
  go_wp2_with fail
  go_ret
  exact ⟨g1, c1, rfl, H1.out, H2.out, H3.out⟩
theorem rback_any (hr : IntsAt w g n s) : Calls Try.prog 67 #[.slice (some ⟨g, 0, none⟩) n cap] w (RTurnPost n s w 1 2) := by
  have HT := Lib.hid (rturn_any g n cap s w 1 2 hr)
  clear hr
  go_enter Try.func67, Try.ntmps67
  go_wp2_with fail
  refine HT.out.mono ?_
  rintro e w1 ⟨g1, c1, rfl, h1, h2, h3⟩
  have H1 := Lib.hid h1
  have H2 := Lib.hid h2
  have H3 := Lib.hid h3
  clear h1 h2 h3
  go_wp2_with fail
  go_ret
  exact ⟨g1, c1, rfl, H1.out, H2.out, H3.out⟩
end
end Go.Proofs.Ytffdklcpkkcohaa
