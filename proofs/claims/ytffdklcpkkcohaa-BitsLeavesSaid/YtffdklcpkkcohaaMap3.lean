/- Contracts of package bits' functions: Clone, Same. -/
import Derived.Test.YtffdklcpkkcohaaMap2
import Derived.Lib.Slices
namespace Go.Proofs.Ytffdklcpkkcohaa
open Go.RowKit

theorem own_empty (w : World) (e size : Nat) : (w.alloc (.cells #[] e)).ownsRow w.heap.size e size (.slice (some ⟨w.heap.size, 0, none⟩) 0 0) 0 [] :=
  World.ownsRow_made w #[] 0 (Nat.le_refl _) (by simp [maxLen]) (by simp)
theorem owns_some {w : World} {B e size n : Nat} {v : Value} {xs : List Value} (h : w.ownsRow B e size v n xs) (hv : v ≠ .slice none 0 0) : ∃ g cap, v = .slice (some ⟨g, 0, none⟩) n cap ∧ B ≤ g ∧ g < w.heap.size := by
  obtain ⟨hl, ⟨h1, _⟩ | ⟨g', cap', cur, hv, hb, hg, _⟩⟩ := h
  · exact absurd h1 hv
  · exact ⟨g', cap', hv, hb, (Array.getElem?_eq_some_iff.1 hg).1⟩
theorem below_one {w w1 : World} {o : Obj} {a : Addr} (h : (w.alloc o).grownBy w1 (Value.slice (some a) 0 0).ownBlock) (ha : a.block = w.heap.size) : Below w.heap.size w w1 :=
  ((Below.refl _ _).alloc (Nat.le_refl _) _).grown h (by simp) (fun k hk => by simp [Value.ownBlock] at hk; omega)
def ClonePost (e' size n : Nat) (xs : List Value) (w : World) (e : Ending) (w' : World) : Prop :=
  ∃ g cap, e = .returned (.slice (some ⟨g, 0, none⟩) n cap) ∧ w'.ownsRow w.heap.size e' size (.slice (some ⟨g, 0, none⟩) n cap) n xs ∧ Below w.heap.size w w'
set_option maxRecDepth 100000 in
theorem sclone_bytes (g n cap : Nat) (xs : List Value) (w : World) (hn : n ≤ 8192) (hl : xs.length = n) (hc : ∀ j u, xs[j]? = some u → w.cell? ⟨g, j, none⟩ = some u) (h1 : ∀ u ∈ xs, u.oneCell' = true) (hg : g < w.heap.size) :
    Calls Try.prog 80 #[.slice (some ⟨g, 0, none⟩) n cap] w (ClonePost 5 1 n xs w) := by
  obtain ⟨i0, hi, hz0, hz1, hz2⟩ := info_parts info5
  have hnews : ∀ j u, xs[j]? = some u → (w.alloc (.cells #[] 5)).cell? ((⟨g, 0, none⟩ : Addr).add j) = some u := by
    intro j u hu; rw [Addr.add_mid, Nat.zero_add, World.cell?_of_block (Below.heap_alloc w _ g hg)]; exact hc j u hu
  have HNW := Lib.hid hnews
  have H1 := Lib.hid h1
  have HL := Lib.hid (show xs.length = n * 1 by omega)
  clear hnews h1 hl hc
  have hq := fun W => Lib.run_eql_slice_nil (P := Try.prog) W 119 5 (some ⟨g, 0, none⟩) n cap 0 0 Try.underlying119
  simp only [Option.isNone_some] at hq
  go_enter Try.func80, Try.ntmps80
  go_wp2_with (at_builtin; go_must (refine wpList_append_own _ rfl (.tmp 5) (.tmp 6) 119 rfl w.heap.size 5 i0 (.int .u8 0) 1 1 Try.underlying119 hi hz0 hz1 hz2 rfl (by decide) _ _ _ rfl (own_empty w 5 1) ⟨g, 0, none⟩ n cap xs rfl HL.out HNW.out H1.out (by unfold maxLen; omega) (by omega) (by simp) ?_); intro v1 w1 hown1 hgrow1 hnil; obtain ⟨g1, c1, rfl, hb1, hs1⟩ := owns_some hown1 (fun e => by have := (hnil.1 e).1; cases this); have HO1 := Lib.hid hown1; have HB1 := Lib.hid (below_one hgrow1 rfl); clear hown1 hgrow1 hnil)
  go_ret
  exact ⟨g1, c1, by simp, by simpa using HO1.out, HB1.out⟩
/-- the bytes of a map -/
def bytesOf (k : Nat → Bool) (m : Nat) : List Value := (List.range m).map fun i => .int .u8 (byteVal k i)
theorem bytesOf_len (k : Nat → Bool) (m : Nat) : (bytesOf k m).length = m := by simp [bytesOf]
theorem bytesOf_at (k : Nat → Bool) (m j : Nat) (u : Value) (h : (bytesOf k m)[j]? = some u) : j < m ∧ u = .int .u8 (byteVal k j) := by
  unfold bytesOf at h
  rw [List.getElem?_map] at h
  by_cases hj : j < m
  · rw [List.getElem?_range hj] at h; simp at h; exact ⟨hj, h.symm⟩
  · rw [List.getElem?_eq_none (by simp; omega)] at h; cases h
theorem bytesOf_get (k : Nat → Bool) (m j : Nat) (h : j < m) : (bytesOf k m)[j]? = some (.int .u8 (byteVal k j)) := by
  unfold bytesOf; rw [List.getElem?_map, List.getElem?_range h]; rfl
theorem bytesOf_one (k : Nat → Bool) (m : Nat) : ∀ u ∈ bytesOf k m, u.oneCell' = true := by
  intro u hu
  unfold bytesOf at hu
  obtain ⟨j, _, rfl⟩ := List.mem_map.1 hu
  rfl
theorem owns_cur {w : World} {B e g n cap : Nat} {xs : List Value} (h : w.ownsRow B e 1 (.slice (some ⟨g, 0, none⟩) n cap) n xs) : ∃ cur, w.heap[g]? = some (.cells cur e (0, 0)) ∧ n ≤ cur.size ∧ ∀ i, i < n → cur[i]? = xs[i]? := by
  obtain ⟨hl, ⟨h1, _⟩ | ⟨g', cap', cur, hv, hb, hg, hnc, hcm, hcs, htake⟩⟩ := h
  · cases h1
  · cases hv
    refine ⟨cur, hg, by omega, fun i hi => ?_⟩
    rw [← htake, List.getElem?_take, if_pos (by omega)]
    simp
theorem mapAt_box {w : World} {B g n cap : Nat} {k : Nat → Bool} (h : w.ownsRow B 5 1 (.slice (some ⟨g, 0, none⟩) ((n + 7) / 8) cap) ((n + 7) / 8) (bytesOf k ((n + 7) / 8))) (h1 : 1 ≤ n) (h2 : n ≤ 8192) (hk : ∀ p, n ≤ p → k p = false) :
    MapAt (w.alloc (.cells #[.int .i64 n, .slice (some ⟨g, 0, none⟩) ((n + 7) / 8) cap] 121)) w.heap.size g n k := by
  obtain ⟨cur, hg, hs, hc⟩ := owns_cur h
  have hlt := (Array.getElem?_eq_some_iff.1 hg).1
  exact ⟨by simp, by simp; omega, h1, h2, hk, cap, cur, heap_alloc_new w _, (Below.heap_alloc w _ g hlt).trans hg, hs, fun i hi => by rw [hc i hi, bytesOf_get k _ i hi]⟩
def MClonePost (n : Nat) (k : Nat → Bool) (w : World) (e : Ending) (w' : World) : Prop :=
  ∃ b bb, e = .returned (.pointer (some ⟨b, 0, none⟩)) ∧ w.heap.size ≤ b ∧ w.heap.size ≤ bb ∧ MapAt w' b bb n k ∧ Below w.heap.size w w'
set_option maxHeartbeats 400000 in
theorem clone_any (b bb n : Nat) (k : Nat → Bool) (w : World) (hm : MapAt w b bb n k) : Calls Try.prog 42 #[.pointer (some ⟨b, 0, none⟩)] w (MClonePost n k w) := by
  have hn := hm.2.2.2.1
  have hb := hm.1
  obtain ⟨cap, h0, h1⟩ := hm.head
  obtain ⟨m, hm'⟩ : ∃ m, m = (n + 7) / 8 := ⟨_, rfl⟩
  have HM := Lib.hid hm'
  have hmn : m ≤ 8192 := by omega
  rw [← hm'] at h1
  clear hm'
  have hcl := fun nq => sclone_bytes bb m cap (bytesOf k m) (w.drewN nq) hmn (bytesOf_len k m) (fun j u hu => by obtain ⟨hj, rfl⟩ := bytesOf_at k m j u hu; exact (hm.drewN nq).byte (by rw [← HM.out]; exact hj)) (bytesOf_one k m) hm.2.1
  have HC := Lib.hid hcl
  clear hcl
  go_enter Try.func42, Try.ntmps42
  go_wp2
  go_region_with (go_at_call 80; go_must (refine (HC.out 1).mono ?_); rintro e w1 ⟨g, c, rfl, ho, hB⟩; have c0 := hB.cell (p := ⟨b, 0, none⟩) hb; have c1 := hB.cell (p := ⟨b, 1, none⟩) hb; have HO := Lib.hid ho; have HB := Lib.hid hB; clear ho hB)
  all_goals go_wp2
  all_goals go_ret
  all_goals
    have hB : Below w.heap.size w w1 := ⟨HB.out.os, HB.out.tape, HB.out.output, HB.out.size, HB.out.block⟩
    have hO : w1.ownsRow w.heap.size 5 1 (.slice (some ⟨g, 0, none⟩) m c) m (bytesOf k m) := HO.out
    have hlt := (hO.lt g rfl).1
    have hm2 := HM.out
    subst hm2
    exact ⟨w1.heap.size, g, rfl, hB.size, hlt, mapAt_box hO hm.2.2.1 hn hm.2.2.2.2.1, hB.alloc hB.size _⟩
/-! Same -/
set_option maxHeartbeats 400000 in
theorem sequal_bytes (g1 g2 n c1 c2 : Nat) (f1 f2 : Nat → Int) (w : World) (hn : n ≤ 8192) (h1 : ∀ j, j < n → w.cell? ⟨g1, j, none⟩ = some (.int .u8 (f1 j))) (h2 : ∀ j, j < n → w.cell? ⟨g2, j, none⟩ = some (.int .u8 (f2 j))) :
    Calls Try.prog 79 #[.slice (some ⟨g1, 0, none⟩) n c1, .slice (some ⟨g2, 0, none⟩) n c2] w fun e w' => e = .returned (.bool (decide (∀ j, j < n → f1 j = f2 j))) ∧ ∃ q, w' = w.drewN q := by
  have H1 := Lib.hid h1
  have H2 := Lib.hid h2
  clear h1 h2
  go_enter Try.func79, Try.ntmps79
  go_wp2
  go_loopw [13] (fun i wr => ∃ j q : Nat, j ≤ n ∧ i = .int .i64 j ∧ wr = w.drewN q ∧ ∀ i, i < j → f1 i = f2 i) (fun i _ => n - (intOf i).toNat)
  case atStart => exact ⟨0, 0, by omega, rfl, rfl, fun i hi => by omega⟩
  case round =>
    obtain ⟨j, q, hj, rfl, rfl, hall⟩ := hrel
    have HA := Lib.hid hall
    clear hall
    by_cases hlt : j < n
    · have c1 := H1.out j hlt
      have c2 := H2.out j hlt
      by_cases he : f1 j = f2 j
      · have he' : (f1 j != f2 j) = false := by simp [he]
        have HE := Lib.hid he
        clear he
        go_wp2
        go_quiet (fail)
        go_wp2
        go_roundw
        case rel => exact ⟨j + 1, _, by omega, by go_num, rfl, fun i hi => by by_cases e : i = j; subst e; exact HE.out; exact HA.out i (by omega)⟩
        case measure => simp [intOf]; omega
      · have he' : (f1 j != f2 j) = true := by simp [he]
        have HE := Lib.hid he
        clear he
        go_wp2
        go_quiet (fail)
        go_wp2
        go_ret
        exact ⟨ret_bool (decide_eq_false fun h => HE.out (h j hlt)).symm, _, World.drewN_drewN _ _ _⟩
    · go_wp2
      go_ret
      exact ⟨ret_bool (decide_eq_true fun i hi => HA.out i (by omega)).symm, q, rfl⟩
end Go.Proofs.Ytffdklcpkkcohaa
