/- Contracts of the reference's functions on lists of descriptors, continued: lay. -/
import Derived.Test.YtegeonompkgpeaaRef2
namespace Go.Proofs.Ytegeonompkgpeaa
open Go.RowKit

def padL (L : List Ro) (j : Nat) : List Ro := L ++ List.replicate j .zero
def layL (L : List Ro) (k : Nat) (x : Ro) : List Ro := (padL L (k + 1 - L.length)).set k x
theorem padL_len (L : List Ro) (j : Nat) : (padL L j).length = L.length + j := by simp [padL]
theorem padL_succ (L : List Ro) (j : Nat) : padL L (j + 1) = padL L j ++ [.zero] := by simp [padL, List.replicate_succ']
theorem info62 : (Try.prog.info? 62).map (fun i => (i.zero, i.size, i.bytes)) = some (some (.agg #[.bool false, .int .i64 0, .int .i64 0, .int .i64 0]), 4, 32) := by kernel_rfl
theorem owns_some {w : World} {B e size n : Nat} {v : Value} {xs : List Value} (h : w.ownsRow B e size v n xs) (hv : v ≠ .slice none 0 0) : ∃ g cap, v = .slice (some ⟨g, 0, none⟩) n cap ∧ B ≤ g ∧ g < w.heap.size := by
  obtain ⟨hl, ⟨h1, _⟩ | ⟨g', cap', cur, hv, hb, hg, _⟩⟩ := h
  · exact absurd h1 hv
  · exact ⟨g', cap', hv, hb, (Array.getElem?_eq_some_iff.1 hg).1⟩
def lenOf : Value → Nat | .slice _ n _ => n | _ => 0
theorem cell_four_at (w : World) (a b c d : Value) (t : TypeId) (n : Nat) (h : n = w.heap.size) : ∀ j u, [a, b, c, d][j]? = some u → (w.alloc (.cells #[a, b, c, d] t)).cell? ((⟨n, 0, none⟩ : Addr).add j) = some u := by
  subst h
  intro j u hu
  rw [Addr.add_mid, Nat.zero_add, cell_of_row _ _ j _ t (0, 0) (heap_alloc_new w _)]
  simpa using hu
theorem RefAt.set4 {w : World} {g cap : Nat} {M : List Ro} (h : RefAt w g cap M) (k : Nat) (hk : k < M.length) (x : Ro) :
    RefAt ((((w.setCell ⟨g, k * 4, none⟩ (.bool x.on)).setCell ⟨g, k * 4 + 1, none⟩ (.int .i64 x.ino)).setCell ⟨g, k * 4 + 2, none⟩ (.int .i64 x.flags)).setCell ⟨g, k * 4 + 3, none⟩ (.int .i64 x.pos)) g cap (M.set k x) := by
  have h0 := h
  obtain ⟨hlt, cur, h1, h2, h3, h4, h5⟩ := h
  have e1 := heap_setCell_same w g (k * 4) cur 62 (.bool x.on) h1
  have e2 := heap_setCell_same _ g (k * 4 + 1) _ 62 (.int .i64 x.ino) e1
  have e3 := heap_setCell_same _ g (k * 4 + 2) _ 62 (.int .i64 x.flags) e2
  have e4 := heap_setCell_same _ g (k * 4 + 3) _ 62 (.int .i64 x.pos) e3
  refine ⟨by simpa [World.setCell] using hlt, _, e4, by simpa using h2, h3, by simpa using h4, ?_⟩
  apply List.ext_getElem?
  intro t
  have hcell : ∀ i j, i < M.length → j < 4 → cur[i * 4 + j]? = (M[i]?).bind (fun o => o.cells[j]?) := by
    intro i j hi hj
    rw [← roCells_at M i j hj, ← h5, List.getElem?_take, if_pos (by omega)]
    simp
  by_cases ht : t < M.length * 4
  · obtain ⟨i, j, hi, hj, rfl⟩ : ∃ i j, i < M.length ∧ j < 4 ∧ t = i * 4 + j := ⟨t / 4, t % 4, by omega, by omega, by omega⟩
    rw [roCells_at _ i j hj, List.getElem?_take, if_pos (by simp; omega)]
    simp only [Array.getElem?_toList, Array.getElem?_setIfInBounds, Array.size_setIfInBounds, h4]
    by_cases hik : i = k
    · subst hik
      rw [List.getElem?_set_self hk]
      match j, hj with
      | 0, _ => rw [if_neg (by omega), if_neg (by omega), if_neg (by omega), if_pos (by omega), if_pos (by omega)]; rfl
      | 1, _ => rw [if_neg (by omega), if_neg (by omega), if_pos (by omega), if_pos (by omega)]; rfl
      | 2, _ => rw [if_neg (by omega), if_pos (by omega), if_pos (by omega)]; rfl
      | 3, _ => rw [if_pos (by omega), if_pos (by omega)]; rfl
    · rw [List.getElem?_set_ne (fun e => hik e.symm), ← hcell i j hi hj]
      rw [if_neg (by omega), if_neg (by omega), if_neg (by omega), if_neg (by omega)]
  · rw [List.getElem?_eq_none (by simp; omega), List.getElem?_eq_none (by rw [roCells_len]; simp; omega)]
theorem roCells_one (L : List Ro) : ∀ u ∈ roCells L, u.oneCell' = true := by
  intro u hu
  simp only [roCells, List.mem_flatMap, Ro.cells] at hu
  obtain ⟨o, _, hu⟩ := hu
  simp at hu
  rcases hu with rfl | rfl | rfl | rfl <;> rfl
theorem zero_one : ∀ u ∈ [Value.bool false, .int .i64 0, .int .i64 0, .int .i64 0], u.oneCell' = true := by
  intro u hu
  simp at hu
  rcases hu with rfl | rfl <;> rfl
theorem lay_own0 {w : World} {B g1 n c1 : Nat} {L : List Ro} (h : w.ownsRow B 62 4 (.slice (some ⟨g1, 0, none⟩) (0 + n) c1) (0 + n) ([] ++ roCells L)) :
    w.ownsRow B 62 4 (.slice (some ⟨g1, 0, none⟩) (n + 0) c1) (n + 0) (roCells (padL L 0)) := by simpa [padL] using h
theorem lay_own1 {w : World} {B g1 n j c1 : Nat} {L : List Ro} (h : w.ownsRow B 62 4 (.slice (some ⟨g1, 0, none⟩) (n + j + 1) c1) (n + j + 1) (roCells (padL L j) ++ [.bool false, .int .i64 0, .int .i64 0, .int .i64 0])) :
    w.ownsRow B 62 4 (.slice (some ⟨g1, 0, none⟩) (n + (j + 1)) c1) (n + (j + 1)) (roCells (padL L (j + 1))) := by
  rw [padL_succ, roCells_append]; exact h
theorem lay_below {w w1 : World} {o o' : Obj} (h : ((w.alloc o).alloc o').grownBy w1 (Value.slice (some ⟨w.heap.size + 1, 0, none⟩) 0 0).ownBlock) : Below (w.heap.size + 1) (w.alloc o) w1 :=
  ((Below.refl _ _).alloc (by simp) _).grown h (by simp) (fun k hk => by simp [Value.ownBlock] at hk; omega)
theorem lay_below2 {w wr w2 : World} {o o' : Obj} {g n c : Nat} (hb : Below (w.heap.size + 1) (w.alloc o) wr) (h : (wr.alloc o').grownBy w2 (Value.slice (some ⟨g, 0, none⟩) n c).ownBlock) (hg : w.heap.size + 1 ≤ g) : Below (w.heap.size + 1) (w.alloc o) w2 :=
  (hb.alloc (by have := hb.size; simp at this; omega) _).grown h (by have := hb.size; simp at this ⊢; omega) (fun k hk => by simp [Value.ownBlock] at hk; omega)
theorem lay_ref {w : World} {B g1 n j c1 : Nat} {L : List Ro} (hn : n = L.length) (h : w.ownsRow B 62 4 (.slice (some ⟨g1, 0, none⟩) (n + j) c1) (n + j) (roCells (padL L j))) : RefAt w g1 c1 (padL L j) := by
  subst hn
  refine RefAt.of_owns (B := B) (n := L.length + j) ?_
  rw [padL_len]; exact h
theorem lay_below4 {w wr : World} {o : Obj} {g i j k l : Nat} {a b c d : Value} (hb : Below (w.heap.size + 1) (w.alloc o) wr) (hg : w.heap.size + 1 ≤ g) :
    Below w.heap.size w ((((wr.setCell ⟨g, i, none⟩ a).setCell ⟨g, j, none⟩ b).setCell ⟨g, k, none⟩ c).setCell ⟨g, l, none⟩ d) := by
  have h0 : Below w.heap.size w wr := ((Below.refl _ _).alloc (Nat.le_refl _) o).trans (hb.mono (by omega))
  exact (((h0.setCell (p := ⟨g, i, none⟩) (by simp; omega) a).setCell (p := ⟨g, j, none⟩) (by simp; omega) b).setCell (p := ⟨g, k, none⟩) (by simp; omega) c).setCell (p := ⟨g, l, none⟩) (by simp; omega) d
def LayPost (L : List Ro) (k : Nat) (x : Ro) (w : World) (e : Ending) (w' : World) : Prop :=
  ∃ g cap, e = .returned (.slice (some ⟨g, 0, none⟩) (layL L k x).length cap) ∧ w.heap.size ≤ g ∧ RefAt w' g cap (layL L k x) ∧ Below w.heap.size w w'
set_option maxHeartbeats 1000000 in
theorem lay_any (g cap : Nat) (L : List Ro) (k : Nat) (x : Ro) (w : World) (hf : RefAt w g cap L) (hL : L.length ≤ 64) (hk : k < 64) :
    Calls Try.prog 34 #[.slice (some ⟨g, 0, none⟩) L.length cap, .int .i64 k, .agg #[.bool x.on, .int .i64 x.ino, .int .i64 x.flags, .int .i64 x.pos]] w (LayPost L k x w) := by
  obtain ⟨n, hn⟩ : ∃ n, n = L.length := ⟨_, rfl⟩
  have HN := Lib.hid hn
  have hg := hf.1
  rw [← hn] at hL ⊢
  clear hn
  obtain ⟨i0, hi, hz0, hz1, hz2⟩ := info_parts info62
  go_enter Try.func34, Try.ntmps34
  have hown0 : ((w.alloc (.cells #[.bool x.on, .int .i64 x.ino, .int .i64 x.flags, .int .i64 x.pos] 62)).alloc (.cells #[] 62)).ownsRow (w.heap.size + 1) 62 4 (.slice (some ⟨w.heap.size + 1, 0, none⟩) 0 0) 0 [] := by
    simpa using World.ownsRow_made (w.alloc (.cells #[.bool x.on, .int .i64 x.ino, .int .i64 x.flags, .int .i64 x.pos] 62)) (base := w.heap.size + 1) (e := 62) (size := 4) #[] 0 (by simp) (by simp [maxLen]) (by simp)
  have hnews : ∀ (j : Nat) (u : Value), (roCells L)[j]? = some u → ((w.alloc (.cells #[.bool x.on, .int .i64 x.ino, .int .i64 x.flags, .int .i64 x.pos] 62)).alloc (.cells #[] 62)).cell? ((⟨g, 0, none⟩ : Addr).add j) = some u := by
    intro j u hu; rw [Addr.add_mid, Nat.zero_add]; exact ((hf.alloc _).alloc _).cellAt j u hu
  have hlen : (roCells L).length = n * 4 := by rw [HN.out]; exact roCells_len L
  have hone : ∀ u ∈ roCells L, u.oneCell' = true := roCells_one L
  have HW := Lib.hid hown0
  have HNW := Lib.hid hnews
  have HLE := Lib.hid hlen
  have HON := Lib.hid hone
  clear hown0 hnews hlen hone
  go_wp2_with (at_builtin; go_must (refine wpList_append_own _ rfl (.tmp 8) (.tmp 9) 34 rfl (w.heap.size + 1) 62 i0 (.agg #[.bool false, .int .i64 0, .int .i64 0, .int .i64 0]) 4 32 Try.underlying34 hi hz0 hz1 hz2 rfl (by decide) _ _ _ rfl HW.out ⟨g, 0, none⟩ n cap (roCells L) rfl HLE.out HNW.out HON.out (by unfold maxLen; omega) (by omega) (by simp) ?_); intro v1 w1 hown1 hgrow1 hnil; obtain ⟨g1, c1, rfl, hb1, hs1⟩ := owns_some hown1 (fun e => by have := (hnil.1 e).1; cases this); have HO1 := Lib.hid (lay_own0 hown1); have HB1 := Lib.hid (lay_below hgrow1); clear hown1 hgrow1 hnil)
  go_loopw [7] (fun v wr => ∃ j g1 c1 : Nat, v = .slice (some ⟨g1, 0, none⟩) (n + j) c1 ∧ j ≤ k + 1 - n ∧ w.heap.size + 1 ≤ g1 ∧ g1 < wr.heap.size ∧ wr.ownsRow (w.heap.size + 1) 62 4 (.slice (some ⟨g1, 0, none⟩) (n + j) c1) (n + j) (roCells (padL L j)) ∧ Below (w.heap.size + 1) (w.alloc (.cells #[.bool x.on, .int .i64 x.ino, .int .i64 x.flags, .int .i64 x.pos] 62)) wr) (fun v _ => k + 1 - lenOf v)
  case atStart => exact ⟨0, g1, c1, by simp, by omega, hb1, hs1, HO1.out, HB1.out⟩
  case round =>
    obtain ⟨j, g1, c1, rfl, hj, hb1, hs1, hown, hbel⟩ := hrel
    have HB := Lib.hid hbel
    have hsz := hbel.size
    simp at hsz
    by_cases hlt : n + j ≤ k
    · have HO := Lib.hid hown
      clear hown hbel
      go_wp2_with (at_builtin; go_must (refine wpList_append_own _ rfl (.tmp 15) (.tmp 17) 34 rfl (w.heap.size + 1) 62 i0 (.agg #[.bool false, .int .i64 0, .int .i64 0, .int .i64 0]) 4 32 Try.underlying34 hi hz0 hz1 hz2 rfl (by decide) _ _ _ rfl (HO.out.alloc _) ⟨wr.heap.size, 0, none⟩ 1 1 [.bool false, .int .i64 0, .int .i64 0, .int .i64 0] rfl rfl (cell_four_at wr _ _ _ _ _ _ rfl) zero_one (by unfold maxLen; omega) (by omega) (by simp; omega) ?_); intro v2 w2 hown2 hgrow2 hnil2; obtain ⟨g2, c2, rfl, hb2, hs2⟩ := owns_some hown2 (fun e => by have := (hnil2.1 e).1; cases this); have HO2 := Lib.hid (lay_own1 hown2); have HB2 := Lib.hid (lay_below2 HB.out hgrow2 hb1); clear hown2 hgrow2 hnil2)
      go_roundw
      case rel => exact ⟨j + 1, g2, c2, rfl, by omega, hb2, hs2, HO2.out, HB2.out⟩
      case measure => simp [lenOf]; omega
    · have hM : k < (padL L j).length := by rw [padL_len, ← HN.out]; omega
      have hjk : j = k + 1 - n := by omega
      have hR : RefAt wr g1 c1 (padL L j) := lay_ref HN.out hown
      obtain ⟨y, hx⟩ : ∃ y, (padL L j)[k]? = some y := ⟨_, List.getElem?_eq_getElem hM⟩
      obtain ⟨c0, c1', c2, c3⟩ := hR.cells hx
      have f0 := hR.free (k * 4)
      have f1 := hR.free (k * 4 + 1)
      have f2 := hR.free (k * 4 + 2)
      have f3 := hR.free (k * 4 + 3)
      have hbox := hbel.block w.heap.size (by omega)
      rw [heap_alloc_new] at hbox
      have b0 := cell_of_row wr w.heap.size 0 _ 62 (0, 0) hbox
      have b1 := cell_of_row wr w.heap.size 1 _ 62 (0, 0) hbox
      have b2 := cell_of_row wr w.heap.size 2 _ 62 (0, 0) hbox
      have b3 := cell_of_row wr w.heap.size 3 _ 62 (0, 0) hbox
      simp at b0 b1 b2 b3
      have HR := Lib.hid hR
      have HJ := Lib.hid hjk
      have HM := Lib.hid hM
      have hkn : k < n + j := by omega
      clear hx hbox hR hjk hM hown hbel
      go_wp2
      go_ret
      have hlay : (padL L j).set k x = layL L k x := by rw [layL, ← HN.out, ← HJ.out]
      have hR4 := HR.out.set4 k HM.out x
      rw [hlay] at hR4
      have hl : (layL L k x).length = n + j := by rw [← hlay, List.length_set, padL_len, HN.out]
      exact ⟨g1, c1, by rw [hl]; rfl, by omega, hR4, lay_below4 HB.out hb1⟩
end Go.Proofs.Ytegeonompkgpeaa
