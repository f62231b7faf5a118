/- the places of ones, gone over: All of bits, as an iterator's contract. -/
import Derived.RangeFuncNested
import Derived.RangeFuncBound
import Derived.RangeFuncCalls
import Derived.RangeFuncLeaves
import Derived.Shelf.Abstract
import Derived.Shelf.RegionOpen
import Derived.OwnWalkIn
import Derived.TacticsInMore
import Derived.LoopNIn
import Derived.LoopIn
import Derived.Test.YtffdklcpkkcohaaBlaw
namespace Go.Proofs.Ytffdklcpkkcohaa
open Go.RowKit Go.Shelf
attribute [local go_sem] Oper.semAt_some

/-- the ones at or behind f -/
def onesF (k : Nat → Bool) (n f : Nat) : List Nat := (List.range' f (n - f)).filter k
theorem onesF_end (k : Nat → Bool) (n f : Nat) (h : n ≤ f) : onesF k n f = [] := by
  unfold onesF; rw [show n - f = 0 by omega]; rfl
theorem onesF_step (k : Nat → Bool) (n f : Nat) (h : f < n) : onesF k n f = if k f then f :: onesF k n (f + 1) else onesF k n (f + 1) := by
  unfold onesF
  rw [show n - f = (n - (f + 1)) + 1 by omega, List.range'_succ, List.filter_cons]
theorem onesF_skip (k : Nat → Bool) (n f q : Nat) (hq : f ≤ q) (hqn : q ≤ n) (h : ∀ j, f ≤ j → j < q → k j ≠ true) : onesF k n f = onesF k n q := by
  induction hd : q - f generalizing f with
  | zero => rw [show f = q by omega]
  | succ d ih =>
    rw [onesF_step k n f (by omega), if_neg (h f (Nat.le_refl _) (by omega))]
    exact ih (f + 1) (by omega) (fun j h1 h2 => h j (by omega) h2) (by omega)
theorem onesF_next (k : Nat → Bool) (n f : Nat) : (findI n k f true = -1 ∧ onesF k n f = []) ∨ (∃ q : Nat, findI n k f true = q ∧ f ≤ q ∧ q < n ∧ onesF k n f = q :: onesF k n (q + 1)) := by
  rcases findI_one n k f true with ⟨q, h1, h2, h3, h4, h5⟩ | ⟨h1, h2⟩
  · refine .inr ⟨q, h1, h2, h3, ?_⟩
    rw [onesF_skip k n f q h2 (by omega) h5, onesF_step k n q h3, if_pos h4]
  · refine .inl ⟨h1, ?_⟩
    by_cases h : f < n
    · rw [onesF_skip k n f n (by omega) (Nat.le_refl _) (fun j a b => h2 j a b), onesF_end k n n (Nat.le_refl _)]
    · exact onesF_end k n f (by omega)
theorem onesF_count (k : Nat → Bool) (n : Nat) : (onesF k n 0).length = countK n k := by
  unfold onesF countK
  rw [Nat.sub_zero, ← List.range_eq_range']
set_option maxRecDepth 100000 in
set_option maxHeartbeats 2000000 in
/-- All's closure, for every body that keeps the copy which the closure takes -/
theorem all1_in (l Bn b bb n : Nat) (k : Nat → Bool) (Kp : World → World → Prop) (J Jx : List Nat → World → Prop) (W : World)
    (hKm : ∀ X Y c cb, Kp X Y → W.heap.size ≤ c → W.heap.size ≤ cb → MapAt X c cb n k → MapAt Y c cb n k)
    (hY : ∀ (pre : List Nat) (x : Nat) W, J pre W → pre.length < (onesF k n 0).length → YieldAt Fence.wide 5 Try.prog l #[.int .i64 (x : Int)] W fun e W' =>
      (e = .returned (.bool true) ∧ J (pre ++ [x]) W' ∧ Kp W W') ∨ (e = .returned (.bool false) ∧ Jx (pre ++ [x]) W'))
    (hBn : W.cell? ⟨Bn, 0, none⟩ = some (.pointer (some ⟨b, 0, none⟩))) (hm : MapAt W b bb n k) (hJ : ∀ W', Below W.heap.size W W' → J [] W') :
    CallsIn Fence.wide 6 Try.prog 70 #[.func (.yield l) #[] #[], .pointer (some ⟨Bn, 0, none⟩)] W fun e W' => (∃ v, e = .returned v) ∧
      ((∃ ys, ys = onesF k n 0 ∧ J ys W') ∨ (∃ pre, pre <+: onesF k n 0 ∧ Jx pre W')) := by
  have hn := hm.2.2.2.1
  have HY := Lib.hid hY
  have HJ := Lib.hid hJ
  have HK := Lib.hid hKm
  clear hY hJ hKm
  refine callsIn_of_wp Try.func70 rfl trivial ?_ rfl
  simp only [Try.ntmps70, List.size_toArray, List.length_cons, List.length_nil, Nat.reduceAdd, Nat.reduceSub, Array.replicate_succ, Array.replicate_zero, List.push_toArray, List.append_toArray, List.nil_append, List.cons_append]
  gi_wp2_with fail
  refine ⟨trivial, (callsIn_wide.2 (clone_any b bb n k W hm)).mono ?_⟩
  rintro e w1 ⟨c, cb, rfl, hc, hcb, hm1, hB⟩
  have HM1 := Lib.hid hm1
  have HJ1 := Lib.hid (HJ.out w1 hB)
  clear hm1 hB hm hBn HJ
  gi_wp2_with fail
  refine ⟨trivial, (callsIn_wide.2 (next_any c cb n k w1 0 HM1.out)).mono ?_⟩
  rintro e w2 ⟨rfl, rfl⟩
  gi_wp2_with fail
  gi_loopw [4] (fun i wr => ∃ (pre : List Nat) (f : Nat), i = .int .i64 (findI n k f true) ∧ onesF k n 0 = pre ++ onesF k n f ∧ J pre wr ∧ MapAt wr c cb n k) (fun i _ => mz n i)
  case atStart => exact ⟨[], 0, rfl, rfl, HJ1.out, HM1.out⟩
  case round =>
    obtain ⟨pre, f, rfl, hx, hJs, hmr⟩ := hrel
    rcases onesF_next k n f with ⟨h1, h2⟩ | ⟨q, h1, h2, h3, h4⟩
    · rw [h1]
      rw [h2, List.append_nil] at hx
      have HX := Lib.hid hx
      have HJs := Lib.hid hJs
      clear hx hJs hmr h1 h2
      gi_wp2_with fail
      go_end0
      exact ⟨⟨_, rfl⟩, .inl ⟨pre, HX.out.symm, HJs.out⟩⟩
    · rw [h1]
      obtain ⟨fn, tmps, assign, body, hy, hR⟩ := HY.out pre q wr hJs (by rw [hx, h4]; simp)
      have HX := Lib.hid hx
      have HMR := Lib.hid hmr
      have H4 := Lib.hid h4
      clear hx hJs hmr h1 h4
      gi_wp2_with fail
      refine hR.mono ?_
      rintro e W3 (⟨rfl, hJ3, hk3⟩ | ⟨rfl, hJx3⟩)
      · have hm3 := HK.out wr W3 c cb hk3 hc hcb HMR.out
        have HM3 := Lib.hid hm3
        have HJ3 := Lib.hid hJ3
        clear hm3 hJ3 hk3
        have HN := Lib.hid (next_any c cb n k W3 ((q : Int) + 1) HM3.out)
        gi_wp2
        refine ⟨trivial, (callsIn_wide.2 HN.out).mono ?_⟩
        rintro e w2 ⟨rfl, rfl⟩
        gi_wp2
        go_roundw
        case rel => exact ⟨pre ++ [q], q + 1, by rw [show ((q : Int) + 1) = ((q + 1 : Nat) : Int) by omega], by rw [HX.out, H4.out]; simp, HJ3.out, HM3.out⟩
        case measure =>
          rw [mz_pos, show ((q : Int) + 1) = ((q + 1 : Nat) : Int) by omega]
          rcases onesF_next k n (q + 1) with ⟨e1, _⟩ | ⟨q', e1, _, _, _⟩
          · rw [e1, mz_neg]; omega
          · rw [e1, mz_pos]; omega
      · gi_wp2_with fail
        refine bodyPost_ret (results_none rfl _ _ _) rfl ?_
        exact ⟨⟨_, rfl⟩, .inr ⟨pre ++ [q], ⟨onesF k n (q + 1), by rw [HX.out, H4.out]; simp⟩, hJx3⟩⟩
theorem all_any (b : Nat) (w : World) : Calls Try.prog 19 #[.pointer (some ⟨b, 0, none⟩)] w fun e w' => e = .returned (.func (.func 70) #[] #[.pointer (some ⟨w.heap.size, 0, none⟩)]) ∧ w' = w.alloc (.cells #[.pointer (some ⟨b, 0, none⟩)] 23) := by
  go_enter Try.func19, Try.ntmps19
  go_wp2
  go_ret
  exact ⟨rfl, rfl⟩
/-- what a round keeps: all cells but those of three blocks -/
def KeepBut (r a c : Nat) (X Y : World) : Prop := ∀ j o, X.heap[j]? = some o → o.isCells = true → j ≠ r → j ≠ a → j ≠ c → Y.heap[j]? = some o
theorem keepBut_t {r a c : Nat} {A B C : World} (h : KeepBut r a c A B) (k : KeepBut r a c B C) : KeepBut r a c A C :=
  fun j o h1 h2 h3 h4 h5 => k j o (h j o h1 h2 h3 h4 h5) h2 h3 h4 h5
theorem keepBut_b {r a c : Nat} (W : World) (l : Nat) (o o' : Obj) (h : W.heap[l]? = some o) (hc : o.isCells = false) : KeepBut r a c W (W.putObj l o') :=
  fun j q h1 h2 _ _ _ => by
    have hne : j ≠ l := fun e => by subst e; rw [h] at h1; cases h1; rw [hc] at h2; cases h2
    exact ((grownBy_putObj' W l o').block j (Array.getElem?_eq_some_iff.1 h1).1 (fun e => hne (by injection e))).trans h1
theorem keepBut_map {r a c : Nat} {X Y : World} {b bb n : Nat} {k : Nat → Bool} (h : KeepBut r a c X Y) (hm : MapAt X b bb n k) (h1 : b ≠ r ∧ b ≠ a ∧ b ≠ c) (h2 : bb ≠ r ∧ bb ≠ a ∧ bb ≠ c) : MapAt Y b bb n k := by
  obtain ⟨_, _, _, _, _, cap, cur, e1, e2, _⟩ := id hm
  exact hm.of_blocks ((h b _ e1 rfl h1.1 h1.2.1 h1.2.2).trans e1.symm) ((h bb _ e2 rfl h2.1 h2.2.1 h2.2.2).trans e2.symm)
/-- All hands back a value with an iterator's contract -/
theorem all_stops (r a c Bn b bb n : Nat) (k : Nat → Bool) (w : World) (hr : r < w.heap.size) (ha : a < w.heap.size) (hc : c < w.heap.size) (hBn : w.cell? ⟨Bn, 0, none⟩ = some (.pointer (some ⟨b, 0, none⟩))) (hBl : Bn < w.heap.size) (hm : MapAt w b bb n k) :
    SeqStopsK Fence.wide 6 Try.prog 70 #[.pointer (some ⟨Bn, 0, none⟩)] (fun x : Nat => #[Value.int .i64 (x : Int)]) (KeepBut r a c) (fun ys => ys = onesF k n 0) (fun pre => pre <+: onesF k n 0) (onesF k n 0).length w := by
  intro l J Jx W hW hJ _ hY h0
  have hs := hW.size
  exact all1_in l Bn b bb n k (KeepBut r a c) J Jx W (fun X Y c' cb' hk h1 h2 hm' => keepBut_map hk hm' ⟨by omega, by omega, by omega⟩ ⟨by omega, by omega, by omega⟩) hY ((hW.cell (p := ⟨Bn, 0, none⟩) hBl).trans hBn) (hm.below hW)
    (fun W' hB => hJ [] W W' none h0 (only_of_below hB none) (fun _ e => by cases e))
end Go.Proofs.Ytffdklcpkkcohaa
