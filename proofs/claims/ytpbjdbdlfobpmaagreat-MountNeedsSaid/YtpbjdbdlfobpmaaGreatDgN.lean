/- The digest's mathematics, to its end: what digest.Of answers is digestF. No world in sight. -/
import Derived.Test.YtpbjdbdlfobpmaaGreatDgM
namespace Go.Proofs.YtpbjdbdlfobpmaaGreat
open Go.RowKit Go.Eng
def piecesN (l : List Nat) (b : Nat → Nat) : Nat → List Nat
  | 0 => l
  | p + 1 => pieceF (piecesN l b p) ((List.range 32).map fun i => b (32 * p + i))
theorem pieces_nat (l : List Nat) (hl : l.length = 8) (hs : Sm l) (b : Nat → Nat) (hb : ∀ i, b i < 256) (f : Nat → Int) : ∀ p, (∀ i, i < 32 * p → f i = (b i : Int)) → piecesI (N l) f p = N (piecesN l b p) ∧ Sm (piecesN l b p) ∧ (piecesN l b p).length = 8
  | 0, _ => ⟨rfl, hs, hl⟩
  | p + 1, hf => by
    have h := pieces_nat l hl hs b hb f p fun i hi => hf i (by omega)
    refine ⟨?_, pieceF_sm _ h.2.2 h.2.1 _ fun i => hb _, pieceF_len _ _⟩
    unfold piecesI piecesN
    rw [h.1]
    exact piece_nat _ h.2.2 h.2.1 (fun i => b (32 * p + i)) (fun i => hb _) _ fun i hi => hf _ (by omega)
theorem piecesN_first (l : List Nat) (b : Nat → Nat) : ∀ p, piecesN (pieceF l ((List.range 32).map b)) (fun i => b (32 + i)) p = piecesN l b (p + 1)
  | 0 => by
    simp only [piecesN, Nat.mul_zero, Nat.zero_add]
  | p + 1 => by
    rw [piecesN, piecesN_first l b p, piecesN.eq_2 l b (p + 1)]
    congr 1
    refine List.map_congr_left fun i _ => ?_
    congr 1
    omega
theorem piecesN_add (l : List Nat) (b : Nat → Nat) (p : Nat) : ∀ q, piecesN (piecesN l b p) (fun i => b (32 * p + i)) q = piecesN l b (p + q)
  | 0 => rfl
  | q + 1 => by
    rw [piecesN, piecesN_add l b p q, ← Nat.add_assoc, piecesN.eq_2 l b (p + q)]
    congr 1
    refine List.map_congr_left fun i _ => ?_
    congr 1
    omega
theorem take32 (bs : List Nat) (h : ¬ bs.length < 32) : bs.take 32 = (List.range 32).map fun i => bs.getD i 0 := by
  refine List.ext_getElem (by simp; omega) fun i h1 h2 => ?_
  simp at h1 h2
  have h3 : i < bs.length := by omega
  simp [List.getD_eq_getElem?_getD, List.getElem?_eq_getElem h3]
theorem piecesF_eq : ∀ (n : Nat) (h bs : List Nat), bs.length / 32 ≤ n → piecesF n h bs = piecesN h (fun i => bs.getD i 0) (bs.length / 32)
  | 0, h, bs, hn => by
    rw [show bs.length / 32 = 0 by omega]
    rfl
  | n + 1, h, bs, hn => by
    unfold piecesF
    by_cases hc : bs.length < 32
    · rw [if_pos hc, show bs.length / 32 = 0 by omega]
      rfl
    · rw [if_neg hc, piecesF_eq n _ _ (by rw [List.length_drop]; omega), take32 bs hc, List.length_drop, show bs.length / 32 = (bs.length - 32) / 32 + 1 by omega, ← piecesN_first]
      congr 1
      funext i
      simp [List.getD_eq_getElem?_getD, List.getElem?_drop]
theorem natBytes_eq : ∀ l : List UInt8, natBytes l = l.map UInt8.toNat
  | [] => rfl
  | u :: r => by rw [natBytes, natBytes_eq r]; rfl
theorem natBytes_at (s : ByteArray) (i : Nat) : bf s i = (((natBytes s.data.toList).getD i 0 : Nat) : Int) := by
  unfold bf
  rw [natBytes_eq, List.getD_eq_getElem?_getD, List.getD_eq_getElem?_getD, List.getElem?_map]
  cases s.data.toList[i]? <;> rfl
theorem natBytes_len (s : ByteArray) : (natBytes s.data.toList).length = s.size := by
  rw [natBytes_eq, List.length_map]
  rfl
theorem low4_lt (w i : Nat) : (low4 w).getD i 0 < 256 := by
  unfold low4
  match i with
  | 0 => exact Nat.mod_lt _ (by decide)
  | 1 => exact Nat.mod_lt _ (by decide)
  | 2 => exact Nat.mod_lt _ (by decide)
  | 3 => exact Nat.mod_lt _ (by decide)
  | _ + 4 => exact (by decide : 0 < 256)
def Bm (l : List Nat) : Prop := ∀ x ∈ l, x < 256
theorem Bm.at {l : List Nat} (h : Bm l) (i : Nat) : l.getD i 0 < 256 := by
  rw [List.getD_eq_getElem?_getD]
  cases e : l[i]? with
  | none => exact (by decide : 0 < 256)
  | some x => exact h x (List.mem_of_getElem? e)
theorem pad_bm (n : Nat) : Bm (padF n) := by
  intro x hx
  unfold padF low4 at hx
  simp only [List.cons_append, List.mem_cons, List.mem_append, List.mem_replicate, List.not_mem_nil, or_false] at hx
  rcases hx with rfl | (⟨_, rfl⟩ | rfl | rfl | rfl | rfl) | rfl | rfl | rfl | rfl
  all_goals first | decide | exact Nat.mod_lt _ (by decide)
theorem nb_bm (l : List UInt8) : Bm (natBytes l) := by
  intro x hx
  rw [natBytes_eq] at hx
  obtain ⟨u, _, rfl⟩ := List.mem_map.1 hx
  exact u.toNat_lt
theorem pad_len (n : Nat) : (padF n).length = 9 + (32 - (n + 9) % 32) % 32 := by
  simp [padF, low4]
  omega
theorem n8_nat (n : Nat) (h : n ≤ 1000000) : n8 (n : Int) = N (low4 n ++ [0, 0, 0, 0]) := by
  unfold n8
  simp only [b64_nat]
  have e4 : n / 2 ^ (8 * 4) = 0 := Nat.div_eq_of_lt (by omega)
  have e5 : n / 2 ^ (8 * 5) = 0 := Nat.div_eq_of_lt (by omega)
  have e6 : n / 2 ^ (8 * 6) = 0 := Nat.div_eq_of_lt (by omega)
  have e7 : n / 2 ^ (8 * 7) = 0 := Nat.div_eq_of_lt (by omega)
  rw [e4, e5, e6, e7]
  simp [N, low4]
theorem last_nat (s : ByteArray) (hs : s.size ≤ 1000000) (i : Nat) : lastI s (s.size % 32) i = (((natBytes s.data.toList ++ padF s.size).getD (32 * (s.size / 32) + i) 0 : Nat) : Int) := by
  have e1 : fBytes (s.size % 32) (fun i => bf s (32 * (s.size / 32) + i)) = N ((natBytes s.data.toList).drop (32 * (s.size / 32))) := by
    unfold fBytes N
    refine List.ext_getElem (by simp [natBytes_len]; omega) fun i h1 h2 => ?_
    simp only [List.getElem_map, List.getElem_range, List.getElem_drop]
    rw [natBytes_at, List.getD_eq_getElem?_getD, List.getElem?_eq_getElem]
    rfl
  unfold lastI tailI
  rw [e1, n8_nat _ hs, show 32 * ((s.size % 32 + 40) / 32) - s.size % 32 - 9 = (32 - (s.size + 9) % 32) % 32 by omega]
  have e2 : (128 : Int) :: List.replicate ((32 - (s.size + 9) % 32) % 32) 0 = N (128 :: List.replicate ((32 - (s.size + 9) % 32) % 32) 0) := by
    simp [N]
  rw [e2, N_append, N_append, N_at]
  congr 1
  have e3 : (natBytes s.data.toList).drop (32 * (s.size / 32)) ++ (128 :: List.replicate ((32 - (s.size + 9) % 32) % 32) 0) ++ (low4 s.size ++ [0, 0, 0, 0]) = (natBytes s.data.toList ++ padF s.size).drop (32 * (s.size / 32)) := by
    rw [List.drop_append_of_le_length (by rw [natBytes_len]; omega)]
    unfold padF
    simp only [List.append_assoc, List.cons_append]
  rw [e3]
  simp [List.getD_eq_getElem?_getD, List.getElem?_drop]
theorem list8N {l : List Nat} (h : l.length = 8) : ∃ a b c d e f g i, l = [a, b, c, d, e, f, g, i] := by
  match l, h with
  | [a, b, c, d, e, f, g, i], _ => exact ⟨a, b, c, d, e, f, g, i, rfl⟩
theorem ob_nat (l : List Nat) (hl : l.length = 8) (hs : Sm l) : oB (N l) 8 = N (l.map low4).flatten := by
  have h (i : Nat) : ∀ k, b32 (((l.getD i 0 : Nat)) : Int) k = ((l.getD i 0 / 2 ^ (8 * k) % 256 : Nat) : Int) := fun k => b32_nat _ k (Nat.lt_trans (hs i) (by decide))
  unfold oB
  simp only [N_at, h]
  clear h hs
  obtain ⟨a, b, c, d, e, f, g, i, rfl⟩ := list8N hl
  simp only [Nat.mul_zero, Nat.pow_zero, Nat.div_one]
  rfl
theorem xor_small (a b : Nat) : (a % 4294967296) ^^^ (b % 4294967296) < 4294967296 :=
  Nat.xor_lt_two_pow (n := 32) (Nat.mod_lt a (by decide)) (Nat.mod_lt b (by decide))
theorem map_sm (f : Nat → Nat) (hf : ∀ i, f i < 4294967296) (l : List Nat) : Sm (l.map f) := by
  intro i
  rw [List.getD_eq_getElem?_getD, List.getElem?_map]
  cases l[i]? with
  | none => exact (by decide : 0 < 4294967296)
  | some j => exact hf j
theorem newF_sm (t : Nat) : Sm (newF t) := map_sm (fun i => (2654435769 * (i + 1) % 4294967296) ^^^ (t * 16777216 % 4294967296)) (fun i => xor_small (2654435769 * (i + 1)) (t * 16777216)) (List.range 8)
theorem dig_nat (t : Nat) (ht : t < 256) (s : ByteArray) (hs : s.size ≤ 1000000) : digI (t : Int) s = N (digestF t (natBytes s.data.toList)) := by
  have hb : ∀ i, (natBytes s.data.toList ++ padF s.size).getD i 0 < 256 := Bm.at fun x hx => by
    rcases List.mem_append.1 hx with h | h
    · exact nb_bm _ x h
    · exact pad_bm _ x h
  have h1 := pieces_nat (newF t) (by rfl) (newF_sm t) (fun i => (natBytes s.data.toList ++ padF s.size).getD i 0) hb (bf s) (s.size / 32) fun i hi => by
    rw [natBytes_at, List.getD_eq_getElem?_getD, List.getD_eq_getElem?_getD, List.getElem?_append_left (by rw [natBytes_len]; omega)]
  have h2 := pieces_nat _ h1.2.2 h1.2.1 (fun i => (natBytes s.data.toList ++ padF s.size).getD (32 * (s.size / 32) + i) 0) (fun i => hb _) (lastI s (s.size % 32)) ((s.size % 32 + 40) / 32) fun i _ => last_nat s hs i
  unfold digI digestF
  rw [words0_nat t ht, h1.1, h2.1, ob_nat _ h2.2.2 h2.2.1, natBytes_len]
  have hL : (natBytes s.data.toList ++ padF s.size).length = 32 * (s.size / 32 + (s.size % 32 + 40) / 32) := by
    rw [List.length_append, natBytes_len, pad_len]
    omega
  rw [piecesF_eq _ _ _ (by rw [hL]; omega), hL, Nat.mul_div_cancel_left _ (by decide), ← piecesN_add]
theorem piecesN_len (h : List Nat) (hh : h.length = 8) (b : Nat → Nat) : ∀ p, (piecesN h b p).length = 8
  | 0 => hh
  | _ + 1 => pieceF_len _ _
theorem low4_len (w : Nat) : (low4 w).length = 4 := rfl
theorem flat_len : ∀ l : List Nat, (l.map low4).flatten.length = 4 * l.length
  | [] => rfl
  | a :: r => by rw [List.map_cons, List.flatten_cons, List.length_append, flat_len r, low4_len, List.length_cons]; omega
theorem newF_len (t : Nat) : (newF t).length = 8 := by unfold newF; rw [List.length_map, List.length_range]
theorem digestF_len (t : Nat) (s : List Nat) : (digestF t s).length = 32 := by
  unfold digestF
  rw [flat_len, piecesF_eq _ _ _ (by rw [List.length_append, pad_len]; omega), piecesN_len _ (newF_len t)]
end Go.Proofs.YtpbjdbdlfobpmaaGreat
