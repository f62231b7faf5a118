/- The digest's mathematics: whole numbers that stand for words. No world in sight. -/
import Derived.Test.YtpbjdbdlfobpmaaGreatDgZ
namespace Go.Proofs.YtpbjdbdlfobpmaaGreat
open Go.RowKit Go.Eng
def N (l : List Nat) : List Int := l.map fun n : Nat => (n : Int)
def Sm (l : List Nat) : Prop := ∀ i, l.getD i 0 < 4294967296
theorem N_at (l : List Nat) (i : Nat) : (N l).getD i 0 = ((l.getD i 0 : Nat) : Int) := by
  simp only [N, List.getD_eq_getElem?_getD, List.getElem?_map]
  cases l[i]? <;> rfl
theorem N_set (l : List Nat) (i x : Nat) : (N l).set i (x : Int) = N (l.set i x) := by simp [N, List.map_set]
theorem Sm.set {l : List Nat} (h : Sm l) (i : Nat) {x : Nat} (hx : x < 4294967296) : Sm (l.set i x) := by
  intro j
  have := h j
  simp only [List.getD_eq_getElem?_getD] at this ⊢
  rw [List.getElem?_set]
  split
  · split
    · exact hx
    · exact Nat.zero_lt_of_lt hx
  · exact this
theorem qat_nat (l : List Nat) (a b c d : Nat) (h : Sm l) : qatI (N l) a b c d = N (qat l a b c d) ∧ Sm (qat l a b c d) := by
  have q := quarter_lt (l.getD a 0) (l.getD b 0) (l.getD c 0) (l.getD d 0) (h b) (h d)
  refine ⟨?_, (((h.set a q.1).set b q.2.1).set c q.2.2.1).set d q.2.2.2⟩
  unfold qatI qat
  simp only [N_at]
  rw [quarterI_nat _ _ _ _ (h b) (h d)]
  simp only [N_set]
theorem qat_len (l : List Nat) (a b c d : Nat) : (qat l a b c d).length = l.length := by simp [qat]
theorem round_nat (l : List Nat) (k : Bool) (h : Sm l) : roundI (N l) k = N (roundF l (if k then 1 else 0)) ∧ Sm (roundF l (if k then 1 else 0)) ∧ (roundF l (if k then 1 else 0)).length = l.length := by
  cases k
  · have e : roundF l (if false = true then 1 else 0) = qat (qat (qat (qat l 0 4 8 12) 1 5 9 13) 2 6 10 14) 3 7 11 15 := by
      unfold roundF
      rw [show List.range 4 = [0, 1, 2, 3] from rfl]
      simp only [List.foldl_cons, List.foldl_nil, Bool.false_eq_true, if_false, Nat.reduceAdd, Nat.reduceMul, Nat.reduceMod]
    rw [e]
    have h1 := qat_nat l 0 4 8 12 h
    have h2 := qat_nat _ 1 5 9 13 h1.2
    have h3 := qat_nat _ 2 6 10 14 h2.2
    have h4 := qat_nat _ 3 7 11 15 h3.2
    exact ⟨by rw [← h4.1, ← h3.1, ← h2.1, ← h1.1]; rfl, h4.2, by simp [qat_len]⟩
  · have e : roundF l (if true = true then 1 else 0) = qat (qat (qat (qat l 0 5 10 15) 1 6 11 12) 2 7 8 13) 3 4 9 14 := by
      unfold roundF
      rw [show List.range 4 = [0, 1, 2, 3] from rfl]
      simp only [List.foldl_cons, List.foldl_nil, if_true, Nat.reduceAdd, Nat.reduceMul, Nat.reduceMod]
    rw [e]
    have h1 := qat_nat l 0 5 10 15 h
    have h2 := qat_nat _ 1 6 11 12 h1.2
    have h3 := qat_nat _ 2 7 8 13 h2.2
    have h4 := qat_nat _ 3 4 9 14 h3.2
    exact ⟨by rw [← h4.1, ← h3.1, ← h2.1, ← h1.1]; rfl, h4.2, by simp [qat_len]⟩
theorem N_len (l : List Nat) : (N l).length = l.length := by simp [N]
theorem n16_N {l : List Nat} (h : l.length = 16) : n16 (N l) = N l := n16_eq (by rw [N_len, h])
theorem rounds_nat (l : List Nat) (h : Sm l) (hl : l.length = 16) : rounds6 (N l) = N (roundsF 6 l) ∧ Sm (roundsF 6 l) ∧ (roundsF 6 l).length = 16 := by
  have h1 := round_nat l false h
  have h2 := round_nat _ true h1.2.1
  have h3 := round_nat _ false h2.2.1
  have h4 := round_nat _ true h3.2.1
  have h5 := round_nat _ false h4.2.1
  have h6 := round_nat _ true h5.2.1
  have e : roundsF 6 l = roundF (roundF (roundF (roundF (roundF (roundF l 0) 1) 0) 1) 0) 1 := rfl
  simp only [Bool.false_eq_true, if_false, if_true] at h1 h2 h3 h4 h5 h6
  have l6 := h6.2.2.trans (h5.2.2.trans (h4.2.2.trans (h3.2.2.trans (h2.2.2.trans (h1.2.2.trans hl)))))
  rw [e]
  refine ⟨?_, h6.2.1, l6⟩
  unfold rounds6
  rw [h1.1, n16_N (h1.2.2.trans hl), h2.1, n16_N (h2.2.2.trans (h1.2.2.trans hl)), h3.1, n16_N (h3.2.2.trans (h2.2.2.trans (h1.2.2.trans hl))), h4.1, n16_N (h4.2.2.trans (h3.2.2.trans (h2.2.2.trans (h1.2.2.trans hl)))), h5.1, n16_N (h5.2.2.trans (h4.2.2.trans (h3.2.2.trans (h2.2.2.trans (h1.2.2.trans hl))))), h6.1, n16_N l6]
theorem xorI_nat (a b c : Nat) (ha : a < 4294967296) (hb : b < 4294967296) (hc : c < 4294967296) : xorI (a : Int) b c = ((a ^^^ (b ^^^ c) : Nat) : Int) := by
  unfold xorI
  rw [bits_xor b c hb hc, bits_xor a _ ha (Nat.xor_lt_two_pow (n := 32) hb hc)]
theorem wrap64 (n : Nat) (h : n < 18446744073709551616) : IntKind.u64.wrap (n : Int) = n := by
  have h1 : IntKind.u64.bits = 64 := rfl
  have h2 : IntKind.u64.signed = false := rfl
  simp [IntKind.wrap, h1, h2]; omega
theorem ofInt_nat64 (n : Nat) : BitVec.ofInt 64 (n : Int) = BitVec.ofNat 64 n := by
  apply BitVec.eq_of_toNat_eq
  simp
theorem or64_nat (a b : Nat) (ha : a < 18446744073709551616) (hb : b < 18446744073709551616) : or64 (a : Int) b = ((a ||| b : Nat) : Int) := by
  unfold or64 bits
  simp only
  rw [show IntKind.u64.bits = 64 from rfl, ofInt_nat64, ofInt_nat64, BitVec.toNat_or, BitVec.toNat_ofNat, BitVec.toNat_ofNat, Nat.mod_eq_of_lt ha, Nat.mod_eq_of_lt hb]
  exact wrap64 _ (Nat.or_lt_two_pow (n := 64) ha hb)
theorem or_sum (x y k : Nat) (h : x < 2 ^ k) : x ||| y * 2 ^ k = x + y * 2 ^ k := by
  have := Nat.shiftLeft_add_eq_or_of_lt h y
  rw [Nat.shiftLeft_eq] at this
  rw [Nat.or_comm, ← this, Nat.add_comm]
theorem shl64_nat (a k : Nat) (h : a * 2 ^ k < 18446744073709551616) : shl64 (a : Int) k = ((a * 2 ^ k : Nat) : Int) := by
  unfold shl64
  rw [← wrap64 (a * 2 ^ k) h]
  simp
theorem o32_nat (a b c d : Nat) (ha : a < 256) (hb : b < 256) (hc : c < 256) (hd : d < 256) : o32 (a : Int) b c d = ((a + 256 * b + 65536 * c + 16777216 * d : Nat) : Int) := by
  unfold o32
  rw [wrap64 a (by omega), wrap64 b (by omega), wrap64 c (by omega), wrap64 d (by omega), shl64_nat a 0 (by omega), shl64_nat b 8 (by omega), shl64_nat c 16 (by omega), shl64_nat d 24 (by omega)]
  have h0 : or64 0 ((a * 2 ^ 0 : Nat) : Int) = ((a : Nat) : Int) := by
    have := or64_nat 0 (a * 2 ^ 0) (by decide) (by omega)
    simpa using this
  rw [h0, or64_nat a _ (by omega) (by omega), or_sum a b 8 (by omega), or64_nat _ _ (by omega) (by omega), or_sum _ c 16 (by omega), or64_nat _ _ (by omega) (by omega), or_sum _ d 24 (by omega), wrap32]
  congr 1
  omega
theorem wrap8 (n : Nat) : IntKind.u8.wrap (n : Int) = ((n % 256 : Nat) : Int) := by
  have h1 : IntKind.u8.bits = 8 := rfl
  have h2 : IntKind.u8.signed = false := rfl
  simp [IntKind.wrap, h1, h2]
theorem b64_nat (n i : Nat) : b64 (n : Int) i = ((n / 2 ^ (8 * i) % 256 : Nat) : Int) := by
  unfold b64
  have e : Int.fdiv (n : Int) (2 ^ (8 * i)) = ((n / 2 ^ (8 * i) : Nat) : Int) := by
    rw [show ((2 : Int) ^ (8 * i)) = ((2 ^ (8 * i) : Nat) : Int) by simp]
    exact Int.ofNat_fdiv n (2 ^ (8 * i)) |>.symm
  rw [e, wrap8]
theorem b32_nat (n i : Nat) (h : n < 18446744073709551616) : b32 (n : Int) i = ((n / 2 ^ (8 * i) % 256 : Nat) : Int) := by
  have : b32 (n : Int) i = b64 (n : Int) i := by
    unfold b32 b64
    rw [wrap64 n h]
  rw [this, b64_nat]
theorem osF_nat (b : Nat → Nat) (hb : ∀ i, b i < 256) (f : Nat → Int) (hf : ∀ i, i < 32 → f i = (b i : Int)) : osF f = N (wordsOf ((List.range 32).map b)) := by
  unfold osF
  rw [hf 0 (by decide), hf 1 (by decide), hf 2 (by decide), hf 3 (by decide), hf 4 (by decide), hf 5 (by decide), hf 6 (by decide), hf 7 (by decide), hf 8 (by decide), hf 9 (by decide), hf 10 (by decide), hf 11 (by decide), hf 12 (by decide), hf 13 (by decide), hf 14 (by decide), hf 15 (by decide), hf 16 (by decide), hf 17 (by decide), hf 18 (by decide), hf 19 (by decide), hf 20 (by decide), hf 21 (by decide), hf 22 (by decide), hf 23 (by decide), hf 24 (by decide), hf 25 (by decide), hf 26 (by decide), hf 27 (by decide), hf 28 (by decide), hf 29 (by decide), hf 30 (by decide), hf 31 (by decide)]
  simp only [o32_nat _ _ _ _ (hb _) (hb _) (hb _) (hb _)]
  rfl
theorem N_append (l m : List Nat) : N l ++ N m = N (l ++ m) := by simp [N]
theorem Sm.append {l m : List Nat} (h : Sm l) (k : Sm m) : Sm (l ++ m) := by
  intro i
  have h1 := h i
  have h2 := k (i - l.length)
  simp only [List.getD_eq_getElem?_getD] at h1 h2 ⊢
  rw [List.getElem?_append]
  split
  · exact h1
  · exact h2
theorem words_sm (b : Nat → Nat) (hb : ∀ i, b i < 256) : Sm (wordsOf ((List.range 32).map b)) := by
  intro i
  have e : wordsOf ((List.range 32).map b) = (List.range 8).map fun j => b (4 * j) + 256 * b (4 * j + 1) + 65536 * b (4 * j + 2) + 16777216 * b (4 * j + 3) := rfl
  rw [e, List.getD_eq_getElem?_getD, List.getElem?_map]
  have h0 := hb (4 * i); have h1 := hb (4 * i + 1); have h2 := hb (4 * i + 2); have h3 := hb (4 * i + 3)
  by_cases hi : i < 8
  · simp [hi]; omega
  · simp [hi]
theorem piece_nat (l : List Nat) (hl : l.length = 8) (hs : Sm l) (b : Nat → Nat) (hb : ∀ i, b i < 256) (f : Nat → Int) (hf : ∀ i, i < 32 → f i = (b i : Int)) : pieceI (N l) f = N (pieceF l ((List.range 32).map b)) := by
  have r := rounds_nat (l ++ wordsOf ((List.range 32).map b)) (hs.append (words_sm b hb)) (by rw [List.length_append, hl]; rfl)
  unfold pieceI
  rw [osF_nat b hb f hf, N_append, r.1]
  unfold outI pieceF
  simp only
  rw [N.eq_1 (List.map _ _), List.map_map]
  refine List.map_congr_left fun i hi => ?_
  rw [if_pos (List.mem_range.1 hi), N_at, N_at, N_at, xorI_nat _ _ _ (hs i) (r.2.1 i) (r.2.1 (i + 8))]
  rfl
theorem pieceF_len (l b : List Nat) : (pieceF l b).length = 8 := by simp [pieceF]
theorem pieceF_sm (l : List Nat) (hl : l.length = 8) (hs : Sm l) (b : Nat → Nat) (hb : ∀ i, b i < 256) : Sm (pieceF l ((List.range 32).map b)) := by
  have r := rounds_nat (l ++ wordsOf ((List.range 32).map b)) (hs.append (words_sm b hb)) (by rw [List.length_append, hl]; rfl)
  intro i
  unfold pieceF
  simp only
  rw [List.getD_eq_getElem?_getD, List.getElem?_map]
  by_cases hi : i < 8
  · have := Nat.xor_lt_two_pow (n := 32) (hs i) (Nat.xor_lt_two_pow (n := 32) (r.2.1 i) (r.2.1 (i + 8)))
    simpa [hi] using this
  · simp [hi]
theorem w0_nat (t i : Nat) (ht : t < 256) : w0 (t : Int) i = (((2654435769 * (i + 1) % 4294967296) ^^^ (t * 16777216 % 4294967296) : Nat) : Int) := by
  unfold w0
  rw [wrap32 t, Nat.mod_eq_of_lt (by omega : t < 4294967296)]
  rw [show (2654435769 : Int) * ((i : Int) + 1) = ((2654435769 * (i + 1) : Nat) : Int) by simp, wrap32]
  rw [show (t : Int) * 2 ^ 24 = ((t * 16777216 : Nat) : Int) by simp, wrap32]
  exact bits_xor _ _ (Nat.mod_lt _ (by decide)) (Nat.mod_lt _ (by decide))
theorem words0_nat (t : Nat) (ht : t < 256) : words0 (t : Int) = N (newF t) := by
  unfold words0
  simp only [w0_nat t _ ht]
  rfl
end Go.Proofs.YtpbjdbdlfobpmaaGreat
