/- What the words of a line say, as lists of numbers: no memory in sight. -/
import Derived.Test.YtlblnoipiappbaaSmall
import Derived.Lib.Slices
namespace Go.Proofs.Ytlblnoipiappbaa
open Go.RowKit
/-- the bytes of a text -/
def bys (s : ByteArray) : List Nat := s.data.toList.map UInt8.toNat
/-- the text of bytes -/
def strOf (l : List Nat) : ByteArray := ⟨(l.map UInt8.ofNat).toArray⟩
theorem bys_len (s : ByteArray) : (bys s).length = s.size := by simp [bys]
theorem bys_at (s : ByteArray) (i : Nat) (h : i < s.size) : (bys s)[i]? = some (s[i].toNat) := by
  unfold bys
  rw [List.getElem?_map, List.getElem?_eq_getElem (by simpa using h)]
  rfl
theorem bys_lt (s : ByteArray) : ∀ b ∈ bys s, b < 256 := by
  intro b hb
  obtain ⟨u, _, rfl⟩ := List.mem_map.1 hb
  exact u.toNat_lt
theorem strOf_bys (s : ByteArray) : strOf (bys s) = s := by
  unfold strOf bys
  rw [List.map_map]
  have : (UInt8.ofNat ∘ UInt8.toNat) = id := by funext u; simp
  rw [this, List.map_id]
theorem bys_strOf (l : List Nat) (h : ∀ b ∈ l, b < 256) : bys (strOf l) = l := by
  unfold bys strOf
  simp only [List.map_map]
  conv => rhs; rw [← List.map_id l]
  apply List.map_congr_left
  intro b hb
  show (UInt8.ofNat b).toNat = b
  simpa using Nat.mod_eq_of_lt (h b hb)
theorem bys_extract (s : ByteArray) (a b : Nat) : bys (s.extract a b) = ((bys s).drop a).take (b - a) := by
  unfold bys
  rw [show (s.extract a b).data.toList = (s.data.toList.drop a).take (b - a) by rw [ByteArray.data_extract]; simp [Array.toList_extract]]
  rw [List.map_take, List.map_drop]
theorem bys_tail (s : ByteArray) (a : Nat) : bys (s.extract a s.size) = (bys s).drop a := by
  rw [bys_extract]
  exact List.take_of_length_le (by rw [List.length_drop, bys_len]; omega)
theorem drop_at {L : List Nat} {i c : Nat} (h : L[i]? = some c) : L.drop i = c :: L.drop (i + 1) := by
  obtain ⟨hi, he⟩ := List.getElem?_eq_some_iff.1 h
  rw [List.drop_eq_getElem_cons hi, he]
/-- what stands behind a backslash, and how long that is -/
def escR : List Nat → Option (Nat × Nat)
  | [] => none
  | c :: r => match escL c with
    | some b => some (b, 1)
    | none => if c = 120 then (match r with
      | h1 :: h2 :: _ => if 0 ≤ hexV h1 ∧ 0 ≤ hexV h2 then some (16 * (hexV h1).toNat + (hexV h2).toNat, 3) else none
      | _ => none) else none
theorem escR_pos {l : List Nat} {b n : Nat} (h : escR l = some (b, n)) : 1 ≤ n := by
  unfold escR at h
  split at h
  · cases h
  · split at h
    · cases h; omega
    · split at h
      · split at h
        · split at h
          · cases h; omega
          · cases h
        · cases h
      · cases h
/-- what a quoted word says behind its first mark, and how long that is -/
def quoR (l : List Nat) : Option (List Nat × Nat) :=
  match l with
  | [] => none
  | c :: r => if c = 34 then some ([], 1) else if c < 32 ∨ 126 < c then none else if c ≠ 92 then (quoR r).map fun x => (c :: x.1, x.2 + 1) else
    match escR r with
    | none => none
    | some (b, n) => (quoR (r.drop n)).map fun x => (b :: x.1, x.2 + 1 + n)
termination_by l.length
decreasing_by
  all_goals simp
  all_goals omega
section
variable {L : List Nat} {i c : Nat}
theorem quo_nil (h : L.length ≤ i) : quoR (L.drop i) = none := by rw [List.drop_eq_nil_of_le h, quoR]
theorem quo_end (h : L[i]? = some 34) : quoR (L.drop i) = some ([], 1) := by rw [drop_at h, quoR, if_pos rfl]
theorem quo_bad (h : L[i]? = some c) (h1 : c ≠ 34) (h2 : c < 32 ∨ 126 < c) : quoR (L.drop i) = none := by rw [drop_at h, quoR, if_neg h1, if_pos h2]
theorem quo_one (h : L[i]? = some c) (h1 : c ≠ 34) (h2 : ¬ (c < 32 ∨ 126 < c)) (h3 : c ≠ 92) : quoR (L.drop i) = (quoR (L.drop (i + 1))).map fun x => (c :: x.1, x.2 + 1) := by
  rw [drop_at h, quoR, if_neg h1, if_neg h2, if_pos h3]
theorem quo_none (h : L[i]? = some 92) (h2 : escR (L.drop (i + 1)) = none) : quoR (L.drop i) = none := by
  rw [drop_at h, quoR, if_neg (by decide), if_neg (by decide), if_neg (by decide), h2]
theorem quo_esc {b n : Nat} (h : L[i]? = some 92) (h2 : escR (L.drop (i + 1)) = some (b, n)) : quoR (L.drop i) = (quoR (L.drop (i + 1 + n))).map fun x => (b :: x.1, x.2 + 1 + n) := by
  rw [drop_at h, quoR, if_neg (by decide), if_neg (by decide), if_neg (by decide), h2]
  simp only [List.drop_drop]
end
theorem escR_nil {L : List Nat} {i : Nat} (h : L.length ≤ i) : escR (L.drop i) = none := by rw [List.drop_eq_nil_of_le h, escR]
theorem escR_one {L : List Nat} {i c b : Nat} (h : L[i]? = some c) (he : escL c = some b) : escR (L.drop i) = some (b, 1) := by
  rw [drop_at h]; simp only [escR, he]
theorem escR_other {L : List Nat} {i c : Nat} (h : L[i]? = some c) (he : escL c = none) (hc : c ≠ 120) : escR (L.drop i) = none := by
  rw [drop_at h]; simp only [escR, he, if_neg hc]
theorem escL_x : escL 120 = none := by decide
theorem escR_short {L : List Nat} {i : Nat} (h : L[i]? = some 120) (hl : L.length ≤ i + 2) : escR (L.drop i) = none := by
  rw [drop_at h]
  simp only [escR, escL_x, if_pos]
  split
  · rename_i h1 h2 r' hr
    have := congrArg List.length hr
    simp at this; omega
  · rfl
theorem escR_hex {L : List Nat} {i h1 h2 : Nat} (h : L[i]? = some 120) (k1 : L[i + 1]? = some h1) (k2 : L[i + 2]? = some h2) :
    escR (L.drop i) = if 0 ≤ hexV h1 ∧ 0 ≤ hexV h2 then some (16 * (hexV h1).toNat + (hexV h2).toNat, 3) else none := by
  rw [drop_at h, drop_at k1, show i + 1 + 1 = i + 2 by omega, drop_at k2]
  simp only [escR, escL_x, if_pos]
theorem escL_lt {c b : Nat} (hc : c < 256) (h : escL c = some b) : b < 256 := by
  unfold escL at h
  split at h
  · cases h; exact hc
  · split at h
    · cases h; omega
    · split at h
      · cases h; omega
      · split at h
        · cases h; omega
        · cases h
/-- how many bytes a plain word has -/
def plainLen : List Nat → Nat
  | [] => 0
  | c :: r => if 32 < c ∧ c < 127 ∧ c ≠ 34 then plainLen r + 1 else 0
theorem plainLen_le (l : List Nat) : plainLen l ≤ l.length := by
  induction l with
  | nil => simp [plainLen]
  | cons c r ih => simp only [plainLen]; split <;> simp <;> omega
/-- a word: what it says, how long it is, whether it was quoted -/
def wordV (l : List Nat) : Option (List Nat × Nat × Bool) :=
  match l with
  | [] => none
  | c :: r => if c = 34 then (quoR r).map fun x => (x.1, x.2 + 1, true) else if plainLen (c :: r) = 0 then none else some ((c :: r).take (plainLen (c :: r)), plainLen (c :: r), false)
theorem quoR_len : ∀ (m : Nat) (l : List Nat) (w : List Nat) (n : Nat), l.length ≤ m → quoR l = some (w, n) → 1 ≤ n ∧ n ≤ l.length ∧ w.length < n := by
  intro m
  induction m with
  | zero =>
    intro l w n hl h
    have : l = [] := List.eq_nil_of_length_eq_zero (by omega)
    subst this
    rw [quoR] at h; cases h
  | succ m ih =>
    intro l w n hl h
    cases l with
    | nil => rw [quoR] at h; cases h
    | cons c r =>
      rw [quoR] at h
      simp only [List.length_cons] at hl ⊢
      split at h
      · cases h; simp
      · split at h
        · cases h
        · split at h
          · rw [Option.map_eq_some_iff] at h
            obtain ⟨⟨w', n'⟩, h1, h2⟩ := h
            cases h2
            have := ih r w' n' (by omega) h1
            simp; omega
          · split at h
            · cases h
            · rename_i b k he
              rw [Option.map_eq_some_iff] at h
              obtain ⟨⟨w', n'⟩, h1, h2⟩ := h
              cases h2
              have h3 := ih (r.drop k) w' n' (by simp; omega) h1
              simp only [List.length_drop] at h3
              have := escR_pos he
              simp; omega
theorem wordV_len {l w : List Nat} {n : Nat} {q : Bool} (h : wordV l = some (w, n, q)) : 1 ≤ n ∧ n ≤ l.length ∧ w.length ≤ n := by
  unfold wordV at h
  split at h
  · cases h
  · rename_i c r
    split at h
    · rw [Option.map_eq_some_iff] at h
      obtain ⟨⟨w', n'⟩, h1, h2⟩ := h
      cases h2
      have := quoR_len _ _ _ _ (Nat.le_refl _) h1
      simp; omega
    · split at h
      · cases h
      · have := plainLen_le (c :: r)
        cases h
        simp at this ⊢; omega
/-- the words of a line -/
def wordsR (l : List Nat) : Option (List (List Nat × Bool)) :=
  match hw : wordV l with
  | none => none
  | some (w, n, q) => if l.length ≤ n then some [(w, q)] else if l[n]? = some 32 then (wordsR (l.drop (n + 1))).map ((w, q) :: ·) else none
termination_by l.length
decreasing_by
  have := wordV_len hw
  simp; omega
theorem wordsR_none {l : List Nat} (h : wordV l = none) : wordsR l = none := by
  rw [wordsR]; split
  · rfl
  · rename_i w n q hw; rw [h] at hw; cases hw
theorem wordsR_some {l w : List Nat} {n : Nat} {q : Bool} (h : wordV l = some (w, n, q)) :
    wordsR l = if l.length ≤ n then some [(w, q)] else if l[n]? = some 32 then (wordsR (l.drop (n + 1))).map ((w, q) :: ·) else none := by
  rw [wordsR]; split
  · rename_i hw; rw [h] at hw; cases hw
  · rename_i w' n' q' hw; rw [h] at hw; cases hw; rfl
end Go.Proofs.Ytlblnoipiappbaa
