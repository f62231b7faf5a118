/- Contracts of package fd's methods: Len, Uses. -/
import Derived.Test.YtegeonompkgpeaaFd4
namespace Go.Proofs.Ytegeonompkgpeaa
open Go.RowKit

theorem all_sl (b : Nat) (st : Nat → Fd) (w : World) (hf : FdsAt w b st) :
    Calls Try.prog 24 #[.pointer (some ⟨b, 0, none⟩)] w fun e w' => ∃ a cap, e = .returned (.slice a (openL st 64).length cap) ∧
      (0 < (openL st 64).length → ∃ g, a = some ⟨g, 0, none⟩ ∧ w.heap.size ≤ g ∧ g < w'.heap.size ∧ ∀ i, i < (openL st 64).length → w'.cell? ⟨g, i, none⟩ = (i64s (openL st 64))[i]? ∧ w'.frozen? ⟨g, i, none⟩ = false) ∧ Below w.heap.size w w' := by
  refine (all_any b st w hf).mono ?_
  rintro e w' ⟨v, rfl, ho, hb⟩
  obtain ⟨a, cap, rfl, h⟩ := owns_shape ho
  exact ⟨a, cap, rfl, h, hb⟩
theorem len_any (b : Nat) (st : Nat → Fd) (w : World) (hf : FdsAt w b st) :
    Calls Try.prog 15 #[.pointer (some ⟨b, 0, none⟩)] w fun e w' => e = .returned (.int .i64 (openL st 64).length) ∧ Below w.heap.size w w' := by
  go_enter Try.func15, Try.ntmps15
  go_wp2_with (go_at_call 24; refine (all_sl b st _ hf).mono ?_; rintro e w' ⟨a, cap, rfl, h, hb⟩; have HB := Lib.hid hb; clear h hb)
  go_ret
  exact ⟨rfl, HB.out⟩

/-- how many of the first k open numbers have this inode -/
def usesK (st : Nat → Fd) (ino : Int) (k : Nat) : Int := (((openL st 64).take k).filter (fun i => (st i.toNat).ino == ino)).length
theorem mem_openL {st : Nat → Fd} {n : Nat} {x : Int} (h : x ∈ openL st n) : ∃ k : Nat, x = k ∧ k < n ∧ (st k).ino ≠ 0 := by
  unfold openL at h
  simp only [List.mem_map, List.mem_filter, List.mem_range] at h
  obtain ⟨k, ⟨h1, h2⟩, rfl⟩ := h
  exact ⟨k, rfl, h1, by simpa using h2⟩
theorem usesK_succ (st : Nat → Fd) (ino : Int) (k q : Nat) (h : (openL st 64)[k]? = some (q : Int)) : usesK st ino (k + 1) = usesK st ino k + if (st q).ino = ino then 1 else 0 := by
  unfold usesK
  rw [List.take_add_one, h, List.filter_append]
  by_cases e : (st q).ino = ino <;> simp [e]
theorem usesK_bd (st : Nat → Fd) (ino : Int) (k : Nat) : 0 ≤ usesK st ino k ∧ usesK st ino k ≤ k := by
  unfold usesK
  refine ⟨by omega, ?_⟩
  have h1 := List.length_filter_le (fun i : Int => (st i.toNat).ino == ino) ((openL st 64).take k)
  have h2 := List.length_take_le k (openL st 64)
  omega
set_option maxHeartbeats 400000 in
theorem uses_any (b : Nat) (st : Nat → Fd) (ino : Int) (w : World) (hf : FdsAt w b st) :
    Calls Try.prog 23 #[.pointer (some ⟨b, 0, none⟩), .int .i64 ino] w fun e w' => e = .returned (.int .i64 (usesK st ino (openL st 64).length)) ∧ Below w.heap.size w w' := by
  have hL := openL_len st 64
  obtain ⟨n, hn⟩ : ∃ n, n = (openL st 64).length := ⟨_, rfl⟩
  have HN := Lib.hid hn
  rw [← hn] at hL
  have hall := all_sl b st w hf
  rw [← hn] at hall
  rw [← hn]
  clear hn
  go_enter Try.func23, Try.ntmps23
  go_wp2_with (go_at_call 24; refine hall.mono ?_; rintro e w' ⟨a, cap, rfl, h, hb⟩; have HB := Lib.hid hb; have HC := Lib.hid h; have hf1 := hf.below hb; clear h hb hall)
  go_loop [5, 11] (fun c i => ∃ k : Nat, k ≤ n ∧ i = .int .i64 k ∧ c = .int .i64 (usesK st ino k)) (fun _ i => n - (intOf i).toNat)
  case atStart => exact ⟨0, by omega, rfl, rfl⟩
  case round =>
    obtain ⟨k, hk, rfl, rfl⟩ := hrel
    have hbd := usesK_bd st ino k
    by_cases hlt : k < n
    · obtain ⟨g, rfl, hg, hgs, hcs⟩ := HC.out (by omega)
      have hk' : k < (openL st 64).length := by rw [← HN.out]; exact hlt
      have hx : (openL st 64)[k]? = some (openL st 64)[k] := List.getElem?_eq_getElem hk'
      obtain ⟨q, hq, hq64, hq0⟩ := mem_openL (List.getElem_mem hk')
      rw [hq] at hx
      have hc : w'.cell? ⟨g, k, none⟩ = some (.int .i64 q) := by rw [(hcs k hlt).1]; simp [i64s, hx]
      obtain ⟨c0, c1, c2⟩ := hf1.cells hq64
      have HS := Lib.hid (usesK_succ st ino k q hx)
      clear hcs hx hq hq0
      by_cases he : (st q).ino = ino
      · have he' : ((st q).ino == ino) = true := by simp [he]
        have HE := Lib.hid he
        clear he
        go_wp2
        go_round
        case rel => exact ⟨k + 1, by omega, by go_num, by rw [HS.out, if_pos HE.out]⟩
        case measure => simp [intOf]; omega
      · have he' : ((st q).ino == ino) = false := by simp [he]
        have HE := Lib.hid he
        clear he
        go_wp2
        go_round
        case rel => exact ⟨k + 1, by omega, by go_num, by rw [HS.out, if_neg HE.out]; go_num⟩
        case measure => simp [intOf]; omega
    · go_wp2
      go_ret
      have : k = n := by omega
      subst this
      exact ⟨rfl, HB.out⟩
end Go.Proofs.Ytegeonompkgpeaa
