/- Contracts of package room's functions: List, Count, Copy; a nil room; awake. -/
import Derived.Test.YtffdklcpkkcohaaRoom2
import Derived.Test.YtffdklcpkkcohaaBnil
namespace Go.Proofs.Ytffdklcpkkcohaa
open Go.RowKit
def u32s (l : List Nat) : List Value := l.map fun (p : Nat) => .int .u32 (p : Int)
def listS (n : Nat) (s : Nat → Int) (v : Int) : List Nat := (List.range n).filter fun i => s i == v
theorem listS_succ (n : Nat) (s : Nat → Int) (v : Int) : listS (n + 1) s v = if s n == v then listS n s v ++ [n] else listS n s v := by
  unfold listS
  rw [List.range_succ, List.filter_append]
  by_cases h : s n == v
  · simp [h]
  · simp [h]
theorem listS_len (n : Nat) (s : Nat → Int) (v : Int) : (listS n s v).length ≤ n := by
  unfold listS
  have := List.length_filter_le (fun i => s i == v) (List.range n)
  simpa using this
theorem info46 : (Try.prog.info? 46).map (fun i => (i.zero, i.size, i.bytes)) = some (some (.int .u32 0), 1, 4) := by kernel_rfl
def ListPost (l : List Nat) (w : World) (e : Ending) (w' : World) : Prop :=
  ∃ v, e = .returned v ∧ w'.ownsRow w.heap.size 46 1 v l.length (u32s l) ∧ Below w.heap.size w w'
theorem listS_own {w : World} {B : Nat} {v : Value} {l : List Nat} {p : Nat} (ho : w.ownsRow B 46 1 v (l.length + 1) (u32s l ++ [.int .u32 p])) : w.ownsRow B 46 1 v (l ++ [p]).length (u32s (l ++ [p])) := by
  rw [List.length_append, List.length_singleton, u32s, List.map_append]
  exact ho
set_option maxRecDepth 100000 in
set_option maxHeartbeats 1000000 in
theorem list_any (b bb n : Nat) (s : Nat → Int) (v : Int) (w : World) (hr : RoomAt w b bb n s) : Calls Try.prog 32 #[.pointer (some ⟨b, 0, none⟩), .int .i64 v] w (ListPost (listS n s v) w) := by
  have hn := hr.most
  obtain ⟨cap, hc⟩ := hr.cell
  obtain ⟨i0, hi, hz0, hz1, hz2⟩ := info_parts info46
  have HR0 := Lib.hid hr
  clear hr
  go_enter Try.func32, Try.ntmps32
  go_wp2_with fail
  go_loopw [5, 15] (fun vv i wr => ∃ p : Nat, p ≤ n ∧ i = .int .i64 p ∧ wr.ownsRow w.heap.size 46 1 vv (listS p s v).length (u32s (listS p s v)) ∧ Below w.heap.size w wr) (fun _ i _ => n - (intOf i).toNat)
  case atStart => exact ⟨0, by omega, rfl, World.ownsRow_nil w w.heap.size 46 1, Below.refl _ _⟩
  case round =>
    obtain ⟨p, hp, rfl, hown, hB⟩ := hrel
    have hR := HR0.out.below hB
    have HB := Lib.hid hB
    have hsz := hB.size
    clear hc hB
    by_cases hlt : p < n
    · have c1 := hR.row.cell hlt
      have hl := listS_len p s v
      have hsu := listS_succ p s v
      clear hR
      by_cases he : s p = v
      · have t1 : (s p == v) = true := by simp [he]
        rw [t1, if_pos rfl] at hsu
        have HS := Lib.hid hsu
        clear hsu he
        generalize s p = z at *
        have HO := Lib.hid hown
        clear hown
        go_wp2_with (at_builtin; go_must (refine wpList_append_own _ rfl (.tmp 23) (.tmp 26) 39 rfl w.heap.size 46 i0 (.int .u32 0) 1 4 Try.underlying39 hi hz0 hz1 hz2 rfl (by decide) _ _ _ rfl (HO.out.alloc _) ⟨wr.heap.size, 0, none⟩ 1 1 [.int .u32 p] rfl rfl (cell_one_at wr _ _ _ rfl) (fun u hu => by simp at hu; subst hu; rfl) (by unfold maxLen; omega) (by omega) (by simp; omega) ?_); intro v' w1 hown1 hgrow1 _; have HB1 := Lib.hid ((HB.out.alloc hsz _).grown hgrow1 (by simp; omega) (fun q hq => (HO.out.lt q hq).1)); have HO1 := Lib.hid (listS_own hown1); clear hown1 hgrow1)
        go_roundw
        case rel => exact ⟨p + 1, by omega, by go_num, by rw [HS.out]; exact HO1.out, HB1.out⟩
        case measure => simp [intOf]; omega
      · have t1 : (s p == v) = false := by simp [he]
        rw [t1, if_neg (by simp)] at hsu
        have HS := Lib.hid hsu
        have HO := Lib.hid hown
        clear hsu he hown
        generalize s p = z at *
        go_wp2
        go_roundw
        case rel => exact ⟨p + 1, by omega, by go_num, by rw [HS.out]; exact HO.out, HB.out⟩
        case measure => simp [intOf]; omega
    · obtain rfl : p = n := by omega
      have HO := Lib.hid hown
      clear hown hR
      go_wp2
      go_ret
      exact ⟨_, rfl, HO.out, HB.out⟩
/-- a slice of blocks' numbers that the call has made -/
def U32In (w : World) (B : Nat) (a : Option Addr) (L : List Nat) : Prop :=
  0 < L.length → ∃ g, a = some ⟨g, 0, none⟩ ∧ B ≤ g ∧ g < w.heap.size ∧ ∀ (i x : Nat), L[i]? = some x → w.cell? ⟨g, i, none⟩ = some (.int .u32 (x : Int)) ∧ w.frozen? ⟨g, i, none⟩ = false
theorem u32_shape {w : World} {B : Nat} {v : Value} {L : List Nat} (h : w.ownsRow B 46 1 v L.length (u32s L)) : ∃ a cap, v = .slice a L.length cap ∧ U32In w B a L := by
  obtain ⟨a, cap, rfl, h1⟩ := owns_shape h
  refine ⟨a, cap, rfl, fun hn => ?_⟩
  obtain ⟨g, rfl, hb, hg, hc⟩ := h1 hn
  refine ⟨g, rfl, hb, hg, fun i x hx => ?_⟩
  have hi : i < L.length := by
    by_cases h : i < L.length
    · exact h
    · rw [List.getElem?_eq_none (by omega)] at hx; cases hx
  obtain ⟨c1, c2⟩ := hc i hi
  refine ⟨c1.trans ?_, c2⟩
  unfold u32s
  rw [List.getElem?_map, hx]; rfl
theorem U32In.below {w w' : World} {B : Nat} {a : Option Addr} {L : List Nat} (h : U32In w B a L) (hb : Below w.heap.size w w') : U32In w' B a L := by
  intro hn
  obtain ⟨g, h1, h2, h3, h4⟩ := h hn
  refine ⟨g, h1, h2, Nat.lt_of_lt_of_le h3 hb.size, fun i x hx => ?_⟩
  obtain ⟨c1, c2⟩ := h4 i x hx
  have hg := hb.block g h3
  exact ⟨(hb.cell (p := ⟨g, i, none⟩) h3).trans c1, by rw [← c2]; simp [World.frozen?, hg]⟩
theorem list_sl (b bb n : Nat) (s : Nat → Int) (v : Int) (w : World) (hr : RoomAt w b bb n s) : Calls Try.prog 32 #[.pointer (some ⟨b, 0, none⟩), .int .i64 v] w fun e w' => ∃ a cap, e = .returned (.slice a (listS n s v).length cap) ∧ U32In w' w.heap.size a (listS n s v) ∧ Below w.heap.size w w' := by
  refine (list_any b bb n s v w hr).mono ?_
  rintro e w' ⟨u, rfl, ho, hb⟩
  obtain ⟨a, cap, rfl, h⟩ := u32_shape ho
  exact ⟨a, cap, rfl, h, hb⟩
theorem rcountS_any (b bb n : Nat) (s : Nat → Int) (v : Int) (w : World) (hr : RoomAt w b bb n s) : Calls Try.prog 28 #[.pointer (some ⟨b, 0, none⟩), .int .i64 v] w fun e w' => e = .returned (.int .i64 (listS n s v).length) ∧ Below w.heap.size w w' := by
  have HL := Lib.hid (list_sl b bb n s v w hr)
  have hl := listS_len n s v
  have hn := hr.most
  clear hr
  go_enter Try.func28, Try.ntmps28
  go_wp2_with fail
  refine HL.out.mono ?_
  rintro e w' ⟨a, cap, rfl, _, hb⟩
  have HB := Lib.hid hb
  clear hb
  go_wp2
  go_ret
  exact ⟨rfl, HB.out⟩
/-! Copy -/
def intsOf (s : Nat → Int) (m : Nat) : List Value := (List.range m).map fun i => .int .i64 (s i)
theorem intsOf_len (s : Nat → Int) (m : Nat) : (intsOf s m).length = m := by simp [intsOf]
theorem intsOf_at (s : Nat → Int) (m j : Nat) (u : Value) (h : (intsOf s m)[j]? = some u) : j < m ∧ u = .int .i64 (s j) := by
  unfold intsOf at h
  rw [List.getElem?_map] at h
  by_cases hj : j < m
  · rw [List.getElem?_range hj] at h; simp at h; exact ⟨hj, h.symm⟩
  · rw [List.getElem?_eq_none (by simp; omega)] at h; cases h
theorem intsOf_get (s : Nat → Int) (m j : Nat) (h : j < m) : (intsOf s m)[j]? = some (.int .i64 (s j)) := by
  unfold intsOf; rw [List.getElem?_map, List.getElem?_range h]; rfl
theorem intsOf_one (s : Nat → Int) (m : Nat) : ∀ u ∈ intsOf s m, u.oneCell' = true := by
  intro u hu
  unfold intsOf at hu
  obtain ⟨j, _, rfl⟩ := List.mem_map.1 hu
  rfl
set_option maxRecDepth 100000 in
theorem sclone_ints (g n cap : Nat) (xs : List Value) (w : World) (hn : n ≤ 8192) (hl : xs.length = n) (hc : ∀ j u, xs[j]? = some u → w.cell? ⟨g, j, none⟩ = some u) (h1 : ∀ u ∈ xs, u.oneCell' = true) (hg : g < w.heap.size) :
    Calls Try.prog 72 #[.slice (some ⟨g, 0, none⟩) n cap] w (ClonePost 3 1 n xs w) := by
  obtain ⟨i0, hi, hz0, hz1, hz2⟩ := info_parts info3
  have hnews : ∀ j u, xs[j]? = some u → (w.alloc (.cells #[] 3)).cell? ((⟨g, 0, none⟩ : Addr).add j) = some u := by
    intro j u hu; rw [Addr.add_mid, Nat.zero_add, World.cell?_of_block (Below.heap_alloc w _ g hg)]; exact hc j u hu
  have HNW := Lib.hid hnews
  have H1 := Lib.hid h1
  have HL := Lib.hid (show xs.length = n * 1 by omega)
  clear hnews h1 hl hc
  have hq := fun W => Lib.run_eql_slice_nil (P := Try.prog) W 22 3 (some ⟨g, 0, none⟩) n cap 0 0 Try.underlying22
  simp only [Option.isNone_some] at hq
  go_enter Try.func72, Try.ntmps72
  go_wp2_with (at_builtin; go_must (refine wpList_append_own _ rfl (.tmp 5) (.tmp 6) 22 rfl w.heap.size 3 i0 (.int .i64 0) 1 8 Try.underlying22 hi hz0 hz1 hz2 rfl (by decide) _ _ _ rfl (own_empty w 3 1) ⟨g, 0, none⟩ n cap xs rfl HL.out HNW.out H1.out (by unfold maxLen; omega) (by omega) (by simp) ?_); intro v1 w1 hown1 hgrow1 hnil; obtain ⟨g1, c1, rfl, hb1, hs1⟩ := owns_some hown1 (fun e => by have := (hnil.1 e).1; cases this); have HO1 := Lib.hid hown1; have HB1 := Lib.hid (below_one hgrow1 rfl); clear hown1 hgrow1 hnil)
  go_ret
  exact ⟨g1, c1, by simp, by simpa using HO1.out, HB1.out⟩
theorem ints_owned {w : World} {B g n cap : Nat} {s : Nat → Int} (h : w.ownsRow B 3 1 (.slice (some ⟨g, 0, none⟩) n cap) n (intsOf s n)) (h2 : n ≤ 8192) : IntsAt w g n s := by
  obtain ⟨cur, hg, hs, hc⟩ := owns_cur h
  exact ⟨(Array.getElem?_eq_some_iff.1 hg).1, h2, cur, hg, hs, fun i hi => by rw [hc i hi, intsOf_get s _ i hi]⟩
def CopyPost (n : Nat) (s : Nat → Int) (w : World) (e : Ending) (w' : World) : Prop :=
  ∃ b bb, e = .returned (.pointer (some ⟨b, 0, none⟩)) ∧ w.heap.size ≤ b ∧ w.heap.size ≤ bb ∧ RoomAt w' b bb n s ∧ Below w.heap.size w w'
set_option maxHeartbeats 400000 in
theorem copy_any (b bb n : Nat) (s : Nat → Int) (w : World) (hr : RoomAt w b bb n s) : Calls Try.prog 25 #[.pointer (some ⟨b, 0, none⟩)] w (CopyPost n s w) := by
  have hn := hr.most
  have hn1 := hr.least
  obtain ⟨cap, hc⟩ := hr.cell
  have HC := Lib.hid (sclone_ints bb n cap (intsOf s n) w hn (intsOf_len s n) (fun j u hu => by obtain ⟨hj, rfl⟩ := intsOf_at s n j u hu; exact hr.row.cell hj) (intsOf_one s n) hr.row.1)
  clear hr
  go_enter Try.func25, Try.ntmps25
  go_wp2_with fail
  refine HC.out.mono ?_
  rintro e w1 ⟨g, c, rfl, ho, hB⟩
  have HO := Lib.hid ho
  have HB := Lib.hid hB
  clear ho hB
  go_wp2_with fail
  go_ret
  have hlt := (HO.out.lt g rfl).1
  have hI := ints_owned HO.out hn
  exact ⟨_, g, rfl, HB.out.size, hlt, ⟨⟨c, heap_alloc_new w1 _⟩, hI.alloc _, hn1⟩, HB.out.alloc HB.out.size _⟩
end Go.Proofs.Ytffdklcpkkcohaa
