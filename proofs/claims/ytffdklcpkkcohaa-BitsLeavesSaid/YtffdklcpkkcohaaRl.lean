/- Contract of the document's Leaves. -/
import Derived.Test.YtffdklcpkkcohaaRlmath
import Derived.Great.BuildSlice
namespace Go.Proofs.Ytffdklcpkkcohaa
open Go.RowKit
theorem foldl_set (l : List Value) : ∀ (k : Nat) (cs : Array Value) (i : Nat), k + l.length ≤ cs.size →
    ((l.zipIdx k).foldl (fun cs x => cs.setIfInBounds (0 + x.2) x.1) cs)[i]? = if k ≤ i ∧ i < k + l.length then l[i - k]? else cs[i]? := by
  induction l with
  | nil => intro k cs i _; rw [if_neg (by simp)]; rfl
  | cons v r ih =>
    intro k cs i hk
    simp only [List.length_cons] at hk
    rw [List.zipIdx_cons, List.foldl_cons, ih (k + 1) _ i (by simp; omega)]
    simp only [List.length_cons, Array.getElem?_setIfInBounds, Nat.zero_add]
    by_cases h1 : i = k
    · subst h1
      rw [if_neg (by omega), if_pos rfl, if_pos (by omega), if_pos (by omega)]
      simp
    · by_cases h2 : k + 1 ≤ i ∧ i < k + 1 + r.length
      · rw [if_pos h2, if_pos (by omega), show i - k = (i - (k + 1)) + 1 by omega]; rfl
      · rw [if_neg h2, if_neg (by omega), if_neg (by omega)]
theorem fill_blk (l : List Value) (z : Array Value) (hl : l.length = 256) (hz : z.size = 256) :
    Instr.fill (fun i => some (i * 256, 256)) z [(0, .agg l.toArray)] = some l.toArray := by
  have hc : (Value.agg l.toArray).cells = l.toArray := rfl
  simp only [Instr.fill, hc]
  rw [if_neg (by simp; omega)]
  congr 1
  apply Array.ext_getElem?
  intro i
  have := foldl_set l 0 z i (by omega)
  rw [← Array.foldl_toList]
  simp only [Array.toList_zipIdx, Nat.zero_mul]
  rw [this]
  by_cases h : i < l.length
  · rw [if_pos ⟨by omega, by omega⟩]; simp
  · rw [if_neg (by omega)]
    rw [Array.getElem?_eq_none (by omega)]
    simp [List.getElem?_eq_none (by omega : l.length ≤ i)]
theorem fill_blk2 (l : List Value) (v : Value) (hl : l.length = 256) :
    Instr.fill (fun i => some (i * 256, 256)) ((Array.range (1 * 256)).map (v.cells[· % v.cells.size]!)) [(0, .agg l.toArray)] = some l.toArray :=
  fill_blk l _ hl (by simp only [Array.size_map, Array.size_range])
theorem fill_blk3 (l : List Value) (v : Value) (a : Act) (x : Operand) (hl : l.length = 256) (hx : a.eval x = .agg l.toArray) :
    Instr.fill (fun i => some (i * 256, 256)) ((Array.range (1 * 256)).map (v.cells[· % v.cells.size]!)) ((#[(0, x)] : Array (Nat × Operand)).map fun (i, x) => (i, a.eval x)).toList = some l.toArray := by
  have e : ((#[(0, x)] : Array (Nat × Operand)).map fun (i, x) => (i, a.eval x)).toList = [(0, .agg l.toArray)] := by simp [hx]
  rw [e]
  exact fill_blk2 l v hl
theorem blk_cells (w : World) (l : List Value) : ∀ j u, l[j]? = some u → (w.alloc (.cells l.toArray 77)).cell? ((⟨w.heap.size, 0, none⟩ : Addr).add j) = some u := by
  intro j u hu
  rw [Addr.add_mid, Nat.zero_add, cell_of_row _ _ _ _ _ _ (heap_alloc_new w _)]
  simpa using hu
theorem blk_one (f : Nat → Nat) (k : Nat) : ∀ u ∈ blkCells f k, u.oneCell' = true := by
  intro u hu
  simp only [blkCells, List.mem_map] at hu
  obtain ⟨_, _, rfl⟩ := hu
  rfl
theorem own_any' {w : World} {B e size n : Nat} {v : Value} {xs : List Value} (_h : w.ownsRow B e size v n xs) : v.ownBlock = none ∨ v.ownBlock ≠ (none : Option Nat) := by
  cases v.ownBlock with
  | none => exact .inl rfl
  | some k => exact .inr (by simp)
theorem wp_load77 {a : Act} {w : World} {K : Act → World → Prop} {Q : Exit → Act → World → Prop} {o : Oper} (x : Operand) (b : Nat) (cs : List Value) (ho : o.op = .load 77 x) (hx : a.eval x = .pointer (some ⟨b, 0, none⟩))
    (hld : (loadVar 77 ⟨b, 0, none⟩).run Try.prog w = .ok (.agg cs.toArray) w) (hK : K (a.put o.dst (.agg cs.toArray)) w) : Oper.wp Try.prog o a w K Q := by
  unfold Oper.wp execOp
  simp only [ho, hx, Instr.loadAt, Instr.sureAddr, Sem.run_bind, Sem.run_pure, Result.andThen_ok, hld]
  exact hK
set_option maxRecDepth 100000 in
set_option maxHeartbeats 2000000 in
theorem rleaves11_any (g n cap : Nat) (K : Nat → Bool) (w : World) (h : BoolsAt w g n K) (hn : n ≤ 8192) : Calls Try.prog 46 #[.slice (some ⟨g, 0, none⟩) n cap] w fun e w' => ∃ v, e = .returned v ∧ w'.ownsRow w.heap.size 77 256 v (nLeaves n) (lcells (leafAll (cutK n K) n) (nLeaves n)) ∧ Below w.heap.size w w' := by
  obtain ⟨L, hL⟩ : ∃ L, nLeaves n = L := ⟨_, rfl⟩
  rw [hL]
  unfold nLeaves at hL
  have HL := Lib.hid hL
  have hL8 : L ≤ 8 := by omega
  have HBA := Lib.hid h
  obtain ⟨i0, hi, hz0, hz1, hz2⟩ := info_parts info77
  clear hL h
  go_enter Try.func46, Try.ntmps46
  go_wp2_with fail
  have HO0 := Lib.hid (own_empty w 77 256)
  have HB0 : Hid (Below w.heap.size w (w.alloc (.cells #[] 77))) := Lib.hid ((Below.refl _ _).alloc (Nat.le_refl _) _)
  go_loopw [3, 4] (fun v i wr => ∃ (j : Nat), j ≤ L ∧ i = .int .i64 j ∧ wr.ownsRow w.heap.size 77 256 v j (lcells (leafAll (cutK n K) n) j) ∧ Below w.heap.size w wr) (fun _ i _ => L - (intOf i).toNat)
  case atStart => exact ⟨0, by omega, rfl, HO0.out, HB0.out⟩
  case round =>
    obtain ⟨j, hj, rfl, hO, hB⟩ := hrel
    have HO := Lib.hid hO
    have HB := Lib.hid hB
    have hsz := hB.size
    clear hO hB HO0 HB0
    by_cases hlt : j * 1024 < n
    · have hjL : j < L := by have := HL.out; omega
      have hst := hd4_store wr
      have HR := Lib.hid (hd4_row wr j)
      have HO1 := Lib.hid (HO.out.alloc (.cells hd4 77))
      have HB1 := Lib.hid (HB.out.alloc hsz (.cells hd4 77))
      have HG1 := Lib.hid (World.grownBy_alloc wr (.cells hd4 77) (some wr.heap.size))
      go_wp2_with fail
      clear hst
      have hszA : (wr.alloc (.cells hd4 77)).heap.size = wr.heap.size + 1 := by simp
      generalize hwA : wr.alloc (.cells hd4 77) = wA at *
      obtain ⟨G, hG⟩ : ∃ G, wr.heap.size = G := ⟨_, rfl⟩
      have HOlt := Lib.hid (HO.out.lt)
      rw [hG] at HR hszA HOlt hsz ⊢
      clear hwA HG1
      refine (rbytes_any j (by omega) wA).mono ?_
      rintro e w1 ⟨v6, rfl, hO6, hB6⟩
      obtain ⟨g6, c6, cur6, rfl, hg6, hGg⟩ : ∃ g6 c6 cur6, v6 = .slice (some ⟨g6, 0, none⟩) 4 c6 ∧ (w1.heap[g6]? = some (.cells cur6 5 (0, 0)) ∧ (∀ q, q < 4 → cur6[q]? = some (.int .u8 (lowB j q : Nat)))) ∧ G < g6 := by
        rcases hO6.2 with ⟨h1, h2⟩ | ⟨g6, c6, cur6, rfl, hb, hg6, _⟩
        · cases h2
        · refine ⟨g6, c6, cur6, rfl, ⟨hg6, fun q hq => ?_⟩, by omega⟩
          have k := hO6.cellAt q (by omega)
          rw [cell_of_row w1 g6 q cur6 5 (0, 0) hg6] at k
          rw [k]
          simp [lowCells, hq]
      have HB6 := Lib.hid (below_trans' HB1.out hB6)
      have HR6 := Lib.hid (HR.out.below hB6)
      have HO7 := Lib.hid (HO1.out.kept (only_of_below hB6 none) (own_any' HO1.out))
      have hsz1 : G + 1 ≤ w1.heap.size := by have := hB6.size; omega
      have hg6l : g6 < w1.heap.size := (Array.getElem?_eq_some_iff.1 hg6.1).1
      have HC6 := Lib.hid hg6
      clear hO6 hB6 HB1 HR HO1 hg6
      go_wp2_with fail
      go_loopw [7] (fun i wr => ∃ q : Nat, q ≤ 4 ∧ i = .int .i64 q ∧ RowB wr G 77 256 (headQ j q) ∧ w1.grownBy wr (some G)) (fun i _ => 4 - (intOf i).toNat)
      case atStart => exact ⟨0, by omega, rfl, HR6.out, only_refl _ _⟩
      case round =>
        obtain ⟨q, hq, rfl, hR, hGr⟩ := hrel
        have HR := Lib.hid hR
        have HG := Lib.hid hGr
        clear hR hGr HR6
        by_cases hq4 : q < 4
        · have hc6 : wr.cell? ⟨g6, q, none⟩ = some (.int .u8 (lowB j q : Nat)) := by
            rw [cell_of_row wr g6 q cur6 5 (0, 0) ((HG.out.block g6 hg6l (by intro e; injection e with e; omega)).trans HC6.out.1)]
            exact HC6.out.2 q hq4
          have hcG := HR.out.cell (i := 4 + q) (by omega)
          have hfG := HR.out.free (4 + q)
          have HS := Lib.hid ((HR.out.set (p := 4 + q) (by omega) (lowB j q)).congr (fun i _ => headQ_step j q i hq4))
          have HG' := Lib.hid (only_setCell HG.out (p := ⟨G, 4 + q, none⟩) (.inl rfl) (.int .u8 (lowB j q : Nat)))
          go_wp2_with fail
          exact ⟨⟨q + 1, by omega, by go_num, HS.out, HG'.out⟩, by simp [intOf]; omega⟩
        · have HR4 : Hid (RowB wr G 77 256 (blkTo K j (1024 * j))) := Lib.hid (by
            have hq4' : q = 4 := by omega
            have hR := HR.out
            rw [hq4'] at hR
            exact hR.congr (fun i _ => blkTo_start K j i))
          clear HR
          go_wp2_with fail
          go_loopw [8] (fun i wr => ∃ p : Nat, 1024 * j ≤ p ∧ p ≤ 1024 * j + 1024 ∧ p ≤ n ∧ i = .int .i64 p ∧ RowB wr G 77 256 (blkTo K j p) ∧ w1.grownBy wr (some G)) (fun i _ => n - (intOf i).toNat)
          case atStart => exact ⟨1024 * j, by omega, by omega, by omega, by go_num, HR4.out, HG.out⟩
          case round =>
            obtain ⟨p, hp1, hp2, hp3, rfl, hR, hGr⟩ := hrel
            have HR := Lib.hid hR
            have HGr := Lib.hid hGr
            clear hR hGr HR4 HG
            have HBw := Lib.hid (HB6.out.grown HGr.out (by omega) (fun k e => by injection e with e; omega))
            by_cases hin : p < 1024 * j + 1024 ∧ p < n
            · obtain ⟨hin1, hin2⟩ := hin
              have hck := (HBA.out.below HBw.out).cell (i := p) hin2
              cases hk : K p with
              | false =>
                rw [hk] at hck
                have HS := Lib.hid (HR.out.congr (fun i _ => blkTo_skip K j p i hk))
                clear hk
                go_wp2_with fail
                exact ⟨⟨p + 1, by omega, by omega, by omega, by go_num, HS.out, HGr.out⟩, by simp [intOf]; omega⟩
              | true =>
                rw [hk] at hck
                obtain ⟨o, ho⟩ : ∃ o, 128 + p % 1024 / 8 = o := ⟨_, rfl⟩
                have hV := byteVal_lt (cutK p K) (p / 8)
                have hbv : blkTo K j p o = byteVal (cutK p K) (p / 8) := by
                  unfold blkTo; rw [if_neg (by omega), show 128 * j + (o - 128) = p / 8 by omega]
                have ha := (u8_ops ⟨_, hV⟩ ⟨p % 8, by omega⟩).2.1
                have hc := HR.out.cell (i := o) (by omega)
                have hf := HR.out.free o
                have HS := Lib.hid ((HR.out.set (p := o) (by omega) (byteVal (cutK p K) (p / 8) ||| 2 ^ (p % 8))).congr (f' := blkTo K j (p + 1)) (fun i _ => by rw [← ho]; exact blkTo_step K j p i hk hp1 hin1))
                have HG' := Lib.hid (only_setCell HGr.out (p := ⟨G, o, none⟩) (.inl rfl) (.int .u8 ((byteVal (cutK p K) (p / 8) ||| 2 ^ (p % 8) : Nat) : Int)))
                rw [hbv] at hc
                simp only at ha
                rw [← pow_cast ⟨p % 8, by omega⟩] at ha
                simp only at ha
                generalize byteVal (cutK p K) (p / 8) = V at *
                clear hk hbv
                go_wp2_with fail
                generalize hVV : V ||| 2 ^ (p % 8) = V2 at *
                exact ⟨⟨p + 1, by omega, by omega, by omega, by go_num, HS.out, HG'.out⟩, by simp [intOf]; omega⟩
            · have hend : p = 1024 * j + 1024 ∧ p ≤ n ∨ p = n ∧ n ≤ 1024 * j + 1024 := by omega
              have HE := Lib.hid (HR.out.congr (f' := fun i => leafAll (cutK n K) n (j * 256 + i)) (fun i hi => blkTo_end K j n p i hi hend))
              have hra : wr.rangeAt G 0 (blkCells (leafAll (cutK n K) n) j) := by
                intro i v hv
                have hi' : i < 256 := by
                  have := (List.getElem?_eq_some_iff.1 hv).1
                  rwa [blkCells_len] at this
                rw [blkCells_at _ j i hi'] at hv
                cases hv
                rw [Nat.zero_add]
                exact HE.out.cell hi'
              have hld := run_loadVar_mid wr G 0 77 (blkCells (leafAll (cutK n K) n) j) _ hra Try.underlying77 (by kernel_rfl) (by rw [blkCells_len]; kernel_rfl)
              have HO8 := Lib.hid (HO7.out.kept HGr.out (by
                cases hb : u3.ownBlock with
                | none => exact .inl rfl
                | some k => exact .inr (fun e => by injection e with e; have := HOlt.out k hb; omega)))
              have hlc := blkCells_len (leafAll (cutK n K) n) j
              have hszw := HBw.out.size
              clear hra hend
              by_cases hq1 : p < 1024 * j + 1024
              · have hq2 : ¬ p < n := fun h => hin ⟨hq1, h⟩
                clear hin
                go_wp2_with fail
                refine wp_load77 (.tmp 5) G _ rfl rfl hld ?_
                go_wp2_with fail
                refine wp_buildSlice 75 77 1 #[(0, .tmp 64)] rfl (blkCells (leafAll (cutK n K) n) j).toArray i0 (.agg zero256) Try.underlying75 hi hz0 (by rw [hz1]; decide) (by rw [hz1]; decide) (by rw [hz1]; exact fill_blk3 _ (.agg zero256) _ _ hlc rfl) ?_
                go_wp2_with (at_builtin; go_must (refine wpList_append_own _ rfl (.tmp 63) (.tmp 65) 75 rfl w.heap.size 77 i0 (.agg zero256) 256 256 Try.underlying75 hi hz0 hz1 hz2 rfl (by decide) _ _ _ rfl (HO8.out.alloc _) ⟨wr.heap.size, 0, none⟩ 1 1 (blkCells (leafAll (cutK n K) n) j) rfl hlc (blk_cells wr _) (blk_one _ _) (by unfold maxLen; omega) (by omega) (by simp; omega) ?_); intro v' w9 hown1 hgrow1 _; have HB9 := Lib.hid ((HBw.out.alloc HBw.out.size _).grown hgrow1 (by have := HBw.out.size; simp; omega) (fun k hk => (HO8.out.lt k hk).1)); have HO9 := Lib.hid hown1; clear hown1 hgrow1)
                exact ⟨⟨j + 1, by omega, by go_num, by rw [lcells_succ]; exact HO9.out, HB9.out⟩, by simp [intOf]; omega⟩
              · clear hin
                go_wp2_with fail
                refine wp_load77 (.tmp 5) G _ rfl rfl hld ?_
                go_wp2_with fail
                refine wp_buildSlice 75 77 1 #[(0, .tmp 64)] rfl (blkCells (leafAll (cutK n K) n) j).toArray i0 (.agg zero256) Try.underlying75 hi hz0 (by rw [hz1]; decide) (by rw [hz1]; decide) (by rw [hz1]; exact fill_blk3 _ (.agg zero256) _ _ hlc rfl) ?_
                go_wp2_with (at_builtin; go_must (refine wpList_append_own _ rfl (.tmp 63) (.tmp 65) 75 rfl w.heap.size 77 i0 (.agg zero256) 256 256 Try.underlying75 hi hz0 hz1 hz2 rfl (by decide) _ _ _ rfl (HO8.out.alloc _) ⟨wr.heap.size, 0, none⟩ 1 1 (blkCells (leafAll (cutK n K) n) j) rfl hlc (blk_cells wr _) (blk_one _ _) (by unfold maxLen; omega) (by omega) (by simp; omega) ?_); intro v' w9 hown1 hgrow1 _; have HB9 := Lib.hid ((HBw.out.alloc HBw.out.size _).grown hgrow1 (by have := HBw.out.size; simp; omega) (fun k hk => (HO8.out.lt k hk).1)); have HO9 := Lib.hid hown1; clear hown1 hgrow1)
                exact ⟨⟨j + 1, by omega, by go_num, by rw [lcells_succ]; exact HO9.out, HB9.out⟩, by simp [intOf]; omega⟩
    · obtain rfl : j = L := by have := HL.out; omega
      go_wp2_with fail
      go_ret
      exact ⟨_, rfl, HO.out, HB.out⟩
end Go.Proofs.Ytffdklcpkkcohaa
