/- Contracts: the digest of a text. -/
import Derived.Test.YtpbjdbdlfobpmaaGreatDgYn
namespace Go.Proofs.YtpbjdbdlfobpmaaGreat
open Go.RowKit Go.Eng
/-- the last bytes that are digested -/
def lastI (s : ByteArray) (k : Nat) (i : Nat) : Int := (tailI (fBytes k (fun i => bf s (32 * (s.size / 32) + i))) (32 * ((k + 40) / 32) - k - 9) ++ n8 s.size).getD i 0
def digI (t : Int) (s : ByteArray) : List Int := oB (piecesI (piecesI (words0 t) (bf s) (s.size / 32)) (lastI s (s.size % 32)) ((s.size % 32 + 40) / 32)) 8
theorem sum_any (b : Nat) (l : List Int) (v : Value) (s : ByteArray) (lo : Nat) (w : World) (hs : s.size ≤ 1000000) (hh : HS w b l v s.size) (hd : Held w lo v (s.size % 32) (fun i => bf s (32 * (s.size / 32) + i))) :
    Calls Tryz.prog 139 #[.pointer (some ⟨b, 0, none⟩)] w fun e w' => e = .returned (.agg (bc (oB (piecesI l (lastI s (s.size % 32)) ((s.size % 32 + 40) / 32)) 8)).toArray) ∧ RowKit.Below w.heap.size w w' := by
  obtain ⟨x0, x1, x2, x3, x4, x5, x6, x7, rfl⟩ := list8 hh.1
  rcases hd with ⟨hk, rfl⟩ | ⟨g, o, c, rfl, _, hkc, hb⟩
  · exact sum_none b x0 x1 x2 x3 x4 x5 x6 x7 s.size (s.size % 32) (fun i => bf s (32 * (s.size / 32) + i)) w hs hk hh
  · exact sum_some b x0 x1 x2 x3 x4 x5 x6 x7 g o c s.size (s.size % 32) (fun i => bf s (32 * (s.size / 32) + i)) w hs (Nat.mod_lt _ (by decide)) hkc hh hb
set_option maxRecDepth 100000 in
set_option maxHeartbeats 1000000 in
theorem of_any (t : Int) (s : ByteArray) (w : World) (hs : s.size ≤ 1000000) :
    Calls Tryz.prog 135 #[.int .u8 t, .string s] w fun e w' => e = .returned (.agg (bc (digI t s)).toArray) ∧ RowKit.Below w.heap.size w w' := by
  have HSZ := Lib.hid hs
  clear hs
  go_enter Tryz.func135, Tryz.ntmps135
  go_wp2_with fail
  refine (new_any t _).mono ?_
  rintro e w2 ⟨b, rfl, hb, hX, hB⟩
  have hZ : RowO w2 w.heap.size (List.replicate 32 0) := RowO.below (w := w.alloc (.cells #[.int .u8 0, .int .u8 0, .int .u8 0, .int .u8 0, .int .u8 0, .int .u8 0, .int .u8 0, .int .u8 0, .int .u8 0, .int .u8 0, .int .u8 0, .int .u8 0, .int .u8 0, .int .u8 0, .int .u8 0, .int .u8 0, .int .u8 0, .int .u8 0, .int .u8 0, .int .u8 0, .int .u8 0, .int .u8 0, .int .u8 0, .int .u8 0, .int .u8 0, .int .u8 0, .int .u8 0, .int .u8 0, .int .u8 0, .int .u8 0, .int .u8 0, .int .u8 0] 39)) (heap_alloc_new w (.cells #[.int .u8 0, .int .u8 0, .int .u8 0, .int .u8 0, .int .u8 0, .int .u8 0, .int .u8 0, .int .u8 0, .int .u8 0, .int .u8 0, .int .u8 0, .int .u8 0, .int .u8 0, .int .u8 0, .int .u8 0, .int .u8 0, .int .u8 0, .int .u8 0, .int .u8 0, .int .u8 0, .int .u8 0, .int .u8 0, .int .u8 0, .int .u8 0, .int .u8 0, .int .u8 0, .int .u8 0, .int .u8 0, .int .u8 0, .int .u8 0, .int .u8 0, .int .u8 0] 39)) hB
  have hbw : w.heap.size + 1 ≤ b := by rw [World.size_alloc] at hb; exact hb
  have hB2 : RowKit.Below w.heap.size w w2 := below_trans'' ((RowKit.Below.refl w.heap.size w).alloc (Nat.le_refl _) (.cells #[.int .u8 0, .int .u8 0, .int .u8 0, .int .u8 0, .int .u8 0, .int .u8 0, .int .u8 0, .int .u8 0, .int .u8 0, .int .u8 0, .int .u8 0, .int .u8 0, .int .u8 0, .int .u8 0, .int .u8 0, .int .u8 0, .int .u8 0, .int .u8 0, .int .u8 0, .int .u8 0, .int .u8 0, .int .u8 0, .int .u8 0, .int .u8 0, .int .u8 0, .int .u8 0, .int .u8 0, .int .u8 0, .int .u8 0, .int .u8 0, .int .u8 0, .int .u8 0] 39)) hB (by simp)
  have hs2 := hB.size
  rw [World.size_alloc] at hs2
  clear hB hb
  have HX := Lib.hid hX
  have HZ := Lib.hid hZ
  have HB := Lib.hid hB2
  clear hX hZ hB2
  go_wp2_with fail
  refine (write_any b _ s w2 HSZ.out HX.out).mono ?_
  rintro e w3 ⟨⟨x, rfl⟩, hG, v, hX3, hH3⟩
  have HZ3 := Lib.hid (show RowO w3 w.heap.size (List.replicate 32 0) from (hG.block w.heap.size (by omega) (by simp; omega)).trans HZ.out)
  have HB3 := Lib.hid (below_only2 HB.out hG (by omega) (by omega))
  have HX3 := Lib.hid hX3
  have HH3 := Lib.hid hH3
  clear hX3 hH3 HX HZ HB hG
  go_wp2_with fail
  refine (sum_any b _ v s _ w3 HSZ.out HX3.out HH3.out).mono ?_
  rintro e wr ⟨rfl, hB4⟩
  have hZ := HZ3.out.below hB4
  have hB := below_trans' HB3.out hB4
  have hL : (digI t s).length = 32 := oB_len _ 8
  rw [show oB (piecesI (piecesI (words0 t) (bf s) (s.size / 32)) (lastI s (s.size % 32)) ((s.size % 32 + 40) / 32)) 8 = digI t s from rfl]
  obtain ⟨L, hg⟩ : ∃ L, digI t s = L := ⟨_, rfl⟩
  rw [hg] at hL ⊢
  have HG := Lib.hid hg
  clear hg
  have hL' : (bc L).length = 32 := by simp [bc, hL]
  have hst : (storeCells ⟨w.heap.size, 0, none⟩ (bc L).toArray.toList).run Tryz.prog wr = .ok () (wr.setCells w.heap.size 0 (bc L)) :=
    run_storeCells_cells (P := Tryz.prog) w.heap.size 0 (bc L) 0 wr (fun jj hj => by
      rw [Nat.zero_add, hZ.cell (i := jj) (by rw [hL'] at hj; simpa using hj)]; rfl) (fun jj _ => hZ.free _) (fun u hu => by
      obtain ⟨x, _, rfl⟩ := List.mem_map.1 hu; rfl)
  have hR13 : RowO (wr.setCells w.heap.size 0 (bc L)) w.heap.size L := by
    have := setCells_mid wr w.heap.size [] (List.replicate 32 0) [] L (by rw [List.append_nil]; exact hZ) (by rw [hL]; rfl)
    rw [List.append_nil] at this
    exact this
  have hB13 := below_setCells (bc L) 0 _ _ hZ.heap (B := w.heap.size) (by omega) hB
  generalize hw13 : wr.setCells w.heap.size 0 (bc L) = w13 at *
  have hld13 := run_loadVar_mid (P := Tryz.prog) w13 w.heap.size 0 39 (bc L) _ (fun jj u hu => by rw [Nat.zero_add]; exact hR13.cells jj u hu) Tryz.underlying39 (by kernel_rfl) (by rw [hL']; kernel_rfl)
  have hsz : (bc L).toArray.size = 32 := by simpa using hL'
  have hq : (bc (digI t s)).toArray = (bc L).toArray := by rw [HG.out]
  generalize (bc L).toArray = A at *
  have HQ := Lib.hid hq
  clear hq
  have HB13 := Lib.hid hB13
  clear hZ hB hw13 hR13 hB13 hL hL' HX3 HH3 HZ3 HB3 hB4
  go_wp2_with fail
  refine bodyPost_ret (v := .agg A) ?_ rfl ⟨by rw [HQ.out], HB13.out⟩
  simp [results, Tryz.f135, asAddr, hld13]
end Go.Proofs.YtpbjdbdlfobpmaaGreat
