/- What the abstract run says of the model: append. -/
import Derived.Test.YtpbjdbdlfobpmaaGreatEngS
namespace Go.Eng
open Go Go.RowKit
theorem append_two {P : Program} {w : World} {ats : Array TypeId} {t u ty : TypeId} {cx cy : Value} (h0 : ats[0]? = some t) (h1 : ats[1]? = some u) :
    (Builtin.append_ ats ty #[cx, cy]).run P w = (Builtin.append_ #[t, u] ty #[cx, cy]).run P w := by
  unfold Builtin.append_
  simp only [h0, h1]
  rfl
section
variable {Q : Tab} {B : Nat → Prop} {ρ : Env} {w : World} {h : Hp} (hQ : Q.Ok)
/-- a slice whose capacity is not known, and that has room: it stays in its row, under a new name -/
theorem open_stay (H : HR B ρ h w) {r : Nat} {row : Row} {x : Blk} (hrow : rowOf (h.t.get r) = some row) (hx : ρ r = some x) {e size n len : Nat} (he : row.e = e) (hes : row.es = size) {h0 h' : Hp} {q : Nat} {old new : List AV} {olds news : List Value}
    (hold : cellsAt row.n row.z row.t (len * size) 0 = some old) (hol : cvs ρ old = some olds) (hnl : cvs ρ new = some news) (hlen : news.length = n * size) (hk : putRow h r .dead = some h0) (hn : newRowA h0 e size (old ++ new) = some (q, h')) (hroom : len + n ≤ x.k) (hone : ∀ u ∈ news, u.oneCell' = true) :
    (storeCells ⟨x.b, len * size, none⟩ news).run Q.P w = .ok () (w.setCells x.b (len * size) news) ∧ HR B (ρ.set q x) h' (w.setCells x.b (len * size) news) ∧ ρ.le (ρ.set q x) ∧ (ρ.set q x) q = some x ∧ Below B w (w.setCells x.b (len * size) news) := by
  have hget := rowOf_some hrow
  obtain ⟨x2, k1, k2, k3⟩ := H.live r _ hget rfl
  rw [hx] at k1; cases k1
  obtain ⟨e0, es, m, z, tr⟩ := row
  simp only at he hes hold
  subst he; subst hes
  have R : RowR ρ w x ⟨e0, es, m, z, tr⟩ := k3
  obtain ⟨cs0, g1, g2, g3⟩ := R.cells (len * es) 0 old hold
  rw [hol] at g1; cases g1
  obtain ⟨cur, fz, hg, hfz, _, hsz, hmax, _⟩ := R
  simp only at hsz hg
  have hroom' : len * es + n * es ≤ cur.size := by
    rw [← Nat.add_mul, hsz]; exact Nat.mul_le_mul_right es hroom
  have hrl : r < h.nx := by
    rcases Nat.lt_or_ge r h.nx with hlt | hge
    · exact hlt
    · rw [(H.fresh r hge).2] at hget; cases hget
  have H0 := H.kill hrl hk
  obtain ⟨hnx0, hget0⟩ := putRow_get hk
  obtain ⟨a1, a2, a3, _⟩ := heap_setCells news (len * es) w x.b cur e0 fz hg
  have hst : (storeCells ⟨x.b, len * es, none⟩ news).run Q.P w = .ok () (w.setCells x.b (len * es) news) := by
    have := run_storeCells_cells (P := Q.P) x.b (len * es) news 0 w (fun j hj => ?_) (fun j hj => ?_) hone
    · simpa using this
    · have hlt : len * es + 0 + j < cur.size := by omega
      simp only [World.cell?, hg, Array.getElem?_eq_getElem hlt]; simp
    · obtain ⟨lo, hi⟩ := fz
      have := hfz (len * es + 0 + j) (by omega)
      simp only [World.frozen?, hg]
      simp only at this
      by_cases c1 : lo ≤ len * es + 0 + j
      · have : ¬ len * es + 0 + j < hi := fun b => this ⟨c1, b⟩
        simp only [this, decide_false, Bool.and_false]
      · simp only [c1, decide_false, Bool.false_and]
  have hq := newA_get (show newA h0 (.row e0 es (old ++ new).length [] (match layAt (old ++ new).length (old ++ new) .leaf 0 with | some t => t | none => .leaf)) = some (q, h') by
    unfold newRowA at hn
    rw [natF_eq] at hn
    split at hn
    · rename_i tr htr; simp only [htr]; exact hn
    · cases hn)
  unfold newRowA at hn
  rw [natF_eq] at hn
  split at hn
  · rename_i tr' htr
    have hle := Env.set_le (x := x) (H0.fresh q (by rw [hq.1]; exact Nat.le_refl _)).1
    have hc := cvs_app hol hnl
    have hcl := cvs_len hc
    have key := H0.new (x := x) hn k2 (fun p o y ep ap ey => ?_) (by omega) (w' := w.setCells x.b (len * es) news) ⟨layC cur (len * es) news, fz, a1, fun i hi => hfz i (by rwa [layC_size] at hi), by rw [layC_size]; simp only; rw [← hcl, List.length_append, g2]; omega, by rw [layC_size]; exact hsz, hmax, fun i hi => ?_⟩
    · exact ⟨hst, key.1, key.2.1, key.2.2, below_setCells hg k2⟩
    · rw [hget0] at ep
      by_cases hp : p = r
      · subst hp; rw [if_pos rfl] at ep; cases ep; cases ap
      · rw [if_neg hp] at ep
        have hne : y.b ≠ x.b := fun eb => hp (H.apart p r o _ y x ep ap hget rfl ey hx eb)
        exact ⟨hne, a2 y.b hne⟩
    · simp only at hi
      obtain ⟨c, h1, h2⟩ := cvs_at hc i (List.getElem?_eq_getElem hi)
      refine ⟨(old ++ new)[i], c, ?_, cv_mono hle _ _ h2, ?_⟩
      · simp only
        rw [layR_cell htr i hi, if_pos (by omega), Nat.sub_zero, List.getElem?_eq_getElem hi]
      · rw [layC_at news cur (len * es) (by omega)]
        have hii : i < olds.length + news.length := by rw [← List.length_append, hcl]; exact hi
        by_cases c1 : i < len * es
        · rw [if_neg (by omega)]
          rw [List.getElem?_append_left (by omega)] at h1
          have := g3 i c h1
          rw [Nat.zero_add] at this
          simpa [World.cell?, hg] using this
        · rw [if_pos (by omega), ← h1, List.getElem?_append_right (by omega), g2]
  · cases hn
include hQ
theorem appendA_ok (H : HR B ρ h w) {t u ty : TypeId} {cx cy : Value} {x y : AV} (hx : cv ρ x = some cx) (hy : cv ρ y = some cy) (hu : srcT (Q.und u) = true) {v : AV} {h' : Hp} (e : appendA Q h t x y = some (v, h')) :
    Ends Q.P B ρ w (Builtin.append_ #[t, u] ty #[cx, cy]) v h' := by
  have htx : (∃ e', Q.P.underlying u = some (.slice e')) ∨ Q.P.underlying u = some .string := by
    unfold srcT at hu
    split at hu
    · rename_i e' hd; exact .inl ⟨e', hQ.und u _ hd⟩
    · rename_i hd; exact .inr (hQ.und u _ hd)
    · cases hu
  unfold appendA at e
  split at e
  · rename_i el n hel hn
    split at e
    · rename_i size hs
      split at e
      · rename_i hfit
        split at e
        · rename_i new hnew
          have ht := elemOf_ok hQ hel
          unfold appTo at e
          split at e
          · rename_i xv
            split at e
            · rename_i hnil
              unfold isNilSl at hnil
              split at hnil
              · simp only [cv] at hx; cases hx
                unfold appNil at e
                split at e
                · cases e
                  obtain ⟨cs, g1, g2⟩ := src_ok (P := Q.P) H htx hy hn hnew (fun v hv => by
                    have := firstA_len H hy hn hnew
                    simp at this; subst this; cases hv)
                  have g3 := g2.newsLen
                  simp at g3; subst g3
                  refine ⟨ρ, .slice none 0 0, w, ?_, Env.le_refl ρ, rfl, H, Below.refl _ _⟩
                  obtain ⟨i, hi, hsz⟩ := sizeA_ok hQ hs
                  subst hsz
                  rcases htx with ⟨e', hk⟩ | hk <;> simp [Builtin.append_, run_underlying ht, run_underlying hk, sizeOf, typeInfo, hi, g2.len, g2.cells]
                · obtain ⟨r, hr, rfl⟩ := freshSl_some e
                  have := grow_ok hQ H H (ty := ty) (old := []) (len := 0) (cap := 0) (x := .v (.slice none 0 0)) ht htx hs (by rw [Nat.zero_add]; simpa [lenA, lenV, needA] using hfit) (base := none) rfl hy rfl hn rfl hnew (by omega) (by simpa using hr)
                  rw [Nat.zero_add] at this
                  exact this
              · cases hnil
            · cases e
          · rename_i r o len c d
            obtain ⟨xb, hxb, rfl⟩ := cv_sl hx
            split at e
            · rename_i cc
              have hfit' : fitsA Q el size (len + n) = true := hfit
              unfold appKnown at e
              split at e
              · rename_i hroom
                have hroom : len + n ≤ cc := by simpa using hroom
                split at e
                · rename_i row hrow
                  split at e
                  · rename_i h1 hl
                    cases e
                    obtain ⟨cs, g1, g2⟩ := src_ok (P := Q.P) H htx hy hn hnew (layR_one hl)
                    obtain ⟨xb2, k1, k2, k3, k4⟩ := layR_ok (P := Q.P) H hrow hl g1
                    rw [hxb] at k1; cases k1
                    exact ⟨ρ, _, _, stay_run hQ ht hs g2 hroom k2, Env.le_refl ρ, cv_sl_mk hxb, k3, k4⟩
                  · cases e
                · cases e
              · rename_i hroom
                have hroom : ¬ len + n ≤ cc := fun h => by rw [Nat.ble_eq_true_of_le h] at hroom; cases hroom
                split at e
                · rename_i old hold
                  obtain ⟨q, hr, rfl⟩ := freshSl_some e
                  exact grow_ok hQ H H ht htx hs hfit' (x := .sl r o len (some cc) d) (base := some ⟨xb.b, o, none⟩) (cap := cc) (cv_sl_mk hxb) hy rfl hn hold hnew (by omega) hr
                · cases e
            · split at e
              · have hfit' : fitsA Q el size (len + n) = true := hfit
                unfold appOpen at e
                split at e
                · rename_i hsame
                  split at e
                  · rename_i old hold
                    split at e
                    · rename_i h0 hk
                      obtain ⟨q, hr, rfl⟩ := freshSl_some e
                      unfold sameRow at hsame
                      split at hsame
                      · rename_i e' es m z tr hrow
                        simp only [Bool.and_eq_true, Nat.beq_eq] at hsame
                        by_cases hroom : len + n ≤ xb.k
                        · have hone := newRowA_one hr
                          obtain ⟨news, g1, g2⟩ := src_ok (P := Q.P) H htx hy hn hnew (fun v hv => hone v (List.mem_append_right _ hv))
                          have hold' : cellsAt m z tr (len * size) 0 = some old := by
                            unfold firstA at hold
                            simp only [hrow] at hold
                            exact hold
                          have hget := rowOf_some hrow
                          obtain ⟨x2, q1, _, q3⟩ := H.live r _ hget rfl
                          rw [hxb] at q1; cases q1
                          obtain ⟨olds, p1, _, _⟩ := RowR.cells (r := ⟨e', es, m, z, tr⟩) q3 (len * size) 0 old hold'
                          obtain ⟨s1, s2, s3, s4, s5⟩ := open_stay (Q := Q) H hrow hxb hsame.1 hsame.2 hold' p1 g1 g2.newsLen hk hr hroom g2.one
                          refine ⟨_, _, _, stay_run hQ (b := xb.b) (off := 0) (cap := xb.k - 0) ht hs g2 hroom (by rw [Nat.zero_add]; exact s1), s3, ?_, s2, s5⟩
                          rw [cv_sl_mk s4]; rfl
                        · have hrl : r < h.nx := by
                            rcases Nat.lt_or_ge r h.nx with hlt | hge
                            · exact hlt
                            · rw [(H.fresh r hge).2] at hrow; cases hrow
                          exact grow_ok hQ H (H.kill hrl hk) ht htx hs hfit' (x := .sl r 0 len none 0) (base := some ⟨xb.b, 0, none⟩) (cap := xb.k - 0) (cv_sl_mk hxb) hy rfl hn hold hnew (by omega) hr
                      · cases hsame
                    · cases e
                  · cases e
                · cases e
              · cases e
          · cases e
        · cases e
      · cases e
    · cases e
  · cases e
end
end Go.Eng
