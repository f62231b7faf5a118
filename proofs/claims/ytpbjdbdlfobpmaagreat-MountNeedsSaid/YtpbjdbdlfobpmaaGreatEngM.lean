/- What the abstract run says of the model: slices of slices and of arrays. -/
import Derived.Test.YtpbjdbdlfobpmaaGreatEngL
namespace Go.Eng
open Go Go.RowKit
section
variable {Q : Tab} {B : Nat → Prop} {ρ : Env} {fr : Fr} {a : Act} {w : World} {h : Hp} {o : Oper}
theorem optA_ok (hf : FR ρ fr a.tmps) {y : Option Operand} {v : Option AV} (e : optA fr y = some v) : optR ρ v (y.map a.eval) := by
  cases y with
  | none => simp only [optA] at e; cases e; trivial
  | some y =>
    simp only [optA] at e
    split at e
    · rename_i u hu; cases e; exact evalA_cv hf hu
    · cases e
theorem sliceK_ok {s r off l hh m : Nat} {x : Blk} {v : AV} (hx : ρ r = some x) (e : sliceK s r off (some (l, hh, m)) = some v) :
    cv ρ v = some (.slice (some (if m = l then ⟨x.b, off, none⟩ else ⟨x.b, off + l * s, none⟩)) (hh - l) (m - l)) := by
  simp only [sliceK] at e
  split at e
  · rename_i h1
    cases e
    have : m = l := by simpa using h1
    rw [if_pos this]; exact cv_sl_mk hx
  · rename_i h1
    cases e
    have : ¬ m = l := fun e => by rw [e] at h1; simp at h1
    rw [if_neg this]; exact cv_sl_mk hx
variable (hQ : Q.Ok)
include hQ
theorem run_slice_sl {t el : TypeId} {s n cap l hh m : Nat} {b off : Nat} {lo hi mx : Option Value} (ht : Q.P.underlying t = some (.slice el)) (hs : sizeA Q el = some s)
    (hb : (Instr.sliceBounds true n cap lo hi mx).run Q.P w = .ok (l, hh, m) w) :
    (Instr.sliceAt t (.slice (some ⟨b, off, none⟩) n cap) lo hi mx).run Q.P w = .ok (.slice (some (if m = l then ⟨b, off, none⟩ else ⟨b, off + l * s, none⟩)) (hh - l) (m - l)) w := by
  simp only [Instr.sliceAt, Instr.slice, Sem.run_bind, run_underlying ht w, Result.andThen_ok, hb, run_sizeOf hQ hs, Sem.run_pure]
  by_cases h : m = l
  · simp [h]
  · simp [h, add_at]
theorem run_slice_arr {t el : TypeId} {s k l hh m : Nat} {b off : Nat} {lo hi mx : Option Value} (ht : Q.P.underlying t = some (.array k el)) (hs : sizeA Q el = some s)
    (hb : (Instr.sliceBounds false k k lo hi mx).run Q.P w = .ok (l, hh, m) w) :
    (Instr.sliceAt t (.pointer (some ⟨b, off, none⟩)) lo hi mx).run Q.P w = .ok (.slice (some (if m = l then ⟨b, off, none⟩ else ⟨b, off + l * s, none⟩)) (hh - l) (m - l)) w := by
  simp only [Instr.sliceAt, Instr.sureAddr, Sem.run_bind, run_underlying ht w, Result.andThen_ok, hb, run_sizeOf hQ hs, Sem.run_pure]
  by_cases h : m = l
  · simp [h]
  · simp [h, add_at]
theorem slice_named_runs (H : HL ρ h w) (hf : FR ρ fr a.tmps) {t : TypeId} {y : Operand} {lo hi mx : Option Operand} (ho : o.op = .slice t y lo hi mx) {u : AV} (hy : evalA y fr = some u) {lo' hi' mx' : Option AV}
    (hlo : optA fr lo = some lo') (hhi : optA fr hi = some hi') (hmx : optA fr mx = some mx') {x : AV} (e : sliceA Q h t lo' hi' mx' u = some x) : RunsQ Q.P ρ h w (execOp a.eval o) x h := by
  have k1 := optA_ok hf hlo
  have k2 := optA_ok hf hhi
  have k3 := optA_ok hf hmx
  have done : ∀ {c : Value}, (Instr.sliceAt t (a.eval y) (lo.map a.eval) (hi.map a.eval) (mx.map a.eval)).run Q.P w = .ok c w → cv ρ x = some c → RunsQ Q.P ρ h w (execOp a.eval o) x h := fun {c} hr hc => by
    refine RunsQ.same (c := c) ?_ hc
    unfold execOp
    simp only [ho]
    rw [Sem.run_bind, hr]; rfl
  unfold sliceA at e
  split at e
  · rename_i r off n c d
    obtain ⟨xb, hx, hp⟩ := cv_sl (evalA_cv hf hy)
    split at e
    · rename_i el hel
      split at e
      · rename_i s hs
        split at e
        · rename_i cc
          unfold sliceK at e
          split at e
          · rename_i l hh m hb
            have hb' := bounds3_ok (P := Q.P) (w := w) k1 k2 k3 hb true cc (Nat.le_refl _) (fun _ => rfl)
            refine done (by rw [hp]; exact run_slice_sl hQ (elemOf_ok hQ hel) hs hb') (sliceK_ok (s := s) hx (by simpa only [sliceK] using e))
          · cases e
        · split at e
          · rename_i row hrow
            unfold sliceU at e
            split at e
            · rename_i hcond
              simp only [Bool.and_eq_true, Nat.ble_eq, Nat.beq_eq, Nat.blt_eq] at hcond
              obtain ⟨⟨⟨c1, c2⟩, c3⟩, c4⟩ := hcond
              have hget := rowOf_some hrow
              obtain ⟨x2, j1, j3⟩ := H r _ hget rfl
              rw [hx] at j1; cases j1
              obtain ⟨cur, fz, _, _, q1, q2, _⟩ := j3
              simp only at q1 q2
              have hn : d + n ≤ xb.k := by
                have h1 : (d + n) * s ≤ xb.k * s := by
                  rw [Nat.add_mul, ← c2]
                  rw [c1] at q2
                  omega
                exact Nat.le_of_mul_le_mul_right h1 c4
              split at e
              · unfold sliceV at e
                split at e
                · rename_i l hh m hb
                  split at e
                  · rename_i hlt
                    have hlt : l < n := by simpa using hlt
                    cases e
                    obtain ⟨rfl, _, _, hb'⟩ := bounds2_ok (P := Q.P) (w := w) k1 k2 hb true (xb.k - d) (by omega)
                    have hmn : mx.map a.eval = none := by
                      cases hmm : mx.map a.eval with
                      | none => rfl
                      | some z => rw [hmm] at k3; cases k3
                    refine done (by rw [hp, hmn]; exact run_slice_sl hQ (elemOf_ok hQ hel) hs hb') ?_
                    rw [if_neg (by omega)]
                    rw [cv_sl_mk hx]
                    simp only [capOf]
                    congr 2
                    omega
                  · cases e
                · cases e
              · rename_i mv
                unfold sliceK at e
                split at e
                · rename_i l hh m hb
                  have hb' := bounds3_ok (P := Q.P) (w := w) k1 k2 k3 hb true (xb.k - d) (by omega) (fun e => by cases e)
                  exact done (by rw [hp]; exact run_slice_sl hQ (elemOf_ok hQ hel) hs hb') (sliceK_ok (s := s) hx (by simpa only [sliceK] using e))
                · cases e
            · cases e
          · cases e
      · cases e
    · cases e
  · rename_i r off
    obtain ⟨xb, hx, hp⟩ := cv_ptr (evalA_cv hf hy)
    split at e
    · rename_i k el hk
      split at e
      · rename_i s hs
        unfold sliceK at e
        split at e
        · rename_i l hh m hb
          have hb' := bounds3_ok (P := Q.P) (w := w) k1 k2 k3 hb false k (Nat.le_refl _) (fun _ => rfl)
          exact done (by rw [hp]; exact run_slice_arr hQ (arrOf_ok hQ hk) hs hb') (sliceK_ok (s := s) hx (by simpa only [sliceK] using e))
        · cases e
      · cases e
    · cases e
  · cases e
end
end Go.Eng
