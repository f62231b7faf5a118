/- The digest as one step of the abstract run. -/
import Derived.Test.YtpbjdbdlfobpmaaGreatDgN
import Derived.Test.YtpbjdbdlfobpmaaGreatEngQt
namespace Go.Proofs.YtpbjdbdlfobpmaaGreat
open Go Go.RowKit Go.Eng
/-- the digest of a text that is not too long -/
def digestB (args : List AV) (h : Hp) : Option (AV × Hp) := match args with
  | [.i .u8 (.ofNat tag), .v (.string s)] => match Nat.blt tag 256 with
    | true => match Nat.ble s.data.size 1000000 with
      | true => some (.v (.agg ((digestF tag (natBytes s.data.toList)).map fun (n : Nat) => Value.int .u8 (n : Int)).toArray), h)
      | false => none
    | false => none
  | _ => none
theorem digestB_shape {args : List AV} {h : Hp} {x : AV} {h' : Hp} (e : digestB args h = some (x, h')) : ∃ (t : Nat) (s : ByteArray), args = [.i .u8 (t : Int), .v (.string s)] ∧ t < 256 ∧ s.size ≤ 1000000 ∧ x = .v (.agg ((digestF t (natBytes s.data.toList)).map fun (n : Nat) => Value.int .u8 (n : Int)).toArray) ∧ h' = h := by
  unfold digestB at e
  split at e
  · rename_i tag s
    split at e
    · rename_i h1
      split at e
      · rename_i h2
        simp only [Option.some.injEq, Prod.mk.injEq] at e
        exact ⟨tag, s, rfl, by simpa using h1, Nat.le_of_ble_eq_true h2, e.1.symm, e.2.symm⟩
      · cases e
    · cases e
  · cases e
theorem digest_sound : CallSound QT fun f' args h => if f' = 135 then digestB args h else none := by
  intro B ρ w h f args cargs x h' H hc e
  simp only at e
  split at e
  · rename_i hf
    subst hf
    obtain ⟨t, s, rfl, ht, hs, rfl, rfl⟩ := digestB_shape e
    have hc' : cargs = [.int .u8 (t : Int), .string s] := by
      have e1 : cvs ρ [.i .u8 (t : Int), .v (.string s)] = some [.int .u8 (t : Int), .string s] := rfl
      rw [e1] at hc
      injection hc with hc
      exact hc.symm
    subst hc'
    refine (of_any (t : Int) s w hs).mono ?_
    rintro e w' ⟨rfl, hb⟩
    refine ⟨ρ, _, rfl, fun _ _ h => h, ?_, H.world (fun j hj => hb.block j hj) hb.size, ⟨hb.os, hb.tape, hb.output, hb.size, fun k hk => hb.block k (H.base k hk)⟩⟩
    rw [dig_nat t ht s hs]
    have e2 : bc (N (digestF t (natBytes s.data.toList))) = (digestF t (natBytes s.data.toList)).map fun (n : Nat) => Value.int .u8 (n : Int) := by
      unfold bc N
      rw [List.map_map]
      rfl
    rw [e2]
    rfl
  · cases e
theorem digest_has : CallHas QT fun f' args h => if f' = 135 then digestB args h else none := by
  intro f args h r e
  simp only at e
  split at e
  · rename_i hf
    subst hf
    exact ⟨Tryz.f135, Tryz.func135, rfl, by decide⟩
  · cases e
noncomputable def spB : FuncId → Option (List AV → Hp → Option (AV × Hp)) := fun f => match f with | 135 => some digestB | _ => none
theorem spB_ok (f : FuncId) (g : List AV → Hp → Option (AV × Hp)) (e : spB f = some g) : (CallSound QT fun f' args h => if f' = f then g args h else none) ∧ CallHas QT fun f' args h => if f' = f then g args h else none := by
  unfold spB at e
  split at e
  · injection e with e
    subst e
    exact ⟨digest_sound, digest_has⟩
  · cases e
noncomputable def cfB : CallF := callN QT (drA QT) spB 100000 100
theorem cfB_sound : CallSound QT cfB := (callN_ok QT_ok (fun _ => opSound QT_ok) (fun _ => drawSound QT_ok) spB_ok 100000 100).1
end Go.Proofs.YtpbjdbdlfobpmaaGreat
