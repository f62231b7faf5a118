/- Contracts by the abstract run: a round, some rounds. -/
import Derived.Test.YtpbjdbdlfobpmaaGreatEngQt
import Derived.Test.YtpbjdbdlfobpmaaGreatDgA
namespace Go.Proofs.YtpbjdbdlfobpmaaGreat
open Go.RowKit Go.Eng
/-- a number that is not known -/
def qv (v : Int) : AV := .v (.int .u32 v)
def avs (l : List Int) : List AV := l.map qv
def uI (l : List Int) : Array Value := ⟨l.map (Value.int .u32)⟩
theorem avs_cv (ρ : Env) : ∀ l : List Int, cvs ρ (avs l) = some (l.map (Value.int .u32))
  | [] => rfl
  | _ :: r => cvs_mk rfl (avs_cv ρ r)
theorem agg_cv (ρ : Env) (l : List Int) : cv ρ (.agg (avs l)) = some (.agg (uI l)) := by simp only [cv, avs_cv]; rfl
def cfQ : CallF := fun f args h => match f with
  | 145 => match args with
    | [.v (.int .u32 a), .v (.int .u32 b), .v (.int .u32 c), .v (.int .u32 d)] => some (.tup [qv (quarterI a b c d).1, qv (quarterI a b c d).2.1, qv (quarterI a b c d).2.2.1, qv (quarterI a b c d).2.2.2], h)
    | _ => none
  | _ => none
theorem cfQ_some {f : FuncId} {args : List AV} {h : Hp} {x : AV} {h' : Hp} (e : cfQ f args h = some (x, h')) : f = 145 ∧ ∃ a b c d, args = [.v (.int .u32 a), .v (.int .u32 b), .v (.int .u32 c), .v (.int .u32 d)] ∧ x = .tup [qv (quarterI a b c d).1, qv (quarterI a b c d).2.1, qv (quarterI a b c d).2.2.1, qv (quarterI a b c d).2.2.2] ∧ h' = h := by
  unfold cfQ at e
  split at e
  · split at e
    · cases e; exact ⟨rfl, _, _, _, _, rfl, rfl, rfl⟩
    · cases e
  · cases e
theorem cfQ_sound : CallSound QT cfQ := by
  intro B ρ w h f args cargs x h' H hc e
  obtain ⟨rfl, a, b, c, d, rfl, rfl, rfl⟩ := cfQ_some e
  have : cargs = [.int .u32 a, .int .u32 b, .int .u32 c, .int .u32 d] := by
    have h2 : cvs ρ [.v (.int .u32 a), .v (.int .u32 b), .v (.int .u32 c), .v (.int .u32 d)] = some [.int .u32 a, .int .u32 b, .int .u32 c, .int .u32 d] := rfl
    rw [h2] at hc; cases hc; rfl
  subst this
  refine (quarter_any a b c d w).mono ?_
  rintro e w' ⟨rfl, rfl⟩
  exact ⟨ρ, _, rfl, Env.le_refl ρ, rfl, H, Below.refl _ _⟩
theorem cfQ_has : CallHas QT cfQ := by
  intro f args h r e
  obtain ⟨rfl, _⟩ := cfQ_some (x := r.1) (h' := r.2) e
  exact ⟨Tryz.f145, Tryz.func145, by kernel_rfl, by kernel_rfl⟩
theorem roundSound (fuel : Nat) : CallSound QT (callFn QT cfQ (drA QT) fuel) := callFn_ok QT_ok (opSound QT_ok cfQ_sound cfQ_has) (drawSound QT_ok cfQ_sound cfQ_has) fuel
def qatI (s : List Int) (a b c d : Nat) : List Int :=
  (((s.set a (quarterI (s.getD a 0) (s.getD b 0) (s.getD c 0) (s.getD d 0)).1).set b (quarterI (s.getD a 0) (s.getD b 0) (s.getD c 0) (s.getD d 0)).2.1).set c (quarterI (s.getD a 0) (s.getD b 0) (s.getD c 0) (s.getD d 0)).2.2.1).set d (quarterI (s.getD a 0) (s.getD b 0) (s.getD c 0) (s.getD d 0)).2.2.2
def roundI (l : List Int) : Bool → List Int
  | false => qatI (qatI (qatI (qatI l 0 4 8 12) 1 5 9 13) 2 6 10 14) 3 7 11 15
  | true => qatI (qatI (qatI (qatI l 0 5 10 15) 1 6 11 12) 2 7 8 13) 3 4 9 14
theorem run_round (k : Bool) (x0 x1 x2 x3 x4 x5 x6 x7 x8 x9 x10 x11 x12 x13 x14 x15 : Int) :
    ((callFn QT cfQ (drA QT) 1000 144 [.agg (avs [x0, x1, x2, x3, x4, x5, x6, x7, x8, x9, x10, x11, x12, x13, x14, x15]), .b k, .v (.func (.func 145) #[] #[])] ⟨.leaf, 0⟩).map (·.1)) = some (.agg (avs (roundI [x0, x1, x2, x3, x4, x5, x6, x7, x8, x9, x10, x11, x12, x13, x14, x15] k))) := by
  cases k <;> kernel_rfl
end Go.Proofs.YtpbjdbdlfobpmaaGreat
