/- A disk is formatted and mounted: awake answers true, in every world. -/
import Derived.Test.YtpbjdbdlfobpmaaGreatDgO
import Derived.Test.YtpbjdbdlfobpmaaGreatMnA
import Derived.KernelRfl
namespace Go.Proofs.YtpbjdbdlfobpmaaGreat
open Go Go.RowKit Go.Eng
noncomputable def awokeB : Bool := match cfB 5 [] ⟨.leaf, 0⟩ with
  | some (.b b, _) => b
  | _ => false
theorem awake_run : awokeB = true := by kernel_rfl
theorem awake_any (w : World) : Calls Tryz.prog 5 #[] w fun e w' => e = .returned (.bool true) ∧ RowKit.Below w.heap.size w w' := by
  have h := awake_run
  unfold awokeB at h
  split at h
  · rename_i b h' e
    subst h
    exact call_of_run cfB_sound rfl (x := .b true) (by rw [e]; rfl) (fun _ => rfl) w
  · cases h
theorem needs_any (a : Int) (w : World) : Calls Tryz.prog 3 #[.int .i64 a] w fun e w' => e = .returned (.bool true) ∧ RowKit.Below w.heap.size w w' :=
  law_any awake_any a w
end Go.Proofs.YtpbjdbdlfobpmaaGreat
