/-
  No cell of these rows narrows 'for every input' (looked for: loops, veiled, ifaces, maps, wideKeys, modest, calm, conditions, laid).
  DERIVED. THE GIVEN ROWS OF THIS SEAT. 4 by the template 'for every input the law returns true; each argument reads behind the call as it read before'; 0 by the template 'total and deterministic' (their statements: YtegeonompkgpeaaTotals.lean).
  GIVEN WITH THE SEED: the statements are not yours to turn. If you find one false, say at which input.
  Laid BY PROGRAM, IN A SANDBOX (cutbox-rows.mjs): the forced cells as the released guide's own fill.sh prints them over the translation 2e51e0fd9b67b931… (all of the seat's roots in one cut). By AI agents, Wed Nov 11 2026. No macro, syntax, notation, axiom, sorry.
-/
import Derived.Test.YtegeonompkgpeaaChecked
import GoSem.Claim
import GoSem.ClaimJoined
import GoSem.ClaimMapViews
import Derived.JoinedTies
import Derived.KernelRfl
namespace Go.Proofs.Ytegeonompkgpeaa
/- THE CELL 'sum', in the pinned program and in every row, IS THE sha256 OF THE DUMP (.gsa) THAT YtegeonompkgpeaaProg.lean LOADS. Nothing in Lean hashes anything: it is a label: what it is worth is what the hold of that sum in a sandbox is worth. -/
noncomputable def Try.pinned : Pinned := { name := "ytegeonompkgpeaa", sum := "2e51e0fd9b67b9310b72bbccaf828c4342833a66804bbb24a8388ad5bda658f7", checked := Try.checked }
namespace Rows
def none {H : Type} : Left H := { results := [], args := [] }

/-- 'signetlaw23.FdFlags': WHATEVER THE INPUT: true; the input reads as it did. -/
def fdFlagsSpec : ChangeSpec := { name := "fdFlags", fn := fun _ => fun
  | [d] => { results := [.lit (.bool true)], args := [d] }
  | _ => none }
def fdFlagsRow : OpenClaim := { program := "ytegeonompkgpeaa", sum := "2e51e0fd9b67b9310b72bbccaf828c4342833a66804bbb24a8388ad5bda658f7", func := "signet/signetlaw23.FdFlags", spec := "fdFlags", apart := false }
def FdFlagsSaid : Prop := fdFlagsRow.holds Try.pinned (OpenSpec.ofChange fdFlagsSpec)

/-- ITS FALSE NEIGHBOUR: 'it returns false'. Refute it at one input. -/
def fdFlagsWrong : ChangeSpec := { name := "fdFlags", fn := fun _ => fun
  | [d] => { results := [.lit (.bool false)], args := [d] }
  | _ => none }
def FdFlagsWrongFalsely : Prop := fdFlagsRow.holds Try.pinned (OpenSpec.ofChange fdFlagsWrong)

/-- 'signetlaw23.FdFull': WHATEVER THE INPUT: true; the input reads as it did. -/
def fdFullSpec : ChangeSpec := { name := "fdFull", fn := fun _ => fun
  | [d1, d2] => { results := [.lit (.bool true)], args := [d1, d2] }
  | _ => none }
def fdFullRow : OpenClaim := { program := "ytegeonompkgpeaa", sum := "2e51e0fd9b67b9310b72bbccaf828c4342833a66804bbb24a8388ad5bda658f7", func := "signet/signetlaw23.FdFull", spec := "fdFull", apart := false }
def FdFullSaid : Prop := fdFullRow.holds Try.pinned (OpenSpec.ofChange fdFullSpec)

/-- ITS FALSE NEIGHBOUR: 'it returns false'. Refute it at one input. -/
def fdFullWrong : ChangeSpec := { name := "fdFull", fn := fun _ => fun
  | [d1, d2] => { results := [.lit (.bool false)], args := [d1, d2] }
  | _ => none }
def FdFullWrongFalsely : Prop := fdFullRow.holds Try.pinned (OpenSpec.ofChange fdFullWrong)

/-- 'signetlaw23.FdPlays': WHATEVER THE INPUT: true; the input reads as it did. -/
def fdPlaysSpec : ChangeSpec := { name := "fdPlays", fn := fun _ => fun
  | [d1, d2] => { results := [.lit (.bool true)], args := [d1, d2] }
  | _ => none }
def fdPlaysRow : OpenClaim := { program := "ytegeonompkgpeaa", sum := "2e51e0fd9b67b9310b72bbccaf828c4342833a66804bbb24a8388ad5bda658f7", func := "signet/signetlaw23.FdPlays", spec := "fdPlays", apart := false }
def FdPlaysSaid : Prop := fdPlaysRow.holds Try.pinned (OpenSpec.ofChange fdPlaysSpec)

/-- ITS FALSE NEIGHBOUR: 'it returns false'. Refute it at one input. -/
def fdPlaysWrong : ChangeSpec := { name := "fdPlays", fn := fun _ => fun
  | [d1, d2] => { results := [.lit (.bool false)], args := [d1, d2] }
  | _ => none }
def FdPlaysWrongFalsely : Prop := fdPlaysRow.holds Try.pinned (OpenSpec.ofChange fdPlaysWrong)

/-- 'signetlaw23.FdNil': WHATEVER THE INPUT: true; the input reads as it did. -/
def fdNilSpec : ChangeSpec := { name := "fdNil", fn := fun _ => fun
  | [d1, d2] => { results := [.lit (.bool true)], args := [d1, d2] }
  | _ => none }
def fdNilRow : OpenClaim := { program := "ytegeonompkgpeaa", sum := "2e51e0fd9b67b9310b72bbccaf828c4342833a66804bbb24a8388ad5bda658f7", func := "signet/signetlaw23.FdNil", spec := "fdNil", apart := false }
def FdNilSaid : Prop := fdNilRow.holds Try.pinned (OpenSpec.ofChange fdNilSpec)

/-- ITS FALSE NEIGHBOUR: 'it returns false'. Refute it at one input. -/
def fdNilWrong : ChangeSpec := { name := "fdNil", fn := fun _ => fun
  | [d1, d2] => { results := [.lit (.bool false)], args := [d1, d2] }
  | _ => none }
def FdNilWrongFalsely : Prop := fdNilRow.holds Try.pinned (OpenSpec.ofChange fdNilWrong)

/- THE SECOND FORM. 'bulk': how many values and letters a reading holds, each counted each time it is reached (what is shared counts as often as it is met; a slice's spare places count too). A statement '..UptoSaid' is the law's where the arguments, and the package variables that the reading takes, are together of bulk at most 1048576: NARROWER than '..Said'. Prove '..Said' where nothing that the law and all that it calls make is longer than what came in: it says more and counts as full. Else prove '..UptoSaid'. A law counts once. -/
mutual
def uptoBulk {H : Type} : DataW H → Nat
  | .lit (.string bytes) => bytes.length + 1
  | .lit _ => 1
  | .nil => 1
  | .ptr d => uptoBulk d + 1
  | .slice elems spare => uptoBulkAll elems + uptoBulkAll spare + 1
  | .agg parts => uptoBulkAll parts + 1
  | .iface _ d => uptoBulk d + 1
  | .map entries => uptoBulkEntries entries + 1
  | .held _ => 1
def uptoBulkAll {H : Type} : List (DataW H) → Nat
  | [] => 0
  | d :: r => uptoBulk d + uptoBulkAll r
def uptoBulkEntries {H : Type} : List (Lit × DataW H) → Nat
  | [] => 0
  | x :: r => uptoBulkEntry x + uptoBulkEntries r
def uptoBulkEntry {H : Type} : Lit × DataW H → Nat
  | (.string bytes, d) => bytes.length + uptoBulk d + 1
  | (_, d) => uptoBulk d + 1
 end
def uptoSmall : (H : Type) → List (DataW H) → Bool := fun _ ds => decide (uptoBulkAll ds ≤ 1048576)
def OpenSpec.upto (s : _root_.Go.ChangeSpec) : _root_.Go.OpenSpec := { _root_.Go.OpenSpec.ofChange s with cond := some uptoSmall }

/-- 'signetlaw23.FdFlags', WHERE WHAT IT READS IS OF BULK AT MOST 1048576: true; the input reads as it did. -/
def fdFlagsUptoRow : OpenClaim := { program := "ytegeonompkgpeaa", sum := "2e51e0fd9b67b9310b72bbccaf828c4342833a66804bbb24a8388ad5bda658f7", func := "signet/signetlaw23.FdFlags", spec := "fdFlags", apart := false, narrowed := true }
def FdFlagsUptoSaid : Prop := fdFlagsUptoRow.holds Try.pinned (OpenSpec.upto fdFlagsSpec)

/-- 'signetlaw23.FdFull', WHERE WHAT IT READS IS OF BULK AT MOST 1048576: true; the input reads as it did. -/
def fdFullUptoRow : OpenClaim := { program := "ytegeonompkgpeaa", sum := "2e51e0fd9b67b9310b72bbccaf828c4342833a66804bbb24a8388ad5bda658f7", func := "signet/signetlaw23.FdFull", spec := "fdFull", apart := false, narrowed := true }
def FdFullUptoSaid : Prop := fdFullUptoRow.holds Try.pinned (OpenSpec.upto fdFullSpec)

/-- 'signetlaw23.FdPlays', WHERE WHAT IT READS IS OF BULK AT MOST 1048576: true; the input reads as it did. -/
def fdPlaysUptoRow : OpenClaim := { program := "ytegeonompkgpeaa", sum := "2e51e0fd9b67b9310b72bbccaf828c4342833a66804bbb24a8388ad5bda658f7", func := "signet/signetlaw23.FdPlays", spec := "fdPlays", apart := false, narrowed := true }
def FdPlaysUptoSaid : Prop := fdPlaysUptoRow.holds Try.pinned (OpenSpec.upto fdPlaysSpec)

/-- 'signetlaw23.FdNil', WHERE WHAT IT READS IS OF BULK AT MOST 1048576: true; the input reads as it did. -/
def fdNilUptoRow : OpenClaim := { program := "ytegeonompkgpeaa", sum := "2e51e0fd9b67b9310b72bbccaf828c4342833a66804bbb24a8388ad5bda658f7", func := "signet/signetlaw23.FdNil", spec := "fdNil", apart := false, narrowed := true }
def FdNilUptoSaid : Prop := fdNilUptoRow.holds Try.pinned (OpenSpec.upto fdNilSpec)

end Rows
end Go.Proofs.Ytegeonompkgpeaa
