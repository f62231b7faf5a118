/-
  No cell of these rows narrows 'for every input' (looked for: loops, veiled, ifaces, maps, wideKeys, modest, calm, conditions, laid).
  DERIVED. THE GIVEN ROWS OF THIS SEAT. 12 by the template 'for every input the law returns true; each argument reads behind the call as it read before'; 0 by the template 'total and deterministic' (their statements: YtffdklcpkkcohaaTotals.lean).
  GIVEN WITH THE SEED: the statements are not yours to turn. If you find one false, say at which input.
  Laid BY PROGRAM, IN A SANDBOX (cutbox-rows.mjs): the forced cells as the released guide's own fill.sh prints them over the translation 94351f385c433d97… (all of the seat's roots in one cut). By AI agents, Wed Nov 11 2026. No macro, syntax, notation, axiom, sorry.
-/
import Derived.Test.YtffdklcpkkcohaaChecked
import GoSem.Claim
import GoSem.ClaimJoined
import GoSem.ClaimMapViews
import Derived.JoinedTies
import Derived.KernelRfl
namespace Go.Proofs.Ytffdklcpkkcohaa
/- THE CELL 'sum', in the pinned program and in every row, IS THE sha256 OF THE DUMP (.gsa) THAT YtffdklcpkkcohaaProg.lean LOADS. Nothing in Lean hashes anything: it is a label: what it is worth is what the hold of that sum in a sandbox is worth. -/
noncomputable def Try.pinned : Pinned := { name := "ytffdklcpkkcohaa", sum := "94351f385c433d97c961e3a3b8f80968979652134b46437b253c4f0cb12e4d82", checked := Try.checked }
namespace Rows
def none {H : Type} : Left H := { results := [], args := [] }

/-- 'signetlaw11.BitsOf': WHATEVER THE INPUT: true; the input reads as it did. -/
def bitsOfSpec : ChangeSpec := { name := "bitsOf", fn := fun _ => fun
  | [d1, d2] => { results := [.lit (.bool true)], args := [d1, d2] }
  | _ => none }
def bitsOfRow : OpenClaim := { program := "ytffdklcpkkcohaa", sum := "94351f385c433d97c961e3a3b8f80968979652134b46437b253c4f0cb12e4d82", func := "signet/signetlaw11.BitsOf", spec := "bitsOf", apart := false }
def BitsOfSaid : Prop := bitsOfRow.holds Try.pinned (OpenSpec.ofChange bitsOfSpec)

/-- ITS FALSE NEIGHBOUR: 'it returns false'. Refute it at one input. -/
def bitsOfWrong : ChangeSpec := { name := "bitsOf", fn := fun _ => fun
  | [d1, d2] => { results := [.lit (.bool false)], args := [d1, d2] }
  | _ => none }
def BitsOfWrongFalsely : Prop := bitsOfRow.holds Try.pinned (OpenSpec.ofChange bitsOfWrong)

/-- 'signetlaw11.BitsWalks': WHATEVER THE INPUT: true; the input reads as it did. -/
def bitsWalksSpec : ChangeSpec := { name := "bitsWalks", fn := fun _ => fun
  | [d1, d2, d3] => { results := [.lit (.bool true)], args := [d1, d2, d3] }
  | _ => none }
def bitsWalksRow : OpenClaim := { program := "ytffdklcpkkcohaa", sum := "94351f385c433d97c961e3a3b8f80968979652134b46437b253c4f0cb12e4d82", func := "signet/signetlaw11.BitsWalks", spec := "bitsWalks", unfollowed := true, recurses := true, apart := false }
def BitsWalksSaid : Prop := bitsWalksRow.holds Try.pinned (OpenSpec.ofChange bitsWalksSpec)

/-- ITS FALSE NEIGHBOUR: 'it returns false'. Refute it at one input. -/
def bitsWalksWrong : ChangeSpec := { name := "bitsWalks", fn := fun _ => fun
  | [d1, d2, d3] => { results := [.lit (.bool false)], args := [d1, d2, d3] }
  | _ => none }
def BitsWalksWrongFalsely : Prop := bitsWalksRow.holds Try.pinned (OpenSpec.ofChange bitsWalksWrong)

/-- 'signetlaw11.BitsPlays': WHATEVER THE INPUT: true; the input reads as it did. -/
def bitsPlaysSpec : ChangeSpec := { name := "bitsPlays", fn := fun _ => fun
  | [d1, d2, d3] => { results := [.lit (.bool true)], args := [d1, d2, d3] }
  | _ => none }
def bitsPlaysRow : OpenClaim := { program := "ytffdklcpkkcohaa", sum := "94351f385c433d97c961e3a3b8f80968979652134b46437b253c4f0cb12e4d82", func := "signet/signetlaw11.BitsPlays", spec := "bitsPlays", apart := false }
def BitsPlaysSaid : Prop := bitsPlaysRow.holds Try.pinned (OpenSpec.ofChange bitsPlaysSpec)

/-- ITS FALSE NEIGHBOUR: 'it returns false'. Refute it at one input. -/
def bitsPlaysWrong : ChangeSpec := { name := "bitsPlays", fn := fun _ => fun
  | [d1, d2, d3] => { results := [.lit (.bool false)], args := [d1, d2, d3] }
  | _ => none }
def BitsPlaysWrongFalsely : Prop := bitsPlaysRow.holds Try.pinned (OpenSpec.ofChange bitsPlaysWrong)

/-- 'signetlaw12.RoomKeeps': WHATEVER THE INPUT: true; the input reads as it did. -/
def roomKeepsSpec : ChangeSpec := { name := "roomKeeps", fn := fun _ => fun
  | [d1, d2, d3] => { results := [.lit (.bool true)], args := [d1, d2, d3] }
  | _ => none }
def roomKeepsRow : OpenClaim := { program := "ytffdklcpkkcohaa", sum := "94351f385c433d97c961e3a3b8f80968979652134b46437b253c4f0cb12e4d82", func := "signet/signetlaw12.RoomKeeps", spec := "roomKeeps", apart := false }
def RoomKeepsSaid : Prop := roomKeepsRow.holds Try.pinned (OpenSpec.ofChange roomKeepsSpec)

/-- ITS FALSE NEIGHBOUR: 'it returns false'. Refute it at one input. -/
def roomKeepsWrong : ChangeSpec := { name := "roomKeeps", fn := fun _ => fun
  | [d1, d2, d3] => { results := [.lit (.bool false)], args := [d1, d2, d3] }
  | _ => none }
def RoomKeepsWrongFalsely : Prop := roomKeepsRow.holds Try.pinned (OpenSpec.ofChange roomKeepsWrong)

/-- 'signetlaw12.RoomNone': WHATEVER THE INPUT: true; the input reads as it did. -/
def roomNoneSpec : ChangeSpec := { name := "roomNone", fn := fun _ => fun
  | [d] => { results := [.lit (.bool true)], args := [d] }
  | _ => none }
def roomNoneRow : OpenClaim := { program := "ytffdklcpkkcohaa", sum := "94351f385c433d97c961e3a3b8f80968979652134b46437b253c4f0cb12e4d82", func := "signet/signetlaw12.RoomNone", spec := "roomNone", apart := false }
def RoomNoneSaid : Prop := roomNoneRow.holds Try.pinned (OpenSpec.ofChange roomNoneSpec)

/-- ITS FALSE NEIGHBOUR: 'it returns false'. Refute it at one input. -/
def roomNoneWrong : ChangeSpec := { name := "roomNone", fn := fun _ => fun
  | [d] => { results := [.lit (.bool false)], args := [d] }
  | _ => none }
def RoomNoneWrongFalsely : Prop := roomNoneRow.holds Try.pinned (OpenSpec.ofChange roomNoneWrong)

/-- 'signetlaw11.BitsSets': WHATEVER THE INPUT: true; the input reads as it did. -/
def bitsSetsSpec : ChangeSpec := { name := "bitsSets", fn := fun _ => fun
  | [d1, d2, d3] => { results := [.lit (.bool true)], args := [d1, d2, d3] }
  | _ => none }
def bitsSetsRow : OpenClaim := { program := "ytffdklcpkkcohaa", sum := "94351f385c433d97c961e3a3b8f80968979652134b46437b253c4f0cb12e4d82", func := "signet/signetlaw11.BitsSets", spec := "bitsSets", unfollowed := true, recurses := true, apart := false }
def BitsSetsSaid : Prop := bitsSetsRow.holds Try.pinned (OpenSpec.ofChange bitsSetsSpec)

/-- ITS FALSE NEIGHBOUR: 'it returns false'. Refute it at one input. -/
def bitsSetsWrong : ChangeSpec := { name := "bitsSets", fn := fun _ => fun
  | [d1, d2, d3] => { results := [.lit (.bool false)], args := [d1, d2, d3] }
  | _ => none }
def BitsSetsWrongFalsely : Prop := bitsSetsRow.holds Try.pinned (OpenSpec.ofChange bitsSetsWrong)

/-- 'signetlaw11.BitsLeaves': WHATEVER THE INPUT: true; the input reads as it did. -/
def bitsLeavesSpec : ChangeSpec := { name := "bitsLeaves", fn := fun _ => fun
  | [d1, d2, d3] => { results := [.lit (.bool true)], args := [d1, d2, d3] }
  | _ => none }
def bitsLeavesRow : OpenClaim := { program := "ytffdklcpkkcohaa", sum := "94351f385c433d97c961e3a3b8f80968979652134b46437b253c4f0cb12e4d82", func := "signet/signetlaw11.BitsLeaves", spec := "bitsLeaves", apart := false }
def BitsLeavesSaid : Prop := bitsLeavesRow.holds Try.pinned (OpenSpec.ofChange bitsLeavesSpec)

/-- ITS FALSE NEIGHBOUR: 'it returns false'. Refute it at one input. -/
def bitsLeavesWrong : ChangeSpec := { name := "bitsLeaves", fn := fun _ => fun
  | [d1, d2, d3] => { results := [.lit (.bool false)], args := [d1, d2, d3] }
  | _ => none }
def BitsLeavesWrongFalsely : Prop := bitsLeavesRow.holds Try.pinned (OpenSpec.ofChange bitsLeavesWrong)

/-- 'signetlaw11.BitsNil': WHATEVER THE INPUT: true; the input reads as it did. -/
def bitsNilSpec : ChangeSpec := { name := "bitsNil", fn := fun _ => fun
  | [d1, d2] => { results := [.lit (.bool true)], args := [d1, d2] }
  | _ => none }
def bitsNilRow : OpenClaim := { program := "ytffdklcpkkcohaa", sum := "94351f385c433d97c961e3a3b8f80968979652134b46437b253c4f0cb12e4d82", func := "signet/signetlaw11.BitsNil", spec := "bitsNil", unfollowed := true, recurses := true, apart := false }
def BitsNilSaid : Prop := bitsNilRow.holds Try.pinned (OpenSpec.ofChange bitsNilSpec)

/-- ITS FALSE NEIGHBOUR: 'it returns false'. Refute it at one input. -/
def bitsNilWrong : ChangeSpec := { name := "bitsNil", fn := fun _ => fun
  | [d1, d2] => { results := [.lit (.bool false)], args := [d1, d2] }
  | _ => none }
def BitsNilWrongFalsely : Prop := bitsNilRow.holds Try.pinned (OpenSpec.ofChange bitsNilWrong)

/-- 'signetlaw12.RoomNil': WHATEVER THE INPUT: true; the input reads as it did. -/
def roomNilSpec : ChangeSpec := { name := "roomNil", fn := fun _ => fun
  | [d1, d2] => { results := [.lit (.bool true)], args := [d1, d2] }
  | _ => none }
def roomNilRow : OpenClaim := { program := "ytffdklcpkkcohaa", sum := "94351f385c433d97c961e3a3b8f80968979652134b46437b253c4f0cb12e4d82", func := "signet/signetlaw12.RoomNil", spec := "roomNil", apart := false }
def RoomNilSaid : Prop := roomNilRow.holds Try.pinned (OpenSpec.ofChange roomNilSpec)

/-- ITS FALSE NEIGHBOUR: 'it returns false'. Refute it at one input. -/
def roomNilWrong : ChangeSpec := { name := "roomNil", fn := fun _ => fun
  | [d1, d2] => { results := [.lit (.bool false)], args := [d1, d2] }
  | _ => none }
def RoomNilWrongFalsely : Prop := roomNilRow.holds Try.pinned (OpenSpec.ofChange roomNilWrong)

/-- 'signetlaw12.RoomLoads': WHATEVER THE INPUT: true; the input reads as it did. -/
def roomLoadsSpec : ChangeSpec := { name := "roomLoads", fn := fun _ => fun
  | [d1, d2] => { results := [.lit (.bool true)], args := [d1, d2] }
  | _ => none }
def roomLoadsRow : OpenClaim := { program := "ytffdklcpkkcohaa", sum := "94351f385c433d97c961e3a3b8f80968979652134b46437b253c4f0cb12e4d82", func := "signet/signetlaw12.RoomLoads", spec := "roomLoads", apart := false }
def RoomLoadsSaid : Prop := roomLoadsRow.holds Try.pinned (OpenSpec.ofChange roomLoadsSpec)

/-- ITS FALSE NEIGHBOUR: 'it returns false'. Refute it at one input. -/
def roomLoadsWrong : ChangeSpec := { name := "roomLoads", fn := fun _ => fun
  | [d1, d2] => { results := [.lit (.bool false)], args := [d1, d2] }
  | _ => none }
def RoomLoadsWrongFalsely : Prop := roomLoadsRow.holds Try.pinned (OpenSpec.ofChange roomLoadsWrong)

/-- 'signetlaw12.RoomMany': WHATEVER THE INPUT: true; the input reads as it did. -/
def roomManySpec : ChangeSpec := { name := "roomMany", fn := fun _ => fun
  | [d1, d2, d3] => { results := [.lit (.bool true)], args := [d1, d2, d3] }
  | _ => none }
def roomManyRow : OpenClaim := { program := "ytffdklcpkkcohaa", sum := "94351f385c433d97c961e3a3b8f80968979652134b46437b253c4f0cb12e4d82", func := "signet/signetlaw12.RoomMany", spec := "roomMany", apart := false }
def RoomManySaid : Prop := roomManyRow.holds Try.pinned (OpenSpec.ofChange roomManySpec)

/-- ITS FALSE NEIGHBOUR: 'it returns false'. Refute it at one input. -/
def roomManyWrong : ChangeSpec := { name := "roomMany", fn := fun _ => fun
  | [d1, d2, d3] => { results := [.lit (.bool false)], args := [d1, d2, d3] }
  | _ => none }
def RoomManyWrongFalsely : Prop := roomManyRow.holds Try.pinned (OpenSpec.ofChange roomManyWrong)

/-- 'signetlaw12.RoomPlays': WHATEVER THE INPUT: true; the input reads as it did. -/
def roomPlaysSpec : ChangeSpec := { name := "roomPlays", fn := fun _ => fun
  | [d1, d2, d3] => { results := [.lit (.bool true)], args := [d1, d2, d3] }
  | _ => none }
def roomPlaysRow : OpenClaim := { program := "ytffdklcpkkcohaa", sum := "94351f385c433d97c961e3a3b8f80968979652134b46437b253c4f0cb12e4d82", func := "signet/signetlaw12.RoomPlays", spec := "roomPlays", apart := false }
def RoomPlaysSaid : Prop := roomPlaysRow.holds Try.pinned (OpenSpec.ofChange roomPlaysSpec)

/-- ITS FALSE NEIGHBOUR: 'it returns false'. Refute it at one input. -/
def roomPlaysWrong : ChangeSpec := { name := "roomPlays", fn := fun _ => fun
  | [d1, d2, d3] => { results := [.lit (.bool false)], args := [d1, d2, d3] }
  | _ => none }
def RoomPlaysWrongFalsely : Prop := roomPlaysRow.holds Try.pinned (OpenSpec.ofChange roomPlaysWrong)

/- THE SECOND FORM. 'bulk': how many values and letters a reading holds, each counted each time it is reached (what is shared counts as often as it is met; a slice's spare places count too). A statement '..UptoSaid' is the law's where the arguments, and the package variables that the reading takes, are together of bulk at most 1048576: NARROWER than '..Said'. Prove '..Said' where nothing that the law and all that it calls make is longer than what came in: it says more and counts as full. Else prove '..UptoSaid'. A law counts once. -/
mutual
def uptoBulk {H : Type} : DataW H → Nat
  | .lit (.string bytes) => bytes.length + 1
  | .lit _ => 1
  | .nil => 1
  | .ptr d => uptoBulk d + 1
  | .slice elems spare => uptoBulkAll elems + uptoBulkAll spare + 1
  | .agg parts => uptoBulkAll parts + 1
  | .iface _ d => uptoBulk d + 1
  | .map entries => uptoBulkEntries entries + 1
  | .held _ => 1
def uptoBulkAll {H : Type} : List (DataW H) → Nat
  | [] => 0
  | d :: r => uptoBulk d + uptoBulkAll r
def uptoBulkEntries {H : Type} : List (Lit × DataW H) → Nat
  | [] => 0
  | x :: r => uptoBulkEntry x + uptoBulkEntries r
def uptoBulkEntry {H : Type} : Lit × DataW H → Nat
  | (.string bytes, d) => bytes.length + uptoBulk d + 1
  | (_, d) => uptoBulk d + 1
 end
def uptoSmall : (H : Type) → List (DataW H) → Bool := fun _ ds => decide (uptoBulkAll ds ≤ 1048576)
def OpenSpec.upto (s : _root_.Go.ChangeSpec) : _root_.Go.OpenSpec := { _root_.Go.OpenSpec.ofChange s with cond := some uptoSmall }

/-- 'signetlaw11.BitsOf', WHERE WHAT IT READS IS OF BULK AT MOST 1048576: true; the input reads as it did. -/
def bitsOfUptoRow : OpenClaim := { program := "ytffdklcpkkcohaa", sum := "94351f385c433d97c961e3a3b8f80968979652134b46437b253c4f0cb12e4d82", func := "signet/signetlaw11.BitsOf", spec := "bitsOf", apart := false, narrowed := true }
def BitsOfUptoSaid : Prop := bitsOfUptoRow.holds Try.pinned (OpenSpec.upto bitsOfSpec)

/-- 'signetlaw11.BitsWalks', WHERE WHAT IT READS IS OF BULK AT MOST 1048576: true; the input reads as it did. -/
def bitsWalksUptoRow : OpenClaim := { program := "ytffdklcpkkcohaa", sum := "94351f385c433d97c961e3a3b8f80968979652134b46437b253c4f0cb12e4d82", func := "signet/signetlaw11.BitsWalks", spec := "bitsWalks", unfollowed := true, recurses := true, apart := false, narrowed := true }
def BitsWalksUptoSaid : Prop := bitsWalksUptoRow.holds Try.pinned (OpenSpec.upto bitsWalksSpec)

/-- 'signetlaw11.BitsPlays', WHERE WHAT IT READS IS OF BULK AT MOST 1048576: true; the input reads as it did. -/
def bitsPlaysUptoRow : OpenClaim := { program := "ytffdklcpkkcohaa", sum := "94351f385c433d97c961e3a3b8f80968979652134b46437b253c4f0cb12e4d82", func := "signet/signetlaw11.BitsPlays", spec := "bitsPlays", apart := false, narrowed := true }
def BitsPlaysUptoSaid : Prop := bitsPlaysUptoRow.holds Try.pinned (OpenSpec.upto bitsPlaysSpec)

/-- 'signetlaw12.RoomKeeps', WHERE WHAT IT READS IS OF BULK AT MOST 1048576: true; the input reads as it did. -/
def roomKeepsUptoRow : OpenClaim := { program := "ytffdklcpkkcohaa", sum := "94351f385c433d97c961e3a3b8f80968979652134b46437b253c4f0cb12e4d82", func := "signet/signetlaw12.RoomKeeps", spec := "roomKeeps", apart := false, narrowed := true }
def RoomKeepsUptoSaid : Prop := roomKeepsUptoRow.holds Try.pinned (OpenSpec.upto roomKeepsSpec)

/-- 'signetlaw12.RoomNone', WHERE WHAT IT READS IS OF BULK AT MOST 1048576: true; the input reads as it did. -/
def roomNoneUptoRow : OpenClaim := { program := "ytffdklcpkkcohaa", sum := "94351f385c433d97c961e3a3b8f80968979652134b46437b253c4f0cb12e4d82", func := "signet/signetlaw12.RoomNone", spec := "roomNone", apart := false, narrowed := true }
def RoomNoneUptoSaid : Prop := roomNoneUptoRow.holds Try.pinned (OpenSpec.upto roomNoneSpec)

/-- 'signetlaw11.BitsSets', WHERE WHAT IT READS IS OF BULK AT MOST 1048576: true; the input reads as it did. -/
def bitsSetsUptoRow : OpenClaim := { program := "ytffdklcpkkcohaa", sum := "94351f385c433d97c961e3a3b8f80968979652134b46437b253c4f0cb12e4d82", func := "signet/signetlaw11.BitsSets", spec := "bitsSets", unfollowed := true, recurses := true, apart := false, narrowed := true }
def BitsSetsUptoSaid : Prop := bitsSetsUptoRow.holds Try.pinned (OpenSpec.upto bitsSetsSpec)

/-- 'signetlaw11.BitsLeaves', WHERE WHAT IT READS IS OF BULK AT MOST 1048576: true; the input reads as it did. -/
def bitsLeavesUptoRow : OpenClaim := { program := "ytffdklcpkkcohaa", sum := "94351f385c433d97c961e3a3b8f80968979652134b46437b253c4f0cb12e4d82", func := "signet/signetlaw11.BitsLeaves", spec := "bitsLeaves", apart := false, narrowed := true }
def BitsLeavesUptoSaid : Prop := bitsLeavesUptoRow.holds Try.pinned (OpenSpec.upto bitsLeavesSpec)

/-- 'signetlaw11.BitsNil', WHERE WHAT IT READS IS OF BULK AT MOST 1048576: true; the input reads as it did. -/
def bitsNilUptoRow : OpenClaim := { program := "ytffdklcpkkcohaa", sum := "94351f385c433d97c961e3a3b8f80968979652134b46437b253c4f0cb12e4d82", func := "signet/signetlaw11.BitsNil", spec := "bitsNil", unfollowed := true, recurses := true, apart := false, narrowed := true }
def BitsNilUptoSaid : Prop := bitsNilUptoRow.holds Try.pinned (OpenSpec.upto bitsNilSpec)

/-- 'signetlaw12.RoomNil', WHERE WHAT IT READS IS OF BULK AT MOST 1048576: true; the input reads as it did. -/
def roomNilUptoRow : OpenClaim := { program := "ytffdklcpkkcohaa", sum := "94351f385c433d97c961e3a3b8f80968979652134b46437b253c4f0cb12e4d82", func := "signet/signetlaw12.RoomNil", spec := "roomNil", apart := false, narrowed := true }
def RoomNilUptoSaid : Prop := roomNilUptoRow.holds Try.pinned (OpenSpec.upto roomNilSpec)

/-- 'signetlaw12.RoomLoads', WHERE WHAT IT READS IS OF BULK AT MOST 1048576: true; the input reads as it did. -/
def roomLoadsUptoRow : OpenClaim := { program := "ytffdklcpkkcohaa", sum := "94351f385c433d97c961e3a3b8f80968979652134b46437b253c4f0cb12e4d82", func := "signet/signetlaw12.RoomLoads", spec := "roomLoads", apart := false, narrowed := true }
def RoomLoadsUptoSaid : Prop := roomLoadsUptoRow.holds Try.pinned (OpenSpec.upto roomLoadsSpec)

/-- 'signetlaw12.RoomMany', WHERE WHAT IT READS IS OF BULK AT MOST 1048576: true; the input reads as it did. -/
def roomManyUptoRow : OpenClaim := { program := "ytffdklcpkkcohaa", sum := "94351f385c433d97c961e3a3b8f80968979652134b46437b253c4f0cb12e4d82", func := "signet/signetlaw12.RoomMany", spec := "roomMany", apart := false, narrowed := true }
def RoomManyUptoSaid : Prop := roomManyUptoRow.holds Try.pinned (OpenSpec.upto roomManySpec)

/-- 'signetlaw12.RoomPlays', WHERE WHAT IT READS IS OF BULK AT MOST 1048576: true; the input reads as it did. -/
def roomPlaysUptoRow : OpenClaim := { program := "ytffdklcpkkcohaa", sum := "94351f385c433d97c961e3a3b8f80968979652134b46437b253c4f0cb12e4d82", func := "signet/signetlaw12.RoomPlays", spec := "roomPlays", apart := false, narrowed := true }
def RoomPlaysUptoSaid : Prop := roomPlaysUptoRow.holds Try.pinned (OpenSpec.upto roomPlaysSpec)

end Rows
end Go.Proofs.Ytffdklcpkkcohaa
