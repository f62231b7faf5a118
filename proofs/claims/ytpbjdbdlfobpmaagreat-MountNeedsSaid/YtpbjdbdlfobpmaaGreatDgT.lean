/- Contracts by the abstract run: words' bytes, a new hasher. -/
import Derived.Test.YtpbjdbdlfobpmaaGreatDgS
namespace Go.Proofs.YtpbjdbdlfobpmaaGreat
open Go.RowKit Go.Eng
noncomputable def cfN : CallF := callN QT (drA QT) (fun _ => none) 1000 20
theorem cfN_sound : CallSound QT cfN := (callN_ok QT_ok (fun _ hC hH => opSound QT_ok hC hH) (fun _ hC hH => drawSound QT_ok hC hH) (fun f g e => by cases e) 1000 20).1
/-- byte i of a number -/
def b32 (v : Int) (i : Nat) : Int := IntKind.u8.wrap (Int.fdiv (IntKind.u64.wrap v) (2 ^ (8 * i)))
def b64 (v : Int) (i : Nat) : Int := IntKind.u8.wrap (Int.fdiv v (2 ^ (8 * i)))
def qb (v : Int) : AV := .v (.int .u8 v)
theorem run_bytes32 (v : Int) : ((cfN 91 [qv v] ⟨.leaf, 0⟩).map (·.1)) = some (.agg [qb (b32 v 0), qb (b32 v 1), qb (b32 v 2), qb (b32 v 3)]) := by kernel_rfl
theorem bytes32_any (v : Int) (w : World) : Calls Tryz.prog 91 #[.int .u32 v] w fun e w' => e = .returned (.agg #[.int .u8 (b32 v 0), .int .u8 (b32 v 1), .int .u8 (b32 v 2), .int .u8 (b32 v 3)]) ∧ RowKit.Below w.heap.size w w' :=
  call_of_run cfN_sound rfl (run_bytes32 v) (fun _ => rfl) w
theorem run_bytes64 (v : Int) : ((cfN 78 [.v (.int .u64 v)] ⟨.leaf, 0⟩).map (·.1)) = some (.agg [qb (b64 v 0), qb (b64 v 1), qb (b64 v 2), qb (b64 v 3), qb (b64 v 4), qb (b64 v 5), qb (b64 v 6), qb (b64 v 7)]) := by kernel_rfl
theorem bytes64_any (v : Int) (w : World) : Calls Tryz.prog 78 #[.int .u64 v] w fun e w' => e = .returned (.agg #[.int .u8 (b64 v 0), .int .u8 (b64 v 1), .int .u8 (b64 v 2), .int .u8 (b64 v 3), .int .u8 (b64 v 4), .int .u8 (b64 v 5), .int .u8 (b64 v 6), .int .u8 (b64 v 7)]) ∧ RowKit.Below w.heap.size w w' :=
  call_of_run cfN_sound rfl (run_bytes64 v) (fun _ => rfl) w
def or64 (x y : Int) : Int := bits .or .u64 x y
def shl64 (x : Int) (k : Nat) : Int := IntKind.u64.wrap (x * 2 ^ k)
/-- the word of four bytes -/
def o32 (a b c d : Int) : Int := IntKind.u32.wrap (or64 (or64 (or64 (or64 0 (shl64 (IntKind.u64.wrap a) 0)) (shl64 (IntKind.u64.wrap b) 8)) (shl64 (IntKind.u64.wrap c) 16)) (shl64 (IntKind.u64.wrap d) 24))
theorem run_of32 (a b c d : Int) : ((cfN 142 [.agg [qb a, qb b, qb c, qb d]] ⟨.leaf, 0⟩).map (·.1)) = some (qv (o32 a b c d)) := by kernel_rfl
theorem of32_any (a b c d : Int) (w : World) : Calls Tryz.prog 142 #[.agg #[.int .u8 a, .int .u8 b, .int .u8 c, .int .u8 d]] w fun e w' => e = .returned (.int .u32 (o32 a b c d)) ∧ RowKit.Below w.heap.size w w' :=
  call_of_run cfN_sound rfl (run_of32 a b c d) (fun _ => rfl) w
/-- the first words of a hasher -/
def w0 (t : Int) (i : Nat) : Int := bits .xor .u32 (IntKind.u32.wrap (2654435769 * ((i : Int) + 1))) (IntKind.u32.wrap (IntKind.u32.wrap t * 2 ^ 24))
noncomputable def seen (r : Option (AV × Hp)) : Option (AV × Nat × Nat × Option (List AV)) := match r with
  | some (.ptr q o, h) => match rowOf (h.t.get q) with
    | some row => some (.ptr q o, row.n, row.es, cellsAt row.n row.z row.t row.n 0)
    | none => none
  | _ => none
theorem run_new (t : Int) : seen (cfN 137 [qb t] ⟨.leaf, 0⟩) = some (.ptr 0 0, 10, 10, some [qv (w0 t 0), qv (w0 t 1), qv (w0 t 2), qv (w0 t 3), qv (w0 t 4), qv (w0 t 5), qv (w0 t 6), qv (w0 t 7), .v (.slice none 0 0), .i .i64 (.ofNat 0)]) := by kernel_rfl
end Go.Proofs.YtpbjdbdlfobpmaaGreat
