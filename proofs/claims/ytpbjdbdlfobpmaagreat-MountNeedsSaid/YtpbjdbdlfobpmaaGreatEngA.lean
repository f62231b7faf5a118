/- An abstract run of closed code: values whose blocks are names, a heap of rows and maps, the run itself. -/
import Derived.RegionTactic
import Derived.WalkKit
namespace Go.Eng
open Go
noncomputable section

/-! ### numbers, as the kernel reckons them fast -/
def natF {β : Type} (n : Nat) (f : Nat → β) : β := Nat.rec (motive := fun _ => β) (f 0) (fun k _ => f (k + 1)) n
def intF {β : Type} (x : Int) (f : Int → β) : β := Int.rec (motive := fun _ => β) (fun n => natF n fun n => f (.ofNat n)) (fun n => natF n fun n => f (.negSucc n)) x
def leI : Int → Int → Bool
  | .ofNat m => fun y => match y with | .ofNat n => Nat.ble m n | .negSucc _ => false
  | .negSucc m => fun y => match y with | .ofNat _ => true | .negSucc n => Nat.ble n m
def addI : Int → Int → Int
  | .ofNat m => fun y => match y with | .ofNat n => .ofNat (m + n) | .negSucc n => Int.subNatNat m (n + 1)
  | .negSucc m => fun y => match y with | .ofNat n => Int.subNatNat n (m + 1) | .negSucc n => .negSucc (m + n + 1)
def negI : Int → Int
  | .ofNat 0 => .ofNat 0
  | .ofNat (n + 1) => .negSucc n
  | .negSucc n => .ofNat (n + 1)
def mulI : Int → Int → Int
  | .ofNat m => fun y => match y with | .ofNat n => .ofNat (m * n) | y => Int.mul (.ofNat m) y
  | x => fun y => Int.mul x y
def kIx : IntKind → Nat
  | .i8 => 0 | .i16 => 1 | .i32 => 2 | .i64 => 3 | .u8 => 4 | .u16 => 5 | .u32 => 6 | .u64 => 7
def bitsK : IntKind → Nat
  | .i8 => 8 | .i16 => 16 | .i32 => 32 | .i64 => 64 | .u8 => 8 | .u16 => 16 | .u32 => 32 | .u64 => 64
/-- the greatest number of a kind -/
def topK : IntKind → Nat
  | .i8 => 127 | .i16 => 32767 | .i32 => 2147483647 | .i64 => 9223372036854775807
  | .u8 => 255 | .u16 => 65535 | .u32 => 4294967295 | .u64 => 18446744073709551615
/-- how far below zero a kind goes, less one; unsigned kinds do not -/
def botK : IntKind → Option Nat
  | .i8 => some 127 | .i16 => some 32767 | .i32 => some 2147483647 | .i64 => some 9223372036854775807
  | _ => none
def modK : IntKind → Nat
  | .i8 => 256 | .u8 => 256 | .i16 => 65536 | .u16 => 65536 | .i32 => 4294967296 | .u32 => 4294967296 | .i64 => 18446744073709551616 | .u64 => 18446744073709551616
def wrapS (k : IntKind) (x : Int) : Int := match x % (modK k : Int) with
  | .ofNat m => if Nat.ble m (topK k) then .ofNat m else Int.subNatNat m (modK k)
  | y => y
def wrapF (k : IntKind) : Int → Int
  | .ofNat n => match Nat.ble n (topK k) with | true => .ofNat n | false => wrapS k (.ofNat n)
  | .negSucc n => match botK k with
    | some b => match Nat.ble n b with | true => .negSucc n | false => wrapS k (.negSucc n)
    | none => wrapS k (.negSucc n)

/-! ### a tree of places -/
inductive T (α : Type) where
  | leaf
  | node (l : T α) (v : Option α) (r : T α)
def T.get {α : Type} (t : T α) : Nat → Option α :=
  T.rec (motive := fun _ => Nat → Option α) (fun _ => none)
    (fun _ v _ gl gr k => Nat.rec (motive := fun _ => Option α) v (fun k _ => Nat.rec (motive := fun _ => Option α) (gl (k / 2)) (fun _ _ => gr (k / 2)) (k % 2)) k) t
def T.seq {α β : Type} (t : T α) (f : T α → β) : β := T.rec (motive := fun _ => β) (f .leaf) (fun l v r _ _ => f (.node l v r)) t
def T.setN {α : Type} (n : Nat) : T α → Nat → α → T α :=
  Nat.rec (motive := fun _ => T α → Nat → α → T α) (fun t _ _ => t)
    (fun _ set t k x => T.rec (motive := fun _ => T α)
      (Nat.rec (motive := fun _ => T α) (.node .leaf (some x) .leaf) (fun k _ => Nat.rec (motive := fun _ => T α) (T.seq (set .leaf (k / 2) x) fun c => .node c none .leaf) (fun _ _ => T.seq (set .leaf (k / 2) x) fun c => .node .leaf none c) (k % 2)) k)
      (fun l v r _ _ => Nat.rec (motive := fun _ => T α) (.node l (some x) r) (fun k _ => Nat.rec (motive := fun _ => T α) (T.seq (set l (k / 2) x) fun c => .node c v r) (fun _ _ => T.seq (set r (k / 2) x) fun c => .node l v c) (k % 2)) k) t) n
def deep : Nat := 40
def T.put {α : Type} (t : T α) (k : Nat) (x : α) : Option (T α) := match Nat.ble k 1000000000000 with | true => (T.setN deep t k x).seq some | false => none

/-! ### values -/
inductive AV where
  | i (k : IntKind) (n : Int)
  | b (b : Bool)
  /-- any other value that holds no name -/
  | v (x : Value)
  | ptr (r o : Nat)
  /-- a slice: its row, the place in it, its length; its capacity, if that is known, else: what of the row's own lies behind so many -/
  | sl (r o n : Nat) (c : Option Nat) (d : Nat)
  | mp (r : Nat)
  | agg (l : List AV)
  | tup (l : List AV)
  | fn (f : Fn) (a b : List AV)
  deriving Inhabited
def ofV : Value → AV
  | .int k n => .i k n
  | .bool b => .b b
  | x => .v x
def plain : AV → Option Value
  | .i k n => some (.int k n)
  | .b b => some (.bool b)
  | .v x => some x
  | _ => none
def plainI : AV → Option (IntKind × Int)
  | .i k n => some (k, n)
  | _ => none
def AV.seq {β : Type} : AV → (AV → β) → β
  | .i k n => fun f => intF n fun n => f (.i k n)
  | .b x => fun f => match x with | true => f (.b true) | false => f (.b false)
  | .v x => fun f => f (.v x)
  | .ptr r o => fun f => natF r fun r => natF o fun o => f (.ptr r o)
  | .sl r o n c d => fun f => natF r fun r => natF o fun o => natF n fun n => natF d fun d => match c with
    | some c => natF c fun c => f (.sl r o n (some c) d)
    | none => f (.sl r o n none d)
  | .mp r => fun f => natF r fun r => f (.mp r)
  | x => fun f => f x

inductive AO where
  /-- a row: its element, the cells of an element, how many cells are known, what they are at first, what was laid -/
  | row (e : TypeId) (es n : Nat) (z : List AV) (t : T AV)
  | map (es : List (Value × AV × Nat)) (clock : Nat)
  | dead
structure Hp where
  t : T AO
  nx : Nat
def Hp.withT : Hp → T AO → Hp
  | ⟨_, n⟩ => fun t => ⟨t, n⟩

/-- a number that is not known stays apart: it stands as a value -/
def plainC : AV → Option Value
  | .i k n => some (.int k n)
  | .b b => some (.bool b)
  | .v x => match x with | .int _ _ => none | y => some y
  | _ => none
def plains : List AV → Option (List Value)
  | [] => some []
  | x :: r => match plainC x with | some v => (plains r).map (v :: ·) | none => none
def mkAgg (l : List AV) : AV := match plains l with | some xs => .v (.agg ⟨xs⟩) | none => .agg l
def mkTup (l : List AV) : AV := match plains l with | some xs => .v (.tuple ⟨xs⟩) | none => .tup l
def cellsV : Value → List AV
  | .agg cs => cs.toList.map ofV
  | x => [.v x]
def AV.cells : AV → List AV
  | .v x => cellsV x
  | .agg l => l
  | x => [x]
def oneV : Value → Bool
  | .agg _ => false
  | .tuple _ => false
  | _ => true
def AV.one : AV → Bool
  | .v x => oneV x
  | .agg _ => false
  | .tup _ => false
  | _ => true

/-! ### rows -/
def nth {α : Type} : List α → Nat → Option α
  | [] => fun _ => none
  | x :: r => fun k => match k with | 0 => some x | k + 1 => nth r k
def uniI : List AV → Bool
  | [] => true
  | .i k (.ofNat 0) :: r => match Nat.beq (kIx k) 4 with | true => uniI r | false => false
  | _ :: _ => false
/-- a zero value's cells; many bytes are kept as one -/
def zeroC (l : List AV) : List AV := match l with
  | x :: y :: r => match uniI (x :: y :: r) with | true => [.i .u8 0] | false => l
  | _ => l
def cellZ (z : List AV) (i : Nat) : Option AV := match z with
  | [x] => some x
  | _ => nth z (i % z.length)
def cellAt (n : Nat) (z : List AV) (t : T AV) (i : Nat) : Option AV :=
  match Nat.blt i n with | true => (match t.get i with | some x => some x | none => cellZ z i) | false => none
def cellsAt (n : Nat) (z : List AV) (t : T AV) : Nat → Nat → Option (List AV)
  | 0, _ => some []
  | k + 1, i => match cellAt n z t i with
    | some x => natF (i + 1) fun j => match cellsAt n z t k j with | some l => some (x :: l) | none => none
    | none => none
def layAt (n : Nat) : List AV → T AV → Nat → Option (T AV)
  | [], t, _ => some t
  | x :: r, t, i => match Nat.blt i n with
    | true => match x.one with
      | true => x.seq fun x => match t.put i x with | some t' => natF (i + 1) fun j => layAt n r t' j | none => none
      | false => none
    | false => none

/-! ### operands -/
abbrev Fr := T AV
def evalA : Operand → Fr → Option AV
  | .tmp t => fun fr => fr.get t
  | .const v => fun _ => some (ofV v)
  | .global _ => fun _ => none
  | .func f => fun _ => some (.v (.func (.func f) #[] #[]))
def evals (fr : Fr) : List Operand → Option (List AV)
  | [] => some []
  | x :: r => match evalA x fr with | some v => (match evals fr r with | some l => some (v :: l) | none => none) | none => none

/-- what is looked up in the program, at hand -/
structure Tab where
  P : Program
  inf : TypeId → Option TypeInfo
  und : TypeId → Option TypeDesc
  fn : FuncId → Option Func
  /-- structs that no package stood in for holds -/
  own : TypeId → Bool
structure Tab.Ok (Q : Tab) : Prop where
  inf : ∀ t i, Q.inf t = some i → Q.P.info? t = some i
  und : ∀ t d, Q.und t = some d → Q.P.underlying t = some d
  fn : ∀ f x, Q.fn f = some x → Q.P.funcs[f]? = some x
  nm : ∀ f x, Q.fn f = some x → (x.name == "runtime.NumGoroutine") = false
  own : ∀ t, Q.own t = true → Q.P.stoodInHeld t = false
  guard : ∀ t, Q.own t = true → Q.P.eqGuardType Q.P.depth t = false
  mix : Q.P.follows .mixedOrders = true

/-! ### operations that touch no world, by the model's own words -/
def prun {α : Type} (P : Program) : Sem α → Option α
  | .pure a => some a
  | .program k => prun P (k P)
  | .mark _ k => prun P k
  | .choose q k => match q.forced with | true => prun P (k 0) | false => none
  | _ => none
def plainVal (fr : Fr) (x : Operand) : Value := ((evalA x fr).bind plain).getD undef
def allPlain (fr : Fr) : List Operand → Bool
  | [] => true
  | x :: r => ((evalA x fr).bind plain).isSome && allPlain fr r
def asValue : Option Next → Option AV
  | some (.value v) => some (ofV v)
  | _ => none
def symV : AV → Bool
  | .v x => match x with | .int _ _ => true | _ => false
  | _ => false
/-- is a number among these that is not known? -/
def symAny (fr : Fr) : List Operand → Bool
  | [] => false
  | x :: r => match evalA x fr with
    | some v => match symV v with | true => true | false => symAny fr r
    | none => symAny fr r
def keepV : Option Next → Option AV
  | some (.value v) => some (.v v)
  | _ => none
def pureOp (Q : Tab) (fr : Fr) (o : Oper) : Option AV :=
  match allPlain fr o.op.operands.toList with
  | true => match symAny fr o.op.operands.toList with
    | true => keepV (prun Q.P (execOp (plainVal fr) o))
    | false => asValue (prun Q.P (execOp (plainVal fr) o))
  | false => none

/-! ### whole numbers without the model's powers -/
def fitK (k : IntKind) : Int → Option Nat
  | .ofNat n => match Nat.ble n (topK k) with | true => some n | false => none
  | .negSucc _ => none
def nat2 (f : Nat → Nat → Nat) (k : IntKind) (x y : Int) : Option AV := match fitK k x, fitK k y with
  | some a, some b => some (.i k (.ofNat (f a b)))
  | _, _ => none
def quoF (k : IntKind) (x y : Int) : Option AV := match fitK k x, fitK k y with
  | some a, some (b + 1) => some (.i k (.ofNat (a / (b + 1))))
  | _, _ => none
def remF (k : IntKind) (x y : Int) : Option AV := match fitK k x, fitK k y with
  | some a, some (b + 1) => some (.i k (.ofNat (a % (b + 1))))
  | _, _ => none
def shlF (k : IntKind) (x : Int) : Int → Option AV
  | .ofNat n => some (.i k (wrapF k (mulI x (.ofNat (2 ^ (Nat.min n (bitsK k)))))))
  | .negSucc _ => none
def shrF (k : IntKind) (x : Int) : Int → Option AV
  | .ofNat n => match x with
    | .ofNat a => some (.i k (.ofNat (a / 2 ^ (Nat.min n (bitsK k)))))
    | .negSucc _ => none
  | .negSucc _ => none
def eqI (x y : Int) : Bool := match leI x y with | true => leI y x | false => false
def sameK (k k' : IntKind) (x : Option AV) : Option AV := match Nat.beq (kIx k) (kIx k') with | true => x | false => none
/-- what comes of two numbers; none: by the model's own words -/
def intA : BinOp → IntKind → IntKind → Int → Int → Option AV
  | .add => fun k k' x y => sameK k k' (some (.i k (wrapF k (addI x y))))
  | .sub => fun k k' x y => sameK k k' (some (.i k (wrapF k (addI x (negI y)))))
  | .mul => fun k k' x y => sameK k k' (some (.i k (wrapF k (mulI x y))))
  | .quo => fun k k' x y => sameK k k' (quoF k x y)
  | .rem => fun k k' x y => sameK k k' (remF k x y)
  | .and => fun k k' x y => sameK k k' (nat2 Nat.land k x y)
  | .or => fun k k' x y => sameK k k' (nat2 Nat.lor k x y)
  | .xor => fun k k' x y => sameK k k' (nat2 Nat.xor k x y)
  | .shl => fun k _ x y => shlF k x y
  | .shr => fun k _ x y => shrF k x y
  | .eql => fun k k' x y => sameK k k' (some (.b (eqI x y)))
  | .neq => fun k k' x y => sameK k k' (some (.b (!(eqI x y))))
  | .lss => fun k k' x y => sameK k k' (some (.b (!(leI y x))))
  | .leq => fun k k' x y => sameK k k' (some (.b (leI x y)))
  | .gtr => fun k k' x y => sameK k k' (some (.b (!(leI x y))))
  | .geq => fun k k' x y => sameK k k' (some (.b (leI y x)))
  | .andNot => fun _ _ _ _ => none
def intKind? : Option TypeDesc → Option IntKind
  | some (.int k) => some k
  | _ => none
def convA (Q : Tab) (s d : TypeId) (n : Int) : Option AV :=
  match intKind? (Q.und s), intKind? (Q.und d) with
  | some _, some k => some (.i k (wrapF k n))
  | _, _ => none
def sizeA (Q : Tab) (t : TypeId) : Option Nat := match Q.inf t with | some i => some i.size | none => none
def isRow : TypeDesc → Bool
  | .struct _ => true
  | .array _ _ => true
  | _ => false
def isAggA (Q : Tab) (t : TypeId) : Option Bool := match Q.und t with | some d => some (isRow d) | none => none
def zeroA (Q : Tab) (t : TypeId) : Option (List AV) := match Q.inf t with
  | some i => match i.zero with | some z => some (ofV z).cells | none => none
  | none => none

/-! ### strings as lists of bytes -/
def strV : AV → Option (List UInt8)
  | .v (.string s) => some s.data.toList
  | _ => none
def mkStr (l : List UInt8) : AV := .v (.string ⟨⟨l⟩⟩)
def dropF {α : Type} : Nat → List α → List α
  | 0, l => l
  | _ + 1, [] => []
  | n + 1, _ :: r => dropF n r
def takeF {α : Type} : Nat → List α → List α
  | 0, _ => []
  | _ + 1, [] => []
  | n + 1, x :: r => x :: takeF n r

/-! ### the heap -/
structure Row where
  e : TypeId
  es : Nat
  n : Nat
  z : List AV
  t : T AV
def rowOf : Option AO → Option Row
  | some (.row e es n z t) => some ⟨e, es, n, z, t⟩
  | _ => none
def mapOf : Option AO → Option (List (Value × AV × Nat) × Nat)
  | some (.map es c) => some (es, c)
  | _ => none
def loadR (Q : Tab) (t : TypeId) (o : Nat) : Row → Option AV
  | ⟨_, _, n, z, tr⟩ => match isAggA Q t, sizeA Q t with
    | some true, some s => match cellsAt n z tr s o with | some l => some (mkAgg l) | none => none
    | some false, some _ => cellAt n z tr o
    | _, _ => none
def loadA (Q : Tab) (h : Hp) (t : TypeId) (r o : Nat) : Option AV :=
  match rowOf (h.t.get r) with
  | some row => loadR Q t o row
  | none => none
def putRow (h : Hp) (r : Nat) (o : AO) : Option Hp := match h.t.put r o with | some t' => some (h.withT t') | none => none
def layR (h : Hp) (r o : Nat) (l : List AV) : Row → Option Hp
  | ⟨e, es, n, z, tr⟩ => match layAt n l tr o with
    | some tr' => putRow h r (.row e es n z tr')
    | none => none
def storeA (Q : Tab) (h : Hp) (t : TypeId) (r o : Nat) (x : AV) : Option Hp :=
  match rowOf (h.t.get r), sizeA Q t with
  | some row, some s => match Nat.beq x.cells.length s with
    | true => layR h r o x.cells row
    | false => none
  | _, _ => none
/-- a new block under the next name -/
def newA : Hp → AO → Option (Nat × Hp)
  | ⟨t, nx⟩ => fun o => match t.put nx o with
    | some t' => natF (nx + 1) fun m => some (nx, ⟨t', m⟩)
    | none => none
def newRowA (h : Hp) (e : TypeId) (es : Nat) (cells : List AV) : Option (Nat × Hp) :=
  natF cells.length fun n => match layAt n cells .leaf 0 with
    | some tr => newA h (.row e es n [] tr)
    | none => none

/-! ### building -/
def fillA (place : Nat → Option (Nat × Nat)) : List (Nat × AV) → List AV → Option (List AV)
  | [], cells => some cells
  | (i, x) :: rest, cells =>
    match place i with
    | none => none
    | some (off, size) => match Nat.beq x.cells.length size, Nat.ble (off + size) cells.length with
      | true, true => fillA place rest (cells.take off ++ x.cells ++ cells.drop (off + size))
      | _, _ => none
def placesA (Q : Tab) : List Field → Option (List (Nat × Nat))
  | [] => some []
  | f :: r => match sizeA Q f.type with | some s => (match placesA Q r with | some l => some ((f.offset, s) :: l) | none => none) | none => none
def evalParts (fr : Fr) : List (Nat × Operand) → Option (List (Nat × AV))
  | [] => some []
  | (i, x) :: r => match evalA x fr with | some v => (match evalParts fr r with | some l => some ((i, v) :: l) | none => none) | none => none
def placeOf (Q : Tab) : Option TypeDesc → Option (Nat → Option (Nat × Nat))
  | some (.struct fields) => match placesA Q fields.toList with | some pl => some (nth pl) | none => none
  | some (.array _ e) => match sizeA Q e with | some s => some (fun i => some (i * s, s)) | none => none
  | _ => none
def buildA (Q : Tab) (fr : Fr) (t : TypeId) (parts : List (Nat × Operand)) : Option AV :=
  match zeroA Q t, evalParts fr parts, placeOf Q (Q.und t) with
  | some z, some ps, some pl => match fillA pl ps z with | some l => some (mkAgg l) | none => none
  | _, _, _ => none

/-! ### flat values: numbers, bools, strings, rows and structs of these -/
/-- the cells of a flat type: numbers 0, bools 1, strings 2 -/
def repF : Nat → List Nat → List Nat
  | 0, _ => []
  | n + 1, l => l ++ repF n l
def flatF (Q : Tab) (rec : TypeId → Option (List Nat)) : List Field → Nat → Option (List Nat)
  | [], _ => some []
  | f :: r, o => match rec f.type, sizeA Q f.type with
    | some s, some n => match Nat.beq f.offset o && Nat.beq s.length n && decide (f.name ≠ "_") with
      | true => natF (o + n) fun o => match flatF Q rec r o with | some l => some (s ++ l) | none => none
      | false => none
    | _, _ => none
/-- none: it is none -/
def flatT (Q : Tab) : Nat → TypeId → Option (List Nat)
  | 0, _ => none
  | d + 1, t => match Q.und t with
    | some (.int _) => some [0]
    | some .bool => some [1]
    | some .string => some [2]
    | some (.array n e) => match flatT Q d e, sizeA Q e with
      | some s, some s' => match Nat.beq s.length s' with | true => some (repF n s) | false => none
      | _, _ => none
    | some (.struct fs) => match Q.own t with
      | true => flatF Q (flatT Q d) fs.toList 0
      | false => none
    | _ => none
def cellEq : Nat → Value → Value → Option Bool
  | 0, x, y => match x, y with | .int k a, .int k' b => (match Nat.beq (kIx k) (kIx k') with | true => some (eqI a b) | false => none) | _, _ => none
  | 1, x, y => match x, y with | .bool a, .bool b => some (a == b) | _, _ => none
  | _, x, y => match x, y with | .string a, .string b => some (a.data.toList == b.data.toList) | _, _ => none
def cellsEq : List Nat → List Value → List Value → Option Bool
  | [], [], [] => some true
  | k :: l, x :: r, y :: s => match cellEq k x y with
    | some true => cellsEq l r s
    | some false => (match cellsEq l r s with | some _ => some false | none => none)
    | none => none
  | _, _, _ => none
/-- the cells of a value of a flat type -/
def rowV : Value → Option Bool → Option (List Value)
  | .agg cs => fun b => match b with | some true => some cs.toList | _ => none
  | x => fun b => match b with | some false => some [x] | _ => none
/-- equality of two flat values of a type -/
def flatEq (Q : Tab) (t : TypeId) (x y : Value) : Option Bool := match flatT Q 8 t, rowV x (isAggA Q t), rowV y (isAggA Q t) with
  | some ks, some xs, some ys => cellsEq ks xs ys
  | _, _, _ => none

/-! ### comparing, slicing -/
def isNil : Value → Bool
  | .pointer none => true
  | .slice none 0 0 => true
  | .map none => true
  | .nilFunc => true
  | _ => false
def kindOf : Option TypeDesc → Nat
  | some (.pointer _) => 1
  | some (.slice _) => 2
  | some (.map _ _) => 3
  | some (.func _ _ _) => 4
  | _ => 0
def nilKind : AV → Nat
  | .v (.pointer none) => 1
  | .v (.slice none _ _) => 2
  | .v (.map none) => 3
  | .v .nilFunc => 4
  | _ => 0
def namedKind : AV → Nat
  | .ptr _ _ => 1
  | .sl _ _ _ _ _ => 2
  | .mp _ => 3
  | .fn _ _ _ => 4
  | _ => 0
/-- equality of a name and nil, of two places -/
def eqA (Q : Tab) (t : TypeId) (x y : AV) : Option Bool :=
  match kindOf (Q.und t) with
  | 0 => none
  | k + 1 => match Nat.beq (namedKind x) (k + 1) && Nat.beq (nilKind y) (k + 1) || Nat.beq (nilKind x) (k + 1) && Nat.beq (namedKind y) (k + 1) with
    | true => some false
    | false => none

def numOf : AV → Option Nat
  | .i _ (.ofNat n) => some n
  | _ => none
def boundA (x : Option AV) (dflt top : Nat) : Option Nat :=
  match x with
  | none => some dflt
  | some v => match numOf v with
    | some n => match Nat.ble n top with | true => some n | false => none
    | none => none
def optA (fr : Fr) : Option Operand → Option (Option AV)
  | none => some none
  | some x => match evalA x fr with | some v => some (some v) | none => none
/-- the three bounds, low, high, most -/
def bounds2 (lo hi : Option AV) (len m : Nat) : Option (Nat × Nat × Nat) := match boundA hi len m with
  | none => none
  | some h => match boundA lo 0 h with
    | none => none
    | some l => some (l, h, m)
def bounds3 (lo hi mx : Option AV) (len cap : Nat) : Option (Nat × Nat × Nat) :=
  match mx with
  | none => bounds2 lo hi len cap
  | some v => match hi with
    | none => none
    | some u => match boundA (some v) 0 cap with
      | none => none
      | some m => bounds2 lo (some u) len m
def sliceK (s r o : Nat) : Option (Nat × Nat × Nat) → Option AV
  | some (l, h, m) => match Nat.beq m l with
    | true => some (.sl r o (h - l) (some (m - l)) 0)
    | false => some (.sl r (o + l * s) (h - l) (some (m - l)) 0)
  | none => none
/-- of a slice whose capacity is not known: what is asked for lies within its length -/
def sliceV (s r o n d : Nat) : Option (Nat × Nat × Nat) → Option AV
  | some (l, h, _) => match Nat.blt l n with
    | true => some (.sl r (o + l * s) (h - l) none (d + l))
    | false => none
  | none => none
def sliceU (s r o n d : Nat) (lo hi : Option AV) (mx : Option AV) (row : Row) : Option AV :=
  match Nat.beq row.es s && Nat.beq o (d * s) && Nat.ble (o + n * s) row.n && Nat.blt 0 s with
  | true => match mx with
    | none => sliceV s r o n d (bounds2 lo hi n n)
    | some m => sliceK s r o (bounds3 lo hi (some m) n n)
  | false => none
def elemOf? : Option TypeDesc → Option TypeId
  | some (.slice e) => some e
  | _ => none
def arrOf? : Option TypeDesc → Option (Nat × TypeId)
  | some (.array n e) => some (n, e)
  | _ => none
def sliceA (Q : Tab) (h : Hp) (t : TypeId) (lo hi mx : Option AV) : AV → Option AV
  | .sl r o n c d => match elemOf? (Q.und t) with
    | some e => match sizeA Q e with
      | some s => match c with
        | some cc => sliceK s r o (bounds3 lo hi mx n cc)
        | none => match rowOf (h.t.get r) with | some row => sliceU s r o n d lo hi mx row | none => none
      | none => none
    | none => none
  | .ptr r o => match arrOf? (Q.und t) with
    | some (k, e) => match sizeA Q e with | some s => sliceK s r o (bounds3 lo hi mx k k) | none => none
    | none => none
  | _ => none

/-! ### append, copy -/
def bytesA : List UInt8 → List AV
  | [] => []
  | u :: r => .i .u8 (.ofNat u.toNat) :: bytesA r
def firstV (size n : Nat) : Value → Option (List AV)
  | .slice none 0 _ => some []
  | .string s => match Nat.beq size 1 with | true => some (bytesA (takeF n s.data.toList)) | false => none
  | _ => none
/-- the cells of what is appended or copied -/
def firstA (h : Hp) (size n : Nat) : AV → Option (List AV)
  | .sl r o _ _ _ => match rowOf (h.t.get r) with
    | some ⟨_, _, m, z, tr⟩ => cellsAt m z tr (n * size) o
    | none => none
  | .v x => firstV size n x
  | _ => none
def lenV : Value → Option Nat
  | .slice none n _ => some n
  | .string s => some s.data.toList.length
  | _ => none
def lenA : AV → Option Nat
  | .sl _ _ n _ _ => some n
  | .v x => lenV x
  | _ => none
def freshSl (n : Nat) : Option (Nat × Hp) → Option (AV × Hp)
  | some (r, h) => some (.sl r 0 n none 0, h)
  | none => none
def isNilSl : Value → Bool
  | .slice none 0 0 => true
  | _ => false
def appNil (h : Hp) (e size n : Nat) (new : List AV) (x : AV) : Option (AV × Hp) := match n with
  | 0 => some (x, h)
  | n + 1 => freshSl (n + 1) (newRowA h e size new)
def appKnown (h : Hp) (e size n : Nat) (new : List AV) (r o len c : Nat) : Option (AV × Hp) := match Nat.ble (len + n) c with
  | true => match rowOf (h.t.get r) with
    | some row => match layR h r (o + len * size) new row with
      | some h' => some (.sl r o (len + n) (some c) 0, h')
      | none => none
    | none => none
  | false => match firstA h size len (.sl r o len (some c) 0) with
    | some old => freshSl (len + n) (newRowA h e size (old ++ new))
    | none => none
/-- the row may go on as the new one, or stay behind: its old name dies -/
def sameRow (e size : Nat) : Option Row → Bool
  | some ⟨e', es, _, _, _⟩ => Nat.beq e' e && Nat.beq es size
  | none => false
def appOpen (h : Hp) (e size n : Nat) (new : List AV) (r len : Nat) : Option (AV × Hp) := match sameRow e size (rowOf (h.t.get r)) with
  | true => match firstA h size len (.sl r 0 len none 0) with
    | some old => match putRow h r .dead with
      | some h' => freshSl (len + n) (newRowA h' e size (old ++ new))
      | none => none
    | none => none
  | false => none
def appTo (h : Hp) (e size n : Nat) (new : List AV) : AV → Option (AV × Hp)
  | .v x => match isNilSl x with | true => appNil h e size n new (.v x) | false => none
  | .sl r o len c d => match c with
    | some c => appKnown h e size n new r o len c
    | none => match o, d with
      | 0, 0 => appOpen h e size n new r len
      | _, _ => none
  | _ => none
def bytesE (Q : Tab) (t : TypeId) : Option Nat := match Q.inf t with | some i => some i.bytes | none => none
/-- what a new row is to be -/
def fitsA (Q : Tab) (e size : Nat) (need : Nat) : Bool := match zeroA Q e, bytesE Q e with
  | some z, some b => Nat.beq z.length size && Nat.ble need 1000000 && Nat.ble (need * b) 140737488355328
  | _, _ => false
def needA (n : Nat) : Option Nat → Nat
  | some m => m + n
  | none => n
def appendA (Q : Tab) (h : Hp) (t : TypeId) (x y : AV) : Option (AV × Hp) :=
  match elemOf? (Q.und t), lenA y with
  | some e, some n => match sizeA Q e with
    | some size => match fitsA Q e size (needA n (lenA x)) with
      | true => match firstA h size n y with
        | some new => appTo h e size n new x
        | none => none
      | false => none
    | none => none
  | _, _ => none
def copyTo (h : Hp) (n : Nat) (new : List AV) : AV → Option (AV × Hp)
  | .sl r o _ _ _ => match rowOf (h.t.get r) with
    | some row => match layR h r o new row with | some h' => some (.i .i64 (.ofNat n), h') | none => none
    | none => none
  | .v x => match isNilSl x with | true => some (.i .i64 (.ofNat n), h) | false => none
  | _ => none
def copyA (Q : Tab) (h : Hp) (t : TypeId) (x y : AV) : Option (AV × Hp) :=
  match elemOf? (Q.und t), lenA x, lenA y with
  | some e, some dn, some n0 => match sizeA Q e with
    | some size => natF (Nat.min n0 dn) fun n => match firstA h size n y with
      | some new => copyTo h n new x
      | none => none
    | none => none
  | _, _, _ => none

/-! ### maps -/
def sameKey (Q : Tab) (kt : TypeId) (x y : Value) : Option Bool := flatEq Q kt x y
def findA (Q : Tab) (kt : TypeId) (k : Value) : List (Value × AV × Nat) → Option (Option AV)
  | [] => some none
  | (k', v, _) :: r => match sameKey Q kt k k' with
    | some true => some (some v)
    | some false => findA Q kt k r
    | none => none
def upA (Q : Tab) (kt : TypeId) (k : Value) (x : AV) : List (Value × AV × Nat) → Option (Option (List (Value × AV × Nat)))
  | [] => some none
  | (k', v, b) :: r => match sameKey Q kt k k' with
    | some true => match Instr.sameBits 10000 k' k with | true => some (some ((k, x, b) :: r)) | false => none
    | some false => match upA Q kt k x r with
      | some (some r') => some (some ((k', v, b) :: r'))
      | some none => some none
      | none => none
    | none => none
/-- a key that is as its type says -/
def keyFine (Q : Tab) (kt : TypeId) (k : Value) : Bool := match flatEq Q kt k k with | some _ => true | none => false
def mapOf? : Option TypeDesc → Option (TypeId × TypeId)
  | some (.map k e) => some (k, e)
  | _ => none
def isNilMap : Value → Bool
  | .map none => true
  | _ => false
def entriesA (h : Hp) : AV → Option (List (Value × AV × Nat))
  | .v x => match isNilMap x with | true => some [] | false => none
  | .mp r => match mapOf (h.t.get r) with | some (es, _) => some es | none => none
  | _ => none
def lookupA (Q : Tab) (h : Hp) (t : TypeId) (x k : AV) (ok : Bool) : Option AV :=
  match mapOf? (Q.und t), plain k, entriesA h x with
  | some (kt, et), some k, some es => match keyFine Q kt k with
    | true => match findA Q kt k es with
      | some (some v) => some (match ok with | true => mkTup [v, .b true] | false => v)
      | some none => match Q.inf et with
        | some i => match i.zero with
          | some z => some (match ok with | true => mkTup [ofV z, .b false] | false => ofV z)
          | none => none
        | none => none
      | none => none
    | false => none
  | _, _, _ => none
def updM (Q : Tab) (h : Hp) (kt : TypeId) (k : Value) (v : AV) (r : Nat) (es : List (Value × AV × Nat)) (clock : Nat) : Option Hp :=
  match keyFine Q kt k with
  | true => match upA Q kt k v es with
    | some (some es') => putRow h r (.map es' clock)
    | some none => putRow h r (.map (es ++ [(k, v, clock)]) (clock + 1))
    | none => none
  | false => none
def updateA (Q : Tab) (h : Hp) (t : TypeId) (k v : AV) : AV → Option Hp
  | .mp r => match mapOf? (Q.und t), plain k, mapOf (h.t.get r) with
    | some (kt, _), some k, some (es, clock) => updM Q h kt k v r es clock
    | _, _, _ => none
  | _ => none

/-! ### one operation -/
abbrev CallF := FuncId → List AV → Hp → Option (AV × Hp)
abbrev R2 := Option (AV × Hp)
def unit : AV := .v undef
def okv (h : Hp) : Option AV → R2
  | some x => some (x, h)
  | none => none
def fieldA (Q : Tab) (t : TypeId) (f : Nat) : Option (Nat × TypeId) :=
  match Q.und t with
  | some (.struct fs) => match fs[f]? with | some x => some (x.offset, x.type) | none => none
  | _ => none
def oCopy (Q : Tab) (c : Call) (h : Hp) : Option (List AV) → R2
  | some [x, y] => match c.argTypes[0]? with | some t => copyA Q h t x y | none => none
  | _ => none
def srcT : Option TypeDesc → Bool
  | some (.slice _) => true
  | some .string => true
  | _ => false
def oAppend (Q : Tab) (c : Call) (h : Hp) : Option (List AV) → R2
  | some [x, y] => match c.argTypes[0]?, c.argTypes[1]? with
    | some t, some u => match srcT (Q.und u) with
      | true => appendA Q h t x y
      | false => none
    | _, _ => none
  | _ => none
def isStr : Option TypeDesc → Bool
  | some .string => true
  | _ => false
def isSlT : Option TypeDesc → Bool
  | some (.slice _) => true
  | _ => false
def isMapT : Option TypeDesc → Bool
  | some (.map _ _) => true
  | _ => false
def oLenV (h : Hp) (d : R2) (u : Option TypeDesc) : Value → R2
  | .string s => match isStr u with | true => some (.i .i64 (.ofNat s.data.toList.length), h) | false => none
  | _ => d
def oLen1 (h : Hp) (d : R2) (u : Option TypeDesc) : AV → R2
  | .v x => oLenV h d u x
  | .sl _ _ n _ _ => match isSlT u with | true => some (.i .i64 (.ofNat n), h) | false => none
  | .mp r => match isMapT u, mapOf (h.t.get r) with
    | true, some (es, _) => some (.i .i64 (.ofNat es.length), h)
    | _, _ => none
  | _ => d
def undAt (Q : Tab) (c : Call) : Option TypeDesc := match c.argTypes[0]? with | some t => Q.und t | none => none
def oLen (Q : Tab) (c : Call) (h : Hp) (d : R2) : Option (List AV) → R2
  | some [x] => oLen1 h d (undAt Q c) x
  | _ => none
def oCap1 (h : Hp) (d : R2) (u : Option TypeDesc) : AV → R2
  | .sl _ _ _ c _ => match isSlT u, c with | true, some n => some (.i .i64 (.ofNat n), h) | _, _ => none
  | _ => d
def oCap (Q : Tab) (c : Call) (h : Hp) (d : R2) : Option (List AV) → R2
  | some [x] => oCap1 h d (undAt Q c) x
  | _ => none
def oFunV (cf : CallF) (h : Hp) (args : List AV) : Value → R2
  | .func (.func g) a b => cf g (a.toList.map ofV ++ args ++ b.toList.map ofV) h
  | _ => none
def oFun1 (cf : CallF) (h : Hp) (args : List AV) : AV → R2
  | .v x => oFunV cf h args x
  | .fn (.func g) a b => cf g (a ++ args ++ b) h
  | _ => none
def oFun (cf : CallF) (h : Hp) (f : Option AV) : Option (List AV) → R2
  | some args => match f with | some f => oFun1 cf h args f | none => none
  | none => none
def bltA (Q : Tab) (fr : Fr) (o : Oper) (c : Call) (h : Hp) : Builtin → R2
  | .append => oAppend Q c h (evals fr c.args.toList)
  | .copy => oCopy Q c h (evals fr c.args.toList)
  | .len => oLen Q c h (okv h (pureOp Q fr o)) (evals fr c.args.toList)
  | .cap => oCap Q c h (okv h (pureOp Q fr o)) (evals fr c.args.toList)
  | _ => okv h (pureOp Q fr o)
def callA (Q : Tab) (cf : CallF) (fr : Fr) (o : Oper) (c : Call) (h : Hp) : R2 :=
  match c.callee with
  | .builtin b => bltA Q fr o c h b
  | .value f => oFun cf h (evalA f fr) (evals fr c.args.toList)
  | .invoke .. => none
def oPick (h : Hp) (fr : Fr) (a b : Operand) : Option AV → R2
  | some (.b true) => okv h (evalA a fr)
  | some (.b false) => okv h (evalA b fr)
  | _ => none
def asPtr : Option (Nat × Hp) → R2
  | some (r, h) => some (.ptr r 0, h)
  | none => none
def asSl (n c : Nat) : Option (Nat × Hp) → R2
  | some (r, h) => some (.sl r 0 n (some c) 0, h)
  | none => none
def asUnit : Option Hp → R2
  | some h => some (unit, h)
  | none => none
def oAlloc (Q : Tab) (h : Hp) (e : TypeId) : R2 := match zeroA Q e, sizeA Q e with
  | some z, some s => match Nat.beq z.length s with
    | true => asPtr (newA h (.row e s s (zeroC z) .leaf))
    | false => none
  | _, _ => none
def oBox (Q : Tab) (h : Hp) (e : TypeId) : Option AV → R2
  | some v => match sizeA Q e with
    | some s => match Nat.beq v.cells.length s with | true => asPtr (newRowA h e s v.cells) | false => none
    | none => none
  | none => none
def buildNone (h : Hp) (e s : Nat) (ps : List (Nat × AV)) (len : Nat) : R2 := match len with
  | 0 => match ps with
    | [] => asSl 0 0 (newRowA h e s [])
    | _ :: _ => none
  | _ + 1 => none
def oBuildSlice (Q : Tab) (fr : Fr) (h : Hp) (t : TypeId) (len : Nat) (parts : List (Nat × Operand)) : R2 :=
  match elemOf? (Q.und t) with
  | some e => match sizeA Q e, zeroA Q e, evalParts fr parts with
    | some s, some z, some ps => match Nat.ble (len * s) 16777216 && Nat.beq z.length s && Nat.blt 0 (len * s) with
      | true => match fillA (fun i => some (i * s, s)) ps ((List.replicate len z).flatten) with
        | some cells => asSl len len (newRowA h e s cells)
        | none => none
      | false => buildNone h e s ps len
    | _, _, _ => none
  | none => none
def oLoad (Q : Tab) (h : Hp) (t : TypeId) : Option AV → R2
  | some (.ptr r o) => okv h (loadA Q h t r o)
  | _ => none
def oStore (Q : Tab) (h : Hp) (t : TypeId) (x : Option AV) : Option AV → R2
  | some (.ptr r o) => match x with | some v => asUnit (storeA Q h t r o v) | none => none
  | _ => none
def oNil (Q : Tab) (fr : Fr) (o : Oper) (h : Hp) : Option AV → R2
  | some (.ptr r p) => some (.ptr r p, h)
  | _ => okv h (pureOp Q fr o)
def oNum (Q : Tab) (fr : Fr) (o : Oper) (h : Hp) : Option AV → R2
  | some v => some (v, h)
  | none => okv h (pureOp Q fr o)
def oEq (Q : Tab) (h : Hp) (t : TypeId) (a b : AV) : BinOp → R2
  | .eql => match eqA Q t a b with | some r => some (.b r, h) | none => none
  | .neq => match eqA Q t a b with | some r => some (.b (!r), h) | none => none
  | _ => none
def vOf : AV → Option Value
  | .v x => some x
  | _ => none
def oEqV (Q : Tab) (h : Hp) (t : TypeId) (neg : Bool) (d : R2) (a b : Option Value) : R2 := match a, b with
  | some x, some y => match Q.own t with
    | true => match flatEq Q t x y with
      | some r => some (.b (r != neg), h)
      | none => d
    | false => d
  | _, _ => d
def oBinP (Q : Tab) (fr : Fr) (o : Oper) (h : Hp) (t : TypeId) (a b : AV) : BinOp → R2
  | .eql => oEqV Q h t false (okv h (pureOp Q fr o)) (vOf a) (vOf b)
  | .neq => oEqV Q h t true (okv h (pureOp Q fr o)) (vOf a) (vOf b)
  | .add => match strV a, strV b with
    | some x, some y => match Nat.ble (x.length + y.length) 1000000 with | true => some (mkStr (x ++ y), h) | false => none
    | _, _ => okv h (pureOp Q fr o)
  | _ => okv h (pureOp Q fr o)
def oBinX (Q : Tab) (fr : Fr) (o : Oper) (h : Hp) (op : BinOp) (t : TypeId) (a b : AV) : R2 := match (plain a).isSome && (plain b).isSome with
  | true => oBinP Q fr o h t a b op
  | false => oEq Q h t a b op
def oBin2 (Q : Tab) (fr : Fr) (o : Oper) (h : Hp) (op : BinOp) (t : TypeId) (a b : AV) : R2 := match plainI a with
  | some (k, x) => match plainI b with
    | some (k', y) => oNum Q fr o h (intA op k k' x y)
    | none => oBinX Q fr o h op t a b
  | none => oBinX Q fr o h op t a b
def oBin (Q : Tab) (fr : Fr) (o : Oper) (h : Hp) (op : BinOp) (t : TypeId) (x y : Option AV) : R2 := match x with
  | some a => match y with
    | some b => oBin2 Q fr o h op t a b
    | none => none
  | none => none
def toBytes (Q : Tab) (h : Hp) (e : TypeId) (b : ByteArray) : R2 := match intKind? (Q.und e), Nat.ble b.data.toList.length 1000000 with
  | some .u8, true => freshSl b.data.toList.length (newRowA h e 1 (bytesA b.data.toList))
  | _, _ => none
def convV (Q : Tab) (h : Hp) (s d : TypeId) (dflt : R2) : Value → R2
  | .string b => match isStr (Q.und s), elemOf? (Q.und d) with
    | true, some e => toBytes Q h e b
    | _, _ => dflt
  | _ => dflt
def byteOf? : AV → Option UInt8
  | .i .u8 n => some (UInt8.ofNat n.toNat)
  | _ => none
def bytesOf? : List AV → Option (List UInt8)
  | [] => some []
  | x :: r => match byteOf? x with | some u => (match bytesOf? r with | some l => some (u :: l) | none => none) | none => none
def strOf : Option (List AV) → Option ByteArray
  | some l => match bytesOf? l with | some bs => some ⟨⟨bs⟩⟩ | none => none
  | none => none
def slStr (Q : Tab) (h : Hp) (e : TypeId) (r off n : Nat) : R2 := match intKind? (Q.und e), rowOf (h.t.get r) with
  | some .u8, some ⟨_, _, m, z, tr⟩ => match strOf (cellsAt m z tr n off) with | some b => some (.v (.string b), h) | none => none
  | _, _ => none
def slConv (Q : Tab) (h : Hp) (s d : TypeId) (r off n : Nat) : R2 := match elemOf? (Q.und s) with
  | some e => match isStr (Q.und d) with
    | true => slStr Q h e r off n
    | false => none
  | none => none
def oConv1 (Q : Tab) (fr : Fr) (o : Oper) (h : Hp) (s d : TypeId) : AV → R2
  | .i _ n => oNum Q fr o h (convA Q s d n)
  | .v x => convV Q h s d (okv h (pureOp Q fr o)) x
  | .sl r off n _ _ => slConv Q h s d r off n
  | _ => none
def oConv (Q : Tab) (fr : Fr) (o : Oper) (h : Hp) (s d : TypeId) : Option AV → R2
  | some x => oConv1 Q fr o h s d x
  | none => none
def oArr (Q : Tab) (h : Hp) (t : TypeId) : Option AV → R2
  | some (.sl r off n _ _) => match arrOf? (Q.und t) with
    | some (k, _) => match Nat.ble k n with | true => some (.ptr r off, h) | false => none
    | none => none
  | _ => none
def oMakeFunc (h : Hp) (f : Fn) (a b : Option (List AV)) : R2 := match a, b with
  | some a, some b => match plains a, plains b with
    | some a, some b => some (.v (.func f ⟨a⟩ ⟨b⟩), h)
    | _, _ => some (.fn f a b, h)
  | _, _ => none
def asMap : Option (Nat × Hp) → R2
  | some (r, h) => some (.mp r, h)
  | none => none
def oMakeMap (h : Hp) : Option Operand → R2
  | none => asMap (newA h (.map [] 0))
  | some _ => none
def makeS (Q : Tab) (h : Hp) (e : TypeId) (l c : Nat) : R2 := match zeroA Q e, sizeA Q e, bytesE Q e with
  | some z, some s, some b => match Nat.ble l c && Nat.ble c 1000000 && Nat.beq z.length s && Nat.ble (c * s) 16777216 && Nat.ble (b * c) 281474976710656 && Nat.blt 0 s with
    | true => natF (c * s) fun m => asSl l c (newA h (.row e s m (zeroC z) .leaf))
    | false => none
  | _, _, _ => none
def oMakeSlice (Q : Tab) (h : Hp) (t : TypeId) (l c : Option AV) : R2 := match elemOf? (Q.und t), l, c with
  | some e, some (.i .i64 (.ofNat l)), some (.i .i64 (.ofNat c)) => makeS Q h e l c
  | _, _, _ => none
def slStrA (l : List UInt8) : Option (Nat × Nat × Nat) → Option AV
  | some (a, b, _) => some (mkStr (takeF (b - a) (dropF a l)))
  | none => none
def oSliceS (Q : Tab) (fr : Fr) (o : Oper) (h : Hp) (t : TypeId) (lo hi mx : Option Operand) (a : AV) : R2 := match strV a, isStr (Q.und t), mx with
  | some l, true, none => match optA fr lo, optA fr hi with
    | some lo, some hi => okv h (slStrA l (bounds3 lo hi none l.length l.length))
    | _, _ => none
  | _, _, _ => okv h (pureOp Q fr o)
def oSlice2 (Q : Tab) (fr : Fr) (o : Oper) (h : Hp) (t : TypeId) (lo hi mx : Option Operand) (a : AV) : R2 := match (plain a).isSome with
  | true => oSliceS Q fr o h t lo hi mx a
  | false => match optA fr lo, optA fr hi, optA fr mx with
    | some lo, some hi, some mx => okv h (sliceA Q h t lo hi mx a)
    | _, _, _ => none
def oSlice (Q : Tab) (fr : Fr) (o : Oper) (h : Hp) (t : TypeId) (lo hi mx : Option Operand) : Option AV → R2
  | some a => oSlice2 Q fr o h t lo hi mx a
  | none => none
def oFieldAddr (Q : Tab) (h : Hp) (f : Option (Nat × TypeId)) : Option AV → R2
  | some (.ptr r off) => match f with
    | some (k, ft) => match sizeA Q ft with
      | some (_ + 1) => some (.ptr r (off + k), h)
      | _ => none
    | none => none
  | _ => none
def fieldOf (Q : Tab) (h : Hp) (l : List AV) : Option (Nat × TypeId) → R2
  | some (k, ft) => match isAggA Q ft, sizeA Q ft with
    | some true, some s => match Nat.ble (k + s) l.length with | true => some (mkAgg ((l.drop k).take s), h) | false => none
    | some false, some _ => okv h (nth l k)
    | _, _ => none
  | none => none
def oField1 (Q : Tab) (fr : Fr) (o : Oper) (h : Hp) (t : TypeId) (f : Nat) : AV → R2
  | .v _ => okv h (pureOp Q fr o)
  | .agg l => fieldOf Q h l (fieldA Q t f)
  | _ => none
def oField (Q : Tab) (fr : Fr) (o : Oper) (h : Hp) (t : TypeId) (f : Nat) : Option AV → R2
  | some x => oField1 Q fr o h t f x
  | none => none
def idxA (Q : Tab) (h : Hp) (e : TypeId) (r off i n : Nat) : R2 := match Nat.blt i n, sizeA Q e with
  | true, some s => some (.ptr r (off + i * s), h)
  | _, _ => none
def oIndexAddr (Q : Tab) (h : Hp) (t : TypeId) (i : Option Nat) : Option AV → R2
  | some (.ptr r off) => match arrOf? (Q.und t), i with
    | some (k, e), some i => idxA Q h e r off i k
    | _, _ => none
  | some (.sl r off n _ _) => match elemOf? (Q.und t), i with
    | some e, some i => idxA Q h e r off i n
    | _, _ => none
  | _ => none
def oLookup (Q : Tab) (h : Hp) (t : TypeId) (k : Option AV) (ok : Bool) : Option AV → R2
  | some a => match k with | some b => okv h (lookupA Q h t a b ok) | none => none
  | none => none
def oUpdate (Q : Tab) (h : Hp) (t : TypeId) (k x : Option AV) : Option AV → R2
  | some a => match k, x with | some b, some c => asUnit (updateA Q h t b c a) | _, _ => none
  | none => none
def extV (h : Hp) (i : Nat) : Value → R2
  | .tuple vs => match nth vs.toList i with | some x => some (ofV x, h) | none => none
  | _ => none
def oExtract (h : Hp) (i : Nat) : Option AV → R2
  | some (.tup l) => okv h (nth l i)
  | some (.v x) => extV h i x
  | _ => none
def oIndex (Q : Tab) (fr : Fr) (o : Oper) (h : Hp) (t : TypeId) (x : Option AV) (i : Option Nat) : R2 := match x.bind strV, i, isStr (Q.und t) with
  | some l, some i, true => match nth l i with | some u => some (.i .u8 (.ofNat u.toNat), h) | none => none
  | _, _, _ => okv h (pureOp Q fr o)
def opSel : Op → Tab → CallF → Fr → Oper → Hp → R2
  | .move x => fun _ _ fr _ h => okv h (evalA x fr)
  | .assign x => fun _ _ fr _ h => okv h (evalA x fr)
  | .pick c a b => fun _ _ fr _ h => oPick h fr a b (evalA c fr)
  | .alloc e => fun Q _ _ _ h => oAlloc Q h e
  | .box e x => fun Q _ fr _ h => oBox Q h e (evalA x fr)
  | .build t parts => fun Q _ fr _ h => okv h (buildA Q fr t parts.toList)
  | .buildSlice t len parts => fun Q _ fr _ h => oBuildSlice Q fr h t len parts.toList
  | .load t a => fun Q _ fr _ h => oLoad Q h t (evalA a fr)
  | .store t a x => fun Q _ fr _ h => oStore Q h t (evalA x fr) (evalA a fr)
  | .nilCheck x => fun Q _ fr o h => oNil Q fr o h (evalA x fr)
  | .binOp op t x y _ => fun Q _ fr o h => oBin Q fr o h op t (evalA x fr) (evalA y fr)
  | .convert s d x => fun Q _ fr o h => oConv Q fr o h s d (evalA x fr)
  | .sliceToArrayPointer t x => fun Q _ fr _ h => oArr Q h t (evalA x fr)
  | .makeFunc f a b => fun _ _ fr _ h => oMakeFunc h f (evals fr a.toList) (evals fr b.toList)
  | .makeMap _ r => fun _ _ _ _ h => oMakeMap h r
  | .makeSlice t l c => fun Q _ fr _ h => oMakeSlice Q h t (evalA l fr) (evalA c fr)
  | .slice t x lo hi mx => fun Q _ fr o h => oSlice Q fr o h t lo hi mx (evalA x fr)
  | .fieldAddr t x f => fun Q _ fr _ h => oFieldAddr Q h (fieldA Q t f) (evalA x fr)
  | .field t x f => fun Q _ fr o h => oField Q fr o h t f (evalA x fr)
  | .indexAddr t x i => fun Q _ fr _ h => oIndexAddr Q h t ((evalA i fr).bind numOf) (evalA x fr)
  | .lookup t x k ok => fun Q _ fr _ h => oLookup Q h t (evalA k fr) ok (evalA x fr)
  | .mapUpdate t m k x => fun Q _ fr _ h => oUpdate Q h t (evalA k fr) (evalA x fr) (evalA m fr)
  | .extract x i => fun _ _ fr _ h => oExtract h i (evalA x fr)
  | .call c => fun Q cf fr o h => callA Q cf fr o c h
  | .unOp .. => fun Q _ fr o h => okv h (pureOp Q fr o)
  | .index t x i => fun Q _ fr o h => oIndex Q fr o h t (evalA x fr) ((evalA i fr).bind numOf)
  | _ => fun _ _ _ _ _ => none
def opA (Q : Tab) (cf : CallF) (fr : Fr) (o : Oper) (h : Hp) : R2 := opSel o.op Q cf fr o h

/-! ### kinds of operations -/
/-- an operation that leaves the heap as it is -/
def quietK : Op → Bool
  | .move _ => true
  | .assign _ => true
  | .pick .. => true
  | .build .. => true
  | .load .. => true
  | .nilCheck _ => true
  | .binOp .. => true
  | .unOp .. => true
  | .sliceToArrayPointer .. => true
  | .makeFunc .. => true
  | .slice .. => true
  | .fieldAddr .. => true
  | .field .. => true
  | .indexAddr .. => true
  | .lookup .. => true
  | .extract .. => true
  | .index .. => true
  | _ => false
/-- an operation that makes a block, and does nothing else -/
def birthK : Op → Bool
  | .alloc _ => true
  | .box .. => true
  | .buildSlice .. => true
  | .makeMap .. => true
  | .makeSlice .. => true
  | _ => false
def isStrV : Option AV → Bool
  | some (.v (.string _)) => true
  | _ => false
def quietB : Builtin → Bool
  | .append => false
  | .copy => false
  | .delete => false
  | _ => true
def quietC (c : Call) : Bool := match c.callee with | .builtin b => quietB b | _ => false
def quietO (fr : Fr) (o : Oper) : Bool := match o.op with
  | .convert _ _ x => !(isStrV (evalA x fr))
  | .call c => quietC c
  | op => quietK op

/-! ### regions -/
def boolV : AV → Option Bool
  | .b b => some b
  | .v (.bool b) => some b
  | _ => none
/-- what a guard looks at: none: not known -/
def yieldA (ops : Array Oper) (fr : Fr) (j : Nat) : Option (Option Bool) := match (ops[j]?).bind (·.dst) with
  | some t => match fr.get t with | some v => some (boolV v) | none => none
  | none => some none
def wantA (ops : Array Oper) (fr : Fr) (o : Oper) : Option Bool := match o.guard with
  | none => some true
  | some (j, want) => match yieldA ops fr j with
    | some (some b) => some (b == want)
    | some none => some false
    | none => none
def putA (nt : Nat) (fr : Fr) (x : AV) : Option Tmp → Option Fr
  | none => some fr
  | some d => match Nat.blt d nt with | true => fr.put d x | false => none
structure St where
  fr : Fr
  h : Hp
def listA (Q : Tab) (cf : CallF) (nt : Nat) (ops : Array Oper) : List Oper → Fr → Hp → Option St
  | [], fr, h => some ⟨fr, h⟩
  | o :: r, fr, h => match wantA ops fr o with
    | some true => match opA Q cf fr o h with
      | some (x, h') => x.seq fun x => match putA nt fr x o.dst with
        | some fr' => listA Q cf nt ops r fr' h'
        | none => none
      | none => none
    | some false => match putA nt fr unit o.dst with
      | some fr' => listA Q cf nt ops r fr' h
      | none => none
    | none => none
abbrev Draw := Nat → Array Oper → Fr → Hp → Option St

/-! ### regions whose operations may come in any order -/
def maskA (bs : T Nat) : List Edge → Nat → Nat
  | [], m => m
  | e :: r, m => match Region.binds .any e with
    | true => match bs.get e.on with
      | some b => maskA bs r ((m ||| 2 ^ e.on) ||| b)
      | none => maskA bs r (m ||| 2 ^ e.on)
    | false => maskA bs r m
def edgeOk (i : Nat) (e : Edge) : Bool := match Region.binds .any e with | true => Nat.blt e.on i | false => true
def edgesOk (i : Nat) : List Edge → Bool
  | [] => true
  | e :: r => edgeOk i e && edgesOk i r
def dstNe : Option Tmp → Option Tmp → Bool
  | some a, some b => !(Nat.beq a b)
  | _, _ => true
def pairOk (ops : Array Oper) (o : Oper) (b : Nat) : List Oper → Nat → Bool
  | [], _ => true
  | x :: r, i => (x.apart ops o || Nat.testBit b i) && dstNe x.dst o.dst && pairOk ops o b r (i + 1)
/-- what comes ahead of each operation, if the region is as it must be -/
def statGo (ops : Array Oper) : List Oper → List Oper → Nat → T Nat → Option (T Nat)
  | [], _, _, bs => some bs
  | o :: r, es, i, bs => match edgesOk i o.after.toList with
    | true => natF (maskA bs o.after.toList 0) fun b => match pairOk ops o b es 0 with
      | true => match bs.put i b with
        | some bs' => natF (i + 1) fun j => statGo ops r (es ++ [o]) j bs'
        | none => none
      | false => none
    | false => none
def statA (ops : Array Oper) : Option (T Nat) := statGo ops ops.toList [] 0 .leaf

/-- all names lie below a number -/
def nb0 (n : Nat) : AV → Bool
  | .i _ _ => true
  | .b _ => true
  | .v _ => true
  | .ptr r _ => Nat.blt r n
  | .sl r _ _ _ _ => Nat.blt r n
  | .mp r => Nat.blt r n
  | _ => false
def all0 (n : Nat) : List AV → Bool
  | [] => true
  | x :: r => match nb0 n x with | true => all0 n r | false => false
def nb1 (n : Nat) : AV → Bool
  | .agg l => all0 n l
  | x => nb0 n x
def all1 (n : Nat) : List AV → Bool
  | [] => true
  | x :: r => match nb1 n x with | true => all1 n r | false => false
def nbA (n : Nat) : AV → Bool
  | .tup l => all1 n l
  | .fn _ a b => all1 n a && all1 n b
  | x => nb1 n x

def eqV0 : Value → Value → Bool
  | .int k a => fun y => match y with | .int k' b => Nat.beq (kIx k) (kIx k') && eqI a b | _ => false
  | .bool a => fun y => match y with | .bool b => a == b | _ => false
  | .string a => fun y => match y with | .string b => a.data.toList == b.data.toList | _ => false
  | .pointer none => fun y => match y with | .pointer none => true | _ => false
  | .slice none 0 0 => fun y => match y with | .slice none 0 0 => true | _ => false
  | .map none => fun y => match y with | .map none => true | _ => false
  | .nilFunc => fun y => match y with | .nilFunc => true | _ => false
  | _ => fun _ => false
def eqVs : List Value → List Value → Bool
  | [], [] => true
  | x :: r, y :: s => match eqV0 x y with | true => eqVs r s | false => false
  | _, _ => false
def eqV : Value → Value → Bool
  | .agg a => fun y => match y with | .agg b => eqVs a.toList b.toList | _ => false
  | x => eqV0 x
def eqO : Option Nat → Option Nat → Bool
  | some a, some b => Nat.beq a b
  | none, none => true
  | _, _ => false
def eqAV0 : AV → AV → Bool
  | .i k a => fun y => match y with | .i k' b => Nat.beq (kIx k) (kIx k') && eqI a b | _ => false
  | .b a => fun y => match y with | .b b => a == b | _ => false
  | .v a => fun y => match y with | .v b => eqV a b | _ => false
  | .ptr r o => fun y => match y with | .ptr r' o' => Nat.beq r r' && Nat.beq o o' | _ => false
  | .sl r o n c d => fun y => match y with | .sl r' o' n' c' d' => Nat.beq r r' && Nat.beq o o' && Nat.beq n n' && eqO c c' && Nat.beq d d' | _ => false
  | .mp r => fun y => match y with | .mp r' => Nat.beq r r' | _ => false
  | _ => fun _ => false
def eqAVs : List AV → List AV → Bool
  | [], [] => true
  | x :: r, y :: s => match eqAV0 x y with | true => eqAVs r s | false => false
  | _, _ => false
def eqAV : AV → AV → Bool
  | .agg l => fun y => match y with | .agg m => eqAVs l m | _ => false
  | .tup l => fun y => match y with | .tup m => eqAVs l m | _ => false
  | x => eqAV0 x

/-- an operation's place in the run in the text's order: what is known then, what comes of it -/
structure It where
  o : Oper
  b : Nat
  fr : Fr
  wt : Bool
  kd : Nat
  x : AV
  hb : Hp
  h : Hp
  h2 : Hp
def isSlV : Option AV → Bool
  | some (.sl ..) => true
  | _ => false
/-- it does not look at the heap -/
def freeO (fr : Fr) (o : Oper) : Bool := match o.op with
  | .move _ => true
  | .assign _ => true
  | .pick .. => true
  | .build .. => true
  | .nilCheck _ => true
  | .binOp .. => true
  | .unOp .. => true
  | .sliceToArrayPointer .. => true
  | .makeFunc .. => true
  | .fieldAddr .. => true
  | .field .. => true
  | .indexAddr .. => true
  | .extract .. => true
  | .index .. => true
  | .convert _ _ x => !(isStrV (evalA x fr)) && !(isSlV (evalA x fr))
  | _ => false
def stepA (Q : Tab) (cf : CallF) (ops : Array Oper) (b m : Nat) (o : Oper) (fr : Fr) (hb h : Hp) : Option It := match wantA ops fr o with
  | none => none
  | some false => some ⟨o, b, fr, false, 0, unit, hb, h, h⟩
  | some true => match quietO fr o with
    | true => match opA Q cf fr o hb with
      | some (x, _) => x.seq fun x => match nbA h.nx x with
        | true => some ⟨o, b, fr, true, 0, x, hb, h, h⟩
        | false => none
      | none => none
    | false => match birthK o.op with
      | true => match opA Q cf fr o h with
        | some (x, h') => x.seq fun x => match nbA h'.nx x with
          | true => some ⟨o, b, fr, true, 1, x, hb, h, h'⟩
          | false => none
        | none => none
      | false => match Nat.beq (m &&& b) m with
        | true => match opA Q cf fr o h with
          | some (x, h') => x.seq fun x => match nbA h'.nx x && Nat.ble h.nx h'.nx with
            | true => some ⟨o, b, fr, true, 2, x, hb, h, h'⟩
            | false => none
          | none => none
        | false => none
def nextM (kd i m : Nat) : Nat := match kd with
  | 0 => m
  | _ + 1 => m ||| 2 ^ i
def nextHb (kd : Nat) (hb h2 : Hp) : Hp := match kd with
  | 0 => hb
  | 1 => hb
  | _ + 2 => h2
def drGo (Q : Tab) (cf : CallF) (nt : Nat) (ops : Array Oper) (bs : T Nat) : List Oper → Nat → Nat → Fr → Hp → Hp → Option (St × List It)
  | [], _, _, fr, _, h => some (⟨fr, h⟩, [])
  | o :: r, i, m, fr, hb, h => match bs.get i with
    | some b => match stepA Q cf ops b m o fr hb h with
      | some it => match putA nt fr it.x o.dst with
        | some fr' => natF (nextM it.kd i m) fun m' => natF (i + 1) fun j => match drGo Q cf nt ops bs r j m' fr' (nextHb it.kd hb it.h2) it.h2 with
          | some (s, l) => some (s, it :: l)
          | none => none
        | none => none
      | none => none
    | none => none
def effs : List It → Nat → List (Nat × It)
  | [], _ => []
  | it :: r, i => match Nat.beq it.kd 2 with
    | true => (i, it) :: effs r (i + 1)
    | false => effs r (i + 1)
def prevHas (iq : Nat) : Option (Nat × Nat) → Bool
  | some (_, b) => Nat.testBit b iq
  | none => false
def nextIn (b : Nat) : Option Nat → Bool
  | some e => Nat.testBit b e
  | none => false
def aheadOf (iq : Nat) : Option (Nat × Nat) → Bool
  | some (e, _) => Nat.blt e iq
  | none => true
def behindOf (iq : Nat) : Option Nat → Bool
  | some e => Nat.blt iq e
  | none => true
def sameAt (Q : Tab) (cf : CallF) (q : It) (H : Hp) : Bool := match opA Q cf q.fr q.o H with
  | some (x, _) => eqAV x q.x
  | none => false
def oneOk (Q : Tab) (cf : CallF) (q : It) (iq : Nat) (pb : Option (Nat × Nat)) (H : Hp) (nx : Option Nat) : Bool :=
  match prevHas iq pb || nextIn q.b nx || (aheadOf iq pb && behindOf iq nx) with
  | true => true
  | false => sameAt Q cf q H
def phOk (Q : Tab) (cf : CallF) (q : It) (iq : Nat) : Option (Nat × Nat) → Hp → List (Nat × It) → Bool
  | pb, H, [] => oneOk Q cf q iq pb H none
  | pb, H, (e, it) :: r => match oneOk Q cf q iq pb H (some e) with
    | true => phOk Q cf q iq (some (e, it.b)) it.h2 r
    | false => false
def lookK (q : It) : Bool := Nat.beq q.kd 0 && q.wt && !(freeO q.fr q.o)
def chkAll (Q : Tab) (cf : CallF) (h0 : Hp) (es : List (Nat × It)) : List It → Nat → Bool
  | [], _ => true
  | q :: r, i => match lookK q with
    | true => match phOk Q cf q i none h0 es with
      | true => chkAll Q cf h0 es r (i + 1)
      | false => false
    | false => chkAll Q cf h0 es r (i + 1)
def drA (Q : Tab) (cf : CallF) : Draw := fun nt ops fr h => match statA ops with
  | some bs => match drGo Q cf nt ops bs ops.toList 0 0 fr h h with
    | some (s, tr) => match chkAll Q cf h (effs tr 0) tr 0 with
      | true => some s
      | false => none
    | none => none
  | none => none

inductive Out where
  | normal | exit (id : Nat) | ret
abbrev CR := Option (Out × St)
def asNormal : Option St → CR
  | some s => some (.normal, s)
  | none => none
def thenA (f : Fr → Hp → CR) : CR → CR
  | some (.normal, ⟨fr, h⟩) => f fr h
  | r => r
def inBlockA (id : Nat) : CR → CR
  | some (.exit id', s) => match Nat.beq id' id with | true => some (.normal, s) | false => some (.exit id', s)
  | r => r
def condA (a b : CR) : Option AV → CR
  | some (.b x) => match x with | true => a | false => b
  | _ => none
def codeA (Q : Tab) (cf : CallF) (dr : CallF → Draw) (nt : Nat) : Nat → Code → Fr → Hp → CR
  | 0, _, _, _ => none
  | n + 1, c, fr, h =>
    match c with
    | .skip => some (.normal, ⟨fr, h⟩)
    | .region _ ops draw => match draw with
      | false => asNormal (listA Q cf nt ops ops.toList fr h)
      | true => asNormal (dr cf nt ops fr h)
    | .seq a b => thenA (codeA Q cf dr nt n b) (codeA Q cf dr nt n a fr h)
    | .cond x a b => condA (codeA Q cf dr nt n a fr h) (codeA Q cf dr nt n b fr h) (evalA x fr)
    | .block id b => inBlockA id (codeA Q cf dr nt n b fr h)
    | .loop b => thenA (codeA Q cf dr nt n (.loop b)) (codeA Q cf dr nt n b fr h)
    | .exit id => some (.exit id, ⟨fr, h⟩)
    | .ret => some (.ret, ⟨fr, h⟩)
    | _ => none

def resA (Q : Tab) (fr : Fr) (h : Hp) : List ResultVar → Option (List AV)
  | [] => some []
  | .tmp t :: r => match fr.get t with | some v => (match resA Q fr h r with | some l => some (v :: l) | none => none) | none => none
  | .cell a t :: r => match fr.get a with
    | some (.ptr b o) => match loadA Q h t b o with | some v => (match resA Q fr h r with | some l => some (v :: l) | none => none) | none => none
    | _ => none
def argsA : List AV → Nat → Fr → Option Fr
  | [], _, fr => some fr
  | x :: r, i, fr => x.seq fun x => match fr.put i x with | some fr' => natF (i + 1) fun j => argsA r j fr' | none => none
def undefsA : Nat → Nat → Fr → Option Fr
  | 0, _, fr => some fr
  | n + 1, i, fr => match fr.put i unit with | some fr' => natF (i + 1) fun j => undefsA n j fr' | none => none
def resOne (h : Hp) : Option (List AV) → R2
  | some [x] => some (x, h)
  | some l => some (mkTup l, h)
  | none => none
def endA (Q : Tab) (fn : Func) : CR → R2
  | some (.normal, ⟨fr, h⟩) => resOne h (resA Q fr h fn.results.toList)
  | some (.ret, ⟨fr, h⟩) => resOne h (resA Q fr h fn.results.toList)
  | _ => none
def beginA (nt : Nat) (args : List AV) : Option Fr := match Nat.ble args.length nt with
  | true => match argsA args 0 .leaf with
    | some fr => undefsA (nt - args.length) args.length fr
    | none => none
  | false => none
def callFn (Q : Tab) (cf : CallF) (dr : CallF → Draw) (fuel : Nat) (f : FuncId) (args : List AV) (h : Hp) : R2 :=
  match Q.fn f with
  | none => none
  | some fn => match fn.body with
    | none => none
    | some c => match beginA fn.ntmps args with
      | none => none
      | some fr => endA Q fn (codeA Q cf dr fn.ntmps fuel c fr h)
def callN (Q : Tab) (dr : CallF → Draw) (special : FuncId → Option (List AV → Hp → R2)) (fuel : Nat) : Nat → CallF
  | 0 => fun _ _ _ => none
  | n + 1 => fun f args h => match special f with
    | some g => g args h
    | none => callFn Q (callN Q dr special fuel n) dr fuel f args h
/-! ### the mixing, in numbers -/
def rotl (x n : Nat) : Nat := (x * 2 ^ n % 4294967296) ||| (x / 2 ^ (32 - n))
def qstep (a b d by_ : Nat) : Nat × Nat := let a' := (a + b) % 4294967296; (a', rotl (d ^^^ a') by_)
def quarter (a b c d : Nat) : Nat × Nat × Nat × Nat :=
  let (a, d) := qstep a b d 16
  let (c, b) := qstep c d b 12
  let (a, d) := qstep a b d 8
  let (c, b) := qstep c d b 7
  (a, b, c, d)
def qat (s : List Nat) (a b c d : Nat) : List Nat :=
  let (x, y, z, t) := quarter (s.getD a 0) (s.getD b 0) (s.getD c 0) (s.getD d 0)
  (((s.set a x).set b y).set c z).set d t
def roundF (s : List Nat) (k : Nat) : List Nat := (List.range 4).foldl (fun s i => qat s i (4 + (i + k) % 4) (8 + (i + 2 * k) % 4) (12 + (i + 3 * k) % 4)) s
def roundsF : Nat → List Nat → List Nat
  | 0, s => s
  | n + 1, s => roundF (roundsF n s) (n % 2)
def natsOf : List Value → Option (List Nat)
  | [] => some []
  | .int .u32 n :: r => (natsOf r).map (n.toNat :: ·)
  | _ => none
def bytesOf : List Value → Option (List Nat)
  | [] => some []
  | .int .u8 n :: r => (bytesOf r).map (n.toNat :: ·)
  | _ => none
def roundsA : List AV → Hp → Option (AV × Hp)
  | [.v (.agg cs), .i .i64 (.ofNat 6)], h => match natsOf cs.toList with
    | some l => if l.length = 16 then some (.v (.tuple #[.agg ((roundsF 6 l).map fun (n : Nat) => Value.int .u32 (n : Int)).toArray, .int .i64 0]), h) else none
    | none => none
  | _, _ => none
def of32A : List AV → Hp → Option (AV × Hp)
  | [.v (.agg cs)], h => match bytesOf cs.toList with
    | some [a, b, c, d] => some (.i .u32 (.ofNat (a + 256 * b + 65536 * c + 16777216 * d)), h)
    | _ => none
  | _, _ => none
/-! ### the digest, in numbers -/
def wordsOf : List Nat → List Nat
  | a :: b :: c :: d :: r => (a + 256 * b + 65536 * c + 16777216 * d) :: wordsOf r
  | _ => []
def pieceF (h : List Nat) (b : List Nat) : List Nat :=
  let s := roundsF 6 (h ++ wordsOf b)
  (List.range 8).map fun i => (h.getD i 0) ^^^ ((s.getD i 0) ^^^ (s.getD (i + 8) 0))
def piecesF : Nat → List Nat → List Nat → List Nat
  | 0, h, _ => h
  | n + 1, h, b => if b.length < 32 then h else piecesF n (pieceF h (b.take 32)) (b.drop 32)
def newF (tag : Nat) : List Nat := (List.range 8).map fun i => (2654435769 * (i + 1) % 4294967296) ^^^ (tag * 16777216 % 4294967296)
def low4 (w : Nat) : List Nat := [w % 256, w / 256 % 256, w / 65536 % 256, w / 16777216 % 256]
def padF (n : Nat) : List Nat := 128 :: List.replicate ((32 - (n + 9) % 32) % 32) 0 ++ low4 n ++ [0, 0, 0, 0]
def digestF (tag : Nat) (s : List Nat) : List Nat := ((piecesF (s.length / 32 + 2) (newF tag) (s ++ padF s.length)).map low4).flatten
def natBytes : List UInt8 → List Nat
  | [] => []
  | u :: r => u.toNat :: natBytes r
def digestA : List AV → Hp → Option (AV × Hp)
  | [.i .u8 (.ofNat tag), .v (.string s)], h => some (.v (.agg ((digestF tag (natBytes s.data.toList)).map fun (n : Nat) => Value.int .u8 (n : Int)).toArray), h)
  | _, _ => none
end
end Go.Eng
