/- The verification conditions of a translated function as one Lean function over its code: 'vc'; what it asks is enough for 'Calls' (proved in VcSound). Conditions: none. -/
import Derived.Tactics
import Derived.StillTail
import Derived.Deep.Quiet
import Derived.Laws.World
import Derived.Below
namespace Go.Vc
open Go

/-- A slice's header. -/
structure SV where
  a : Option Addr
  len : Nat
  cap : Nat
@[reducible] def SV.v (s : SV) : Value := .slice s.a s.len s.cap

inductive Sh where
  | int (k : IntKind) | bool | str | slice | ptr | map | raw
@[reducible] def Sh.T : Sh → Type
  | .int _ => Int | .bool => Bool | .str => ByteArray | .slice => SV | .ptr => Option Addr | .map => Option Nat | .raw => Value
@[reducible] def Sh.enc : (s : Sh) → s.T → Value
  | .int k, x => .int k x | .bool, x => .bool x | .str, x => .string x | .slice, x => .slice x.a x.len x.cap | .ptr, x => .pointer x | .map, x => .map x | .raw, x => x
@[reducible] def Shs : List Sh → Type
  | [] => Unit
  | s :: r => match r with
    | [] => s.T
    | _ :: _ => s.T × Shs r
@[reducible] def encs : (l : List Sh) → Shs l → List Value
  | [], _ => []
  | [s], x => [s.enc x]
  | s :: t :: r, x => s.enc x.1 :: encs (t :: r) x.2

inductive Ty where
  | one (s : Sh) | agg (l : List Sh) | big (n : Nat)
@[reducible] def Ty.T : Ty → Type
  | .one s => s.T | .agg l => Shs l | .big _ => Array Value
@[reducible] def Ty.enc : (t : Ty) → t.T → Value
  | .one s, x => s.enc x | .agg l, x => .agg (encs l x).toArray | .big _, x => .agg x
@[reducible] def Tys : List Ty → Type
  | [] => Unit
  | s :: r => match r with
    | [] => s.T
    | _ :: _ => s.T × Tys r
@[reducible] def encTys : (l : List Ty) → Tys l → List Value
  | [], _ => []
  | [s], x => [s.enc x]
  | s :: t :: r, x => s.enc x.1 :: encTys (t :: r) x.2
/-- A function's results as one value. -/
@[reducible] def encR : (l : List Ty) → Tys l → Value
  | [], _ => .tuple #[]
  | [s], x => s.enc x
  | s :: t :: r, x => .tuple (encTys (s :: t :: r) x).toArray

def ikEq : IntKind → IntKind → Bool
  | .i8, .i8 | .i16, .i16 | .i32, .i32 | .i64, .i64 | .u8, .u8 | .u16, .u16 | .u32, .u32 | .u64, .u64 => true
  | _, _ => false

/-- Of two ways the one that a Bool says. -/
def cnd (b : Bool) (x y : Prop) : Prop := match b with | true => x | false => y
/-- Behind a pointer that is not nil. -/
def onP (p : Option Addr) (k : Addr → Prop) : Prop := match p with | some a => k a | none => False

def Sh.dec : (s : Sh) → Value → (s.T → Prop) → Prop
  | .int k, v, K => match v with | .int k' n => (match ikEq k' k with | true => K n | false => False) | _ => False
  | .bool, v, K => match v with | .bool b => K b | _ => False
  | .str, v, K => match v with | .string b => K b | _ => False
  | .slice, v, K => match v with | .slice a n c => K ⟨a, n, c⟩ | _ => False
  | .ptr, v, K => match v with | .pointer a => K a | _ => False
  | .map, v, K => match v with | .map a => K a | _ => False
  | .raw, v, K => K v
def decs : (l : List Sh) → List Value → (Shs l → Prop) → Prop
  | [], [], K => K ()
  | [s], [v], K => s.dec v K
  | s :: t :: r, v :: vs, K => s.dec v fun x => decs (t :: r) vs fun y => K (x, y)
  | _, _, _ => False
def Ty.dec : (t : Ty) → Value → (t.T → Prop) → Prop
  | .one s, v, K => s.dec v K
  | .agg l, v, K => match v with | .agg cs => decs l cs.toList K | _ => False
  | .big n, v, K => match v with | .agg cs => cs.size = n ∧ K cs | _ => False
def decTys : (l : List Ty) → List Value → (Tys l → Prop) → Prop
  | [], [], K => K ()
  | [s], [v], K => s.dec v K
  | s :: t :: r, v :: vs, K => s.dec v fun x => decTys (t :: r) vs fun y => K (x, y)
  | _, _, _ => False

/-- A frame: what was last put into a slot stands first. -/
abbrev Fr := List (Nat × Value)
def lget : Fr → Nat → Value
  | [], _ => undef
  | (j, v) :: r, i => (match Nat.beq j i with | true => v | false => lget r i)
def lset (fr : Fr) (i : Nat) (v : Value) : Fr := (i, v) :: fr
def initF : List Value → Nat → Fr
  | [], _ => []
  | v :: r, i => (i, v) :: initF r (i + 1)
/-- A list's element exchanged. -/
def setL : List Value → Nat → Value → List Value
  | [], _, _ => []
  | _ :: r, 0, v => v :: r
  | x :: r, n + 1, v => x :: setL r n v
def lput (fr : Fr) (d : Option Tmp) (v : Value) : Fr := match d with | some i => lset fr i v | none => fr
def ev (fr : Fr) : Operand → Value
  | .tmp t => lget fr t
  | .const v => v
  | .global g => .pointer (some ⟨g, 0, none⟩)
  | .func f => .func (.func f) #[] #[]

/-! ### types -/
def szOf (P : Program) (t : TypeId) : Option Nat := match P.info? t with | some i => some i.size | none => none
def szV (P : Program) (t : TypeId) (k : Nat → Prop) : Prop := match szOf P t with | some n => k n | none => False
def shOf (P : Program) (t : TypeId) : Sh :=
  match P.underlying t with
  | some .bool => .bool | some (.int k) => .int k | some .string => .str | some (.slice _) => .slice
  | some (.pointer _) => .ptr | some (.map _ _) => .map | _ => .raw
def flat (P : Program) : Nat → TypeId → List Sh
  | 0, _ => [.raw]
  | d + 1, t =>
    match P.underlying t with
    | some (.struct fs) => fs.toList.flatMap fun f => flat P d f.type
    | some (.array n e) => (List.replicate n (flat P d e)).flatten
    | _ => [shOf P t]
def tyOf (P : Program) (t : TypeId) : Ty :=
  match P.underlying t with
  | some (.struct _) | some (.array _ _) => (match Nat.ble (P.cellsOf t) 16 with | true => .agg (flat P 20 t) | false => .big (P.cellsOf t))
  | _ => .one (shOf P t)
/-- The types of what a call gives. -/
def rtOf (P : Program) (t : TypeId) : List Ty :=
  match P.underlying t with
  | some (.tuple ts) => ts.toList.map (tyOf P)
  | _ => [tyOf P t]

/-! ### memory -/
/-- These cells stand from an address on. -/
def cellsAt (w : World) (A : Addr) (vs : List Value) : Prop := ∀ j v, vs[j]? = some v → w.cell? (A.add j) = some v
def ldV (w : World) (A : Addr) : (t : Ty) → (t.T → Prop) → Prop
  | .one s, K => ∃ x : s.T, w.cell? A = some (s.enc x) ∧ K x
  | .agg l, K => ∃ x : Shs l, cellsAt w A (encs l x) ∧ K x
  | .big n, K => ∃ cs : Array Value, cs.size = n ∧ (∀ i, i < n → w.cell? (A.add i) = cs[i]?) ∧ K cs
/-- Is a type's shape what the table says of it? -/
def ldOk (P : Program) (t : TypeId) : Bool :=
  match P.underlying t, szOf P t, tyOf P t with
  | some _, some n, .one _ => Nat.beq n 1
  | some _, some n, .agg l => Nat.beq n l.length
  | some _, some n, .big m => Nat.beq n m
  | _, _, _ => false
/-- A value of one cell. -/
def oneV (v : Value) (K : Prop) : Prop := match v with | .agg _ => False | .tuple _ => False | _ => K
def allOne : List Value → Prop → Prop
  | [], K => K
  | v :: r, K => oneV v (allOne r K)
/-- Some cells in a row may be written. -/
def canSt (w : World) (A : Addr) (n : Nat) : Prop := ∀ i, i < n → (w.cell? (A.add i)).isSome = true ∧ w.frozen? (A.add i) = false
def setCells (w : World) (A : Addr) : Nat → List Value → World
  | _, [] => w
  | i, v :: vs => setCells (w.setCell (A.add i) v) A (i + 1) vs
def stV (P : Program) (w : World) (A : Addr) (t : TypeId) (v : Value) (K : World → Prop) : Prop :=
  match ldOk P t with
  | false => False
  | true => (match tyOf P t with
    | .one _ => oneV v ((w.cell? A).isSome = true ∧ w.frozen? A = false ∧ K (w.setCell A v))
    | .agg l => (match v with
      | .agg cs => (match Nat.beq cs.toList.length l.length with | true => allOne cs.toList (canSt w A cs.toList.length ∧ K (setCells w A 0 cs.toList)) | false => False)
      | _ => False)
    | .big n => (match v with
      | .agg cs => cs.toList.length = n ∧ (∀ v ∈ cs.toList, oneV v True) ∧ canSt w A cs.toList.length ∧ K (setCells w A 0 cs.toList)
      | _ => False))

/-- A call that returns, its results decoded. -/
def enterable (P : Program) (f : FuncId) : Prop := ∃ fn c, P.funcs[f]? = some fn ∧ fn.body = some c ∧ (fn.name == "runtime.NumGoroutine") = false
structure CallT (rt : List Ty) (P : Program) (f : FuncId) (args : List Value) (w : World) (R : Tys rt → World → Prop) : Prop where
  enter : enterable P f
  calls : Calls P f args.toArray w fun e w' => ∃ x, e = .returned (encR rt x) ∧ R x w'

/-- An operation that is not looked into: as the model runs it. -/
def runV (P : Program) (s : Sem Value) (w : World) (t : Ty) (K : t.T → World → Prop) : Prop :=
  ∃ x w', s.run P w = .ok (t.enc x) w' ∧ K x w'

/-! ### operations that turn nothing -/
def constInt? : Operand → Option Nat
  | .const (.int _ (.ofNat n)) => some n
  | _ => none
def shl (k : IntKind) (a b : Int) : Int := k.wrap (a * 2 ^ (min b.toNat k.bits))
def shr (k : IntKind) (a b : Int) : Int := a.fdiv (2 ^ (min b.toNat k.bits))
def band (k : IntKind) (a b : Int) : Int := k.wrap (BitVec.ofInt k.bits a &&& BitVec.ofInt k.bits b).toNat
def bor (k : IntKind) (a b : Int) : Int := k.wrap (BitVec.ofInt k.bits a ||| BitVec.ofInt k.bits b).toNat
def bxor (k : IntKind) (a b : Int) : Int := k.wrap (BitVec.ofInt k.bits a ^^^ BitVec.ofInt k.bits b).toNat
def bclr (k : IntKind) (a b : Int) : Int := k.wrap (BitVec.ofInt k.bits a &&& ~~~ BitVec.ofInt k.bits b).toNat
def nonneg (o : Operand) (b : Int) (p : Prop) : Prop := match constInt? o with | some _ => p | none => 0 ≤ b ∧ p
def nonzero (o : Operand) (b : Int) (p : Prop) : Prop := match constInt? o with | some (_ + 1) => p | _ => b ≠ 0 ∧ p

def optEq (a b : Option Addr) : Option Bool := match b with | none => some a.isNone | some _ => (match a with | none => some false | some _ => none)
def andO (a : Option Bool) (b : Option Bool) : Option Bool := match a, b with | some x, some y => some (x && y) | _, _ => none
/-- A part of a struct or an array, of a type. -/
def partO (P : Program) (t : TypeId) (cs : List Value) (off : Nat) : Option Value :=
  match P.underlying t with
  | some (.struct _) | some (.array _ _) => (match szOf P t with | some n => (match Nat.ble (off + n) cs.length with | true => some (.agg ((cs.drop off).take n).toArray) | false => none) | none => none)
  | some _ => cs[off]?
  | none => none
def eqP (P : Program) : Nat → TypeId → Value → Value → Option Bool
  | 0, _, _, _ => none
  | d + 1, t, x, y =>
    match P.underlying t with
    | some .bool => (match x, y with | .bool a, .bool b => some (a == b) | _, _ => none)
    | some (.int _) => (match x, y with | .int k a, .int k' b => (match ikEq k k' with | true => some (a == b) | false => none) | _, _ => none)
    | some .string => (match x, y with | .string a, .string b => some (a == b) | _, _ => none)
    | some (.pointer _) => (match x, y with | .pointer a, .pointer b => optEq a b | _, _ => none)
    | some (.slice _) => (match x, y with | .slice a _ _, .slice b _ _ => optEq a b | _, _ => none)
    | some (.map _ _) => (match x, y with | .map a, .map b => (match b with | none => some a.isNone | some _ => none) | _, _ => none)
    | some (.func _ _ _) => (match x, y with | .func _ _ _, .nilFunc => some false | .nilFunc, .nilFunc => some true | _, _ => none)
    | some (.struct fs) => (match x, y with
      | .agg xs, .agg ys => (match P.stoodInHeld t with
        | true => none
        | false => fs.toList.foldr (fun f acc => (match (f.name == "_") with
          | true => acc
          | false => (match partO P f.type xs.toList f.offset, partO P f.type ys.toList f.offset with
            | some u, some v => andO (eqP P d f.type u v) acc
            | _, _ => none))) (some true))
      | _, _ => none)
    | some (.array n e) => (match x, y with
      | .agg xs, .agg ys => (match szOf P e with
        | some z => (List.range n).foldr (fun i acc => (match partO P e xs.toList (i * z), partO P e ys.toList (i * z) with
            | some u, some v => andO (eqP P d e u v) acc
            | _, _ => none)) (some true)
        | none => none)
      | _, _ => none)
    | _ => none
def eqGd (P : Program) (t : TypeId) : Bool := P.eqGuardType P.depth t
def eqV (P : Program) (t : TypeId) (x y : Value) (K : Bool → Prop) : Prop :=
  match eqGd P t with
  | true => False
  | false => (match eqP P 20 t x y with | some b => K b | none => False)

def binV (P : Program) (op : BinOp) (t : TypeId) (oy : Operand) (x y : Value) (K : Value → Prop) : Prop :=
  match x, y with
  | .int k a, .int k' b =>
    (match op with
    | .shl => nonneg oy b (K (.int k (shl k a b)))
    | .shr => nonneg oy b (K (.int k (shr k a b)))
    | _ => (match ikEq k k' with
      | false => False
      | true => (match op with
        | .add => K (.int k (k.wrap (a + b)))
        | .sub => K (.int k (k.wrap (a - b)))
        | .mul => K (.int k (k.wrap (a * b)))
        | .quo => nonzero oy b (K (.int k (k.wrap (a.tdiv b))))
        | .rem => nonzero oy b (K (.int k (a.tmod b)))
        | .and => K (.int k (band k a b))
        | .or => K (.int k (bor k a b))
        | .xor => K (.int k (bxor k a b))
        | .andNot => K (.int k (bclr k a b))
        | .eql => K (.bool (a == b))
        | .neq => K (.bool (a != b))
        | .lss => K (.bool (decide (a < b)))
        | .leq => K (.bool (decide (a ≤ b)))
        | .gtr => K (.bool (decide (a > b)))
        | .geq => K (.bool (decide (a ≥ b)))
        | _ => False)))
  | .string a, .string b =>
    (match op with
    | .eql => K (.bool (a.toList == b.toList))
    | .neq => K (.bool (!(a.toList == b.toList)))
    | .lss => K (.bool (Op.bytesLess a.toList b.toList))
    | .leq => K (.bool (Op.bytesLess a.toList b.toList || a.toList == b.toList))
    | .gtr => K (.bool (!(Op.bytesLess a.toList b.toList || a.toList == b.toList)))
    | .geq => K (.bool (!Op.bytesLess a.toList b.toList))
    | _ => False)
  | _, _ => (match op with
    | .eql => eqV P t x y fun b => K (.bool b)
    | .neq => eqV P t x y fun b => K (.bool (!b))
    | _ => False)

def unV (op : UnOp) (x : Value) (K : Value → Prop) : Prop :=
  match op, x with
  | .neg, .int k n => K (.int k (k.wrap (0 - n)))
  | .xor, .int k n => K (.int k (bxor k (if k.signed then -1 else k.max) n))
  | .not, .bool b => K (.bool !b)
  | _, _ => False

def cvV (P : Program) (src dst : TypeId) (x : Value) (w : World) (K : Value → Prop) : Prop :=
  match P.underlying src, P.underlying dst, x with
  | some _, some (.int k), .int _ n => K (.int k (k.wrap n))
  | some (.slice e), some .string, .slice a n _ =>
    (match P.underlying e with
    | some (.int .u8) => ∃ bs : List UInt8, bs.length = n ∧ (∀ A, a = some A → ∀ i, i < n → w.cell? (A.add i) = some (.int .u8 (bs.getD i 0).toNat)) ∧ (a = none → bs = []) ∧ K (.string ⟨bs.toArray⟩)
    | _ => False)
  | _, _, _ => False

/-- The address at which a slice of a slice begins. -/
def subA (a : Option Addr) (l size m : Nat) : Option Addr := if m = l then a else a.map (·.add (l * size))
def bndV (o : Option Value) (d hi : Nat) (K : Nat → Prop) : Prop :=
  match o with
  | none => K d
  | some v => (match v with | .int _ i => 0 ≤ i ∧ i ≤ (hi : Int) ∧ K i.toNat | _ => False)
def sliceV (P : Program) (t : TypeId) (x : Value) (lo hi mx : Option Value) (K : Value → Prop) : Prop :=
  match P.underlying t, x with
  | some (.slice e), .slice a n c =>
    szV P e fun z => bndV mx c c fun m => bndV hi n m fun h => bndV lo 0 h fun l => K (.slice (subA a l z m) (h - l) (m - l))
  | some (.array n e), .pointer p =>
    szV P e fun z => onP p fun a => bndV mx n n fun m => bndV hi n m fun h => bndV lo 0 h fun l => K (.slice (subA (some a) l z m) (h - l) (m - l))
  | some .string, .string s =>
    (match mx with
    | none => bndV hi s.size s.size fun h => bndV lo 0 h fun l => K (.string (s.extract l h))
    | some _ => False)
  | _, _ => False
def idxAddrV (P : Program) (t : TypeId) (x i : Value) (K : Value → Prop) : Prop :=
  match i with
  | .int _ i =>
    (match P.underlying t, x with
    | some (.slice e), .slice a n _ => szV P e fun z => 0 ≤ i ∧ i < (n : Int) ∧ onP a fun A => K (.pointer (some (A.add (i.toNat * z))))
    | some (.array n e), .pointer p => szV P e fun z => onP p fun A => 0 ≤ i ∧ i < (n : Int) ∧ K (.pointer (some (A.add (i.toNat * z))))
    | _, _ => False)
  | _ => False
def idxV (P : Program) (t : TypeId) (x i : Value) (K : Value → Prop) : Prop :=
  match i with
  | .int _ i =>
    (match P.underlying t, x with
    | some (.array n e), .agg cs => szV P e fun z => 0 ≤ i ∧ i < (n : Int) ∧ ∃ x, partO P e cs.toList (i.toNat * z) = some ((tyOf P e).enc x) ∧ K ((tyOf P e).enc x)
    | some .string, .string s => ∃ b : UInt8, 0 ≤ i ∧ s[i.toNat]? = some b ∧ K (.int .u8 b.toNat)
    | _, _ => False)
  | _ => False
def fieldV (P : Program) (t : TypeId) (x : Value) (i : Nat) (K : Value → Prop) : Prop :=
  match P.underlying t, x with
  | some (.struct fs), .agg cs => (match fs.toList[i]? with
    | some f => (match partO P f.type cs.toList f.offset with | some v => K v | none => False)
    | none => False)
  | _, _ => False
def fieldAddrV (P : Program) (t : TypeId) (x : Value) (i : Nat) (K : Value → Prop) : Prop :=
  match P.underlying t, x with
  | some (.struct fs), .pointer p => onP p fun A => (match fs.toList[i]? with
    | some f => (match szOf P f.type with | some (_ + 1) => K (.pointer (some (A.add f.offset))) | _ => False)
    | none => False)
  | _, _ => False

/-- A slice as a pointer to an array. -/
def arrAtV (P : Program) (t : TypeId) (x : Value) (K : Value → Prop) : Prop :=
  match P.underlying t, x with
  | some (.array n _), .slice a len _ => n ≤ len ∧ K (.pointer a)
  | _, _ => False

def spliceL (cs : List Value) : Nat → List Value → List Value
  | _, [] => cs
  | i, v :: vs => spliceL (setL cs i v) (i + 1) vs
/-- What 'Instr.fill' makes, over lists. -/
def fillL (place : Nat → Option (Nat × Nat)) (cells : List Value) : List (Nat × Value) → Option (List Value)
  | [] => some cells
  | (i, v) :: rest =>
    match place i with
    | none => none
    | some (off, size) =>
      (match Nat.beq v.cells.toList.length size && Nat.ble (off + size) cells.length with
      | true => fillL place (spliceL cells off v.cells.toList) rest
      | false => none)
def zeroL (P : Program) (t : TypeId) : Option (List Value) := match (P.info? t) with | some i => (match i.zero with | some z => some z.cells.toList | none => none) | none => none
def placesL (P : Program) : List Field → Option (List (Nat × Nat))
  | [] => some []
  | f :: r => (match szOf P f.type, placesL P r with | some n, some l => some ((f.offset, n) :: l) | _, _ => none)
/-- A new variable's cells. -/
def zc (P : Program) (t : TypeId) : List Value := match zeroL P t with | some z => z | none => []
/-- A list's part exchanged. -/
def splL (c : List Value) (o : Nat) (vs : List Value) : List Value := c.take o ++ vs ++ c.drop (o + vs.length)
/-- What 'Instr.fill' makes, of great parts. -/
def fillP (place : Nat → Option (Nat × Nat)) : List (Nat × Value) → List Value → (List Value → Prop) → Prop
  | [], cells, K => K cells
  | (i, v) :: rest, cells, K =>
    match place i with
    | none => False
    | some (off, size) => v.cells.toList.length = size ∧ off + size ≤ cells.length ∧ fillP place rest (splL cells off v.cells.toList) K
def buildV (P : Program) (t : TypeId) (parts : List (Nat × Value)) (K : Value → Prop) : Prop :=
  match P.underlying t, zeroL P t with
  | some (.struct fs), some z => (match placesL P fs.toList with
    | some ps => (match Nat.ble (P.cellsOf t) 16 with
      | true => (match fillL (fun i => ps[i]?) z parts with | some cs => K (.agg cs.toArray) | none => False)
      | false => fillP (fun i => ps[i]?) parts (zc P t) fun cs => K (.agg cs.toArray))
    | none => False)
  | some (.array _ e), some z => szV P e fun n => (match Nat.ble (P.cellsOf t) 16 with
    | true => (match fillL (fun i => some (i * n, n)) z parts with | some cs => K (.agg cs.toArray) | none => False)
    | false => fillP (fun i => some (i * n, n)) parts (zc P t) fun cs => K (.agg cs.toArray))
  | _, _ => False

def lenV (P : Program) (t : TypeId) (x : Value) (w : World) (K : Value → Prop) : Prop :=
  match P.underlying t with
  | some .string => (match x with | .string s => K (.int .i64 s.size) | _ => False)
  | some (.array n _) => K (.int .i64 n)
  | some (.pointer e) => (match P.underlying e with | some (.array n _) => K (.int .i64 n) | _ => False)
  | some (.slice _) => (match x with | .slice _ n _ => K (.int .i64 n) | _ => False)
  | some (.map _ _) => (match x with | .map r => (match r with | none => K (.int .i64 0) | some r => ∃ es c, w.heap[r]? = some (.map es c) ∧ K (.int .i64 es.size)) | _ => False)
  | _ => False
def capV (P : Program) (t : TypeId) (x : Value) (K : Value → Prop) : Prop :=
  match P.underlying t with
  | some (.slice _) => (match x with | .slice _ _ c => K (.int .i64 c) | _ => False)
  | _ => False
def mnV (mx : Bool) (vs : List Value) (K : Value → Prop) : Prop :=
  match vs with
  | .int k a :: rest => go k a rest
  | _ => False
where go (k : IntKind) (a : Int) : List Value → Prop
  | [] => K (.int k a)
  | .int k' b :: rest => (match ikEq k k' with | true => go k (match mx with | true => max a b | false => min a b) rest | false => False)
  | _ :: _ => False

def nilV (v : Value) (K : Value → Prop) : Prop :=
  match v with
  | .pointer p => onP p fun a => K (.pointer (some a))
  | .func (.func f) l c => K (.func (.func f) l c)
  | _ => False
def opS (P : Program) (ρ : Operand → Value) (o : Oper) (w : World) (K : Value → Prop) : Prop :=
  match o.op with
  | .move x | .assign x => K (ρ x)
  | .pick c a b => (match ρ c with | .bool t => cnd t (K (ρ a)) (K (ρ b)) | _ => False)
  | .load t a => (match ldOk P t with
    | true => (match ρ a with | .pointer p => onP p fun A => ldV w A (tyOf P t) fun x => K ((tyOf P t).enc x) | _ => False)
    | false => False)
  | .nilCheck x => nilV (ρ x) K
  | .binOp op t x y _ => binV P op t y (ρ x) (ρ y) K
  | .unOp op _ x => unV op (ρ x) K
  | .convert s d x => cvV P s d (ρ x) w K
  | .makeFunc fn f c => K (.func fn (f.toList.map ρ).toArray (c.toList.map ρ).toArray)
  | .fieldAddr t x i => fieldAddrV P t (ρ x) i K
  | .field t x i => fieldV P t (ρ x) i K
  | .indexAddr t x i => idxAddrV P t (ρ x) (ρ i) K
  | .index t x i => idxV P t (ρ x) (ρ i) K
  | .sliceToArrayPointer t x => arrAtV P t (ρ x) K
  | .extract t i => (match ρ t with | .tuple vs => (match vs.toList[i]? with | some v => K v | none => False) | _ => False)
  | .build t ps => buildV P t (ps.toList.map fun (i, x) => (i, ρ x)) K
  | .slice t x l h m => (match m, h with
    | some _, none => False
    | _, _ => sliceV P t (ρ x) (l.map ρ) (h.map ρ) (m.map ρ) K)
  | .call c => (match c.callee with
    | .builtin .len => (match c.argTypes.toList, c.args.toList with | [t], [x] => lenV P t (ρ x) w K | _, _ => False)
    | .builtin .cap => (match c.argTypes.toList, c.args.toList with | [t], [x] => capV P t (ρ x) K | _, _ => False)
    | .builtin .max => mnV true (c.args.toList.map ρ) K
    | .builtin .min => mnV false (c.args.toList.map ρ) K
    | _ => False)
  | _ => False

/-- Does an operation turn nothing? -/
def stillOp (P : Program) (o : Oper) : Bool :=
  match o.op with
  | .move _ | .assign _ | .pick .. | .load .. | .nilCheck _ | .binOp .. | .unOp .. | .makeFunc .. | .fieldAddr .. | .field .. | .indexAddr .. | .index .. | .extract .. | .build .. | .slice .. | .sliceToArrayPointer .. => true
  | .convert s d _ => (match P.underlying s, P.underlying d with | some _, some (.int _) => true | some (.slice _), some .string => true | _, _ => false)
  | .call c => (match c.callee with | .builtin .len | .builtin .cap | .builtin .max | .builtin .min => true | _ => false)
  | _ => false

/-! ### operations that turn memory -/
def appV (P : Program) (ts : List TypeId) (t : TypeId) (args : List Value) (w : World) (K : SV → World → Prop) : Prop :=
  runV P (Builtin.append_ ts.toArray t args.toArray) w (.one .slice) K
def cpyV (P : Program) (ts : List TypeId) (t : TypeId) (args : List Value) (w : World) (K : Int → World → Prop) : Prop :=
  runV P (Builtin.copy_ ts.toArray t args.toArray) w (.one (.int .i64)) K
def delV (P : Program) (ts : List TypeId) (t : TypeId) (args : List Value) (w : World) (K : World → Prop) : Prop :=
  ∃ v w', (Builtin.delete_ ts.toArray t args.toArray).run P w = .ok v w' ∧ v = .tuple #[] ∧ K w'
def clrV (P : Program) (ts : List TypeId) (t : TypeId) (args : List Value) (w : World) (K : World → Prop) : Prop :=
  ∃ v w', (Builtin.clear_ ts.toArray t args.toArray).run P w = .ok v w' ∧ v = .tuple #[] ∧ K w'
def mkSV (P : Program) (t : TypeId) (l c : Value) (w : World) (K : SV → World → Prop) : Prop := runV P (Instr.makeSlice t l c) w (.one .slice) K
def mkMV (P : Program) (t : TypeId) (r : Option Value) (w : World) (K : Option Nat → World → Prop) : Prop := runV P (Instr.makeMap t r) w (.one .map) K
def mupV (P : Program) (t : TypeId) (m k v : Value) (w : World) (K : World → Prop) : Prop :=
  ∃ w', (Instr.mapUpdate t m k v).run P w = .ok () w' ∧ K w'
def lkV (P : Program) (t : TypeId) (m k : Value) (ok : Bool) (w : World) (rt : List Ty) (K : Tys rt → World → Prop) : Prop :=
  ∃ x w', (Instr.lookup t m k ok).run P w = .ok (encR rt x) w' ∧ K x w'
def b2bV (P : Program) (t : TypeId) (x : Value) (w : World) (K : SV → World → Prop) : Prop := runV P (convert t t x) w (.one .slice) K
def s2bV (P : Program) (e : TypeId) (s : ByteArray) (w : World) (K : SV → World → Prop) : Prop := runV P (Conv.stringToBytes e s) w (.one .slice) K

def reps : Nat → List Value → List Value
  | 0, _ => []
  | n + 1, z => z ++ reps n z
def repz (n : Nat) (z : List Value) : List Value := reps n z
def bSliceV (P : Program) (t : TypeId) (len : Nat) (parts : List (Nat × Value)) (w : World) (K : SV → World → Prop) : Prop :=
  match P.underlying t with
  | some (.slice e) =>
    szV P e fun n => (match Nat.ble n 16 || Nat.beq len 0 with
    | true => (match (match Nat.beq (len * n) 0 with | true => some [] | false => zeroL P e) with
      | some z => (match Nat.ble (len * n) 16777216 && (Nat.beq (len * n) 0 || Nat.beq z.length n) with
        | true => (match fillL (fun i => some (i * n, n)) (reps len z) parts with
          | some cs => K ⟨some ⟨w.heap.size, 0, none⟩, len, len⟩ (w.alloc (.cells cs.toArray e))
          | none => False)
        | false => False)
      | none => False)
    | false => (match zeroL P e with
      | some z => (match Nat.ble (len * n) 16777216 && (Nat.ble 1 (len * n) && Nat.beq z.length n) with
        | true => fillP (fun i => some (i * n, n)) parts (repz len (zc P e)) fun cs => K ⟨some ⟨w.heap.size, 0, none⟩, len, len⟩ (w.alloc (.cells cs.toArray e))
        | false => False)
      | none => False))
  | _ => False

/-- A call of a function value. -/
def callVal (rt : List Ty) (P : Program) (f : Value) (args : List Value) (w : World) (R : Tys rt → World → Prop) : Prop :=
  match f with
  | .func (.func id) first cap => CallT rt P id (first.toList ++ args ++ cap.toList) w R
  | _ => False
def opV (P : Program) (ρ : Operand → Value) (o : Oper) (w : World) (K : Value → World → Prop) : Prop :=
  match stillOp P o with
  | true => opS P ρ o w fun v => K v w
  | false => (match o.op with
    | .alloc e => (match Nat.ble (P.cellsOf e) 16, zeroL P e with
      | true, some z => K (.pointer (some ⟨w.heap.size, 0, none⟩)) (w.alloc (.cells z.toArray e))
      | false, some _ => K (.pointer (some ⟨w.heap.size, 0, none⟩)) (w.alloc (.cells (zc P e).toArray e))
      | _, none => False)
    | .box e x => K (.pointer (some ⟨w.heap.size, 0, none⟩)) (w.alloc (.cells (ρ x).cells.toList.toArray e))
    | .buildSlice t len ps => bSliceV P t len (ps.toList.map fun (i, x) => (i, ρ x)) w fun s w' => K (.slice s.a s.len s.cap) w'
    | .store t a x => (match ρ a with | .pointer p => onP p fun A => stV P w A t (ρ x) fun w' => K undef w' | _ => False)
    | .makeSlice t l c => mkSV P t (ρ l) (ρ c) w fun s w' => K (.slice s.a s.len s.cap) w'
    | .makeMap t r => mkMV P t (r.map ρ) w fun s w' => K (.map s) w'
    | .mapUpdate t m k v => mupV P t (ρ m) (ρ k) (ρ v) w fun w' => K undef w'
    | .lookup t m k ok => lkV P t (ρ m) (ρ k) ok w (rtOf P o.type) fun x w' => K (encR (rtOf P o.type) x) w'
    | .convert s d x => (match P.underlying s, P.underlying d, ρ x with
      | some .string, some (.slice e), .string b => (match P.underlying e with | some (.int .u8) => s2bV P e b w fun s w' => K (.slice s.a s.len s.cap) w' | _ => False)
      | some (.slice _), some (.slice _), .slice a n c => (match Nat.beq s d with | true => b2bV P d (.slice a n c) w fun s w' => K (.slice s.a s.len s.cap) w' | false => False)
      | _, _, _ => False)
    | .call c => (match c.callee with
      | .builtin .append => appV P c.argTypes.toList o.type (c.args.toList.map ρ) w fun s w' => K (.slice s.a s.len s.cap) w'
      | .builtin .copy => cpyV P c.argTypes.toList o.type (c.args.toList.map ρ) w fun n w' => K (.int .i64 n) w'
      | .builtin .clear => clrV P c.argTypes.toList o.type (c.args.toList.map ρ) w fun w' => K (.tuple #[]) w'
      | .builtin .delete => delV P c.argTypes.toList o.type (c.args.toList.map ρ) w fun w' => K (.tuple #[]) w'
      | .value f => callVal (rtOf P o.type) P (ρ f) (c.args.toList.map ρ) w fun x w' => K (encR (rtOf P o.type) x) w'
      | _ => False)
    | _ => False)

/-! ### code -/
def flagAt (ops : List Oper) (j : Nat) : Option Nat := match ops[j]? with | some o => o.dst | none => none
def bEq : Bool → Bool → Bool | true, true => true | false, false => true | _, _ => false
/-- An operation under its guard: what the guard's operation yielded is known on each way. -/
def guardV (ops : List Oper) (o : Oper) (fr : Fr) (yes no : Fr → Prop) : Prop :=
  match o.guard with
  | none => yes fr
  | some (j, want) => (match flagAt ops j with
    | some d => (match lget fr d with
      | .bool b => cnd b (match want with | true => yes (lset fr d (.bool true)) | false => no (lset fr d (.bool true)))
          (match want with | true => no (lset fr d (.bool false)) | false => yes (lset fr d (.bool false)))
      | .tuple _ => no fr
      | _ => False)
    | none => False)
def opsV (P : Program) (ops : List Oper) (K : Fr → World → Prop) : List Oper → Fr → World → Prop
  | [], fr, w => K fr w
  | o :: r, fr, w => guardV ops o fr (fun fr => opV P (ev fr) o w fun v w' => opsV P ops K r (lput fr o.dst v) w') (fun fr => opsV P ops K r (lput fr o.dst undef) w)
/-- A call that turns nothing. -/
def callStill (rt : List Ty) (P : Program) (f : Value) (args : List Value) (w : World) (R : Tys rt → Prop) : Prop :=
  match f with
  | .func (.func id) first cap => ∃ x, CallT rt P id (first.toList ++ args ++ cap.toList) w (fun y w' => y = x ∧ w' = w) ∧ R x
  | _ => False
def opT (P : Program) (ρ : Operand → Value) (o : Oper) (w : World) (K : Value → Prop) : Prop :=
  match stillOp P o with
  | true => opS P ρ o w K
  | false => (match o.op with
    | .call c => (match c.callee with
      | .value f => callStill (rtOf P o.type) P (ρ f) (c.args.toList.map ρ) w fun x => K (encR (rtOf P o.type) x)
      | _ => False)
    | _ => False)
def stillV (P : Program) (ops : List Oper) (w : World) (K : Fr → Prop) : List Oper → Fr → Prop
  | [], fr => K fr
  | o :: r, fr => guardV ops o fr (fun fr => opT P (ev fr) o w fun v => stillV P ops w K r (lput fr o.dst v)) (fun fr => stillV P ops w K r (lput fr o.dst undef))

/-- Does an operation look at temporaries alone? -/
def pureOp (P : Program) (o : Oper) : Bool :=
  match o.op with
  | .move _ | .assign _ | .pick .. | .nilCheck _ | .binOp .. | .unOp .. | .makeFunc .. | .fieldAddr .. | .field .. | .indexAddr .. | .index .. | .extract .. | .build .. | .slice .. | .sliceToArrayPointer .. => true
  | .convert s d _ => (match P.underlying s, P.underlying d with | some _, some (.int _) => true | _, _ => false)
  | .call c => (match c.callee with
    | .builtin .len => (match c.argTypes.toList with | [t] => (match P.underlying t with | some (.map _ _) => false | _ => true) | _ => false)
    | .builtin .cap | .builtin .max | .builtin .min => true
    | _ => false)
  | _ => false
/-- May it be taken first? -/
def takeOp (P : Program) (o : Oper) : Bool :=
  match pureOp P o with
  | true => true
  | false => (match o.op with | .load .. => true | _ => false)
def ldH (S : World → Prop) (A : Addr) : (t : Ty) → (t.T → Prop) → Prop
  | .one s, K => ∃ x : s.T, (∀ w, S w → w.cell? A = some (s.enc x)) ∧ K x
  | .agg l, K => ∃ x : Shs l, (∀ w, S w → cellsAt w A (encs l x)) ∧ K x
  | .big n, K => ∃ cs : Array Value, cs.size = n ∧ (∀ w, S w → ∀ i, i < n → w.cell? (A.add i) = cs[i]?) ∧ K cs
/-! masks: quick for the kernel -/
def bitN (i : Nat) : Nat := Nat.pow 2 i
def emaskL : List Edge → Nat
  | [] => 0
  | e :: r => (match Region.binds .any e with | true => Nat.lor (emaskL r) (bitN e.on) | false => emaskL r)
def emask (o : Oper) : Nat := emaskL o.after.toList
def hasBit (L i : Nat) : Bool := match Nat.beq (Nat.land L (bitN i)) 0 with | true => false | false => true
def rdy (L i : Nat) (o : Oper) : Bool := match hasBit L i with | true => false | false => Nat.beq (Nat.land (emask o) L) (emask o)
def noneRdy (L : Nat) : Nat → List Oper → Bool
  | _, [] => true
  | k, o :: r => (match rdy L k o with | true => false | false => true) && noneRdy L (k + 1) r
def freeM (ops : Array Oper) (L i : Nat) (oi : Oper) : Nat → List Oper → Bool
  | _, [] => true
  | k, o :: r => (Nat.beq k i || hasBit L k || hasBit (emask o) i || oi.apart ops o) && freeM ops L i oi (k + 1) r
def rdyIn (L C : Nat) : Nat → List Oper → Bool
  | _, [] => true
  | k, o :: r => (match rdy L k o with | true => hasBit C k | false => true) && rdyIn L C (k + 1) r
/-- Orders: what is taken next; alternatives. -/
inductive DT where
  | fin
  | take (i : Nat) (t : DT)
  | alt (i : Nat) (t more : DT)
def isLoad (o : Oper) : Bool := match o.op with | .load .. => true | _ => false
def needFrom (m : Nat) : Nat → List Oper → Bool
  | _, [] => false
  | k, o :: r => (match isLoad o with | true => (match hasBit m k with | true => false | false => true) | false => false) || needFrom m (k + 1) r
/-- May a load still come behind this operation? -/
def needL (P : Program) (ops : List Oper) (i : Nat) : Bool :=
  match ops[i]? with
  | some o => (match takeOp P o with | true => false | false => needFrom (emask o) 0 ops)
  | none => false
def ask (b : Bool) (x y : Prop) : Prop := match b with | true => x ∧ y | false => y
def both (t : DT) (x y : Prop) : Prop := match t with | .alt .. => x ∧ y | _ => x
/-- An operation that is taken first: a load yields the same in every world that meets S. -/
def opH (P : Program) (ρ : Operand → Value) (o : Oper) (S : World → Prop) (w : World) (K : Value → Prop) : Prop :=
  match pureOp P o with
  | true => opS P ρ o w K
  | false => (match o.op with
    | .load t a => (match ldOk P t with
      | true => (match ρ a with | .pointer p => onP p fun A => ldH S A (tyOf P t) fun x => K ((tyOf P t).enc x) | _ => False)
      | false => False)
    | _ => False)
def drawV (P : Program) (ops : List Oper) (S : World → Prop) (K : Fr → World → Prop) : DT → Fr → World → Prop
  | .fin, fr, w => K fr w
  | .take i t, fr, w => (match ops[i]? with
    | some o => guardV ops o fr (fun fr => opH P (ev fr) o S w fun v => drawV P ops S K t (lput fr o.dst v) w) (fun fr => drawV P ops S K t (lput fr o.dst undef) w)
    | none => False)
  | .alt i t more, fr, w => both more (match ops[i]? with
    | some o => guardV ops o fr (fun fr => opV P (ev fr) o w fun v w' => ask (needL P ops i) (S w') (drawV P ops S K t (lput fr o.dst v) w')) (fun fr => ask (needL P ops i) (S w) (drawV P ops S K t (lput fr o.dst undef) w))
    | none => False) (drawV P ops S K more fr w)
def drawOkT (P : Program) (ops : Array Oper) : DT → Nat → Nat → Nat → Bool
  | .fin, _, L, _ => noneRdy L 0 ops.toList
  | .take i t, f, L, _ => (match f with
    | 0 => false
    | f + 1 => (match ops.toList[i]? with | some o => takeOp P o && rdy L i o && freeM ops L i o 0 ops.toList | none => false) && drawOkT P ops t f (Nat.lor L (bitN i)) 0)
  | .alt i t more, f, L, C => (match f with
    | 0 => false
    | f' + 1 => (match ops.toList[i]? with | some o => rdy L i o | none => false) && drawOkT P ops t f' (Nat.lor L (bitN i)) 0 &&
      (match more with | .alt .. => drawOkT P ops more f L (Nat.lor C (bitN i)) | _ => rdyIn L (Nat.lor C (bitN i)) 0 ops.toList))

inductive HT where
  | dr (t : DT)
  | z | sq (a b : HT) | jn (l : List (Nat × Ty)) (a b : HT) | j3 (l : List (Nat × Ty)) (a b c : HT)
  | cd (a b : HT) | bl (a : HT) | lp (l : List (Nat × Ty)) (a : HT) | rg (n : Nat)
def HT.one : HT → HT | .sq a _ | .cd a _ | .bl a => a | _ => .z
def HT.two : HT → HT | .sq _ b | .cd _ b => b | _ => .z

def thenV (next : Fr → World → Prop) (Q : Exit → Fr → World → Prop) : Exit → Fr → World → Prop
  | .normal, fr, w => next fr w
  | e, fr, w => Q e fr w
def inBlockV (id : Nat) (Q : Exit → Fr → World → Prop) : Exit → Fr → World → Prop
  | .exit i, fr, w => (match Nat.beq i id with | true => Q .normal fr w | false => Q (.exit i) fr w)
  | e, fr, w => Q e fr w
def wOps (ops : List Oper) : List Nat := ops.filterMap (·.dst)
def writes : Code → List Nat
  | .seq a b => writes a ++ writes b
  | .cond _ a b => writes a ++ writes b
  | .block _ a => writes a
  | .loop a => writes a
  | .region _ ops _ => wOps ops.toList
  | _ => []
def memN (n : Nat) : List Nat → Bool
  | [] => false
  | m :: r => (match Nat.beq n m with | true => true | false => memN n r)
/-- Slots that hold what is not known. -/
def hav (j : Nat → Value) : List Nat → Fr → Fr
  | [], fr => fr
  | i :: r, fr => (i, j i) :: hav j r fr
def setS : (l : List (Nat × Ty)) → Tys (l.map Prod.snd) → Fr → Fr
  | [], _, fr => fr
  | [(i, t)], x, fr => lset fr i (t.enc x)
  | (i, t) :: p :: r, x, fr => setS (p :: r) x.2 (lset fr i (t.enc x.1))
def getS (l : List (Nat × Ty)) (fr : Fr) (K : Tys (l.map Prod.snd) → Prop) : Prop := decTys (l.map Prod.snd) (l.map fun p => lget fr p.1) K

def vc (P : Program) : Code → HT → (Exit → Fr → World → Prop) → Fr → World → Prop
  | .skip, _, Q, fr, w => Q .normal fr w
  | .label _, _, Q, fr, w => Q .normal fr w
  | .region _ ops d, h, Q, fr, w => (match d with
    | false => opsV P ops.toList (Q .normal) ops.toList fr w
    | true => (match h with
      | .dr l => ∃ S : World → Prop, S w.drew ∧ drawV P ops.toList S (Q .normal) l fr w.drew
      | .rg n => stillV P ops.toList w.drew (fun fr' => opsV P ops.toList (Q .normal) (ops.toList.drop n) fr' w.drew) (ops.toList.take n) fr
      | _ => False))
  | .seq a b, h, Q, fr, w => (match h with
    | .jn l ha hb => ∃ R : Tys (l.map Prod.snd) → World → Prop,
        vc P a ha (thenV (fun fr' w' => getS l fr' fun x => R x w') Q) fr w ∧
        ∀ (x : Tys (l.map Prod.snd)) (j : Nat → Value) (w' : World), R x w' → vc P b hb Q (setS l x (hav j (writes a) fr)) w'
    | .j3 l ha hb hc => (match b with
      | .seq b c => ∃ R : Tys (l.map Prod.snd) → World → Prop,
          vc P a ha (thenV (vc P b hb (thenV (fun fr' w' => getS l fr' fun x => R x w') Q)) Q) fr w ∧
          ∀ (x : Tys (l.map Prod.snd)) (j : Nat → Value) (w' : World), R x w' → vc P c hc Q (setS l x (hav j (writes a ++ writes b) fr)) w'
      | _ => False)
    | h => vc P a h.one (thenV (vc P b h.two Q) Q) fr w)
  | .cond c x y, h, Q, fr, w => (match ev fr c with
    | .bool b => cnd b (vc P x h.one Q fr w) (vc P y h.two Q fr w)
    | _ => False)
  | .block id c, h, Q, fr, w => vc P c h.one (inBlockV id Q) fr w
  | .loop c, h, Q, fr, w => (match h with
    | .lp l hb => ∃ I : Nat → Tys (l.map Prod.snd) → World → Prop,
        getS l fr (fun x => ∃ n, I n x w) ∧
        ∀ (n : Nat) (x : Tys (l.map Prod.snd)) (j : Nat → Value) (w' : World), I n x w' →
          vc P c hb (thenV (fun fr' w'' => getS l fr' fun x' => ∃ m, m < n ∧ I m x' w'') Q) (setS l x (hav j (writes c) fr)) w'
    | _ => False)
  | .exit id, _, Q, fr, w => Q (.exit id) fr w
  | .ret, _, Q, fr, w => Q .ret fr w
  | _, _, _, _, _ => False

/-- The closed facts on regions that draw their order, and on the slots of hints. -/
def slotsIn (ws : List Nat) : List (Nat × Ty) → Bool
  | [] => true
  | (i, _) :: r => (match memN i ws with | true => slotsIn ws r | false => false)
def dstOk (n : Nat) : List Oper → Bool
  | [] => true
  | o :: r => (match o.dst with | some d => Nat.blt d n | none => true) && dstOk n r
def chk (P : Program) (n : Nat) : Code → HT → Bool
  | .region _ ops d, h => dstOk n ops.toList && (match d with
    | false => true
    | true => (match h with
      | .dr t => P.follows .mixedOrders && Region.noSelect ops && drawOkT P ops t ops.toList.length 0 0
      | .rg k => P.follows .mixedOrders && ((Nat.blt k ops.toList.length && Region.lexTailB .any ops.toList.toArray k) || (Nat.ble ops.toList.length k && Region.lexB .any ops))
      | _ => false))
  | .seq a b, h => (match h with
    | .jn l ha hb => slotsIn (writes a) l && chk P n a ha && chk P n b hb
    | .j3 l ha hb hc => (match b with
      | .seq b c => slotsIn (writes a ++ writes b) l && chk P n a ha && chk P n b hb && chk P n c hc
      | _ => false)
    | h => chk P n a h.one && chk P n b h.two)
  | .cond _ x y, h => chk P n x h.one && chk P n y h.two
  | .block _ c, h => chk P n c h.one
  | .loop c, h => (match h with
    | .lp l hb => slotsIn (writes c) l && chk P n c hb
    | _ => false)
  | _, _ => true

/-- What a function's result variables hold. -/
def resV (P : Program) (fr : Fr) (w : World) : List ResultVar → (List Value → Prop) → Prop
  | [], K => K []
  | .tmp t :: r, K => resV P fr w r fun vs => K (lget fr t :: vs)
  | .cell a t :: r, K => (match ldOk P t with
    | true => (match lget fr a with
      | .pointer p => onP p fun A => ldV w A (tyOf P t) fun x => resV P fr w r fun vs => K ((tyOf P t).enc x :: vs)
      | _ => False)
    | false => False)
def retV (P : Program) (rs : List ResultVar) (rt : List Ty) (R : Tys rt → World → Prop) : Exit → Fr → World → Prop
  | .ret, fr, w | .normal, fr, w => resV P fr w rs fun vs => decTys rt vs fun x => R x w
  | _, _, _ => False
def fnV (P : Program) (fn : Func) (rt : List Ty) (h : HT) (args : List Value) (w : World) (R : Tys rt → World → Prop) : Prop :=
  match fn.body with
  | some c => vc P c h (retV P fn.results.toList rt R) (initF args 0) w
  | none => False
end Go.Vc
