/- The abstract machine, part 1. No condition. -/
import Derived.Calls
import Derived.Orders
import Derived.Deep.Quiet
import Derived.WalkKit
import Derived.Laws.CopyRow
import Derived.Laws.Tables
import Derived.Laws.MakeOwn
import Derived.IntWalk
import Derived.Deep.Draws
import Derived.Laws.StructEq
import Derived.Laws.Slices
set_option linter.unusedVariables false
set_option linter.unusedSimpArgs false
/- An abstract machine over trees for Go's loaded code: its values, its states, and what a piece of code must fulfil ('AWP'). Definitions only; they are proved sound in the next text. No condition. -/
namespace Go.Proofs.YtbfjkjdbdejnmaaGreat.Ab

/-- What a temporary or a cell is known to hold: nothing; a value without an address; nil as a slice; a pointer or a slice into a root (one cell of an array; an array's cells as a slice); a map; a panic's value; a slice or a pointer whose memory stays as it is; a function value; a struct; a tuple; a slice that is owned by the cell that holds it. -/
inductive AV where
  | top
  | v (x : Value)
  | nils
  | ptr (r i o k : Nat)
  | aptr (r o j : Nat)
  | slc (r o n : Nat) (z : Bool)
  | bsl (r o n : Nat)
  | mapr (r : Nat)
  | pan (x : Value)
  | imm (t z : Bool) (s : Nat) (l : List (List AV))
  | iptr (t : Bool) (l : List AV)
  | fn (f : FuncId) (caps : List AV)
  | agg (l : List AV)
  | tup (l : List AV)
  | sl (s : Nat) (l : List (List AV))
  deriving Inhabited

/-- A map's key. -/
inductive MK where
  | s (b : ByteArray)
  | i (n : Int)
  | p (a b : Int)
  deriving DecidableEq
def MK.tag : MK → Nat | .s _ => 0 | .i _ => 1 | .p _ _ => 2
def MK.val : MK → Value | .s b => .string b | .i n => .int .i64 n | .p a b => .agg #[.int .i64 a, .int .i64 b]
def mapFind (k : MK) : List (MK × Value) → Option Value
  | [] => none
  | (a, v) :: l => if a = k then some v else mapFind k l
def mapSet (k : MK) (x : Value) : List (MK × Value) → List (MK × Value)
  | [] => [(k, x)]
  | (a, v) :: l => if a = k then (k, x) :: l else (a, v) :: mapSet k x l

/-- A block of memory that the call owns: a variable; a slice's array; a map; one that is gone. -/
inductive Root where
  | box (cells : List AV)
  | lst (s : Nat) (l : List (List AV))
  | mp (tag : Nat) (l : List (MK × Value))
  | dead
  deriving Inhabited

inductive TK where
  | int (k : IntKind) | bool | str
  | slice (elem : TypeId) (es : Nat)
  | struct (fs : List (Nat × Nat))
  | array (n : Nat) (es : Nat)
  | ptr | func
  | map (key elem : TypeId)
  | other
structure TI where
  size : Nat
  bytes : Nat
  agg : Bool
  kind : TK
  zero : List AV
  eqs : List Nat

abbrev TS := List AV
abbrev HP := List Root

/-! ### Lists, strictly: each is its plain word ('.._eq', next text) -/

def getK : List AV → Nat → (AV → Prop) → Prop
  | [], _, k => k .top
  | a :: _, 0, k => k a
  | _ :: t, n + 1, k => getK t n k
def setK {α : Type} : List α → Nat → α → (List α → Prop) → Prop
  | [], _, _, k => k []
  | _ :: t, 0, x, k => k (x :: t)
  | a :: t, n + 1, x, k => setK t n x fun t' => k (a :: t')
def putK (t : TS) (d : Option Tmp) (x : AV) (k : TS → Prop) : Prop := match d with | some i => setK t i x k | none => k t
def nums : List Nat := [0, 1, 2, 3, 4, 5, 6, 7, 8, 9, 10, 11, 12, 13, 14, 15, 16, 17, 18, 19, 20, 21, 22, 23, 24, 25, 26, 27, 28, 29, 30, 31, 32, 33, 34, 35, 36, 37, 38, 39, 40, 41, 42, 43, 44, 45, 46, 47, 48, 49, 50, 51, 52, 53, 54, 55, 56, 57, 58, 59, 60, 61, 62, 63, 64, 65, 66, 67, 68, 69, 70, 71, 72, 73, 74, 75, 76, 77, 78, 79, 80, 81, 82, 83, 84, 85, 86, 87, 88, 89, 90, 91, 92, 93, 94, 95, 96, 97, 98, 99, 100, 101, 102, 103, 104, 105, 106, 107, 108, 109, 110, 111, 112, 113, 114, 115, 116, 117, 118, 119, 120, 121, 122, 123, 124, 125, 126, 127, 128, 129, 130, 131, 132, 133, 134, 135, 136, 137, 138, 139, 140, 141, 142, 143, 144, 145, 146, 147, 148, 149, 150, 151, 152, 153, 154, 155, 156, 157, 158, 159]
/-- A new root: its number and the roots with it. -/
def newK : HP → List Nat → Root → (Nat → HP → Prop) → Prop
  | [], n :: _, x, k => k n [x]
  | a :: t, _ :: ns, x, k => newK t ns x fun n t' => k n (a :: t')
  | _, [], _, _ => False
def rootK : HP → Nat → (Root → Prop) → Prop
  | [], _, _ => False
  | a :: _, 0, k => k a
  | _ :: t, n + 1, k => rootK t n k
/-- 'l' with 'cs' laid from place 'o' on; they must fit. -/
def layK : List AV → Nat → List AV → (List AV → Prop) → Prop
  | l, 0, [], k => k l
  | _ :: l, 0, c :: cs, k => layK l 0 cs fun l' => k (c :: l')
  | a :: l, n + 1, cs, k => layK l n cs fun l' => k (a :: l')
  | [], _, _, _ => False
/-- 'n' elements from place 'o' on; they must be there. -/
def cutK : List AV → Nat → Nat → (List AV → Prop) → Prop
  | _, 0, 0, k => k []
  | a :: l, 0, n + 1, k => cutK l 0 n fun l' => k (a :: l')
  | _ :: l, o + 1, n, k => cutK l o n k
  | [], _, _, _ => False
/-- Cells as they are read: an owned slice is taken out into a root of its own. Gives the cells read (which are the cells left too) and the roots. -/
def outK : List AV → HP → (List AV → HP → Prop) → Prop
  | [], h, k => k [] h
  | .sl s l :: r, h, k => newK h nums (.lst s l) fun n h' => outK r h' fun x h'' => k (.slc n 0 l.length false :: x) h''
  | c :: r, h, k => outK r h fun x h' => k (c :: x) h'
def mapK {α β : Type} (f : α → (β → Prop) → Prop) : List α → (List β → Prop) → Prop
  | [], k => k []
  | a :: l, k => f a fun b => mapK f l fun l' => k (b :: l')

def constK (x : Value) (k : AV → Prop) : Prop := match x with
  | .slice none 0 0 => k .nils
  | .slice _ _ _ => k .top
  | .agg _ => k .top
  | .tuple _ => k .top
  | x => k (.v x)
def evK (t : TS) (o : Operand) (k : AV → Prop) : Prop := match o with
  | .tmp i => getK t i k
  | .const x => constK x k
  | .global _ => k .top
  | .func f => k (.fn f [])
def on {α : Type} (o : Option α) (k : α → Prop) : Prop := match o with | some a => k a | none => False

def immCellK (t : Bool) (c : AV) (k : AV → Prop) : Prop := match c with
  | .sl s l => k (.imm t false s l)
  | x => k x

def nilK (c : AV) (k : AV → Prop) : Prop := match c with
  | .sl _ _ => k .nils
  | x => k x
/-- Nil as a slice, in a variable, is a slice that the variable owns. -/
def normK : List AV → List AV → (List AV → Prop) → Prop
  | [], _, k => k []
  | _ :: _, [], _ => False
  | x :: l, z :: zs, k => match x, z with
    | .nils, .sl es _ => normK l zs fun l => k (.sl es [] :: l)
    | .sl _ _, _ => False
    | .top, _ => normK l zs fun l => k (.top :: l)
    | x, _ => normK l zs fun l => k (x :: l)

/-- The cells of a value that is laid into a variable of a type. -/
def cellsK (i : TI) (x : AV) (k : List AV → Prop) : Prop := match i.agg, x with
  | true, .agg l => if l.length == i.size then normK l i.zero k else False
  | false, .nils => match i.kind with | .slice _ es => if i.size == 1 then k [.sl es []] else False | _ => False
  | false, .tup _ => False
  | false, .agg _ => False
  | false, .top => False
  | false, .sl _ _ => False
  | false, x => if i.size == 1 then k [x] else False
  | true, _ => False
def valK (i : TI) (cs : List AV) (k : AV → Prop) : Prop := match i.agg, cs with
  | true, l => k (.agg l)
  | false, [x] => k x
  | false, _ => False

def fillK (place : Nat → Option (Nat × Nat)) : List (Nat × AV) → List AV → (List AV → Prop) → Prop
  | [], cells, k => k cells
  | (i, x) :: r, cells, k => on (place i) fun p => match x with
    | .agg l => if l.length == p.2 then layK cells p.1 l fun cells => fillK place r cells k else False
    | .tup _ => False
    | .top => False
    | .sl _ _ => False
    | .pan _ => False
    | x => if p.2 == 1 then layK cells p.1 [x] fun cells => fillK place r cells k else False

def intOp (op : BinOp) (k : IntKind) (a b : Int) (K : AV → Prop) : Prop :=
  match op with
  | .add => K (.v (.int k (k.wrap (a + b))))
  | .sub => K (.v (.int k (k.wrap (a - b))))
  | .mul => K (.v (.int k (k.wrap (a * b))))
  | .quo => b ≠ 0 ∧ K (.v (.int k (k.wrap (a.tdiv b))))
  | .rem => b ≠ 0 ∧ K (.v (.int k (a.tmod b)))
  | .and => K (.v (.int k (k.wrap ((BitVec.ofInt k.bits a &&& BitVec.ofInt k.bits b).toNat : Nat))))
  | .or => K (.v (.int k (k.wrap ((BitVec.ofInt k.bits a ||| BitVec.ofInt k.bits b).toNat : Nat))))
  | .xor => K (.v (.int k (k.wrap ((BitVec.ofInt k.bits a ^^^ BitVec.ofInt k.bits b).toNat : Nat))))
  | .andNot => K (.v (.int k (k.wrap ((BitVec.ofInt k.bits a &&& ~~~ BitVec.ofInt k.bits b).toNat : Nat))))
  | .eql => K (.v (.bool (a == b)))
  | .neq => K (.v (.bool (a != b)))
  | .lss => K (.v (.bool (decide (a < b))))
  | .leq => K (.v (.bool (decide (a ≤ b))))
  | .gtr => K (.v (.bool (decide (a > b))))
  | .geq => K (.v (.bool (decide (a ≥ b))))
  | _ => False

/-- Cells of plain kinds, compared: 0 a whole number, 1 a bool, 2 a string. -/
def eqCells : List Nat → List AV → List AV → (Bool → Prop) → Prop
  | [], [], [], k => k true
  | 0 :: ks, .v (.int j a) :: l, .v (.int j' b) :: r, k => if j = j' then eqCells ks l r fun e => k ((a == b) && e) else False
  | 1 :: ks, .v (.bool a) :: l, .v (.bool b) :: r, k => eqCells ks l r fun e => k ((a == b) && e)
  | 2 :: ks, .v (.string a) :: l, .v (.string b) :: r, k => eqCells ks l r fun e => k ((a == b) && e)
  | _, _, _, _ => False

def nilEq (kd : TK) (x : AV) (K : Bool → Prop) : Prop := match kd, x with
  | .slice _ _, .slc _ _ n _ => (n = 0 → K true) ∧ K false
  | .slice _ _, .bsl _ _ n => 0 < n ∧ K false
  | .slice _ _, .imm _ _ _ l => (l.length = 0 → K true) ∧ K false
  | .slice _ _, .nils => K true
  | _, _ => False

def binP (op : BinOp) (i : Option TI) (x y : AV) (K : AV → Prop) : Prop :=
  match op, x, y with
  | .shl, .v (.int k a), .v (.int _ b) => 0 ≤ b ∧ K (.v (.int k (k.wrap (a * 2 ^ (min b.toNat k.bits)))))
  | .shr, .v (.int k a), .v (.int _ b) => 0 ≤ b ∧ K (.v (.int k (a.fdiv (2 ^ (min b.toNat k.bits)))))
  | .eql, .v (.string a), .v (.string b) => K (.v (.bool (a.toList == b.toList)))
  | .neq, .v (.string a), .v (.string b) => K (.v (.bool (!(a.toList == b.toList))))
  | .add, .v (.string a), .v (.string b) => a.size + b.size ≤ 9223372036854775807 ∧ K (.v (.string (a ++ b)))
  | .eql, .v (.bool a), .v (.bool b) => on i fun i => match i.kind with | .bool => K (.v (.bool (a == b))) | _ => False
  | .neq, .v (.bool a), .v (.bool b) => on i fun i => match i.kind with | .bool => K (.v (.bool (!(a == b)))) | _ => False
  | .eql, .agg a, .agg b => on i fun i => match i.eqs with | [] => False | ks => eqCells ks a b fun e => K (.v (.bool e))
  | .neq, .agg a, .agg b => on i fun i => match i.eqs with | [] => False | ks => eqCells ks a b fun e => K (.v (.bool (!e)))
  | .eql, x, .nils => on i fun i => nilEq i.kind x fun e => K (.v (.bool e))
  | .neq, x, .nils => on i fun i => nilEq i.kind x fun e => K (.v (.bool (!e)))
  | op, .v (.int k a), .v (.int k' b) => if k = k' then intOp op k a b K else False
  | _, _, _ => False

/-- A handler of calls: what the arguments and the roots must be, and what comes behind. -/
abbrev Handler := List AV → HP → (AV → HP → Prop) → Prop

/-- The types' table; the functions that are called; how many roots stay where they are; what follows a panic. -/
structure Ctx where
  tab : TypeId → Option TI
  call : FuncId → Option Handler
  m : Nat
  pan : Value → HP → Prop
  cut : Bool := false

def lenP (i : TI) (l : List AV) (k : AV → Prop) : Prop := match i.kind, l with
  | .slice _ _, [.slc _ _ n _] => k (.v (.int .i64 n))
  | .slice _ _, [.bsl _ _ n] => k (.v (.int .i64 n))
  | .slice _ _, [.imm _ _ _ l] => k (.v (.int .i64 l.length))
  | .slice _ _, [.nils] => k (.v (.int .i64 0))
  | .str, [.v (.string s)] => k (.v (.int .i64 s.size))
  | _, _ => False

def AV.isSl : AV → Bool | .sl _ _ => true | _ => false
/-- A leaf that stands by itself. -/
def AV.shut1 : AV → Bool
  | .top => true | .v _ => true | .nils => true | .imm true _ _ _ => true | .iptr true _ => true | .fn _ [] => true
  | _ => false
/-- A cell that asks no root, nor memory that is not for ever as it is. -/
def AV.shut : AV → Bool
  | .top => true | .v _ => true | .nils => true | .imm true _ _ _ => true | .iptr true _ => true | .sl _ _ => true | .fn _ caps => caps.all AV.shut1
  | _ => false
/-- A cell that stands by itself. -/
def AV.shutC : AV → Bool
  | .nils => false
  | x => x.shut
/-- What a function value in memory may hold. -/
def AV.shut2 : AV → Bool
  | .v _ => true | .imm true _ _ _ => true | .iptr true _ => true | .fn _ [] => true
  | _ => false
/-- A cell of a slice that stands by itself. -/
def AV.shutF : AV → Bool
  | .nils => false | .sl _ _ => true | .fn _ caps => caps.all AV.shut2
  | x => x.shut1
def ClosedL (l : List (List AV)) : Prop := ∀ e ∈ l, ∀ x ∈ e, x.shutF = true

/-- A variable that a function value holds will not change any more. -/
def frzL : List AV → HP → (List AV → HP → Prop) → Prop
  | [], h, k => k [] h
  | .ptr r 0 0 _ :: l, h, k => rootK h r fun rt => match rt with
    | .box cells => match cells.all AV.shutF with
      | true => setK h r .dead fun h => frzL l h fun l h => k (.iptr true cells :: l) h
      | false => False
    | _ => False
  | x :: l, h, k => frzL l h fun l h => k (x :: l) h
/-- Cells of a block: each slice of a root's own is folded into its cell. -/
def foldCs : List AV → HP → (List AV → HP → Prop) → Prop
  | [], h, k => k [] h
  | .slc r 0 n _ :: l, h, k => rootK h r fun rt => match rt with
    | .lst s L => ∃ L', L.take n = L' ∧ L'.length = n ∧ ClosedL L' ∧ setK h r .dead fun h => foldCs l h fun l h => k (.sl s L' :: l) h
    | _ => False
  | .fn f caps :: l, h, k => frzL caps h fun caps h => foldCs l h fun l h => k (.fn f caps :: l) h
  | c :: l, h, k => foldCs l h fun l h => k (c :: l) h

def loadP (C : Ctx) (ty : TypeId) (a : AV) (h : HP) (K : AV → HP → Prop) : Prop := on (C.tab ty) fun i =>
  match a with
  | .ptr r e f _ => rootK h r fun root =>
    match root, e with
    | .box cells, 0 => cutK cells f i.size fun cs => outK cs h fun cs h => layK cells f cs fun cells => setK h r (.box cells) fun h => valK i cs fun x => K x h
    | .lst s l, e => ∃ el, l[e]? = some el ∧ f + i.size ≤ s ∧ cutK el f i.size fun cs => match cs.any AV.isSl with
      | false => valK i cs fun x => K x h
      | true => outK cs h fun cs h => layK el f cs fun el => setK h r (.lst s (l.set e el)) fun h => valK i cs fun x => K x h
    | _, _ => False
  | .aptr r f j => match i.agg with
    | true => False
    | false => rootK h r fun root => match root with
      | .box cells => ∃ x, cells[j + f]? = some x ∧ x.isSl = false ∧ (match Nat.beq i.size 1 with | true => K x h | false => False)
      | _ => False
  | .iptr b l => cutK l 0 i.size fun cs => mapK (immCellK b) cs fun cs => valK i cs fun x => K x h
  | _ => False

def bndK (t : TS) (o : Option Operand) (d : Nat) (k : Nat → Prop) : Prop := match o with
  | none => k d
  | some x => evK t x fun z => match z with
    | .v (.int _ z) => ∃ j : Nat, z = (j : Int) ∧ k j
    | _ => False


def byteC (n : Int) : List AV := [.v (.int .u8 n)]
def strB (s : ByteArray) : List (List AV) := s.data.toList.map fun b => byteC b.toNat
def bytesS (l : List Int) : ByteArray := ⟨(l.map fun n => UInt8.ofNat n.toNat).toArray⟩

def sliceP (i : TI) (t : TS) (x : AV) (lo hi mx : Option Operand) (h : HP) (K : AV → Prop) : Prop :=
  match i.kind, x, mx with
  | .str, .v (.string s), none => bndK t lo 0 fun l => bndK t hi s.size fun u => l ≤ u ∧ u ≤ s.size ∧ K (.v (.string (s.extract l u)))
  | .slice _ es, .slc r o n _, none => rootK h r fun rt => match rt with
    | .lst s _ => if s == es then bndK t lo 0 fun l => bndK t hi n fun u => l ≤ u ∧ u ≤ n ∧ K (.slc r (o + l) (u - l) false) else False
    | _ => False
  | .slice _ es, .imm b _ s L, none => if s == es then bndK t lo 0 fun l => bndK t hi L.length fun u => l ≤ u ∧ u ≤ L.length ∧ K (.imm b false s ((L.drop l).take (u - l))) else False
  | .slice _ es, _, some _ => (match hi with
    | some _ => bndK t lo 0 fun l => bndK t hi 0 fun u => bndK t mx 0 fun m => match l, u, m with
      | 0, 0, 0 => (match x with | .slc _ _ _ _ => K (.imm true true es []) | .bsl _ _ _ => K (.imm true true es []) | .imm _ _ _ _ => K (.imm true true es []) | .nils => K (.imm true true es []) | _ => False)
      | _, _, _ => False
    | none => False)
  | .array n 1, .ptr r 0 o _, none => bndK t lo 0 fun l => bndK t hi n fun u => l ≤ u ∧ u ≤ n ∧ l < n ∧ K (.bsl r (o + l) (u - l))
  | .array n 1, .iptr b cs, none => (match lo, hi with | none, none => cutK cs 0 n fun cs => K (.imm b false 1 (cs.map fun c => [c])) | _, _ => False)
  | _, _, _ => False

/-- The elements that are copied out of a slice or a string. -/
def srcK (es : Nat) (x : AV) (h : HP) (k : List (List AV) → Prop) : Prop := match x with
  | .nils => k []
  | .imm _ _ s L => if s == es then (∀ e ∈ L, ∀ x ∈ e, x.isSl = false) ∧ k L else False
  | .slc r o n _ => rootK h r fun rt => match rt with
    | .lst s l => if s == es then ∃ L, (l.drop o).take n = L ∧ L.length = n ∧ (∀ e ∈ L, ∀ x ∈ e, x.isSl = false) ∧ k L else False
    | _ => False
  | .bsl r o n => rootK h r fun rt => match rt, es with
    | .box cells, 1 => cutK cells o n fun cs => (match cs.any AV.isSl with | true => False | false => k (cs.map fun c => [c]))
    | _, _ => False
  | .v (.string s) => (match es with | 1 => k (strB s) | _ => False)
  | _ => False
/-- The elements that are appended: moved, where they own slices. -/
def movK (ei : TI) (es : Nat) (x : AV) (h : HP) (k : List (List AV) → HP → Prop) : Prop := match ei.zero.any AV.isSl with
  | false => srcK es x h fun L => k L h
  | true => match x with
    | .nils => k [] h
    | .slc r 0 n _ => rootK h r fun rt => match rt with
      | .lst s l => if s == es then l.length = n ∧ setK h r .dead fun h => k l h else False
      | _ => False
    | _ => False
/-- What is appended to: a slice of a root's own, all of it, or nothing. -/
def baseK (es : Nat) (x : AV) (h : HP) (k : List (List AV) → HP → Prop) : Prop := match x with
  | .nils => k [] h
  | .imm _ true _ [] => k [] h
  | .slc r 0 n _ => rootK h r fun rt => match rt with
    | .lst s l => if s == es then l.length = n ∧ setK h r .dead fun h => k l h else False
    | _ => False
  | _ => False
def appendP (ei : TI) (es : Nat) (a x : AV) (h : HP) (K : AV → HP → Prop) : Prop :=
  movK ei es x h fun L h => baseK es a h fun l h => (l.length + L.length) * ei.bytes ≤ 140737488355328 ∧ l.length + L.length ≤ 4611686018427387904 ∧
    newK h nums (.lst es (l ++ L)) fun n h => K (.slc n 0 (l.length + L.length) false) h
def copyP (es : Nat) (a x : AV) (h : HP) (K : AV → HP → Prop) : Prop := match a with
  | .slc r o n _ => rootK h r fun rt => match rt with
    | .lst s l => if s == es then o + n ≤ l.length ∧ srcK es x h fun L => setK h r (.lst s (l.take o ++ L.take n ++ l.drop (o + min L.length n))) fun h => K (.v (.int .i64 (min L.length n : Nat))) h else False
    | _ => False
  | _ => False
def clearP (ei : TI) (es : Nat) (a : AV) (h : HP) (K : HP → Prop) : Prop := match a with
  | .slc r o n _ => rootK h r fun rt => match rt with
    | .lst s l => if s == es then o + n ≤ l.length ∧ setK h r (.lst s (l.take o ++ List.replicate n ei.zero ++ l.drop (o + n))) K else False
    | _ => False
  | _ => False

def keyK (x : AV) (k : MK → Prop) : Prop := match x with
  | .v (.string s) => k (.s s)
  | .v (.int .i64 n) => k (.i n)
  | .agg [.v (.int .i64 a), .v (.int .i64 b)] => k (.p a b)
  | _ => False
def tagK (i : TI) (k : Nat → Prop) : Prop := match i.kind with
  | .str => k 0
  | .int .i64 => k 1
  | .array 2 1 => (match i.eqs with | 0 :: 0 :: [] => k 2 | _ => False)
  | _ => False
def avOf : Value → AV
  | .agg cs => .agg (cs.toList.map .v)
  | x => .v x
def unV : List AV → (List Value → Prop) → Prop
  | [], k => k []
  | .v x :: l, k => unV l fun r => k (x :: r)
  | _, _ => False
def valV (x : AV) (k : Value → Prop) : Prop := match x with
  | .v x => k x
  | .agg l => unV l fun l => k (.agg l.toArray)
  | _ => False
def lookP (C : Ctx) (i : TI) (m key : AV) (ok : Bool) (h : HP) (K : AV → Prop) : Prop := match i.kind, m with
  | .map kt et, .mapr r => on (C.tab kt) fun ki => tagK ki fun tag => on (C.tab et) fun ei => keyK key fun q => rootK h r fun rt => match rt with
    | .mp tag' l => (match Nat.beq tag tag', Nat.beq q.tag tag with
      | true, true => (∀ v, mapFind q l = some v → match ok with | true => K (.tup [avOf v, .v (.bool true)]) | false => K (avOf v)) ∧
          (mapFind q l = none → mapK nilK ei.zero fun z => valK ei z fun z => match ok with | true => K (.tup [z, .v (.bool false)]) | false => K z)
      | _, _ => False)
    | _ => False
  | _, _ => False
def mapUpdP (C : Ctx) (i : TI) (m key x : AV) (h : HP) (K : HP → Prop) : Prop := match i.kind, m with
  | .map kt _, .mapr r => on (C.tab kt) fun ki => tagK ki fun tag => keyK key fun q => valV x fun v => rootK h r fun rt => match rt with
    | .mp tag' l => (match Nat.beq tag tag', Nat.beq q.tag tag with
      | true, true => setK h r (.mp tag (mapSet q v l)) K
      | _, _ => False)
    | _ => False
  | _, _ => False

/-- The elements of a slice's literal, all of them, in their order. -/
def elemsK (t : TS) (ei : TI) : Nat → List (Nat × Operand) → HP → (List (List AV) → HP → Prop) → Prop
  | _, [], h, k => k [] h
  | j, (i, x) :: l, h, k => match Nat.beq i j with
    | true => evK t x fun a => cellsK ei a fun cs => foldCs cs h fun cs h => elemsK t ei (j + 1) l h fun r h => k (cs :: r) h
    | false => False

def opP (C : Ctx) (o : Oper) (t : TS) (h : HP) (k : TS → HP → Prop) : Prop :=
  match o.op with
  | .move x => evK t x fun a => putK t o.dst a fun t => k t h
  | .assign x => evK t x fun a =>
    match a with
    | .nils => (putK t o.dst .nils fun t => k t h) ∨ on (C.tab o.type) fun i => match i.kind with
      | .slice _ es => newK h nums (.lst es []) fun n h => putK t o.dst (.slc n 0 0 true) fun t => k t h
      | _ => False
    | a => putK t o.dst a fun t => k t h
  | .pick c a b => evK t c fun c => evK t a fun a => evK t b fun b =>
    match c with
    | .v (.bool c) => (c = true → putK t o.dst a fun t => k t h) ∧ (c = false → putK t o.dst b fun t => k t h)
    | _ => False
  | .alloc ty => on (C.tab ty) fun i => newK h nums (.box i.zero) fun n h => putK t o.dst (.ptr n 0 0 i.size) fun t => k t h
  | .box ty x => on (C.tab ty) fun i => evK t x fun a => cellsK i a fun cs => newK h nums (.box cs) fun n h => putK t o.dst (.ptr n 0 0 i.size) fun t => k t h
  | .load ty a => evK t a fun a => loadP C ty a h fun x h => putK t o.dst x fun t => k t h
  | .store ty a x => on (C.tab ty) fun i => evK t x fun x => cellsK i x fun cs => evK t a fun a =>
    match a with
    | .ptr r e f _ => rootK h r fun root =>
      match root, e with
      | .box cells, 0 => layK cells f cs fun cells => setK h r (.box cells) fun h => putK t o.dst .top fun t => k t h
      | .lst _ _, e => foldCs cs h fun cs h => rootK h r fun root => (match root with
        | .lst s l => ∃ el, l[e]? = some el ∧ f + i.size ≤ s ∧ layK el f cs fun el => setK h r (.lst s (l.set e el)) fun h => putK t o.dst .top fun t => k t h
        | _ => False)
      | _, _ => False
    | .aptr r f j => rootK h r fun root => match root, cs with
      | .box cells, [x] => j + f < cells.length ∧ ∃ cells', cells.set (j + f) x = cells' ∧ setK h r (.box cells') fun h => putK t o.dst .top fun t => k t h
      | _, _ => False
    | _ => False
  | .nilCheck x => evK t x fun a =>
    match a with
    | .ptr r e f n => putK t o.dst (.ptr r e f n) fun t => k t h
    | .aptr r f j => putK t o.dst (.aptr r f j) fun t => k t h
    | .iptr b l => putK t o.dst (.iptr b l) fun t => k t h
    | .fn f c => putK t o.dst (.fn f c) fun t => k t h
    | _ => False
  | .fieldAddr ty x n => on (C.tab ty) fun i => evK t x fun a =>
    match i.kind with
    | .struct fs => on fs[n]? fun f =>
      match a with
      | .ptr r e b _ => if f.2 == 0 then False else putK t o.dst (.ptr r e (b + f.1) f.2) fun t => k t h
      | .iptr b l => if f.2 == 0 then False else cutK l f.1 f.2 fun l => putK t o.dst (.iptr b l) fun t => k t h
      | _ => False
    | _ => False
  | .indexAddr ty x ix => on (C.tab ty) fun i => evK t x fun a => evK t ix fun z =>
    match i.kind, a, z with
    | .slice _ es, .slc r b n _, .v (.int _ z) => rootK h r fun root => match root with
      | .lst s _ => if s == es then ∃ j : Nat, z = (j : Int) ∧ j < n ∧ putK t o.dst (.ptr r (b + j) 0 es) fun t => k t h else False
      | _ => False
    | .slice _ es, .imm b _ s l, .v (.int _ z) => if s == es then ∃ j : Nat, z = (j : Int) ∧ ∃ el, l[j]? = some el ∧ putK t o.dst (.iptr b el) fun t => k t h else False
    | .array n 1, .ptr r 0 f _, .v (.int _ z) => ∃ j : Nat, z = (j : Int) ∧ j < n ∧ putK t o.dst (.aptr r f j) fun t => k t h
    | .array n 1, .iptr b l, .v (.int _ z) => ∃ j : Nat, z = (j : Int) ∧ j < n ∧ ∃ x, l[j]? = some x ∧ putK t o.dst (.iptr b [x]) fun t => k t h
    | _, _, _ => False
  | .binOp op ty x y _ => evK t x fun a => evK t y fun b => binP op (C.tab ty) a b fun a => putK t o.dst a fun t => k t h
  | .unOp op _ x => evK t x fun a =>
    match op, a with
    | .not, .v (.bool b) => putK t o.dst (.v (.bool (!b))) fun t => k t h
    | .neg, .v (.int n a) => intOp .sub n 0 a fun a => putK t o.dst a fun t => k t h
    | .xor, .v (.int n a) => intOp .xor n (if n.signed then -1 else n.max) a fun a => putK t o.dst a fun t => k t h
    | _, _ => False
  | .convert s d x => on (C.tab s) fun si => on (C.tab d) fun i => evK t x fun a =>
    match i.kind, a with
    | .int n, .v (.int _ a) => putK t o.dst (.v (.int n (n.wrap a))) fun t => k t h
    | .str, .v (.string s) => putK t o.dst (.v (.string s)) fun t => k t h
    | .str, a => (match si.kind with
      | .slice e 1 => on (C.tab e) fun ei => (match ei.kind, a with
        | .int .u8, .v _ => False
        | .int .u8, a => srcK 1 a h fun L => ∃ bs : List Int, L = bs.map byteC ∧ putK t o.dst (.v (.string (bytesS bs))) fun t => k t h
        | _, _ => False)
      | _ => False)
    | .slice e 1, .v (.string s) => on (C.tab e) fun ei => (match ei.kind with
      | .int .u8 => putK t o.dst (.imm true false 1 (strB s)) fun t => k t h
      | _ => False)
    | _, _ => False
  | .extract x n => evK t x fun a =>
    match a with
    | .tup l => on l[n]? fun a => putK t o.dst a fun t => k t h
    | _ => False
  | .build ty ps => on (C.tab ty) fun i => mapK (fun (p : Nat × Operand) k => evK t p.2 fun a => k (p.1, a)) ps.toList fun ps =>
    mapK nilK i.zero fun zero => match i.kind with
    | .struct fs => fillK (fun n => fs[n]?) ps zero fun l => putK t o.dst (.agg l) fun t => k t h
    | .array _ es => fillK (fun n => some (n * es, es)) ps zero fun l => putK t o.dst (.agg l) fun t => k t h
    | _ => False
  | .buildSlice ty n ps => on (C.tab ty) fun i => match i.kind with
    | .slice e es => on (C.tab e) fun ei => (match Nat.beq ps.toList.length n, Nat.ble (n * ei.size) 16777216 with
      | true, true => elemsK t ei 0 ps.toList h fun l h => newK h nums (.lst es l) fun r h => putK t o.dst (.slc r 0 n true) fun t => k t h
      | _, _ => False)
    | _ => False
  | .makeFunc f fs cs => (match f, fs.toList with
    | .func f, [] => mapK (evK t) cs.toList fun caps => putK t o.dst (.fn f caps) fun t => k t h
    | _, _ => False)
  | .makeMap ty r => on (C.tab ty) fun i => (match i.kind, r with
    | .map kt _, none => on (C.tab kt) fun ki => tagK ki fun tag => newK h nums (.mp tag []) fun n h => putK t o.dst (.mapr n) fun t => k t h
    | _, _ => False)
  | .makeSlice ty n c => on (C.tab ty) fun i => evK t n fun n => evK t c fun c =>
    match i.kind, n, c with
    | .slice e es, .v (.int .i64 a), .v (.int .i64 b) => on (C.tab e) fun ei => if ei.bytes == 0 then False else ∃ m : Nat, a = (m : Int) ∧ b = (m : Int) ∧ ei.bytes * m ≤ 281474976710656 ∧
        newK h nums (.lst es (List.replicate m ei.zero)) fun n h => putK t o.dst (.slc n 0 m true) fun t => k t h
    | _, _, _ => False
  | .slice ty x lo hi mx => on (C.tab ty) fun i => evK t x fun a => sliceP i t a lo hi mx h fun a => putK t o.dst a fun t => k t h
  | .sliceToArrayPointer ty x => on (C.tab ty) fun i => evK t x fun a => (match i.kind, a with
    | .array n 1, .imm b _ 1 l => ∃ cs, (l.take n).flatten = cs ∧ cs.length = n ∧ n ≤ l.length ∧ 0 < n ∧ putK t o.dst (.iptr b cs) fun t => k t h
    | _, _ => False)
  | .index ty x ix => on (C.tab ty) fun i => evK t x fun a => evK t ix fun z => (match i.kind, a, z with
    | .str, .v (.string s), .v (.int _ z) => ∃ j : Nat, z = (j : Int) ∧ ∃ b, s.data[j]? = some b ∧ putK t o.dst (.v (.int .u8 b.toNat)) fun t => k t h
    | _, _, _ => False)
  | .lookup ty m x ok => on (C.tab ty) fun i => evK t m fun m => evK t x fun x => lookP C i m x ok h fun a => putK t o.dst a fun t => k t h
  | .mapUpdate ty m x y => on (C.tab ty) fun i => evK t m fun m => evK t x fun x => evK t y fun y => mapUpdP C i m x y h fun h => putK t o.dst .top fun t => k t h
  | .insert ty m x y => on (C.tab ty) fun i => evK t m fun m => evK t x fun x => evK t y fun y => mapUpdP C i m x y h fun h => putK t o.dst .top fun t => k t h
  | .makeInterface ty x => on (C.tab ty) fun i => evK t x fun a => (match i.kind, a with
    | .int _, .v u => putK t o.dst (.v (.iface ty u)) fun t => k t h
    | .str, .v u => putK t o.dst (.v (.iface ty u)) fun t => k t h
    | _, _ => False)
  | .panic x => evK t x fun a => (match a with
    | .v (.iface ty u) => C.pan (.iface ty u) h
    | _ => False)
  | .call c => mapK (evK t) c.args.toList fun args =>
    match c.callee with
    | .value f => evK t f fun f =>
      match f with
      | .fn f caps => on (C.call f) fun H => H (args ++ caps) h fun x h => match x with
        | .pan v => C.pan v h
        | x => putK t o.dst x fun t => k t h
      | _ => False
    | .builtin .len => on (c.argTypes[0]?) fun ty => on (C.tab ty) fun i => lenP i args fun a => putK t o.dst a fun t => k t h
    | .builtin .append => on (c.argTypes[0]?) fun ty => on (C.tab ty) fun i => (match i.kind, args with
      | .slice e es, [a, x] => on (c.argTypes[1]?) fun ty' => on (C.tab ty') fun i' => on (C.tab e) fun ei => (match i'.kind with
        | .slice _ _ => appendP ei es a x h fun a h => putK t o.dst a fun t => k t h
        | .str => appendP ei es a x h fun a h => putK t o.dst a fun t => k t h
        | _ => False)
      | _, _ => False)
    | .builtin .copy => on (c.argTypes[0]?) fun ty => on (C.tab ty) fun i => (match i.kind, args with
      | .slice e es, [a, x] => on (C.tab e) fun _ => copyP es a x h fun a h => putK t o.dst a fun t => k t h
      | _, _ => False)
    | .builtin .clear => on (c.argTypes[0]?) fun ty => on (C.tab ty) fun i => (match i.kind, args with
      | .slice e es, [a] => on (C.tab e) fun ei => clearP ei es a h fun h => putK t o.dst (.tup []) fun t => k t h
      | _, _ => False)
    | .builtin .min => (match args with
      | [.v (.int j a), .v (.int j' b)] => if j = j' then putK t o.dst (.v (.int j (if b < a then b else a))) fun t => k t h else False
      | _ => False)
    | .builtin .max => (match args with
      | [.v (.int j a), .v (.int j' b)] => if j = j' then putK t o.dst (.v (.int j (if a < b then b else a))) fun t => k t h else False
      | _ => False)
    | _ => False
  | _ => False

def isGuard (all : List Oper) (d : Tmp) : Bool := all.any fun o => match o.guard with | some (j, _) => (match all[j]? with | some p => p.dst == some d | none => false) | none => false

/-- Behind an operation whose bool is asked by others of its region: it is split. -/
def splitG (all : List Oper) (d : Option Tmp) (t : TS) (k : TS → Prop) : Prop :=
  match d with
  | some i => if isGuard all i then
      getK t i fun a => match a with
      | .v (.bool b) => (b = true → setK t i (.v (.bool true)) k) ∧ (b = false → setK t i (.v (.bool false)) k)
      | _ => k t
    else k t
  | none => k t

def opG (C : Ctx) (all : List Oper) (o : Oper) (t : TS) (h : HP) (k : TS → HP → Prop) : Prop :=
  match o.guard with
  | none => opP C o t h fun t h => splitG all o.dst t fun t => k t h
  | some (j, want) => on ((all[j]?).bind (·.dst)) fun d => getK t d fun a =>
      match a with
      | .v (.bool b) => if b == want then opP C o t h fun t h => splitG all o.dst t fun t => k t h else putK t o.dst (.tup []) fun t => k t h
      | .tup _ => putK t o.dst (.tup []) fun t => k t h
      | _ => False

def opsP (C : Ctx) (all : List Oper) : List Oper → TS → HP → (TS → HP → Prop) → Prop
  | [], t, h, k => k t h
  | o :: r, t, h, k => opG C all o t h fun t h => opsP C all r t h k

def readyL (ops : List Oper) (listed : List Bool) : List Nat :=
  (List.range ops.length).filter fun i => !listed.getD i true && ((ops[i]?).map (·.after.toList.all fun e => !Region.binds .any e || listed.getD e.on false)).getD false

def allL {α : Type} : List α → (α → Prop) → Prop
  | [], _ => True
  | [a], k => k a
  | a :: b :: l, k => k a ∧ allL (b :: l) k

/-- An operation whose answer asks nothing of the world. -/
def pureO (o : Oper) : Bool := match o.op with
  | .move _ => true | .assign _ => true | .pick _ _ _ => true | .nilCheck _ => true | .extract _ _ => true | .fieldAddr _ _ _ => true | .indexAddr _ _ _ => true | .binOp _ _ _ _ _ => true | .unOp _ _ _ => true
  | _ => false
/-- Every operation that is still to come and does not wait for this one has nothing to do with it. -/
def freeL (ops : Array Oper) (listed : List Bool) (i : Nat) (oi : Oper) : Bool :=
  (List.range ops.size).all fun j => Nat.beq j i || listed.getD j true || match ops[j]? with
    | some oj => oj.after.toList.any (fun e => Region.binds .any e && Nat.beq e.on i) || oi.apart ops oj
    | none => true
/-- An operation that is skipped. -/
def gOff (ops : List Oper) (t : TS) (o : Oper) : Bool := match o.guard with
  | none => false
  | some (j, want) => match (ops[j]?).bind (·.dst) with
    | some d => (match t.getD d .top with | .v (.bool b) => !(b == want) | .tup _ => true | _ => false)
    | none => false
def takeL (ops : Array Oper) (t : TS) (listed : List Bool) : List Nat → Option Nat
  | [] => none
  | i :: r => match ops[i]? with
    | some o => (match (pureO o || gOff ops.toList t o) && freeL ops listed i o with | true => some i | false => takeL ops t listed r)
    | none => takeL ops t listed r
/-- Whatever order is taken; what asks nothing of the world is done first. -/
def allP (C : Ctx) (ops : Array Oper) (sel : Bool) : Nat → List Bool → TS → HP → (TS → HP → Prop) → Prop
  | 0, listed, t, h, k => readyL ops.toList listed = [] ∧ k t h
  | f + 1, listed, t, h, k =>
    match readyL ops.toList listed with
    | [] => k t h
    | rs => match sel, takeL ops t listed rs with
      | true, some i => on ops[i]? fun o => opG C ops.toList o t h fun t h => allP C ops sel f (listed.set i true) t h k
      | _, _ => allL rs fun i => on ops[i]? fun o => opG C ops.toList o t h fun t h => allP C ops sel f (listed.set i true) t h k
def noSel : List Oper → Bool
  | [] => true
  | o :: l => match o.op with | .select _ _ => false | _ => noSel l

/-- An operation that leaves the world alone. -/
def quietO (C : Ctx) (o : Oper) : Bool := match o.op with
  | .move _ => true | .assign _ => true | .pick _ _ _ => true | .nilCheck _ => true | .extract _ _ => true | .fieldAddr _ _ _ => true | .indexAddr _ _ _ => true
  | .convert _ d _ => (match C.tab d with | some i => (match i.kind with | .slice _ _ => false | _ => true) | none => false)
  | .load _ _ => true | .binOp _ _ _ _ _ => true | .unOp _ _ _ => true | .build _ _ => true | .index _ _ _ => true | .slice _ _ _ _ _ => true | .lookup _ _ _ _ => true | .makeFunc _ _ _ => true | .sliceToArrayPointer _ _ => true
  | .call c => (match c.callee with | .builtin .len => true | .builtin .min => true | .builtin .max => true | _ => false)
  | _ => false
def allQ (C : Ctx) : List Oper → Bool
  | [] => true
  | o :: l => match quietO C o with | true => allQ C l | false => false
/-! ### One order for all: what may come up at any time is done as soon as it may, and is looked at again behind what changes memory -/

def putF (t : TS) (d : Option Tmp) (x : AV) : TS := match d with | some i => t.set i x | none => t
def gOn (ops : List Oper) (t : TS) (o : Oper) : Bool := match o.guard with
  | none => true
  | some (j, want) => match (ops[j]?).bind (·.dst) with
    | some d => (match t.getD d .top with | .v (.bool b) => b == want | _ => false)
    | none => false
def avO (t : TS) (o : Operand) : AV := match o with | .tmp i => t.getD i .top | _ => .top
/-- 0: no operation of these kinds; 1: its answer asks nothing of memory; 2: memory is asked and left as it is; 3: the same, the answer is to be named. -/
def flK (C : Ctx) (ops : List Oper) (t : TS) (h : HP) (o : Oper) : Nat := match gOff ops t o with
  | true => 1
  | false => match o.op with
    | .move _ => 1
    | .pick _ _ _ => 1
    | .nilCheck _ => 1
    | .extract _ _ => 1
    | .fieldAddr _ _ _ => 1
    | .binOp _ _ _ y _ => (match y with | .tmp i => (match t.getD i .top with | .nils => 0 | _ => 1) | .const (.slice _ _ _) => 0 | _ => 1)
    | .unOp _ _ _ => 1
    | .index _ _ _ => 1
    | .build _ _ => 1
    | .assign x => (match x with | .tmp i => (match t.getD i .top with | .nils => 0 | _ => 1) | .const (.slice _ _ _) => 0 | _ => 1)
    | .convert _ d _ => (match C.tab d with | some i => (match i.kind with | .int _ => 1 | _ => 0) | none => 0)
    | .load ty a => (match C.tab ty with
      | some i => (match avO t a with
        | .iptr _ _ => 1
        | .ptr r e f _ => (match h[r]? with
          | some (.lst _ _) => 3
          | some (.box cells) => (match e with
            | 0 => (match ((cells.drop f).take i.size).any AV.isSl with | true => 0 | false => 2)
            | _ => 0)
          | _ => 0)
        | .aptr _ _ _ => 2
        | _ => 0)
      | none => 0)
    | .indexAddr _ _ _ => 2
    | .slice _ _ _ _ _ => 3
    | .call c => (match c.callee with | .builtin .len => 1 | _ => 0)
    | _ => 0
def pickFl (C : Ctx) (ops : Array Oper) (t : TS) (h : HP) : List Nat → Option (Nat × Nat)
  | [] => none
  | i :: r => match ops[i]? with
    | some o => (match flK C ops.toList t h o with | 0 => pickFl C ops t h r | n + 1 => some (i, n))
    | none => pickFl C ops t h r
/-- A change of memory: what it leaves is to be named. -/
inductive HeldC (C : Ctx) (o : Oper) (t : TS) (h : HP) (K : AV → HP → Prop) : Prop
  | one (x : AV) (h2 : HP) (a : opP C o t h (fun t' h' => t' = putF t o.dst x ∧ h' = h2)) (b : K x h2)
  | any (Res : AV → HP → Prop) (a : opP C o t h (fun t' h' => ∃ x h2, Res x h2 ∧ t' = putF t o.dst x ∧ h' = h2)) (b : ∀ x h2, Res x h2 → K x h2)
inductive HeldF (C : Ctx) (o : Oper) (t : TS) (h : HP) (K : AV → Prop) : Prop
  | one (x : AV) (a : opP C o t h (fun t' h' => t' = putF t o.dst x ∧ h' = h)) (b : K x)
theorem HeldC.intro {C : Ctx} {o : Oper} {t : TS} {h : HP} {K : AV → HP → Prop} {x : AV} {h2 : HP} (a : opP C o t h (fun t' h' => t' = putF t o.dst x ∧ h' = h2)) (b : K x h2) : HeldC C o t h K := .one x h2 a b
theorem HeldC.all {C : Ctx} {o : Oper} {t : TS} {h : HP} {K : AV → HP → Prop} (Res : AV → HP → Prop) (a : opP C o t h (fun t' h' => ∃ x h2, Res x h2 ∧ t' = putF t o.dst x ∧ h' = h2)) (b : ∀ x h2, Res x h2 → K x h2) : HeldC C o t h K := .any Res a b
theorem HeldF.intro {C : Ctx} {o : Oper} {t : TS} {h : HP} {K : AV → Prop} {x : AV} (a : opP C o t h (fun t' h' => t' = putF t o.dst x ∧ h' = h)) (b : K x) : HeldF C o t h K := .one x a b
def reevL (C : Ctx) (ops : Array Oper) : List Nat → TS → HP → Prop → Prop
  | [], _, _, p => p
  | i :: R, t, h, p => (on ops[i]? fun o => opP C o t h fun t' h' => t' = t ∧ h' = h) ∧ reevL C ops R t h p
/-- Those that come up ahead of an operation in whatever order are not looked at again behind it. -/
def markA (o : Oper) (M : List Bool) : List Bool := o.after.toList.foldl (fun M e => match Region.binds .any e with | true => M.set e.on true | false => M) M
def ancs (ops : Array Oper) : Nat → List Bool → List Bool
  | 0, M => M
  | j + 1, M => ancs ops j (match M.getD j false, ops[j]? with | true, some o => markA o M | _, _ => M)
def nonAnc (ops : Array Oper) (i : Nat) (o : Oper) (R : List Nat) : List Nat := R.filter fun r => !((ancs ops i (markA o (List.replicate i false))).getD r false)
def heldW (C : Ctx) (ops : Array Oper) : Nat → List Bool → List Nat → TS → HP → (TS → HP → Prop) → Prop
  | 0, listed, _, t, h, k => readyL ops.toList listed = [] ∧ k t h
  | f + 1, listed, R, t, h, k =>
    match readyL ops.toList listed with
    | [] => k t h
    | rs => match pickFl C ops t h rs with
      | some (i, 0) => on ops[i]? fun o => opG C ops.toList o t h fun t h => heldW C ops f (listed.set i true) R t h k
      | some (i, 1) => on ops[i]? fun o => opG C ops.toList o t h fun t h => heldW C ops f (listed.set i true) (i :: R) t h k
      | some (i, _) => on ops[i]? fun o => (match gOn ops.toList t o with
        | true => HeldF C o t h fun x => putK t o.dst x fun t => splitG ops.toList o.dst t fun t => heldW C ops f (listed.set i true) (i :: R) t h k
        | false => False)
      | none => allL rs fun i => on ops[i]? fun o => (match gOn ops.toList t o with
          | true => HeldC C o t h fun x h2 => putK t o.dst x fun t => splitG ops.toList o.dst t fun t => reevL C ops (nonAnc ops i o R) t h2 (heldW C ops f (listed.set i true) (nonAnc ops i o R) t h2 k)
          | false => False)
def looksL (ops : List Oper) (o : Oper) : List Nat :=
  (o.op.operands.toList.filterMap fun | .tmp t => some t | _ => none) ++
  (match o.guard with
   | some (g, _) => ((ops[g]?).bind (·.dst)).toList
   | none => [])
/-- The last of a region, which comes up behind all others. -/
def lastB (ops : List Oper) (j : Nat) : Bool := Nat.beq (j + 1) ops.length && match ops[j]? with
  | some o => (List.range j).all fun k => o.after.toList.any fun e => Region.binds .any e && Nat.beq e.on k
  | none => false
/-- What an operation looks at is there before it, and each has a temporary of its own. -/
def wfO (ops : List Oper) (i : Nat) (o : Oper) : Bool :=
  (o.after.toList.all fun e => !Region.binds .any e || Nat.blt e.on i) &&
  (List.range ops.length).all fun j => match (ops[j]?).bind (·.dst) with
    | some d => (match (looksL ops o).contains d with
      | true => (o.after.toList.any fun e => Region.binds .any e && Nat.beq e.on j) || (lastB ops j && !(Nat.beq i j))
      | false => true) && (Nat.beq i j || match o.dst with | some d' => !(Nat.beq d d') | none => true)
    | none => true
def wfB (ops : List Oper) : Bool := (List.range ops.length).all fun i => match ops[i]? with | some o => wfO ops i o | none => true
/-- Slices that variables own are taken out. -/
def openH : List Nat → HP → (HP → Prop) → Prop
  | [], h, k => k h
  | r :: rs, h, k => match h[r]? with
    | some (.box cells) => (match cells.any AV.isSl with
      | true => outK cells h fun cs h => setK h r (.box cs) fun h => openH rs h k
      | false => openH rs h k)
    | _ => openH rs h k
def heldP (C : Ctx) (ops : Array Oper) (t : TS) (h : HP) (k : TS → HP → Prop) : Prop :=
  (wfB ops.toList = true) ∧ openH (List.range h.length) h fun h => heldW C ops (ops.toList.length + 1) (List.replicate ops.toList.length false) [] t h k

/-- A region that draws its order: where its operations leave the world alone the text's order serves. -/
def drawnP (C : Ctx) (ops : Array Oper) (t : TS) (h : HP) (k : TS → HP → Prop) : Prop := match allQ C ops.toList with
  | true => Region.lexB .any ops = true ∧ opsP C ops.toList ops.toList t h k
  | false => heldP C ops t h k ∨ allP C ops (noSel ops.toList) ops.toList.length (List.replicate ops.toList.length false) t h k

def topsK : Nat → (TS → Prop) → Prop
  | 0, k => k []
  | n + 1, k => topsK n fun t => k (.top :: t)
def laysK : List Nat → List AV → TS → (TS → Prop) → Prop
  | i :: is, x :: xs, t, k => setK t i x fun t => laysK is xs t k
  | _, _, t, k => k t

/-! ### What is known, put into order: the roots that are reached, their cells folded -/

/-- An argument's leaf that asks no root. -/
def AV.pure1 : AV → Bool
  | .top => true | .v _ => true | .nils => true | .imm _ _ _ _ => true | .iptr _ _ => true | .fn _ [] => true
  | _ => false
/-- A cell that asks no root. -/
def AV.wkC : AV → Bool
  | .top => true | .v _ => true | .imm _ _ _ _ => true | .iptr _ _ => true | .sl _ _ => true | .fn _ caps => caps.all AV.pure1
  | _ => false
def rootOk (st : Bool) (rt : Root) (k : Prop) : Prop := match rt with
  | .box cells => (match st with
    | true => (match cells.all AV.shutC with | true => k | false => False)
    | false => (match cells.all AV.wkC with | true => k | false => False))
  | .lst _ l => ClosedL l ∧ k
  | .mp _ _ => k
  | .dead => k
def idxK (r : Nat) : List Nat → List Nat → (Nat → Prop) → Prop → Prop
  | [], _, _, no => no
  | a :: l, n :: ns, k, no => match Nat.beq a r with | true => k n | false => idxK r l ns k no
  | _ :: _, [], _, _ => False
def snocK : List Nat → Nat → (List Nat → Prop) → Prop
  | [], r, k => k [r]
  | a :: l, r, k => snocK l r fun l => k (a :: l)
def foldRt (rt : Root) (h : HP) (k : Root → HP → Prop) : Prop := match rt with
  | .box cells => foldCs cells h fun cells h => k (.box cells) h
  | rt => k rt h
/-- Root r is taken out. -/
def grabK (st : Bool) (r : Nat) (rt : Root) (ρ : List Nat) (hs h : HP) (k : Nat → List Nat → HP → HP → Prop) : Prop :=
  setK h r .dead fun h => foldRt rt h fun rt h => rootOk st rt (newK hs nums rt fun j hs => snocK ρ r fun ρ => k j ρ hs h)
def refK (st : Bool) (r : Nat) (ρ : List Nat) (hs h : HP) (k : Nat → List Nat → HP → HP → Prop) (no : Prop) : Prop :=
  idxK r ρ nums (fun j => k j ρ hs h) (rootK h r fun rt => match rt with
    | .dead => no
    | rt => grabK st r rt ρ hs h k)
def takeN (st : Bool) : Nat → List Nat → List Nat → HP → HP → (List Nat → HP → HP → Prop) → Prop
  | 0, _, ρ, hs, h, k => k ρ hs h
  | n + 1, i :: is, ρ, hs, h, k => rootK h i fun rt => grabK st i rt ρ hs h fun _ ρ hs h => takeN st n is ρ hs h k
  | _ + 1, [], _, _, _, _ => False
abbrev CK := AV → List Nat → HP → HP → Prop
def canV0 (st : Bool) (x : AV) (ρ : List Nat) (hs h : HP) (k : CK) : Prop := match x with
  | .ptr r i o n => refK st r ρ hs h (fun j ρ hs h => k (.ptr j i o n) ρ hs h) (k .top ρ hs h)
  | .aptr r o q => refK st r ρ hs h (fun j ρ hs h => k (.aptr j o q) ρ hs h) (k .top ρ hs h)
  | .slc r o n _ => refK st r ρ hs h (fun j ρ hs h => k (.slc j o n false) ρ hs h) (k .top ρ hs h)
  | .bsl r o n => refK st r ρ hs h (fun j ρ hs h => k (.bsl j o n) ρ hs h) (k .top ρ hs h)
  | .mapr r => refK st r ρ hs h (fun j ρ hs h => k (.mapr j) ρ hs h) (k .top ρ hs h)
  | .imm b z s l => (match st && !b with | true => False | false => k (.imm b z s l) ρ hs h)
  | .iptr b l => (match st && !b with | true => False | false => k (.iptr b l) ρ hs h)
  | .v x => k (.v x) ρ hs h
  | .top => k .top ρ hs h
  | .nils => k .nils ρ hs h
  | .pan x => k (.pan x) ρ hs h
  | .fn f [] => k (.fn f []) ρ hs h
  | _ => False
def canL (f : AV → List Nat → HP → HP → CK → Prop) : List AV → List Nat → HP → HP → (List AV → List Nat → HP → HP → Prop) → Prop
  | [], ρ, hs, h, k => k [] ρ hs h
  | x :: l, ρ, hs, h, k => f x ρ hs h fun y ρ hs h => canL f l ρ hs h fun l ρ hs h => k (y :: l) ρ hs h
def canV1 (st : Bool) (x : AV) (ρ : List Nat) (hs h : HP) (k : CK) : Prop := match x with
  | .fn f caps => canL (canV0 st) caps ρ hs h fun caps ρ hs h => k (.fn f caps) ρ hs h
  | x => canV0 st x ρ hs h k
def canV2 (st : Bool) (x : AV) (ρ : List Nat) (hs h : HP) (k : CK) : Prop := match x with
  | .agg l => canL (canV1 st) l ρ hs h fun l ρ hs h => k (.agg l) ρ hs h
  | x => canV1 st x ρ hs h k
def canV3 (st : Bool) (x : AV) (ρ : List Nat) (hs h : HP) (k : CK) : Prop := match x with
  | .tup l => canL (canV2 st) l ρ hs h fun l ρ hs h => k (.tup l) ρ hs h
  | x => canV2 st x ρ hs h k

/-- A slice in an element of a slice is folded back. -/
def foldE : List (Nat × Nat × Nat) → HP → (HP → Prop) → Prop
  | [], h, k => k h
  | (r, e, f) :: l, h, k => rootK h r fun rt => match rt with
    | .lst s l0 => ∃ el, l0[e]? = some el ∧ cutK el f 1 fun cs => (match cs with
      | [.slc r' o n z] => setK h r .dead fun h => foldCs [.slc r' o n z] h fun cs h => layK el f cs fun el => setK h r (.lst s (l0.set e el)) fun h => foldE l h k
      | _ => False)
    | _ => False
/-- A loop's head: what is kept, as it is or put into order. -/
def headK (m : Nat) (cn : Bool) (vs : List AV) (h : HP) (k : List AV → HP → Prop) : Prop := match cn with
  | false => k vs h
  | true => ∃ fs, foldE fs h fun h => takeN false m nums [] [] h fun ρ hs h => canL (canV3 false) vs ρ hs h fun vs _ hs _ => k vs hs

/-- What was asked is known behind it. -/
def knowK (c : Operand) (b : Bool) (t : TS) (k : TS → Prop) : Prop := match c with | .tmp i => setK t i (.v (.bool b)) k | _ => k t

abbrev Post := Exit → TS → HP → Prop
def Post.seq (k : Post) (k' : TS → HP → Prop) : Post
  | .normal, t, h => k' t h
  | e, t, h => k e t h
def Post.block (id : Nat) (k : Post) : Post
  | .exit i, t, h => if i = id then k .normal t h else k (.exit i) t h
  | e, t, h => k e t h

def isIf : Code → Bool
  | .cond _ _ _ => true
  | .seq _ (.cond _ _ _) => true
  | .region _ _ true => true
  | _ => false
def AWP (C : Ctx) : Code → Post → TS → HP → Prop
  | .skip, k, t, h => k .normal t h
  | .label _, k, t, h => k .normal t h
  | .region _ ops draw, k, t, h =>
    if draw then drawnP C ops t h (k .normal) else opsP C ops.toList ops.toList t h (k .normal)
  | .seq a b, k, t, h => match C.cut && isIf a with
    | true => AWP C a (Post.seq k (AWP C b k)) t h ∨ ∃ (cn : Bool) (ks : List Nat) (I : List AV → HP → Prop),
      AWP C a (Post.seq k fun t h => mapK (getK t) ks fun vs => headK C.m cn vs h I) t h ∧ ∀ vs h, I vs h → topsK t.length fun t => laysK ks vs t fun t => AWP C b k t h
    | false => AWP C a (Post.seq k (AWP C b k)) t h
  | .cond c0 a b, k, t, h => evK t c0 fun c =>
    match c with
    | .v (.bool x) => (x = true → knowK c0 true t fun t => AWP C a k t h) ∧ (x = false → knowK c0 false t fun t => AWP C b k t h)
    | _ => False
  | .block id b, k, t, h => AWP C b (Post.block id k) t h
  | .loop b, k, t, h => ∃ (cn : Bool) (ks : List Nat) (I : Nat → List AV → HP → Prop),
      mapK (getK t) ks (fun vs => headK C.m cn vs h fun vs h => ∃ n, I n vs h) ∧
      ∀ n vs h, I n vs h → topsK t.length fun t => laysK ks vs t fun t => AWP C b (Post.seq k fun t h => mapK (getK t) ks fun vs => headK C.m cn vs h fun vs h => ∃ n', n' < n ∧ I n' vs h) t h
  | .exit id, k, t, h => k (.exit id) t h
  | .ret, k, t, h => k .ret t h
  | _, _, _, _ => False

end Go.Proofs.YtbfjkjdbdejnmaaGreat.Ab

/- What it means that memory is as the abstract machine knows it, and that this lasts. No condition. -/
namespace Go.Proofs.YtbfjkjdbdejnmaaGreat.Ab
set_option linter.unusedVariables false
set_option linter.unusedSimpArgs false

abbrev BS := Nat → Prop

structure Gh where
  ob : Option Nat
  s : Nat
  sz : Nat

/-- A call's surroundings: the world when it began, the blocks that are its own, those that will never change, those that stay while it runs and that it may read, a later world for what never changes, the roots that stay where they are. -/
structure Env where
  w0 : World
  O : BS
  S0 : BS
  Ro : BS
  ws : World
  G0 : List Gh

def sel (Ro S : BS) (t : Bool) : BS := fun k => match t with | true => S k | false => Ro k ∨ S k

/-- Memory that stays as it is. -/
inductive IR (w : World) (Ro S : BS) : Bool → AV → Value → Prop
  | top (t x) : x.oneCell' = true → IR w Ro S t .top x
  | v (t x) : x.oneCell' = true → IR w Ro S t (.v x) x
  | sl0 (t s a c) : IR w Ro S t (.sl s []) (.slice a 0 c)
  | sl (t s) (l : List (List AV)) (b off c) (cs : Array Value) (T fz) (cv : Nat → Value) : sel Ro S t b → w.heap[b]? = some (.cells cs T fz) → (∀ e ∈ l, e.length = s) → l.length ≤ c →
      (∀ j, j < l.flatten.length → cs[off + j]? = some (cv j)) → (∀ j x, l.flatten[j]? = some x → IR w Ro S t x (cv j)) → IR w Ro S t (.sl s l) (.slice (some ⟨b, off, none⟩) l.length c)
  | imm (t t' z s l a n c) : (t = true → t' = true) → IR w Ro S t' (.sl s l) (.slice a n c) → (z = true → c = n) → IR w Ro S t (.imm t' z s l) (.slice a n c)
  | iptr (t t') (l : List AV) (b off) (cs : Array Value) (T fz) (cv : Nat → Value) : (t = true → t' = true) → sel Ro S t' b → w.heap[b]? = some (.cells cs T fz) →
      (∀ j, j < l.length → cs[off + j]? = some (cv j)) → (∀ j x, l[j]? = some x → IR w Ro S t' x (cv j)) → IR w Ro S t (.iptr t' l) (.pointer (some ⟨b, off, none⟩))
  | fn (t f) (caps : List AV) (vs : List Value) : caps.length = vs.length → (∀ x ∈ caps, x.isSl = false) → (∀ j x, caps[j]? = some x → IR w Ro S t x (vs.getD j undef)) → IR w Ro S t (.fn f caps) (.func (.func f) #[] vs.toArray)

/-- A value at hand. -/
inductive VR (G : List Gh) (w : World) (Ro S : BS) : AV → Value → Prop
  | top (x) : VR G w Ro S .top x
  | ir (a x) : a.isSl = false → IR w Ro S false a x → VR G w Ro S a x
  | nils : VR G w Ro S .nils (.slice none 0 0)
  | ptr (r i o k b) (g : Gh) : G[r]? = some g → g.ob = some b → VR G w Ro S (.ptr r i o k) (.pointer (some ⟨b, i * g.s + o, none⟩))
  | aptr (r o j b) (g : Gh) : G[r]? = some g → g.ob = some b → VR G w Ro S (.aptr r o j) (.pointer (some ⟨b, j + o, none⟩))
  | bsl (r o n b c) (g : Gh) : G[r]? = some g → g.ob = some b → n ≤ c → VR G w Ro S (.bsl r o n) (.slice (some ⟨b, o, none⟩) n c)
  | mapr (r b) (g : Gh) : G[r]? = some g → g.ob = some b → VR G w Ro S (.mapr r) (.map (some b))
  | slc (r o n z) (g : Gh) (a c) : G[r]? = some g → n ≤ c → (z = true → c = n) → (c = 0 ∨ ∃ b, g.ob = some b ∧ a = some ⟨b, o * g.s, none⟩ ∧ (o + c) * g.s ≤ g.sz) → VR G w Ro S (.slc r o n z) (.slice a n c)
  | fn (f) (caps : List AV) (vs : List Value) : caps.length = vs.length → (∀ j x, caps[j]? = some x → VR G w Ro S x (vs.getD j undef)) → VR G w Ro S (.fn f caps) (.func (.func f) #[] vs.toArray)
  | agg (l : List AV) (vs : List Value) : l.length = vs.length → (∀ v ∈ vs, v.oneCell' = true) → (∀ j x, l[j]? = some x → VR G w Ro S x (vs.getD j undef)) → VR G w Ro S (.agg l) (.agg vs.toArray)
  | tup (l : List AV) (vs : List Value) : l.length = vs.length → (∀ j x, l[j]? = some x → VR G w Ro S x (vs.getD j undef)) → VR G w Ro S (.tup l) (.tuple vs.toArray)

/-- A cell whose slices it owns; the blocks that it owns. -/
inductive OR (w : World) (Ro S : BS) : AV → Value → BS → Prop
  | leaf (a x) : a.isSl = false → IR w Ro S true a x → OR w Ro S a x (fun _ => False)
  | sl0 (s a) : OR w Ro S (.sl s []) (.slice a 0 0) (fun _ => False)
  | sl (s) (l : List (List AV)) (b c) (cs : Array Value) (T) (cv : Nat → Value) (Fc : Nat → BS) : w.heap[b]? = some (.cells cs T (0, 0)) → (∀ e ∈ l, e.length = s) → l.length ≤ c → c * s ≤ cs.size →
      (∀ j, j < l.flatten.length → cs[j]? = some (cv j)) → (∀ j x, l.flatten[j]? = some x → OR w Ro S x (cv j) (Fc j)) →
      (∀ j j' k, j < l.flatten.length → j' < l.flatten.length → Fc j k → Fc j' k → j = j') → (∀ j k, j < l.flatten.length → Fc j k → k ≠ b) →
      OR w Ro S (.sl s l) (.slice (some ⟨b, 0, none⟩) l.length c) (fun k => k = b ∨ ∃ j, j < l.flatten.length ∧ Fc j k)

/-- A cell of a block of the call's own. -/
def CR (G : List Gh) (w : World) (Ro S : BS) (a : AV) (x : Value) (F : BS) : Prop :=
  (a.isSl = false ∧ VR G w Ro S a x ∧ x.oneCell' = true ∧ ∀ k, ¬ F k) ∨ OR w Ro S a x F

def BlkR (G : List Gh) (w : World) (Ro S : BS) (fl : List AV) (b : Nat) (cs : Array Value) (F : BS) : Prop :=
  ∃ (cv : Nat → Value) (Fc : Nat → BS), (∀ j, j < fl.length → cs[j]? = some (cv j)) ∧ (∀ j a, fl[j]? = some a → CR G w Ro S a (cv j) (Fc j)) ∧
    (∀ j j' k, j < fl.length → j' < fl.length → Fc j k → Fc j' k → j = j') ∧ (∀ j k, j < fl.length → Fc j k → k ≠ b) ∧ (∀ k, F k ↔ (k = b ∨ ∃ j, j < fl.length ∧ Fc j k))

def _root_.Go.Value.oneA : Value → Bool
  | .agg cs => cs.all Value.oneCell'
  | x => x.oneCell'
def RootR (G : List Gh) (w : World) (Ro S : BS) (rt : Root) (g : Gh) (F : BS) : Prop :=
  match rt with
  | .box cells => ∃ b cs T, g.ob = some b ∧ w.heap[b]? = some (.cells cs T (0, 0)) ∧ cs.size = cells.length ∧ BlkR G w Ro S cells b cs F
  | .lst s l => g.s = s ∧ (∀ e ∈ l, e.length = s) ∧ ((g.ob = none ∧ l = [] ∧ ∀ k, ¬ F k) ∨
      ∃ b cs T, g.ob = some b ∧ w.heap[b]? = some (.cells cs T (0, 0)) ∧ cs.size = g.sz ∧ l.flatten.length ≤ cs.size ∧ BlkR G w Ro S l.flatten b cs F)
  | .mp tag l => ∃ b es clock, g.ob = some b ∧ w.heap[b]? = some (.map es clock) ∧ es.toList.map (fun e => (e.key, e.val)) = l.map (fun p => (p.1.val, p.2)) ∧ (∀ p ∈ l, p.1.tag = tag ∧ p.2.oneA = true) ∧ ∀ k, F k ↔ k = b
  | .dead => ∀ k, ¬ F k

structure Good (E : Env) (G : List Gh) (h : HP) (w : World) (S : BS) (F : Nat → BS) : Prop where
  len : G.length = h.length
  root : ∀ r rt g, h[r]? = some rt → G[r]? = some g → RootR G w E.Ro S rt g (F r)
  dis : ∀ r r' k, F r k → F r' k → r = r'
  out : ∀ r k, h.length ≤ r → ¬ F r k
  own : ∀ r k, F r k → k < w.heap.size ∧ (E.O k ∨ E.w0.heap.size ≤ k) ∧ ¬ S k
  sb : ∀ k, S k → k < w.heap.size
  s0 : ∀ k, E.S0 k → S k
  sn : ∀ k, S k → E.S0 k ∨ E.O k ∨ E.w0.heap.size ≤ k
  size : E.w0.heap.size ≤ w.heap.size
  os : w.os = E.w0.os
  tape : w.tape = E.w0.tape
  output : w.output = E.w0.output
  fr : ∀ k, k < E.w0.heap.size → ¬ E.O k → w.heap[k]? = E.w0.heap[k]?
  rok : ∀ k, E.Ro k → k < E.w0.heap.size ∧ ¬ E.O k
  gp : ∀ (r : Nat) (g : Gh), E.G0[r]? = some g → G[r]? = some g
  sf : ∀ k, E.S0 k → w.heap[k]? = E.ws.heap[k]?

/-- From one state of what is known to a later one: roots stay where they are; what is to stay as it is has stayed. -/
structure Ext (E : Env) (G : List Gh) (w : World) (S : BS) (G' : List Gh) (w' : World) (S' : BS) : Prop where
  g : ∀ (r : Nat) (g : Gh), G[r]? = some g → G'[r]? = some g
  s : ∀ k, S k → S' k
  ss : ∀ k, S k → w'.heap[k]? = w.heap[k]?
  ro : ∀ k, E.Ro k → w'.heap[k]? = w.heap[k]?

theorem Ext.refl (E : Env) (G w S) : Ext E G w S G w S := ⟨fun _ _ h => h, fun _ h => h, fun _ _ => rfl, fun _ _ => rfl⟩
theorem Ext.trans {E : Env} {G w S G' w' S' G'' w'' S''} (h : Ext E G w S G' w' S') (k : Ext E G' w' S' G'' w'' S'') : Ext E G w S G'' w'' S'' :=
  ⟨fun r g x => k.g r g (h.g r g x), fun b x => k.s b (h.s b x), fun b x => (k.ss b (h.s b x)).trans (h.ss b x), fun b x => (k.ro b x).trans (h.ro b x)⟩

theorem sel_mono {Ro S S' : BS} (h : ∀ k, S k → S' k) {t : Bool} {b : Nat} (x : sel Ro S t b) : sel Ro S' t b := by
  cases t
  · exact x.imp id (h b)
  · exact h b x

theorem IR.ext {w w' : World} {Ro S S' : BS} (hs : ∀ k, S k → S' k) (hw : ∀ k, Ro k ∨ S k → w'.heap[k]? = w.heap[k]?) {t a x} (h : IR w Ro S t a x) : IR w' Ro S' t a x := by
  have hsel : ∀ {t : Bool} {b : Nat}, sel Ro S t b → w'.heap[b]? = w.heap[b]? := fun {t b} q => hw b (by cases t with | false => exact q | true => exact .inr q)
  induction h with
  | top t x h => exact .top t x h
  | v t x h => exact .v t x h
  | sl0 t s a c => exact .sl0 t s a c
  | sl t s l b off c cs T fz cv h1 h2 h3 h0 h4 _ ih => exact .sl t s l b off c cs T fz cv (sel_mono hs h1) (by rw [hsel h1]; exact h2) h3 h0 h4 ih
  | imm t t' z s l a n c h1 _ h3 ih => exact .imm t t' z s l a n c h1 ih h3
  | iptr t t' l b off cs T fz cv h0 h1 h2 h4 _ ih => exact .iptr t t' l b off cs T fz cv h0 (sel_mono hs h1) (by rw [hsel h1]; exact h2) h4 ih
  | fn t f caps vs h1 h2 _ ih => exact .fn t f caps vs h1 h2 ih

theorem VR.ext {E : Env} {G w S G' w' S'} (e : Ext E G w S G' w' S') {a x} (h : VR G w E.Ro S a x) : VR G' w' E.Ro S' a x := by
  induction h with
  | top x => exact .top x
  | ir a x h1 h2 => exact .ir a x h1 (h2.ext e.s (fun k hk => hk.elim (e.ro k) (e.ss k)))
  | nils => exact .nils
  | ptr r i o k b g h1 h2 => exact .ptr r i o k b g (e.g r g h1) h2
  | slc r o n z g a c h1 h2 h3 h4 => exact .slc r o n z g a c (e.g r g h1) h2 h3 h4
  | aptr r o j b g h1 h2 => exact .aptr r o j b g (e.g r g h1) h2
  | bsl r o n b c g h1 h2 h3 => exact .bsl r o n b c g (e.g r g h1) h2 h3
  | mapr r b g h1 h2 => exact .mapr r b g (e.g r g h1) h2
  | fn f caps vs h1 _ ih => exact .fn f caps vs h1 ih
  | agg l vs h1 h2 _ ih => exact .agg l vs h1 h2 ih
  | tup l vs h1 _ ih => exact .tup l vs h1 ih

theorem IR.weak {w : World} {Ro S : BS} {t a x} (h : IR w Ro S t a x) : IR w Ro S false a x := by
  induction h with
  | top t x h => exact .top _ x h
  | v t x h => exact .v _ x h
  | sl0 t s a c => exact .sl0 _ s a c
  | sl t s l b off c cs T fz cv h1 h2 h3 h0 h4 _ ih => exact .sl _ s l b off c cs T fz cv (by cases t with | true => exact .inr h1 | false => exact h1) h2 h3 h0 h4 ih
  | imm t t' z s l a n c h1 h2 h3 ih => exact .imm _ t' z s l a n c (by simp) h2 h3
  | iptr t t' l b off cs T fz cv h0 h1 h2 h4 h5 ih => exact .iptr _ t' l b off cs T fz cv (by simp) h1 h2 h4 h5
  | fn t f caps vs h1 h2 _ ih => exact .fn _ f caps vs h1 h2 ih

theorem VR.pre {G G' : List Gh} {w : World} {Ro S : BS} (hG : ∀ (r : Nat) (g : Gh), G[r]? = some g → G'[r]? = some g) {a x} (h : VR G w Ro S a x) : VR G' w Ro S a x := by
  induction h with
  | top x => exact .top x
  | ir a x h1 h2 => exact .ir a x h1 h2
  | nils => exact .nils
  | ptr r i o k b g h1 h2 => exact .ptr r i o k b g (hG r g h1) h2
  | slc r o n z g a c h1 h2 h3 h4 => exact .slc r o n z g a c (hG r g h1) h2 h3 h4
  | aptr r o j b g h1 h2 => exact .aptr r o j b g (hG r g h1) h2
  | bsl r o n b c g h1 h2 h3 => exact .bsl r o n b c g (hG r g h1) h2 h3
  | mapr r b g h1 h2 => exact .mapr r b g (hG r g h1) h2
  | fn f caps vs h1 _ ih => exact .fn f caps vs h1 ih
  | agg l vs h1 h2 _ ih => exact .agg l vs h1 h2 ih
  | tup l vs h1 _ ih => exact .tup l vs h1 ih
theorem pre_append (G : List Gh) (g : Gh) (i : Nat) (g' : Gh) (h : G[i]? = some g') : (G ++ [g])[i]? = some g' := by
  rw [List.getElem?_append_left (List.getElem?_eq_some_iff.1 h).1]; exact h

/-- A cell's own slices last where its blocks do. -/
theorem OR.ext {w w' : World} {Ro S S' : BS} (hs : ∀ k, S k → S' k) (hw : ∀ k, Ro k ∨ S k → w'.heap[k]? = w.heap[k]?) {a x F} (h : OR w Ro S a x F) : (∀ k, F k → w'.heap[k]? = w.heap[k]?) → OR w' Ro S' a x F := by
  induction h with
  | leaf a x h1 h2 => exact fun _ => .leaf a x h1 (h2.ext hs hw)
  | sl0 s a => exact fun _ => .sl0 s a
  | sl s l b c cs T cv Fc h1 h2 h3 h4 h5 _ h7 h8 ih =>
    intro hF
    refine .sl s l b c cs T cv Fc (by rw [hF b (.inl rfl)]; exact h1) h2 h3 h4 h5 (fun j x hj => ih j x hj (fun k hk => hF k (.inr ⟨j, ?_, hk⟩))) h7 h8
    exact (List.getElem?_eq_some_iff.1 hj).1

theorem CR.ext {E : Env} {G w S G' w' S'} (e : Ext E G w S G' w' S') {a x F} (h : CR G w E.Ro S a x F) (hF : ∀ k, F k → w'.heap[k]? = w.heap[k]?) : CR G' w' E.Ro S' a x F :=
  h.imp (fun ⟨h1, h2, h3⟩ => ⟨h1, h2.ext e, h3⟩) (fun h => h.ext e.s (fun k hk => hk.elim (e.ro k) (e.ss k)) hF)

theorem BlkR.ext {E : Env} {G w S G' w' S'} (e : Ext E G w S G' w' S') {fl b cs F} (h : BlkR G w E.Ro S fl b cs F) (hF : ∀ k, F k → k ≠ b → w'.heap[k]? = w.heap[k]?) : BlkR G' w' E.Ro S' fl b cs F := by
  obtain ⟨cv, Fc, h1, h2, h3, h4, h5⟩ := h
  refine ⟨cv, Fc, h1, fun j a hj => (h2 j a hj).ext e (fun k hk => ?_), h3, h4, h5⟩
  have hl := (List.getElem?_eq_some_iff.1 hj).1
  exact hF k ((h5 k).2 (.inr ⟨j, hl, hk⟩)) (h4 j k hl hk)

theorem RootR.ext {E : Env} {G w S G' w' S'} (e : Ext E G w S G' w' S') {rt g F} (h : RootR G w E.Ro S rt g F) (hF : ∀ k, F k → w'.heap[k]? = w.heap[k]?) : RootR G' w' E.Ro S' rt g F := by
  cases rt with
  | box cells =>
    obtain ⟨b, cs, T, h1, h2, h3, h4⟩ := h
    have hb : F b := by obtain ⟨_, _, _, _, _, _, h5⟩ := h4; exact (h5 b).2 (.inl rfl)
    exact ⟨b, cs, T, h1, by rw [hF b hb]; exact h2, h3, h4.ext e (fun k hk _ => hF k hk)⟩
  | lst s l =>
    obtain ⟨h1, h2, h3⟩ := h
    refine ⟨h1, h2, h3.imp id ?_⟩
    rintro ⟨b, cs, T, h1, h2, h3, h5, h4⟩
    have hb : F b := by obtain ⟨_, _, _, _, _, _, h5⟩ := h4; exact (h5 b).2 (.inl rfl)
    exact ⟨b, cs, T, h1, by rw [hF b hb]; exact h2, h3, h5, h4.ext e (fun k hk _ => hF k hk)⟩
  | mp tag l =>
    obtain ⟨b, es, clock, h1, h2, h3, h4, h5⟩ := h
    exact ⟨b, es, clock, h1, by rw [hF b ((h5 b).2 rfl)]; exact h2, h3, h4, h5⟩
  | dead => exact h

end Go.Proofs.YtbfjkjdbdejnmaaGreat.Ab

/- Steps from one state of what is known to the next: a new block, a block written, a draw. No condition. -/
namespace Go.Proofs.YtbfjkjdbdejnmaaGreat.Ab
set_option linter.unusedVariables false
set_option linter.unusedSimpArgs false

/-! ### The strict words are the plain ones -/

theorem getK_eq (t : TS) (n : Nat) (k : AV → Prop) : getK t n k = k (t.getD n .top) := by
  induction t generalizing n with
  | nil => simp [getK]
  | cons a t ih => cases n with
    | zero => simp [getK]
    | succ n => simp [getK, ih]
theorem setK_eq {α : Type} (l : List α) (n : Nat) (x : α) (k : List α → Prop) : setK l n x k = k (l.set n x) := by
  induction l generalizing n k with
  | nil => simp [setK]
  | cons a t ih => cases n with
    | zero => simp [setK]
    | succ n => simp [setK, ih]
theorem newK_aux (ns : List Nat) (x : Root) : ∀ (h : HP) (k : Nat → HP → Prop), newK h ns x k → ∃ n, ns[h.length]? = some n ∧ k n (h ++ [x]) := by
  induction ns with
  | nil => intro h k hk; cases h <;> simp [newK] at hk
  | cons n ns ih =>
    intro h k hk
    cases h with
    | nil => exact ⟨n, by simp, by simpa [newK] using hk⟩
    | cons a t =>
      simp only [newK] at hk
      obtain ⟨m, h1, h2⟩ := ih t _ hk
      exact ⟨m, by simpa using h1, by simpa using h2⟩
theorem nums_range : nums = List.range 160 := by decide
theorem nums_get (i n : Nat) (h : nums[i]? = some n) : n = i := by
  rw [nums_range, List.getElem?_range (by
    have := (List.getElem?_eq_some_iff.1 h).1
    simpa [nums_range] using this)] at h
  simpa using h.symm
theorem newK_spec {h : HP} {x : Root} {k : Nat → HP → Prop} (hk : newK h nums x k) : k h.length (h ++ [x]) := by
  obtain ⟨n, h1, h2⟩ := newK_aux nums x h k hk
  rw [nums_get _ _ h1] at h2
  exact h2
theorem rootK_spec {h : HP} {r : Nat} {k : Root → Prop} (hk : rootK h r k) : ∃ a, h[r]? = some a ∧ k a := by
  induction h generalizing r with
  | nil => simp [rootK] at hk
  | cons a t ih => cases r with
    | zero => exact ⟨a, by simp, by simpa [rootK] using hk⟩
    | succ r => obtain ⟨b, h1, h2⟩ := ih (r := r) (by simpa [rootK] using hk); exact ⟨b, by simpa using h1, h2⟩
def lay (l : List AV) (o : Nat) (cs : List AV) : List AV := l.take o ++ cs ++ l.drop (o + cs.length)
theorem layK_spec : ∀ (l : List AV) (o : Nat) (cs : List AV) (k : List AV → Prop), layK l o cs k → o + cs.length ≤ l.length ∧ k (lay l o cs)
  | l, 0, [], k, hk => by simp [layK] at hk; simp [lay, hk]
  | a :: l, 0, c :: cs, k, hk => by
    simp only [layK] at hk
    obtain ⟨h1, h2⟩ := layK_spec l 0 cs _ hk
    refine ⟨by simp at h1 ⊢; omega, ?_⟩
    simpa [lay, Nat.add_comm] using h2
  | a :: l, n + 1, cs, k, hk => by
    simp only [layK] at hk
    obtain ⟨h1, h2⟩ := layK_spec l n cs _ hk
    refine ⟨by simp at h1 ⊢; omega, ?_⟩
    simpa [lay, Nat.add_right_comm] using h2
  | [], 0, c :: cs, k, hk => by simp [layK] at hk
  | [], n + 1, cs, k, hk => by simp [layK] at hk
theorem cutK_spec : ∀ (l : List AV) (o n : Nat) (k : List AV → Prop), cutK l o n k → o + n ≤ l.length ∧ k ((l.drop o).take n)
  | l, 0, 0, k, hk => by simp [cutK] at hk; simp [hk]
  | a :: l, 0, n + 1, k, hk => by
    simp only [cutK] at hk
    obtain ⟨h1, h2⟩ := cutK_spec l 0 n _ hk
    exact ⟨by simp at h1 ⊢; omega, by simpa using h2⟩
  | a :: l, o + 1, n, k, hk => by
    simp only [cutK] at hk
    obtain ⟨h1, h2⟩ := cutK_spec l o n _ hk
    exact ⟨by simp at h1 ⊢; omega, by simpa using h2⟩
  | [], 0, n + 1, k, hk => by simp [cutK] at hk
  | [], o + 1, n, k, hk => by simp [cutK] at hk
theorem lay_length {l cs : List AV} {o : Nat} (h : o + cs.length ≤ l.length) : (lay l o cs).length = l.length := by simp [lay]; omega
theorem lay_get {l cs : List AV} {o : Nat} (h : o + cs.length ≤ l.length) (j : Nat) : (lay l o cs)[j]? = if o ≤ j ∧ j < o + cs.length then cs[j - o]? else l[j]? := by
  unfold lay
  rw [List.append_assoc, List.getElem?_append]
  simp only [List.length_take, Nat.min_eq_left (show o ≤ l.length by omega)]
  by_cases h1 : j < o
  · rw [if_pos h1, if_neg (by omega), List.getElem?_take, if_pos h1]
  · rw [if_neg h1, List.getElem?_append]
    by_cases h2 : j - o < cs.length
    · rw [if_pos h2, if_pos (by omega)]
    · rw [if_neg h2, if_neg (by omega), List.getElem?_drop]
      congr 1; omega

/-! ### Values at hand -/

def TR (G : List Gh) (w : World) (Ro S : BS) (t : TS) (a : Act) : Prop := t.length = a.tmps.size ∧ ∀ i, VR G w Ro S (t.getD i .top) (a.tmps.getD i undef)

theorem TR.ext {E : Env} {G w S G' w' S'} (e : Ext E G w S G' w' S') {t a} (h : TR G w E.Ro S t a) : TR G' w' E.Ro S' t a := ⟨h.1, fun i => (h.2 i).ext e⟩

theorem putK_spec {G : List Gh} {w : World} {Ro S : BS} {t : TS} {a : Act} {d : Option Tmp} {x : AV} {v : Value} {k : TS → Prop} (ht : TR G w Ro S t a) (hv : VR G w Ro S x v) (hk : putK t d x k) :
    ∃ t', k t' ∧ TR G w Ro S t' (a.put d v) := by
  cases d with
  | none => exact ⟨t, hk, ht⟩
  | some i =>
    simp only [putK, setK_eq] at hk
    refine ⟨_, hk, by simpa [Act.put] using ht.1, fun j => ?_⟩
    have hl := ht.1
    simp only [Act.put, Array.getD_eq_getD_getElem?, List.getD_eq_getElem?_getD, List.getElem?_set, Array.getElem?_setIfInBounds]
    have hj := ht.2 j
    simp only [Array.getD_eq_getD_getElem?, List.getD_eq_getElem?_getD] at hj
    by_cases hij : i = j
    · subst hij
      by_cases hb : i < t.length
      · simpa [hb, hl ▸ hb] using hv
      · simpa [hb, hl ▸ hb] using VR.top _
    · simpa [hij] using hj

def evF (t : TS) (o : Operand) : AV := match o with
  | .tmp i => t.getD i .top
  | .const x => (match x with | .slice none 0 0 => .nils | .slice _ _ _ => .top | .agg _ => .top | .tuple _ => .top | x => .v x)
  | .global _ => .top
  | .func f => .fn f []
theorem evK_eq (t : TS) (o : Operand) (k : AV → Prop) : evK t o k = k (evF t o) := by
  cases o with
  | tmp i => simp [evK, evF, getK_eq]
  | const x =>
    simp only [evK, evF, constK]
    cases x with
    | slice a n c =>
      cases a with
      | none => cases n with
        | zero => cases c <;> rfl
        | succ n => rfl
      | some a => rfl
    | _ => rfl
  | global g => rfl
  | func f => rfl
theorem evF_spec {G : List Gh} {w : World} {Ro S : BS} {t : TS} {a : Act} (ht : TR G w Ro S t a) (o : Operand) : VR G w Ro S (evF t o) (a.eval o) := by
  cases o with
  | tmp i => exact ht.2 i
  | const x =>
    simp only [evF, Act.eval]
    split
    · exact .nils
    · exact .top _
    · exact .top _
    · exact .top _
    · rename_i h1 h2 h3 h4
      refine .ir _ _ rfl (.v _ _ ?_)
      cases x <;> simp_all [Value.oneCell']
  | global g => exact .top _
  | func f => exact .ir _ _ rfl (.fn _ f [] [] rfl (by simp) (by simp))
theorem mapK_ev (t : TS) (l : List Operand) (k : List AV → Prop) : mapK (evK t) l k = k (l.map (evF t)) := by
  induction l generalizing k with
  | nil => rfl
  | cons a l ih => simp [mapK, evK_eq, ih]

/-! ### Roots -/

/-- A world in which, of the blocks of the world before, only those of B are other. -/
structure Chg (w w' : World) (B : BS) : Prop where
  os : w'.os = w.os
  tape : w'.tape = w.tape
  output : w'.output = w.output
  size : w.heap.size ≤ w'.heap.size
  heap : ∀ k, k < w.heap.size → ¬ B k → w'.heap[k]? = w.heap[k]?

theorem Chg.refl (w : World) (B : BS) : Chg w w B := ⟨rfl, rfl, rfl, Nat.le_refl _, fun _ _ _ => rfl⟩
theorem Chg.drewN (w : World) (n : Nat) (B : BS) : Chg w (w.drewN n) B := ⟨rfl, rfl, rfl, Nat.le_refl _, fun _ _ _ => rfl⟩
theorem Chg.alloc (w : World) (o : Obj) (B : BS) : Chg w (w.alloc o) B :=
  ⟨rfl, rfl, rfl, by simp, fun k hk _ => by simp only [World.alloc, Array.getElem?_push]; rw [if_neg (by omega)]⟩
theorem Chg.setRow (w : World) (b : Nat) (cs : Array Value) (B : BS) (hb : B b) : Chg w (w.setRow b cs) B :=
  ⟨rfl, rfl, rfl, by simp, fun k _ hk => setRow_other w b k cs (fun h => hk (h ▸ hb))⟩

theorem Good.ro_lt {E G h w S F} (hg : Good E G h w S F) {k : Nat} (hk : E.Ro k) : k < w.heap.size := Nat.lt_of_lt_of_le (hg.rok k hk).1 hg.size
theorem Good.ro_not {E G h w S F} (hg : Good E G h w S F) {k : Nat} (hk : E.Ro k) (r : Nat) : ¬ F r k := fun hf => by
  have := (hg.own r k hf).2.1
  rcases this with h | h
  · exact (hg.rok k hk).2 h
  · have := (hg.rok k hk).1; omega
/-- What lay outside when the call began lies outside still. -/
theorem Good.out_not {E G h w S F} (hg : Good E G h w S F) {k : Nat} (h1 : k < E.w0.heap.size) (h2 : ¬ E.O k) (r : Nat) : ¬ F r k := fun hf => by
  rcases (hg.own r k hf).2.1 with h | h
  · exact h2 h
  · omega

/-- Where only blocks of root r have changed, what is known lasts. -/
theorem Good.ext_chg {E G h w S F} (hg : Good E G h w S F) {w' : World} {r : Nat} (c : Chg w w' (F r)) {G' : List Gh} (hG : ∀ (i : Nat) (g : Gh), G[i]? = some g → G'[i]? = some g) : Ext E G w S G' w' S :=
  ⟨hG, fun _ h => h, fun k hk => c.heap k (hg.sb k hk) (fun hf => (hg.own r k hf).2.2 hk), fun k hk => c.heap k (hg.ro_lt hk) (hg.ro_not hk r)⟩
theorem Good.ext_none {E G h w S F} (hg : Good E G h w S F) {w' : World} (c : Chg w w' (fun _ => False)) {G' : List Gh} (hG : ∀ (i : Nat) (g : Gh), G[i]? = some g → G'[i]? = some g) : Ext E G w S G' w' S :=
  ⟨hG, fun _ h => h, fun k hk => c.heap k (hg.sb k hk) (fun hf => hf), fun k hk => c.heap k (hg.ro_lt hk) (fun hf => hf)⟩

/-- Root r, and its blocks, have become what 'rt'' and 'F'' say. -/
theorem Good.setRoot' {E G h w S F} (hg : Good E G h w S F) {r : Nat} {g : Gh} (hr : r < h.length) (hgr : G[r]? = some g) {w' : World} (c : Chg w w' (F r)) {rt' : Root} {F' : BS} (hrt : RootR G w' E.Ro S rt' g F')
    (hdis : ∀ i k, i ≠ r → F i k → ¬ F' k) (hown : ∀ k, F' k → k < w'.heap.size ∧ (E.O k ∨ E.w0.heap.size ≤ k) ∧ ¬ S k) : Good E G (h.set r rt') w' S (fun i => if i = r then F' else F i) := by
  have e := hg.ext_chg c (G' := G) (fun _ _ h => h)
  constructor
  · simpa using hg.len
  · intro i rt g' h1 h2
    by_cases hi : i = r
    · subst hi
      rw [List.getElem?_set_self hr] at h1
      rw [hgr] at h2
      cases h1; cases h2
      simpa using hrt
    · rw [List.getElem?_set_ne (Ne.symm hi)] at h1
      simp only [hi, if_false]
      exact (hg.root i rt g' h1 h2).ext e (fun k hk => c.heap k (hg.own i k hk).1 (fun hf => hi (hg.dis i r k hk hf)))
  · intro i j k h1 h2
    by_cases hi : i = r <;> by_cases hj : j = r <;> simp only [hi, hj, if_true, if_false] at h1 h2
    · rw [hi, hj]
    · exact absurd h1 (hdis j k hj h2)
    · exact absurd h2 (hdis i k hi h1)
    · exact hg.dis i j k h1 h2
  · intro i k hi
    simp only [List.length_set] at hi
    rw [if_neg (by omega)]
    exact hg.out i k hi
  · intro i k hk
    by_cases hi : i = r
    · subst hi; simp only [if_true] at hk; exact hown k hk
    · have := hg.own i k (by simpa [hi] using hk)
      exact ⟨Nat.lt_of_lt_of_le this.1 c.size, this.2⟩
  · exact fun k hk => Nat.lt_of_lt_of_le (hg.sb k hk) c.size
  · exact hg.s0
  · exact hg.sn
  · exact Nat.le_trans hg.size c.size
  · exact c.os.trans hg.os
  · exact c.tape.trans hg.tape
  · exact c.output.trans hg.output
  · exact fun k h1 h2 => (c.heap k (Nat.lt_of_lt_of_le h1 hg.size) (hg.out_not h1 h2 r)).trans (hg.fr k h1 h2)
  · exact hg.rok
  · exact hg.gp
  · exact fun k hk => (e.ss k (hg.s0 k hk)).trans (hg.sf k hk)

theorem Good.setRoot {E G h w S F} (hg : Good E G h w S F) {r : Nat} {g : Gh} (hr : r < h.length) (hgr : G[r]? = some g) {w' : World} (c : Chg w w' (F r)) {rt' : Root} {F' : BS} (hrt : RootR G w' E.Ro S rt' g F')
    (hsub : ∀ k, F' k → F r k) : Good E G (h.set r rt') w' S (fun i => if i = r then F' else F i) :=
  hg.setRoot' hr hgr c hrt (fun i k hi h1 h2 => hi (hg.dis i r k h1 (hsub k h2))) (fun k hk => by have := hg.own r k (hsub k hk); exact ⟨Nat.lt_of_lt_of_le this.1 c.size, this.2⟩)

/-- Nothing of what is known has changed. -/
theorem Good.chg {E G h w S F} (hg : Good E G h w S F) {w' : World} (c : Chg w w' (fun _ => False)) : Good E G h w' S F := by
  have e := hg.ext_none c (G' := G) (fun _ _ h => h)
  constructor
  · exact hg.len
  · exact fun i rt g h1 h2 => (hg.root i rt g h1 h2).ext e (fun k hk => c.heap k (hg.own i k hk).1 (fun hf => hf))
  · exact hg.dis
  · exact hg.out
  · exact fun i k hk => ⟨Nat.lt_of_lt_of_le (hg.own i k hk).1 c.size, (hg.own i k hk).2⟩
  · exact fun k hk => Nat.lt_of_lt_of_le (hg.sb k hk) c.size
  · exact hg.s0
  · exact hg.sn
  · exact Nat.le_trans hg.size c.size
  · exact c.os.trans hg.os
  · exact c.tape.trans hg.tape
  · exact c.output.trans hg.output
  · exact fun k h1 h2 => (c.heap k (Nat.lt_of_lt_of_le h1 hg.size) (fun h => h)).trans (hg.fr k h1 h2)
  · exact hg.rok
  · exact hg.gp
  · exact fun k hk => (e.ss k (hg.s0 k hk)).trans (hg.sf k hk)

/-- One more root. -/
theorem Good.addRoot {E G h w S F} (hg : Good E G h w S F) (g : Gh) (rt : Root) (Fn : BS) (hrt : RootR (G ++ [g]) w E.Ro S rt g Fn) (hd : ∀ r k, F r k → ¬ Fn k)
    (ho : ∀ k, Fn k → k < w.heap.size ∧ (E.O k ∨ E.w0.heap.size ≤ k) ∧ ¬ S k) : Good E (G ++ [g]) (h ++ [rt]) w S (fun i => if i = h.length then Fn else F i) := by
  have hG : ∀ (i : Nat) (g' : Gh), G[i]? = some g' → (G ++ [g])[i]? = some g' := fun i g' h => by
    rw [List.getElem?_append_left (List.getElem?_eq_some_iff.1 h).1]; exact h
  have e := hg.ext_none (Chg.refl w _) hG
  have hlen := hg.len
  constructor
  · simp [hlen]
  · intro i rt' g' h1 h2
    by_cases hi : i = h.length
    · subst hi
      rw [List.getElem?_append_right (Nat.le_refl _)] at h1
      rw [List.getElem?_append_right (by omega)] at h2
      simp at h1
      simp [hlen] at h2
      subst h1; subst h2
      simpa using hrt
    · have hlt : i < h.length := by
        have := (List.getElem?_eq_some_iff.1 h1).1
        simp at this; omega
      rw [List.getElem?_append_left hlt] at h1
      rw [List.getElem?_append_left (by omega)] at h2
      simp only [hi, if_false]
      exact (hg.root i rt' g' h1 h2).ext e (fun _ _ => rfl)
  · intro i j k h1 h2
    by_cases hi : i = h.length <;> by_cases hj : j = h.length <;> simp only [hi, hj, if_true, if_false] at h1 h2
    · rw [hi, hj]
    · exact absurd h1 (hd j k h2)
    · exact absurd h2 (hd i k h1)
    · exact hg.dis i j k h1 h2
  · intro i k hi
    simp at hi
    rw [if_neg (by omega)]
    exact hg.out i k (by omega)
  · intro i k hk
    by_cases hi : i = h.length
    · simp only [hi, if_true] at hk; exact ho k hk
    · simp only [hi, if_false] at hk; exact hg.own i k hk
  · exact hg.sb
  · exact hg.s0
  · exact hg.sn
  · exact hg.size
  · exact hg.os
  · exact hg.tape
  · exact hg.output
  · exact hg.fr
  · exact hg.rok
  · exact fun r g h => hG r g (hg.gp r g h)
  · exact hg.sf

/-- Root r parts: a new root has some of its blocks. -/
theorem Good.split {E G h w S F} (hg : Good E G h w S F) {r : Nat} {g : Gh} (hr : r < h.length) (hgr : G[r]? = some g) (gn : Gh) {rt1 rtn : Root} {F1 Fn : BS} (h1 : RootR (G ++ [gn]) w E.Ro S rt1 g F1)
    (h2 : RootR (G ++ [gn]) w E.Ro S rtn gn Fn) (s1 : ∀ k, F1 k → F r k) (s2 : ∀ k, Fn k → F r k) (d : ∀ k, F1 k → ¬ Fn k) : ∃ F', Good E (G ++ [gn]) ((h.set r rt1) ++ [rtn]) w S F' := by
  have a1 := hg.setRoot hr hgr (Chg.refl w _) (rt' := .dead) (F' := fun _ => False) (fun _ h => h) (fun _ h => h.elim)
  have a2 := a1.addRoot gn rtn Fn h2 (fun i k hk => by
    by_cases hi : i = r
    · simp [hi] at hk
    · simp only [hi, if_false] at hk
      exact fun hf => hi (hg.dis i r k hk (s2 k hf))) (fun k hk => hg.own r k (s2 k hk))
  have hne : r ≠ h.length := by omega
  have a3 := a2.setRoot' (r := r) (by simp; omega) (pre_append G gn r g hgr) (Chg.refl w _) h1 (fun i k hi hk hf => by
    simp only [List.length_set] at hk
    by_cases hl : i = h.length
    · simp only [hl, if_true] at hk; exact d k hf hk
    · simp only [hl, if_false, hi] at hk
      exact hi (hg.dis i r k hk (s1 k hf))) (fun k hk => hg.own r k (s1 k hk))
  have : (h.set r Root.dead ++ [rtn]).set r rt1 = h.set r rt1 ++ [rtn] := by
    rw [List.set_append_left _ _ (by simpa using hr), List.set_set]
  rw [← this]
  exact ⟨_, a3⟩

end Go.Proofs.YtbfjkjdbdejnmaaGreat.Ab

/- Blocks: laid new, written in part, read with their owned slices taken out. No condition. -/
namespace Go.Proofs.YtbfjkjdbdejnmaaGreat.Ab
set_option linter.unusedVariables false
set_option linter.unusedSimpArgs false

/-- A cell that owns nothing. -/
def C0 (G : List Gh) (w : World) (Ro S : BS) (x : AV) (v : Value) : Prop := (x.isSl = false ∧ VR G w Ro S x v ∧ v.oneCell' = true) ∨ (∃ s a, x = .sl s [] ∧ v = .slice a 0 0)
theorem C0.cr {G w Ro S x v} (h : C0 G w Ro S x v) : CR G w Ro S x v (fun _ => False) := by
  rcases h with ⟨h1, h2, h3⟩ | ⟨s, a, rfl, rfl⟩
  · exact .inl ⟨h1, h2, h3, fun _ h => h⟩
  · exact .inr (.sl0 s a)
theorem C0.ext {E : Env} {G w S G' w' S'} (e : Ext E G w S G' w' S') {x v} (h : C0 G w E.Ro S x v) : C0 G' w' E.Ro S' x v := h.imp (fun ⟨a, b, c⟩ => ⟨a, b.ext e, c⟩) id

theorem blkR_new {G w Ro S} (fl : List AV) (b : Nat) (cs : Array Value) (hl : fl.length ≤ cs.size) (h : ∀ j x, fl[j]? = some x → C0 G w Ro S x (cs.getD j undef)) : BlkR G w Ro S fl b cs (fun k => k = b) := by
  refine ⟨fun j => cs.getD j undef, fun _ _ => False, fun j hj => ?_, fun j a hj => (h j a hj).cr, fun _ _ _ _ _ h => h.elim, fun _ _ _ h => h.elim, fun k => ⟨.inl, fun h => h.elim id fun ⟨_, _, h⟩ => h.elim⟩⟩
  simp [show j < cs.size by omega]

/-- One cell's slice is taken out: what it owned is the new root's. -/
theorem blkR_out {G w Ro S} {fl : List AV} {b : Nat} {cs : Array Value} {F : BS} (h : BlkR G w Ro S fl b cs F) {j : Nat} {s : Nat} {l : List (List AV)} (hj : fl[j]? = some (.sl s l)) (n : Nat) :
    ∃ (g : Gh) (Fn F' : BS), RootR (G ++ [g]) w Ro S (.lst s l) g Fn ∧ (∀ k, Fn k → F k) ∧ (∀ k, F' k → F k) ∧ (∀ k, F' k → ¬ Fn k) ∧
      (G.length = n → BlkR (G ++ [g]) w Ro S (fl.set j (.slc n 0 l.length false)) b cs F' ∧ VR (G ++ [g]) w Ro S (.slc n 0 l.length false) (cs.getD j undef)) := by
  obtain ⟨cv, Fc, h1, h2, h3, h4, h5⟩ := h
  have hjl := (List.getElem?_eq_some_iff.1 hj).1
  have hc := h2 j _ hj
  rcases hc with ⟨hc, _, _, _⟩ | hc
  · simp [AV.isSl] at hc
  have hval : cs.getD j undef = cv j := by
    have := h1 j hjl
    simp [Array.getD_eq_getD_getElem?, this]
  have hone : (cv j).oneCell' = true := by
    generalize cv j = v at hc
    generalize Fc j = Fj at hc
    generalize hx : (AV.sl s l) = x at hc
    cases hc with
    | leaf a x p1 p2 => rw [← hx] at p1; simp [AV.isSl] at p1
    | sl0 => rfl
    | sl => rfl
  -- the block without the cell
  have blk : ∀ (g : Gh), G.length = n → VR (G ++ [g]) w Ro S (.slc n 0 l.length false) (cs.getD j undef) → BlkR (G ++ [g]) w Ro S (fl.set j (.slc n 0 l.length false)) b cs (fun k => k = b ∨ ∃ i, i < fl.length ∧ i ≠ j ∧ Fc i k) := by
    intro g hn hv
    refine ⟨cv, fun i => if i = j then fun _ => False else Fc i, ?_, ?_, ?_, ?_, ?_⟩
    · intro i hi; simp at hi; exact h1 i hi
    · intro i a hi
      by_cases hij : i = j
      · subst hij
        rw [List.getElem?_set_self hjl] at hi
        cases hi
        simp only [if_true]
        rw [hval] at hv
        exact .inl ⟨rfl, hv, hone, fun _ h => h⟩
      · rw [List.getElem?_set_ne (Ne.symm hij)] at hi
        simp only [hij, if_false]
        have := h2 i a hi
        refine this.imp (fun ⟨p, q, q', r⟩ => ⟨p, ?_, q', r⟩) id
        exact q.pre (pre_append G g)
    · intro i i' k hi hi' hk hk'
      simp at hi hi'
      split at hk
      · exact hk.elim
      · split at hk'
        · exact hk'.elim
        · exact h3 i i' k hi hi' hk hk'
    · intro i k hi hk
      simp at hi
      split at hk
      · exact hk.elim
      · exact h4 i k hi hk
    · intro k
      simp only [List.length_set]
      constructor
      · rintro (h | ⟨i, h1, h2, h3⟩)
        · exact .inl h
        · exact .inr ⟨i, h1, by simp [h2, h3]⟩
      · rintro (h | ⟨i, h1, h2⟩)
        · exact .inl h
        · by_cases hij : i = j
          · simp [hij] at h2
          · simp [hij] at h2; exact .inr ⟨i, h1, hij, h2⟩
  have hsub : ∀ k, (k = b ∨ ∃ i, i < fl.length ∧ i ≠ j ∧ Fc i k) → F k := fun k h => (h5 k).2 (h.imp id fun ⟨i, p, _, q⟩ => ⟨i, p, q⟩)
  generalize hx : (AV.sl s l) = x at hc
  generalize hv : cv j = v at hc
  generalize hF : Fc j = Fj at hc
  cases hc with
  | leaf a x p1 p2 => rw [← hx] at p1; simp [AV.isSl] at p1
  | sl0 s' a =>
    cases hx
    refine ⟨⟨none, s, 0⟩, fun _ => False, _, ⟨rfl, by simp, .inl ⟨rfl, rfl, fun _ h => h⟩⟩, fun _ h => h.elim, hsub, fun _ _ h => h, fun hn => ?_⟩
    have hvr : VR (G ++ [⟨none, s, 0⟩]) w Ro S (.slc n 0 ([] : List (List AV)).length false) (cs.getD j undef) := by
      rw [hval, hv]
      exact .slc n 0 0 false ⟨none, s, 0⟩ a 0 (by rw [List.getElem?_append_right (by omega)]; simp [hn]) (Nat.le_refl _) (by simp) (.inl rfl)
    exact ⟨blk _ hn hvr, hvr⟩
  | sl s' l' b' c cs' T cv' Fc' q1 q2 q3 q4 q5 q6 q7 q8 =>
    cases hx
    refine ⟨⟨some b', s, cs'.size⟩, fun k => k = b' ∨ ∃ i, i < l.flatten.length ∧ Fc' i k, _, ⟨rfl, q2, .inr ⟨b', cs', T, rfl, q1, rfl, ?_, ?_⟩⟩, ?_, hsub, ?_, fun hn => ?_⟩
    · have : l.flatten.length = l.length * s := by
        clear q3 q4 q5 q6 q7 q8 blk hsub hv hF hj hjl hval
        induction l with
        | nil => simp
        | cons e l ih =>
          have := ih (fun e he => q2 e (by simp [he]))
          have h0 := q2 e (by simp)
          simp only [List.flatten_cons, List.length_append, List.length_cons, this, h0, Nat.add_mul]; omega
      rw [this]
      exact Nat.le_trans (Nat.mul_le_mul_right s q3) q4
    · exact ⟨cv', Fc', q5, fun i a hi => .inr (q6 i a hi), q7, q8, fun _ => Iff.rfl⟩
    · intro k hk
      exact (h5 k).2 (.inr ⟨j, hjl, by rw [hF]; exact hk⟩)
    · rintro k (rfl | ⟨i, p, q, r⟩) hk
      · exact h4 j _ hjl (by rw [hF]; exact hk) rfl
      · exact q (h3 i j k p hjl r (by rw [hF]; exact hk))
    · have hvr : VR (G ++ [⟨some b', s, cs'.size⟩]) w Ro S (.slc n 0 l.length false) (cs.getD j undef) := by
        rw [hval, hv]
        refine .slc n 0 l.length false ⟨some b', s, cs'.size⟩ _ c (by rw [List.getElem?_append_right (by omega)]; simp [hn]) q3 (by simp) (.inr ⟨b', rfl, by simp, by simpa using q4⟩)
      exact ⟨blk _ hn hvr, hvr⟩

end Go.Proofs.YtbfjkjdbdejnmaaGreat.Ab

/- A part of a root is read with its owned slices taken out, or written. No condition. -/
namespace Go.Proofs.YtbfjkjdbdejnmaaGreat.Ab
set_option linter.unusedVariables false
set_option linter.unusedSimpArgs false

def Flat (rt : Root) (fl : List AV) : Prop := match rt with
  | .box cells => fl = cells
  | .lst s l => fl = l.flatten ∧ ∀ e ∈ l, e.length = s
  | .mp _ _ => False
  | .dead => False
def SameK (rt rt' : Root) : Prop := match rt, rt' with
  | .box _, .box _ => True
  | .lst s _, .lst s' _ => s = s'
  | _, _ => False

theorem rootR_blk {G w Ro S rt g F} (h : RootR G w Ro S rt g F) {fl} (hf : Flat rt fl) (hp : 0 < fl.length) :
    ∃ b cs T, g.ob = some b ∧ w.heap[b]? = some (.cells cs T (0, 0)) ∧ fl.length ≤ cs.size ∧ BlkR G w Ro S fl b cs F := by
  cases rt with
  | box cells =>
    obtain ⟨b, cs, T, h1, h2, h3, h4⟩ := h
    simp only [Flat] at hf
    subst hf
    exact ⟨b, cs, T, h1, h2, by omega, h4⟩
  | lst s l =>
    obtain ⟨h1, h2, h3⟩ := h
    obtain ⟨rfl, _⟩ := hf
    rcases h3 with ⟨_, rfl, _⟩ | ⟨b, cs, T, h1, h2, h3, h4, h5⟩
    · simp at hp
    · exact ⟨b, cs, T, h1, h2, h4, h5⟩
  | mp _ _ => exact hf.elim
  | dead => exact hf.elim
theorem rootR_of_blk {G w Ro S rt g F} (h : RootR G w Ro S rt g F) {fl} (hf : Flat rt fl) (hp : 0 < fl.length) {b : Nat} {cs : Array Value} {T} (hb : g.ob = some b) (hh : w.heap[b]? = some (.cells cs T (0, 0)))
    {G' w'} {rt' : Root} {fl' : List AV} {cs' : Array Value} {F' : BS} (hk : SameK rt rt') (hf' : Flat rt' fl') (hl : fl'.length = fl.length) (hh' : w'.heap[b]? = some (.cells cs' T (0, 0))) (hs : cs'.size = cs.size)
    (hb' : BlkR G' w' Ro S fl' b cs' F') : RootR G' w' Ro S rt' g F' := by
  cases rt with
  | box cells =>
    cases rt' with
    | box cells' =>
      obtain ⟨b0, cs0, T0, h1, h2, h3, h4⟩ := h
      rw [h1] at hb; cases hb
      rw [h2] at hh; cases hh
      simp only [Flat] at hf hf'
      subst hf; subst hf'
      exact ⟨b, cs', T, h1, hh', by omega, hb'⟩
    | lst _ _ => exact hk.elim
    | mp _ _ => exact hk.elim
    | dead => exact hk.elim
  | lst s l =>
    cases rt' with
    | box _ => exact hk.elim
    | lst s' l' =>
      obtain ⟨h1, h2, h3⟩ := h
      have : s = s' := hk
      subst this
      obtain ⟨rfl, _⟩ := hf
      obtain ⟨rfl, h6⟩ := hf'
      rcases h3 with ⟨_, rfl, _⟩ | ⟨b0, cs0, T0, p1, p2, p3, p4, p5⟩
      · simp at hp
      · rw [p1] at hb; cases hb
        rw [p2] at hh; cases hh
        exact ⟨h1, h6, .inr ⟨b, cs', T, p1, hh', by omega, by omega, hb'⟩⟩
    | mp _ _ => exact hk.elim
    | dead => exact hk.elim
  | mp _ _ => exact hf.elim
  | dead => exact hf.elim

/-- A list of lists of the same lengths over other elements. -/
def reshape : List (List AV) → List AV → List (List AV)
  | [], _ => []
  | e :: l, fl => fl.take e.length :: reshape l (fl.drop e.length)
theorem reshape_spec (s : Nat) : ∀ (l : List (List AV)) (fl : List AV), (∀ e ∈ l, e.length = s) → fl.length = l.flatten.length → (reshape l fl).flatten = fl ∧ ∀ e ∈ reshape l fl, e.length = s
  | [], fl, _, h => by simp at h; simp [reshape, h]
  | e :: l, fl, hl, h => by
    simp only [List.flatten_cons, List.length_append] at h
    obtain ⟨h1, h2⟩ := reshape_spec s l (fl.drop e.length) (fun x hx => hl x (by simp [hx])) (by rw [List.length_drop]; omega)
    refine ⟨by simp [reshape, h1], ?_⟩
    intro x hx
    simp only [reshape, List.mem_cons] at hx
    rcases hx with rfl | hx
    · have := hl e (by simp)
      simp; omega
    · exact h2 x hx
theorem flat_other {rt : Root} {fl fl' : List AV} (h : Flat rt fl) (hl : fl'.length = fl.length) : ∃ rt', SameK rt rt' ∧ Flat rt' fl' := by
  cases rt with
  | box cells => exact ⟨.box fl', trivial, rfl⟩
  | lst s l =>
    obtain ⟨rfl, h2⟩ := h
    obtain ⟨h3, h4⟩ := reshape_spec s l fl' h2 hl
    exact ⟨.lst s (reshape l fl'), rfl, h3.symm, h4⟩
  | mp _ _ => exact h.elim
  | dead => exact h.elim
theorem SameK.trans {a b c : Root} (h : SameK a b) (k : SameK b c) : SameK a c := by
  cases a <;> cases b <;> cases c <;> simp_all [SameK]

theorem SameK.of2 {a b c : Root} (h : SameK a b) (k : SameK a c) : SameK b c := by
  cases a <;> cases b <;> cases c <;> simp_all [SameK]

theorem flat_get (s : Nat) : ∀ (l : List (List AV)), (∀ e ∈ l, e.length = s) → ∀ (j : Nat) (el : List AV), l[j]? = some el → ∀ i, i < s → l.flatten[j * s + i]? = el[i]?
  | [], _, j, el, h, _, _ => by simp at h
  | e :: l, hl, 0, el, h, i, hi => by
    simp at h; subst h
    have := hl e (by simp)
    simp [List.getElem?_append, show i < e.length by omega]
  | e :: l, hl, j + 1, el, h, i, hi => by
    have h0 := hl e (by simp)
    have := flat_get s l (fun x hx => hl x (by simp [hx])) j el (by simpa using h) i hi
    rw [List.flatten_cons, List.getElem?_append, if_neg (by rw [h0, Nat.add_mul]; omega), h0, show (j + 1) * s + i - s = j * s + i by rw [Nat.add_mul]; omega, this]
theorem flat_length (s : Nat) : ∀ (l : List (List AV)), (∀ e ∈ l, e.length = s) → l.flatten.length = l.length * s
  | [], _ => by simp
  | e :: l, hl => by
    rw [List.flatten_cons, List.length_append, flat_length s l (fun x hx => hl x (by simp [hx])), hl e (by simp), List.length_cons, Nat.add_mul]; omega
/-- One element of a list of lists, the part behind and ahead of a place in it. -/
theorem flat_set (s : Nat) : ∀ (l : List (List AV)), (∀ e ∈ l, e.length = s) → ∀ (j : Nat) (el : List AV), l[j]? = some el → ∀ (el' : List AV), el'.length = s →
    l.flatten = (l.take j).flatten ++ el ++ (l.drop (j + 1)).flatten ∧ (l.set j el').flatten = (l.take j).flatten ++ el' ++ (l.drop (j + 1)).flatten ∧ (l.take j).flatten.length = j * s
  | [], _, j, el, h, _, _ => by simp at h
  | e :: l, hl, 0, el, h, el', _ => by
    simp at h; subst h
    simp
  | e :: l, hl, j + 1, el, h, el', h' => by
    obtain ⟨h1, h2, h3⟩ := flat_set s l (fun x hx => hl x (by simp [hx])) j el (by simpa using h) el' h'
    have h0 := hl e (by simp)
    refine ⟨by simp [h1], by simp [h2], ?_⟩
    rw [List.take_succ_cons, List.flatten_cons, List.length_append, h3, h0, Nat.add_mul]; omega

inductive Out : Nat → List AV → List AV → List Root → Prop
  | nil (n) : Out n [] [] []
  | sl (n s l r x rs) : Out (n + 1) r x rs → Out n (.sl s l :: r) (.slc n 0 l.length false :: x) (.lst s l :: rs)
  | keep (n c r x rs) : c.isSl = false → Out n r x rs → Out n (c :: r) (c :: x) rs
theorem outK_spec : ∀ (cs : List AV) (h : HP) (k : List AV → HP → Prop), outK cs h k → ∃ x rs, k x (h ++ rs) ∧ Out h.length cs x rs
  | [], h, k, hk => ⟨[], [], by simpa [outK] using hk, .nil _⟩
  | c :: r, h, k, hk => by
    cases hc : c.isSl with
    | true =>
      cases c <;> simp [AV.isSl] at hc
      rename_i s l
      simp only [outK] at hk
      obtain ⟨x, rs, h1, h2⟩ := outK_spec r _ _ (newK_spec hk)
      exact ⟨_, .lst s l :: rs, by simpa using h1, .sl _ s l r x rs (by simpa using h2)⟩
    | false =>
      have : outK r h fun x h' => k (c :: x) h' := by cases c <;> simp [AV.isSl] at hc <;> simpa [outK] using hk
      obtain ⟨x, rs, h1, h2⟩ := outK_spec r h _ this
      exact ⟨_, rs, h1, .keep _ c r x rs hc h2⟩
theorem Out.length {n cs x rs} (h : Out n cs x rs) : x.length = cs.length := by
  induction h with
  | nil => rfl
  | sl _ _ _ _ _ _ _ ih => simp [ih]
  | keep _ _ _ _ _ _ _ ih => simp [ih]

/-- A part of root r is read: its owned slices become roots. -/
theorem Good.outSeg {E : Env} {S : BS} {w : World} : ∀ {cs x : List AV} {rs : List Root} {n : Nat}, Out n cs x rs → ∀ {G h F} (_ : Good E G h w S F) {r : Nat} {rt : Root} {g : Gh} {pre post : List AV}, n = h.length → h[r]? = some rt → G[r]? = some g →
    Flat rt (pre ++ cs ++ post) → 0 < (pre ++ cs ++ post).length → ∀ {rt' : Root}, SameK rt rt' → Flat rt' (pre ++ x ++ post) →
    ∃ G' F' b ca T, Good E G' ((h ++ rs).set r rt') w S F' ∧ (∀ (i : Nat) (g : Gh), G[i]? = some g → G'[i]? = some g) ∧ g.ob = some b ∧ w.heap[b]? = some (.cells ca T (0, 0)) ∧ (pre ++ cs ++ post).length ≤ ca.size ∧
      (∀ j y, x[j]? = some y → VR G' w E.Ro S y (ca.getD (pre.length + j) undef)) := by
  intro cs x rs n hO
  induction hO with
  | nil n =>
    intro G h F hg r rt g pre post hn hr hgr hf hp rt' hk hf'
    have hrl := (List.getElem?_eq_some_iff.1 hr).1
    obtain ⟨b, ca, T, p1, p2, p3, p4⟩ := rootR_blk (hg.root r rt g hr hgr) hf hp
    have hrt := rootR_of_blk (hg.root r rt g hr hgr) hf hp p1 p2 (G' := G) (w' := w) hk hf' rfl p2 rfl p4
    have hs := hg.setRoot hrl hgr (Chg.refl w _) hrt (fun _ h => h)
    exact ⟨G, _, b, ca, T, by rw [List.append_nil]; exact hs, fun _ _ h => h, p1, p2, p3, by simp⟩
  | keep n c r0 x rs hc hO ih =>
    intro G h F hg r rt g pre post hn hr hgr hf hp rt' hk hf'
    obtain ⟨b0, ca0, T0, q1, q2, q3, cv, Fc, h1, h2, h3, h4, h5⟩ := rootR_blk (hg.root r rt g hr hgr) hf hp
    have hf2 : Flat rt ((pre ++ [c]) ++ r0 ++ post) := by simpa using hf
    obtain ⟨G', F', b, ca, T, a1, a2, a3, a4, a5, a6⟩ := ih hg hn hr hgr hf2 (by simp; omega) hk (by simpa using hf')
    rw [q1] at a3; cases a3
    rw [q2] at a4; cases a4
    refine ⟨G', F', _, _, _, a1, a2, q1, q2, q3, fun j y hj => ?_⟩
    cases j with
    | zero =>
      simp at hj
      subst hj
      have hpl : pre.length < (pre ++ c :: r0 ++ post).length := by simp
      have hcr := h2 pre.length c (by simp)
      have hval : ca0.getD pre.length undef = cv pre.length := by
        have := h1 pre.length hpl
        simp [Array.getD_eq_getD_getElem?, this]
      rw [Nat.add_zero, hval]
      rcases hcr with ⟨_, hv, _, _⟩ | ho
      · exact hv.pre a2
      · have : VR G w E.Ro S c (cv pre.length) := by
          generalize cv pre.length = v at ho
          generalize Fc pre.length = Fp at ho
          cases ho with
          | leaf a x p1 p2 =>
            exact .ir _ _ p1 p2.weak
          | sl0 s a => simp [AV.isSl] at hc
          | sl => simp [AV.isSl] at hc
        exact this.pre a2
    | succ j =>
      have := a6 j y (by simpa using hj)
      rwa [show pre.length + (j + 1) = (pre ++ [c]).length + j by simp; omega]
  | sl n s l r0 x rs hO ih =>
    intro G h F hg r rt g pre post hn hr hgr hf hp rt' hk hf'
    have hrl := (List.getElem?_eq_some_iff.1 hr).1
    have hGl : G.length = n := by rw [hn]; exact hg.len
    obtain ⟨b0, ca0, T0, q1, q2, q3, q4⟩ := rootR_blk (hg.root r rt g hr hgr) hf hp
    have hj : (pre ++ AV.sl s l :: r0 ++ post)[pre.length]? = some (.sl s l) := by simp
    obtain ⟨gn, Fn, F1, u1, u2, u3, u4, u5⟩ := blkR_out q4 hj n
    obtain ⟨u5, u6⟩ := u5 hGl
    have hset : (pre ++ AV.sl s l :: r0 ++ post).set pre.length (.slc n 0 l.length false) = (pre ++ [.slc n 0 l.length false]) ++ r0 ++ post := by
      simp [List.set_append]
    rw [hset] at u5
    obtain ⟨rt1, k1, k2⟩ := flat_other (fl' := (pre ++ [.slc n 0 l.length false]) ++ r0 ++ post) hf (by simp)
    have hrt1 := rootR_of_blk (hg.root r rt g hr hgr) hf hp q1 q2 (w' := w) (G' := G ++ [gn]) k1 k2 (by simp) q2 rfl u5
    obtain ⟨F2, hg2⟩ := hg.split hrl hgr gn hrt1 u1 u3 u2 u4
    have hr2 : (h.set r rt1 ++ [Root.lst s l])[r]? = some rt1 := by rw [List.getElem?_append_left (by simpa using hrl), List.getElem?_set_self hrl]
    have hk2 : SameK rt1 rt' := k1.of2 hk
    obtain ⟨G', F', b, ca, T, a1, a2, a3, a4, a5, a6⟩ := ih hg2 (by simp; omega) hr2 (pre_append G gn r g hgr) k2 (by simp; omega) hk2 (by simpa using hf')
    rw [q1] at a3; cases a3
    rw [q2] at a4; cases a4
    refine ⟨G', F', _, _, _, ?_, fun i g' h => a2 i g' (pre_append G gn i g' h), q1, q2, q3, fun j y hj => ?_⟩
    · have : ((h.set r rt1 ++ [Root.lst s l]) ++ rs).set r rt' = (h ++ Root.lst s l :: rs).set r rt' := by
        rw [List.append_assoc, List.set_append_left _ _ (by simpa using hrl), List.set_set, List.set_append_left _ _ hrl]
        simp
      rw [← this]
      exact a1
    · cases j with
      | zero =>
        simp at hj
        subst hj
        exact u6.pre a2
      | succ j =>
        have := a6 j y (by simpa using hj)
        rwa [show pre.length + (j + 1) = (pre ++ [AV.slc n 0 l.length false]).length + j by simp; omega]

end Go.Proofs.YtbfjkjdbdejnmaaGreat.Ab

/- How the model's own operations run on memory that is known. No condition. -/
namespace Go.Proofs.YtbfjkjdbdejnmaaGreat.Ab
set_option linter.unusedVariables false
set_option linter.unusedSimpArgs false

/-- A zero cell. -/
def Z0 (x : AV) (v : Value) : Prop := (∃ y, x = .v y ∧ v = y ∧ y.oneCell' = true) ∨ (∃ s, x = .sl s [] ∧ v = .slice none 0 0)
theorem Z0.c0 {G w Ro S x v} (h : Z0 x v) : C0 G w Ro S x v := by
  rcases h with ⟨y, rfl, rfl, h⟩ | ⟨s, rfl, rfl⟩
  · exact .inl ⟨rfl, .ir _ _ rfl (.v _ _ h), h⟩
  · exact .inr ⟨s, none, rfl, rfl⟩

def descAgg : TypeDesc → Bool | .struct _ => true | .array _ _ => true | _ => false

def KindOk (P : Program) : TypeDesc → TK → Prop
  | .int k, .int k' => k = k'
  | .slice e, .slice e' es => e = e' ∧ ∃ i, P.info? e = some i ∧ i.size = es
  | .struct fs, .struct fs' => fs.size = fs'.length ∧ ∀ (n : Nat) f, fs[n]? = some f → ∃ i, P.info? f.type = some i ∧ fs'[n]? = some (f.offset, i.size)
  | .array n e, .array n' es => n = n' ∧ ∃ i, P.info? e = some i ∧ i.size = es
  | .bool, .bool => True
  | .string, .str => True
  | .map k e, .map k' e' => k = k' ∧ e = e'
  | _, .ptr => True
  | _, .func => True
  | _, .other => True
  | _, _ => False

structure TIok (P : Program) (ty : TypeId) (i : TI) : Prop where
  all : ∃ info d z, P.info? ty = some info ∧ info.size = i.size ∧ info.bytes = i.bytes ∧ P.underlying ty = some d ∧ i.agg = descAgg d ∧ KindOk P d i.kind ∧
    info.zero = some z ∧ z.cells.size = i.size ∧ i.zero.length = i.size ∧ (∀ (j : Nat) x, i.zero[j]? = some x → Z0 x (z.cells.getD j undef)) ∧ 0 < i.size

section
variable {P : Program} {w : World}

theorem run_isAgg {t : TypeId} {d : TypeDesc} (h : P.underlying t = some d) : (isAgg t).run P w = .ok (descAgg d) w := by
  simp [isAgg, run_underlying h]
  cases d <;> rfl
theorem run_sizeOf' {t : TypeId} {i : TypeInfo} (h : P.info? t = some i) : (sizeOf t).run P w = .ok i.size w := by
  simp [sizeOf, typeInfo, h]
theorem run_zero {t : TypeId} {i : TypeInfo} {z : Value} (h : P.info? t = some i) (hz : i.zero = some z) : (zeroValue t).run P w = .ok z w := by
  simp [zeroValue, typeInfo, h, hz]

theorem add_off (b o n : Nat) : Addr.add ⟨b, o, none⟩ n = ⟨b, o + n, none⟩ := by
  unfold Addr.add
  split
  · subst_vars; rfl
  · rfl

/-- The values that lie in an array's part. -/
def segV (cs : Array Value) (o n : Nat) : List Value := (List.range n).map fun j => cs.getD (o + j) undef
theorem segV_length (cs : Array Value) (o n : Nat) : (segV cs o n).length = n := by simp [segV]
theorem segV_getD (cs : Array Value) (o n j : Nat) (h : j < n) : (segV cs o n).getD j undef = cs.getD (o + j) undef := by
  simp [segV, List.getD_eq_getElem?_getD, h]

theorem run_loadVar {ty : TypeId} {i : TI} (hi : TIok P ty i) {b o : Nat} {cs : Array Value} {T fz} (hb : w.heap[b]? = some (.cells cs T fz)) (ho : o + i.size ≤ cs.size) :
    (loadVar ty ⟨b, o, none⟩).run P w = .ok (if i.agg then .agg (segV cs o i.size).toArray else cs.getD o undef) w := by
  obtain ⟨info, d, z, h1, h2, h3, h4, h5, h6, h7, h8, h9, h10, h11⟩ := hi
  have hc : ∀ j, j < i.size → w.cell? ⟨b, o + j, none⟩ = some (cs.getD (o + j) undef) := fun j hj => by
    simp [World.cell?, hb, show o + j < cs.size by omega]
  unfold loadVar
  simp only [Sem.run_bind, run_isAgg h4, Result.andThen_ok, h5]
  cases hd : descAgg d with
  | true =>
    simp only [if_true, Sem.run_bind, run_sizeOf' h1, Result.andThen_ok, h2]
    rw [run_loadCells (P := P) w ⟨b, o, none⟩ i.size (fun j => cs.getD (o + j) undef) (fun j hj => by rw [add_off]; exact hc j hj)]
    rfl
  | false =>
    have := hc 0 h11
    simp only [Nat.add_zero] at this
    simp [run_load, this]

theorem run_storeVar {ty : TypeId} {i : TI} (hi : TIok P ty i) {b o : Nat} {cs : Array Value} {T} (hb : w.heap[b]? = some (.cells cs T (0, 0))) {v : Value} {vs : List Value} (hv : v.cells = vs.toArray) (hl : vs.length = i.size)
    (ho : o + i.size ≤ cs.size) (h1 : ∀ x ∈ vs, x.oneCell' = true) :
    (storeVar ty ⟨b, o, none⟩ v).run P w = .ok () (w.setRow b (cs.toList.take o ++ vs ++ cs.toList.drop (o + vs.length)).toArray) := by
  obtain ⟨info, d, z, p1, p2, _⟩ := hi
  unfold storeVar
  simp only [Sem.run_bind, run_sizeOf' p1, Result.andThen_ok, hv, p2]
  rw [if_neg (by simp [hl])]
  have := run_storeCells_at P b o T vs 0 cs w hb (by omega) h1
  simpa using this
end

end Go.Proofs.YtbfjkjdbdejnmaaGreat.Ab

/- Each operation of the abstract machine is sound: what it asks makes the model's own operation run and leaves memory as it says. No condition. -/
namespace Go.Proofs.YtbfjkjdbdejnmaaGreat.Ab
set_option linter.unusedVariables false
set_option linter.unusedSimpArgs false

section inv
variable {G : List Gh} {w : World} {Ro S : BS} {v : Value}
theorem VR.v_inv {x : Value} (h : VR G w Ro S (.v x) v) : v = x ∧ x.oneCell' = true := by
  cases h with
  | ir _ _ _ h => cases h with
    | v _ _ h => exact ⟨rfl, h⟩
theorem VR.nils_inv (h : VR G w Ro S .nils v) : v = .slice none 0 0 := by
  cases h with
  | ir _ _ _ h => cases h
  | nils => rfl
theorem VR.ptr_inv {r i o k} (h : VR G w Ro S (.ptr r i o k) v) : ∃ b g, G[r]? = some g ∧ g.ob = some b ∧ v = .pointer (some ⟨b, i * g.s + o, none⟩) := by
  cases h with
  | ir _ _ _ h => cases h
  | ptr _ _ _ _ b g h1 h2 => exact ⟨b, g, h1, h2, rfl⟩
theorem VR.slc_inv {r o n z} (h : VR G w Ro S (.slc r o n z) v) : ∃ (g : Gh) (a : Option Addr) (c : Nat), G[r]? = some g ∧ v = .slice a n c ∧ n ≤ c ∧ (z = true → c = n) ∧ (c = 0 ∨ ∃ b, g.ob = some b ∧ a = some ⟨b, o * g.s, none⟩ ∧ (o + c) * g.s ≤ g.sz) := by
  cases h with
  | ir _ _ _ h => cases h
  | slc _ _ _ _ g a c h1 h2 h3 h4 => exact ⟨g, a, c, h1, rfl, h2, h3, h4⟩
theorem VR.aptr_inv {r o j} (h : VR G w Ro S (.aptr r o j) v) : ∃ b g, G[r]? = some g ∧ g.ob = some b ∧ v = .pointer (some ⟨b, j + o, none⟩) := by
  cases h with
  | ir _ _ _ h => cases h
  | aptr _ _ _ b g h1 h2 => exact ⟨b, g, h1, h2, rfl⟩
theorem VR.bsl_inv {r o n} (h : VR G w Ro S (.bsl r o n) v) : ∃ b g c, G[r]? = some g ∧ g.ob = some b ∧ n ≤ c ∧ v = .slice (some ⟨b, o, none⟩) n c := by
  cases h with
  | ir _ _ _ h => cases h
  | bsl _ _ _ b c g h1 h2 h3 => exact ⟨b, g, c, h1, h2, h3, rfl⟩
theorem VR.mapr_inv {r} (h : VR G w Ro S (.mapr r) v) : ∃ b g, G[r]? = some g ∧ g.ob = some b ∧ v = .map (some b) := by
  cases h with
  | ir _ _ _ h => cases h
  | mapr _ b g h1 h2 => exact ⟨b, g, h1, h2, rfl⟩
theorem VR.pan_inv {x} (h : VR G w Ro S (.pan x) v) : False := by
  cases h with
  | ir _ _ _ h => cases h
theorem VR.imm_inv {t z s l} (h : VR G w Ro S (.imm t z s l) v) : ∃ (a : Option Addr) (c : Nat), v = .slice a l.length c ∧ (z = true → c = l.length) ∧ IR w Ro S t (.sl s l) (.slice a l.length c) := by
  cases h with
  | ir _ _ _ h => cases h with
    | imm _ _ _ _ _ a n c h1 h2 h3 =>
      have : n = l.length := by cases h2 <;> simp
      subst this
      exact ⟨a, c, rfl, h3, h2⟩
theorem VR.iptr_inv {t l} (h : VR G w Ro S (.iptr t l) v) : ∃ (b off : Nat) (cs : Array Value) (T : TypeId) (fz : Nat × Nat) (cv : Nat → Value), v = .pointer (some ⟨b, off, none⟩) ∧ sel Ro S t b ∧ w.heap[b]? = some (.cells cs T fz) ∧ (∀ j, j < l.length → cs[off + j]? = some (cv j)) ∧
    (∀ j x, l[j]? = some x → IR w Ro S t x (cv j)) := by
  cases h with
  | ir _ _ _ h => cases h with
    | iptr _ _ _ b off cs T fz cv h0 h1 h2 h3 h4 => exact ⟨b, off, cs, T, fz, cv, rfl, h1, h2, h3, h4⟩
theorem VR.fn_inv {f caps} (h : VR G w Ro S (.fn f caps) v) : ∃ vs : List Value, v = .func (.func f) #[] vs.toArray ∧ caps.length = vs.length ∧ ∀ j x, caps[j]? = some x → VR G w Ro S x (vs.getD j undef) := by
  cases h with
  | ir _ _ _ h => cases h with
    | fn _ _ _ vs h1 h2 h3 => exact ⟨vs, rfl, h1, fun j x hj => .ir _ _ (h2 x (List.mem_of_getElem? hj)) (h3 j x hj)⟩
  | fn _ _ vs h1 h2 => exact ⟨vs, rfl, h1, h2⟩
theorem VR.agg_inv {l} (h : VR G w Ro S (.agg l) v) : ∃ vs : List Value, v = .agg vs.toArray ∧ l.length = vs.length ∧ (∀ u ∈ vs, u.oneCell' = true) ∧ ∀ j x, l[j]? = some x → VR G w Ro S x (vs.getD j undef) := by
  cases h with
  | ir _ _ _ h => cases h
  | agg _ vs h1 h2 h3 => exact ⟨vs, rfl, h1, h2, h3⟩
theorem VR.tup_inv {l} (h : VR G w Ro S (.tup l) v) : ∃ vs : List Value, v = .tuple vs.toArray ∧ l.length = vs.length ∧ ∀ j x, l[j]? = some x → VR G w Ro S x (vs.getD j undef) := by
  cases h with
  | ir _ _ _ h => cases h
  | tup _ vs h1 h2 => exact ⟨vs, rfl, h1, h2⟩
theorem VR.one {x : AV} (h : VR G w Ro S x v) (h0 : x.isSl = false) (h1 : x ≠ .top) (h2 : ∀ l, x ≠ .agg l) (h3 : ∀ l, x ≠ .tup l) : v.oneCell' = true := by
  cases h with
  | top => exact absurd rfl h1
  | ir _ _ _ h => cases h <;> first | assumption | rfl | simp [AV.isSl] at h0
  | nils => rfl
  | ptr => rfl
  | aptr => rfl
  | bsl => rfl
  | mapr => rfl
  | slc => rfl
  | fn => rfl
  | agg l => exact absurd rfl (h2 l)
  | tup l => exact absurd rfl (h3 l)
theorem VR.notSl {x : AV} (h : VR G w Ro S x v) : x.isSl = false := by
  cases h <;> first | assumption | rfl
end inv

theorem VR.ptr0 {G : List Gh} {w : World} {Ro S : BS} (r k b : Nat) (g : Gh) (h1 : G[r]? = some g) (h2 : g.ob = some b) : VR G w Ro S (.ptr r 0 0 k) (.pointer (some ⟨b, 0, none⟩)) := by
  have := VR.ptr (w := w) (Ro := Ro) (S := S) r 0 0 k b g h1 h2
  rwa [Nat.zero_mul] at this

theorem heap_new (w : World) (ob : Obj) : (w.alloc ob).heap[w.heap.size]? = some ob := by
  show (w.heap.push ob)[w.heap.size]? = some ob
  simp

def Kept (D : List Deferred × Nat) (a : Act) : Prop := a.defers = D.1 ∧ a.tmps.size = D.2
theorem Kept.put {D : List Deferred × Nat} {a : Act} (h : Kept D a) (d : Option Tmp) (v : Value) : Kept D (a.put d v) := by
  cases d with
  | none => exact h
  | some d => exact ⟨h.1, by simpa [Act.put] using h.2⟩
def Rel (E : Env) (D : List Deferred × Nat) (t : TS) (h : HP) (a : Act) (w : World) : Prop := ∃ G S F, Good E G h w S F ∧ TR G w E.Ro S t a ∧ Kept D a

/-- A handler is sound: what it asks makes the call return, and memory is as it says. -/
def HSound (P : Program) (f : FuncId) (H : Handler) : Prop := ∀ (E : Env) (G : List Gh) (S : BS) (F : Nat → BS) (h : HP) (w : World) (args : List AV) (vs : List Value) (K : AV → HP → Prop),
  Good E G h w S F → args.length = vs.length → (∀ j x, args[j]? = some x → VR G w E.Ro S x (vs.getD j undef)) → H args h K →
  Calls P f vs.toArray w fun e w' => ∃ x h' G' S' F', K x h' ∧ Good E G' h' w' S' F' ∧ Ext E G w S G' w' S' ∧ ((∃ v, e = .returned v ∧ VR G' w' E.Ro S' x v) ∨ ∃ v, e = .panicked [{ v, recovered := false }] ∧ x = .pan v)

def FnOk (P : Program) (f : FuncId) : Prop := ∃ fn, P.funcs[f]? = some fn ∧ (fn.name == "runtime.NumGoroutine") = false ∧ fn.body.isSome = true

/-- A type of a plain kind. -/
def basicB (P : Program) (ty : TypeId) (n : Nat) : Bool := match P.underlying ty, n with | some .bool, 1 => true | some (.int _), 0 => true | some .string, 2 => true | _, _ => false
/-- A type whose values are compared cell by cell, the cells of these kinds. -/
def eqB (P : Program) (ty : TypeId) (ks : List Nat) : Bool := match P.underlying ty with
  | some (.struct fs) => !P.stoodInHeld ty && !P.eqGuardType P.depth ty && fs.size == ks.length && ((fs.toList.zip ks).zipIdx.all fun p => p.1.1.name != "_" && p.1.1.offset == p.2 && basicB P p.1.1.type p.1.2)
  | some (.array 2 e) => (match P.underlying e, P.info? e, ks with | some (.int .i64), some j, [0, 0] => !P.eqGuardType P.depth ty && j.size == 1 | _, _, _ => false)
  | _ => false
/-- A type's zero is a struct's value just where the type is a struct's or an array's. -/
def zeroOk (P : Program) (ty : TypeId) (ag : Bool) : Bool := match P.info? ty with
  | some info => (match info.zero, ag with | some (.agg _), true => true | some (.agg _), false => false | some _, false => true | _, _ => false)
  | none => false
structure CtxOk (P : Program) (C : Ctx) : Prop where
  tab : ∀ ty i, C.tab ty = some i → TIok P ty i
  eqs : ∀ ty i, C.tab ty = some i → i.eqs ≠ [] → eqB P ty i.eqs = true
  zok : ∀ ty i, C.tab ty = some i → zeroOk P ty i.agg = true
  call : ∀ f H, C.call f = some H → HSound P f H ∧ FnOk P f

theorem on_spec {α : Type} {o : Option α} {k : α → Prop} (h : on o k) : ∃ a, o = some a ∧ k a := by
  cases o with
  | none => exact h.elim
  | some a => exact ⟨a, rfl, h⟩

section
variable {P : Program} {E : Env} {D : List Deferred × Nat} {o : Oper} {t : TS} {h : HP} {a : Act} {w : World} {k : TS → HP → Prop} {next : Act → World → Prop} {Q : Exit → Act → World → Prop}

theorem wp_val {v : Value} {w' : World} (hr : (execOp a.eval o).run P w = .ok (.value v) w') (hn : next (a.put o.dst v) w') : o.wp P a w next Q := by
  unfold Oper.wp
  rw [hr]
  exact hn
theorem wp_skp {w' : World} (hr : (execOp a.eval o).run P w = .ok .skip w') (hn : next (a.put o.dst undef) w') : o.wp P a w next Q := by
  unfold Oper.wp
  rw [hr]
  exact hn


/-- An operation's value is laid into its temporary. -/
theorem rel_put {G S F} (hg : Good E G h w S F) (ht : TR G w E.Ro S t a) (hd : Kept D a) {x : AV} {v : Value} (hv : VR G w E.Ro S x v) (hk : putK t o.dst x fun t => k t h)
    (hc : ∀ t' h' a' w', k t' h' → Rel E D t' h' a' w' → next a' w') : next (a.put o.dst v) w := by
  obtain ⟨t', h1, h2⟩ := putK_spec ht hv hk
  exact hc _ _ _ _ h1 ⟨G, S, F, hg, h2, hd.put o.dst v⟩

def OpS (P : Program) (C : Ctx) (o : Oper) : Prop := ∀ (E : Env) (D : List Deferred × Nat) (t : TS) (h : HP) (a : Act) (w : World) (k : TS → HP → Prop) (next : Act → World → Prop) (Q : Exit → Act → World → Prop),
  opP C o t h k → Rel E D t h a w → (∀ v t h a w, C.pan v h → Rel E D t h a w → Q (.panic [{ v, recovered := false }]) a w) → (∀ t' h' a' w', k t' h' → Rel E D t' h' a' w' → next a' w') → o.wp P a w next Q

/-- An operation that leaves the world alone: one value, in whatever world that is as this one below. -/
def QRes (P : Program) (E : Env) (D : List Deferred × Nat) (o : Oper) (a : Act) (w : World) (k : TS → HP → Prop) : Prop :=
  ∃ v t' h', k t' h' ∧ ∀ w2, Chg w w2 (fun _ => False) → (execOp a.eval o).run P w2 = .ok (.value v) w2 ∧ Rel E D t' h' (a.put o.dst v) w2
def OpQ (P : Program) (C : Ctx) (o : Oper) : Prop := ∀ (E : Env) (D : List Deferred × Nat) (t : TS) (h : HP) (a : Act) (w : World) (k : TS → HP → Prop),
  opP C o t h k → Rel E D t h a w → QRes P E D o a w k
theorem q_val {G S F} {v : Value} (hr : ∀ w2, Chg w w2 (fun _ => False) → (execOp a.eval o).run P w2 = .ok (.value v) w2) (hg : Good E G h w S F) (ht : TR G w E.Ro S t a) (hd : Kept D a) {x : AV} (hv : VR G w E.Ro S x v)
    (hk : putK t o.dst x fun t => k t h) : QRes P E D o a w k := by
  obtain ⟨t', h1, h2⟩ := putK_spec ht hv hk
  exact ⟨v, t', h, h1, fun w2 hw => ⟨hr w2 hw, G, S, F, hg.chg hw, h2.ext (hg.ext_none hw (fun _ _ h => h)), hd.put o.dst v⟩⟩

/-- The same, whatever the world. -/
def URes (P : Program) (E : Env) (D : List Deferred × Nat) (o : Oper) (a : Act) (w : World) (k : TS → HP → Prop) : Prop :=
  ∃ v t' h', k t' h' ∧ (∀ w2, (execOp a.eval o).run P w2 = .ok (.value v) w2) ∧ Rel E D t' h' (a.put o.dst v) w
def OpU (P : Program) (C : Ctx) (o : Oper) : Prop := ∀ (E : Env) (D : List Deferred × Nat) (t : TS) (h : HP) (a : Act) (w : World) (k : TS → HP → Prop),
  opP C o t h k → Rel E D t h a w → URes P E D o a w k
theorem u_val {G S F} {v : Value} (hr : ∀ w2, (execOp a.eval o).run P w2 = .ok (.value v) w2) (hg : Good E G h w S F) (ht : TR G w E.Ro S t a) (hd : Kept D a) {x : AV} (hv : VR G w E.Ro S x v)
    (hk : putK t o.dst x fun t => k t h) : URes P E D o a w k := by
  obtain ⟨t', h1, h2⟩ := putK_spec ht hv hk
  exact ⟨v, t', h, h1, hr, G, S, F, hg, h2, hd.put o.dst v⟩

variable {C : Ctx}

theorem OpQ.toS (hq : OpQ P C o) : OpS P C o := by
  intro E D t h a w k next Q hp hr _ hc
  obtain ⟨v, t', h', h1, h2⟩ := hq E D t h a w k hp hr
  obtain ⟨h3, h4⟩ := h2 w (Chg.refl w _)
  exact wp_val h3 (hc _ _ _ _ h1 h4)

theorem q_move {x : Operand} (ho : o.op = .move x) : OpQ P C o := by
  intro E D t h a w k hp ⟨G, S, F, hg, ht, hd⟩
  unfold opP at hp
  simp only [ho, evK_eq] at hp
  exact q_val (v := a.eval x) (fun w2 _ => by simp [execOp, ho]) hg ht hd (evF_spec ht x) hp
theorem u_move {x : Operand} (ho : o.op = .move x) : OpU P C o := by
  intro E D t h a w k hp ⟨G, S, F, hg, ht, hd⟩
  unfold opP at hp
  simp only [ho, evK_eq] at hp
  exact u_val (v := a.eval x) (fun w2 => by simp [execOp, ho]) hg ht hd (evF_spec ht x) hp

theorem q_pick {c x y : Operand} (ho : o.op = .pick c x y) : OpQ P C o := by
  intro E D t h a w k hp ⟨G, S, F, hg, ht, hd⟩
  unfold opP at hp
  simp only [ho, evK_eq] at hp
  have hv := evF_spec ht c
  split at hp
  · rename_i b hb
    rw [hb] at hv
    have hv := hv.v_inv.1
    cases b with
    | true => exact q_val (v := a.eval x) (fun w2 _ => by simp [execOp, ho, hv, asBool]) hg ht hd (evF_spec ht x) (hp.1 rfl)
    | false => exact q_val (v := a.eval y) (fun w2 _ => by simp [execOp, ho, hv, asBool]) hg ht hd (evF_spec ht y) (hp.2 rfl)
  · exact hp.elim
theorem u_pick {c x y : Operand} (ho : o.op = .pick c x y) : OpU P C o := by
  intro E D t h a w k hp ⟨G, S, F, hg, ht, hd⟩
  unfold opP at hp
  simp only [ho, evK_eq] at hp
  have hv := evF_spec ht c
  split at hp
  · rename_i b hb
    rw [hb] at hv
    have hv := hv.v_inv.1
    cases b with
    | true => exact u_val (v := a.eval x) (fun w2 => by simp [execOp, ho, hv, asBool]) hg ht hd (evF_spec ht x) (hp.1 rfl)
    | false => exact u_val (v := a.eval y) (fun w2 => by simp [execOp, ho, hv, asBool]) hg ht hd (evF_spec ht y) (hp.2 rfl)
  · exact hp.elim

theorem q_nilCheck {x : Operand} (ho : o.op = .nilCheck x) : OpQ P C o := by
  intro E D t h a w k hp ⟨G, S, F, hg, ht, hd⟩
  unfold opP at hp
  simp only [ho, evK_eq] at hp
  have hv := evF_spec ht x
  split at hp
  · rename_i r e f n hb
    rw [hb] at hv
    obtain ⟨b, g, h1, h2, h3⟩ := hv.ptr_inv
    exact q_val (v := a.eval x) (fun w2 _ => by simp [execOp, ho, h3]) hg ht hd hv hp
  · rename_i r f j hb
    rw [hb] at hv
    obtain ⟨b, g, h1, h2, h3⟩ := hv.aptr_inv
    exact q_val (v := a.eval x) (fun w2 _ => by simp [execOp, ho, h3]) hg ht hd hv hp
  · rename_i b l hb
    rw [hb] at hv
    obtain ⟨b, off, cs, T, fz, cv, h3, _⟩ := hv.iptr_inv
    exact q_val (v := a.eval x) (fun w2 _ => by simp [execOp, ho, h3]) hg ht hd hv hp
  · rename_i f c hb
    rw [hb] at hv
    obtain ⟨vs, h3, _⟩ := hv.fn_inv
    exact q_val (v := a.eval x) (fun w2 _ => by simp [execOp, ho, h3]) hg ht hd hv hp
  · exact hp.elim
theorem u_nilCheck {x : Operand} (ho : o.op = .nilCheck x) : OpU P C o := by
  intro E D t h a w k hp ⟨G, S, F, hg, ht, hd⟩
  unfold opP at hp
  simp only [ho, evK_eq] at hp
  have hv := evF_spec ht x
  split at hp
  · rename_i r e f n hb
    rw [hb] at hv
    obtain ⟨b, g, h1, h2, h3⟩ := hv.ptr_inv
    exact u_val (v := a.eval x) (fun w2 => by simp [execOp, ho, h3]) hg ht hd hv hp
  · rename_i r f j hb
    rw [hb] at hv
    obtain ⟨b, g, h1, h2, h3⟩ := hv.aptr_inv
    exact u_val (v := a.eval x) (fun w2 => by simp [execOp, ho, h3]) hg ht hd hv hp
  · rename_i b l hb
    rw [hb] at hv
    obtain ⟨b, off, cs, T, fz, cv, h3, _⟩ := hv.iptr_inv
    exact u_val (v := a.eval x) (fun w2 => by simp [execOp, ho, h3]) hg ht hd hv hp
  · rename_i f c hb
    rw [hb] at hv
    obtain ⟨vs, h3, _⟩ := hv.fn_inv
    exact u_val (v := a.eval x) (fun w2 => by simp [execOp, ho, h3]) hg ht hd hv hp
  · exact hp.elim

theorem q_extract {x : Operand} {n : Nat} (ho : o.op = .extract x n) : OpQ P C o := by
  intro E D t h a w k hp ⟨G, S, F, hg, ht, hd⟩
  unfold opP at hp
  simp only [ho, evK_eq] at hp
  have hv := evF_spec ht x
  split at hp
  · rename_i l hb
    rw [hb] at hv
    obtain ⟨vs, h1, h2, h3⟩ := hv.tup_inv
    obtain ⟨y, h4, h5⟩ := on_spec hp
    have hn : n < vs.length := by have := (List.getElem?_eq_some_iff.1 h4).1; omega
    refine q_val (v := vs.getD n undef) (fun w2 _ => ?_) hg ht hd (h3 n y h4) h5
    simp [execOp, ho, h1, Instr.extract, hn, List.getD_eq_getElem?_getD]
  · exact hp.elim
theorem u_extract {x : Operand} {n : Nat} (ho : o.op = .extract x n) : OpU P C o := by
  intro E D t h a w k hp ⟨G, S, F, hg, ht, hd⟩
  unfold opP at hp
  simp only [ho, evK_eq] at hp
  have hv := evF_spec ht x
  split at hp
  · rename_i l hb
    rw [hb] at hv
    obtain ⟨vs, h1, h2, h3⟩ := hv.tup_inv
    obtain ⟨y, h4, h5⟩ := on_spec hp
    have hn : n < vs.length := by have := (List.getElem?_eq_some_iff.1 h4).1; omega
    refine u_val (v := vs.getD n undef) (fun w2 => ?_) hg ht hd (h3 n y h4) h5
    simp [execOp, ho, h1, Instr.extract, hn, List.getD_eq_getElem?_getD]
  · exact hp.elim

theorem q_fieldAddr {ty : TypeId} {x : Operand} {n : Nat} (hC : CtxOk P C) (ho : o.op = .fieldAddr ty x n) : OpQ P C o := by
  intro E D t h a w k hp ⟨G, S, F, hg, ht, hd⟩
  unfold opP at hp
  simp only [ho, evK_eq] at hp
  obtain ⟨i, hi, hp⟩ := on_spec hp
  obtain ⟨info, dd, z, h1, h2, h3, h4, h5, h6, _⟩ := hC.tab _ _ hi
  have hv := evF_spec ht x
  split at hp
  · rename_i fs hk
    rw [hk] at h6
    obtain ⟨f, hf, hp⟩ := on_spec hp
    cases dd <;> simp only [KindOk] at h6
    rename_i flds
    obtain ⟨h7, h8⟩ := h6
    have hn : n < flds.size := by have := (List.getElem?_eq_some_iff.1 hf).1; omega
    obtain ⟨fi, h9, h10⟩ := h8 n flds[n] (by simp [hn])
    rw [hf] at h10
    cases h10
    split at hp
    · rename_i r e b kk hb
      rw [hb] at hv
      obtain ⟨bb, g, p1, p2, p3⟩ := hv.ptr_inv
      split at hp
      · exact hp.elim
      · rename_i hz
        have hz : ¬ fi.size = 0 := by simpa using hz
        refine q_val (v := .pointer (some ⟨bb, e * g.s + (b + flds[n].offset), none⟩)) (fun w2 _ => ?_) hg ht hd (.ptr _ _ _ _ bb g p1 p2) hp
        simp [execOp, ho, p3, Instr.fieldAt, run_underlying h4, hn, Instr.sureAddr, fieldPlace, run_sizeOf' h9, hz, add_off, Nat.add_assoc]
    · rename_i b l hb
      rw [hb] at hv
      obtain ⟨bb, off, cs, T, fz, cv, p1, p2, p3, p4, p5⟩ := hv.iptr_inv
      split at hp
      · exact hp.elim
      · rename_i hz
        have hz : ¬ fi.size = 0 := by simpa using hz
        obtain ⟨hl, hp⟩ := cutK_spec _ _ _ _ hp
        refine q_val (v := .pointer (some ⟨bb, off + flds[n].offset, none⟩)) (fun w2 _ => ?_) hg ht hd (.ir _ _ rfl (.iptr _ _ _ bb (off + flds[n].offset) cs T fz (fun j => cv (flds[n].offset + j)) (by simp) p2 p3 ?_ ?_)) hp
        · simp [execOp, ho, p1, Instr.fieldAt, run_underlying h4, hn, Instr.sureAddr, fieldPlace, run_sizeOf' h9, hz, add_off]
        · intro j hj
          simp at hj
          rw [Nat.add_assoc]
          exact p4 _ (by omega)
        · intro j y hj
          rw [List.getElem?_take] at hj
          split at hj
          · rw [List.getElem?_drop] at hj
            exact p5 _ _ hj
          · simp at hj
    · exact hp.elim
  · exact hp.elim
theorem u_fieldAddr {ty : TypeId} {x : Operand} {n : Nat} (hC : CtxOk P C) (ho : o.op = .fieldAddr ty x n) : OpU P C o := by
  intro E D t h a w k hp ⟨G, S, F, hg, ht, hd⟩
  unfold opP at hp
  simp only [ho, evK_eq] at hp
  obtain ⟨i, hi, hp⟩ := on_spec hp
  obtain ⟨info, dd, z, h1, h2, h3, h4, h5, h6, _⟩ := hC.tab _ _ hi
  have hv := evF_spec ht x
  split at hp
  · rename_i fs hk
    rw [hk] at h6
    obtain ⟨f, hf, hp⟩ := on_spec hp
    cases dd <;> simp only [KindOk] at h6
    rename_i flds
    obtain ⟨h7, h8⟩ := h6
    have hn : n < flds.size := by have := (List.getElem?_eq_some_iff.1 hf).1; omega
    obtain ⟨fi, h9, h10⟩ := h8 n flds[n] (by simp [hn])
    rw [hf] at h10
    cases h10
    split at hp
    · rename_i r e b kk hb
      rw [hb] at hv
      obtain ⟨bb, g, p1, p2, p3⟩ := hv.ptr_inv
      split at hp
      · exact hp.elim
      · rename_i hz
        have hz : ¬ fi.size = 0 := by simpa using hz
        refine u_val (v := .pointer (some ⟨bb, e * g.s + (b + flds[n].offset), none⟩)) (fun w2 => ?_) hg ht hd (.ptr _ _ _ _ bb g p1 p2) hp
        simp [execOp, ho, p3, Instr.fieldAt, run_underlying h4, hn, Instr.sureAddr, fieldPlace, run_sizeOf' h9, hz, add_off, Nat.add_assoc]
    · rename_i b l hb
      rw [hb] at hv
      obtain ⟨bb, off, cs, T, fz, cv, p1, p2, p3, p4, p5⟩ := hv.iptr_inv
      split at hp
      · exact hp.elim
      · rename_i hz
        have hz : ¬ fi.size = 0 := by simpa using hz
        obtain ⟨hl, hp⟩ := cutK_spec _ _ _ _ hp
        refine u_val (v := .pointer (some ⟨bb, off + flds[n].offset, none⟩)) (fun w2 => ?_) hg ht hd (.ir _ _ rfl (.iptr _ _ _ bb (off + flds[n].offset) cs T fz (fun j => cv (flds[n].offset + j)) (by simp) p2 p3 ?_ ?_)) hp
        · simp [execOp, ho, p1, Instr.fieldAt, run_underlying h4, hn, Instr.sureAddr, fieldPlace, run_sizeOf' h9, hz, add_off]
        · intro j hj
          simp at hj
          rw [Nat.add_assoc]
          exact p4 _ (by omega)
        · intro j y hj
          rw [List.getElem?_take] at hj
          split at hj
          · rw [List.getElem?_drop] at hj
            exact p5 _ _ hj
          · simp at hj
    · exact hp.elim
  · exact hp.elim

theorem q_indexAddr {ty : TypeId} {x ix : Operand} (hC : CtxOk P C) (ho : o.op = .indexAddr ty x ix) : OpQ P C o := by
  intro E D t h a w k hp ⟨G, S, F, hg, ht, hd⟩
  unfold opP at hp
  simp only [ho, evK_eq] at hp
  obtain ⟨i, hi, hp⟩ := on_spec hp
  obtain ⟨info, dd, z, h1, h2, h3, h4, h5, h6, _⟩ := hC.tab _ _ hi
  have hv := evF_spec ht x
  have hz := evF_spec ht ix
  split at hp
  · rename_i e es r b n zz q y hk hb hq
    rw [hb] at hv
    rw [hq] at hz
    have hz := hz.v_inv.1
    obtain ⟨g, ad, c, p1, p2, p3, p4, p5⟩ := hv.slc_inv
    obtain ⟨root, hr, hp⟩ := rootK_spec hp
    split at hp
    · rename_i s l
      split at hp
      · rename_i hs
        have hs : s = es := by simpa using hs
        subst hs
        obtain ⟨j, rfl, hj, hp⟩ := hp
        rw [hk] at h6
        cases dd <;> simp only [KindOk] at h6
        obtain ⟨rfl, ei, h7, h8⟩ := h6
        have hgs : g.s = s := (hg.root r _ g hr p1).1
        rcases p5 with rfl | ⟨bb, p5, p6, p7⟩
        · omega
        · subst p6
          refine q_val (v := .pointer (some ⟨bb, (b + j) * g.s + 0, none⟩)) (fun w2 _ => ?_) hg ht hd (.ptr _ _ _ _ bb g p1 p5) hp
          have hlt : ¬ n ≤ j := by omega
          simp [execOp, ho, p2, hz, Instr.indexAt, run_underlying h4, asIntOf, hlt, run_sizeOf' h7, h8, hgs, add_off, Nat.add_mul]
      · exact hp.elim
    · exact hp.elim
  · rename_i e es b zz s l q y hk hb hq
    rw [hb] at hv
    rw [hq] at hz
    have hz := hz.v_inv.1
    obtain ⟨ad, c, p1, p2, p3⟩ := hv.imm_inv
    split at hp
    · rename_i hs
      have hs : s = es := by simpa using hs
      subst hs
      obtain ⟨j, rfl, el, hj, hp⟩ := hp
      rw [hk] at h6
      cases dd <;> simp only [KindOk] at h6
      obtain ⟨rfl, ei, h7, h8⟩ := h6
      have hjl : j < l.length := (List.getElem?_eq_some_iff.1 hj).1
      generalize hn : l.length = n at p1 p3
      cases p3 with
      | sl0 => simp at hjl
      | sl _ _ _ bb off _ cs T fz cv q1 q2 q3 q0 q4 q5 =>
        clear hn
        have hel : el.length = s := q3 el (List.mem_of_getElem? hj)
        refine q_val (v := .pointer (some ⟨bb, off + j * s, none⟩)) (fun w2 _ => ?_) hg ht hd (.ir _ _ rfl (.iptr _ _ _ bb (off + j * s) cs T fz (fun i => cv (j * s + i)) (by simp) q1 q2 ?_ ?_)) hp
        · have hlt : ¬ l.length ≤ j := by omega
          simp [execOp, ho, p1, hz, Instr.indexAt, run_underlying h4, asIntOf, hlt, run_sizeOf' h7, h8, add_off]
        · intro i hi
          rw [Nat.add_assoc]
          refine q4 _ ?_
          have h1 := flat_get s l q3 j el hj i (by omega)
          rw [List.getElem?_eq_getElem hi] at h1
          exact (List.getElem?_eq_some_iff.1 h1).1
        · intro i y hi
          have hil : i < el.length := (List.getElem?_eq_some_iff.1 hi).1
          have h1 := flat_get s l q3 j el hj i (by omega)
          exact q5 _ _ (h1.trans hi)
    · exact hp.elim
  · rename_i n r f kk q y hk hb hq
    rw [hb] at hv
    rw [hq] at hz
    have hz := hz.v_inv.1
    obtain ⟨j, rfl, hj, hp⟩ := hp
    obtain ⟨bb, g, p1, p2, p3⟩ := hv.ptr_inv
    rw [hk] at h6
    cases dd <;> simp only [KindOk] at h6
    obtain ⟨rfl, ei, h7, h8⟩ := h6
    refine q_val (v := .pointer (some ⟨bb, j + f, none⟩)) (fun w2 _ => ?_) hg ht hd (.aptr _ _ _ bb g p1 p2) hp
    simp [execOp, ho, p3, hz, Instr.indexAt, run_underlying h4, asIntOf, hj, run_sizeOf' h7, h8, add_off, Instr.sureAddr, Nat.add_comm]
  · rename_i n b l q y hk hb hq
    rw [hb] at hv
    rw [hq] at hz
    have hz := hz.v_inv.1
    obtain ⟨j, rfl, hj, el, hel, hp⟩ := hp
    obtain ⟨bb, off, cs, T, fz, cv, p1, p2, p3, p4, p5⟩ := hv.iptr_inv
    rw [hk] at h6
    cases dd <;> simp only [KindOk] at h6
    obtain ⟨rfl, ei, h7, h8⟩ := h6
    have hjl := (List.getElem?_eq_some_iff.1 hel).1
    refine q_val (v := .pointer (some ⟨bb, off + j, none⟩)) (fun w2 _ => ?_) hg ht hd (.ir _ _ rfl (.iptr _ _ _ bb (off + j) cs T fz (fun i => cv (j + i)) (by simp) p2 p3 ?_ ?_)) hp
    · simp [execOp, ho, p1, hz, Instr.indexAt, run_underlying h4, asIntOf, hj, run_sizeOf' h7, h8, add_off, Instr.sureAddr]
    · intro i hi
      simp at hi
      subst hi
      exact p4 j hjl
    · intro i z hi
      cases i with
      | zero => simp at hi; subst hi; exact p5 _ _ hel
      | succ i => simp at hi
  · exact hp.elim
theorem u_indexAddr {ty : TypeId} {x ix : Operand} (hC : CtxOk P C) (ho : o.op = .indexAddr ty x ix) : OpU P C o := by
  intro E D t h a w k hp ⟨G, S, F, hg, ht, hd⟩
  unfold opP at hp
  simp only [ho, evK_eq] at hp
  obtain ⟨i, hi, hp⟩ := on_spec hp
  obtain ⟨info, dd, z, h1, h2, h3, h4, h5, h6, _⟩ := hC.tab _ _ hi
  have hv := evF_spec ht x
  have hz := evF_spec ht ix
  split at hp
  · rename_i e es r b n zz q y hk hb hq
    rw [hb] at hv
    rw [hq] at hz
    have hz := hz.v_inv.1
    obtain ⟨g, ad, c, p1, p2, p3, p4, p5⟩ := hv.slc_inv
    obtain ⟨root, hr, hp⟩ := rootK_spec hp
    split at hp
    · rename_i s l
      split at hp
      · rename_i hs
        have hs : s = es := by simpa using hs
        subst hs
        obtain ⟨j, rfl, hj, hp⟩ := hp
        rw [hk] at h6
        cases dd <;> simp only [KindOk] at h6
        obtain ⟨rfl, ei, h7, h8⟩ := h6
        have hgs : g.s = s := (hg.root r _ g hr p1).1
        rcases p5 with rfl | ⟨bb, p5, p6, p7⟩
        · omega
        · subst p6
          refine u_val (v := .pointer (some ⟨bb, (b + j) * g.s + 0, none⟩)) (fun w2 => ?_) hg ht hd (.ptr _ _ _ _ bb g p1 p5) hp
          have hlt : ¬ n ≤ j := by omega
          simp [execOp, ho, p2, hz, Instr.indexAt, run_underlying h4, asIntOf, hlt, run_sizeOf' h7, h8, hgs, add_off, Nat.add_mul]
      · exact hp.elim
    · exact hp.elim
  · rename_i e es b zz s l q y hk hb hq
    rw [hb] at hv
    rw [hq] at hz
    have hz := hz.v_inv.1
    obtain ⟨ad, c, p1, p2, p3⟩ := hv.imm_inv
    split at hp
    · rename_i hs
      have hs : s = es := by simpa using hs
      subst hs
      obtain ⟨j, rfl, el, hj, hp⟩ := hp
      rw [hk] at h6
      cases dd <;> simp only [KindOk] at h6
      obtain ⟨rfl, ei, h7, h8⟩ := h6
      have hjl : j < l.length := (List.getElem?_eq_some_iff.1 hj).1
      generalize hn : l.length = n at p1 p3
      cases p3 with
      | sl0 => simp at hjl
      | sl _ _ _ bb off _ cs T fz cv q1 q2 q3 q0 q4 q5 =>
        clear hn
        have hel : el.length = s := q3 el (List.mem_of_getElem? hj)
        refine u_val (v := .pointer (some ⟨bb, off + j * s, none⟩)) (fun w2 => ?_) hg ht hd (.ir _ _ rfl (.iptr _ _ _ bb (off + j * s) cs T fz (fun i => cv (j * s + i)) (by simp) q1 q2 ?_ ?_)) hp
        · have hlt : ¬ l.length ≤ j := by omega
          simp [execOp, ho, p1, hz, Instr.indexAt, run_underlying h4, asIntOf, hlt, run_sizeOf' h7, h8, add_off]
        · intro i hi
          rw [Nat.add_assoc]
          refine q4 _ ?_
          have h1 := flat_get s l q3 j el hj i (by omega)
          rw [List.getElem?_eq_getElem hi] at h1
          exact (List.getElem?_eq_some_iff.1 h1).1
        · intro i y hi
          have hil : i < el.length := (List.getElem?_eq_some_iff.1 hi).1
          have h1 := flat_get s l q3 j el hj i (by omega)
          exact q5 _ _ (h1.trans hi)
    · exact hp.elim
  · rename_i n r f kk q y hk hb hq
    rw [hb] at hv
    rw [hq] at hz
    have hz := hz.v_inv.1
    obtain ⟨j, rfl, hj, hp⟩ := hp
    obtain ⟨bb, g, p1, p2, p3⟩ := hv.ptr_inv
    rw [hk] at h6
    cases dd <;> simp only [KindOk] at h6
    obtain ⟨rfl, ei, h7, h8⟩ := h6
    refine u_val (v := .pointer (some ⟨bb, j + f, none⟩)) (fun w2 => ?_) hg ht hd (.aptr _ _ _ bb g p1 p2) hp
    simp [execOp, ho, p3, hz, Instr.indexAt, run_underlying h4, asIntOf, hj, run_sizeOf' h7, h8, add_off, Instr.sureAddr, Nat.add_comm]
  · rename_i n b l q y hk hb hq
    rw [hb] at hv
    rw [hq] at hz
    have hz := hz.v_inv.1
    obtain ⟨j, rfl, hj, el, hel, hp⟩ := hp
    obtain ⟨bb, off, cs, T, fz, cv, p1, p2, p3, p4, p5⟩ := hv.iptr_inv
    rw [hk] at h6
    cases dd <;> simp only [KindOk] at h6
    obtain ⟨rfl, ei, h7, h8⟩ := h6
    have hjl := (List.getElem?_eq_some_iff.1 hel).1
    refine u_val (v := .pointer (some ⟨bb, off + j, none⟩)) (fun w2 => ?_) hg ht hd (.ir _ _ rfl (.iptr _ _ _ bb (off + j) cs T fz (fun i => cv (j + i)) (by simp) p2 p3 ?_ ?_)) hp
    · simp [execOp, ho, p1, hz, Instr.indexAt, run_underlying h4, asIntOf, hj, run_sizeOf' h7, h8, add_off, Instr.sureAddr]
    · intro i hi
      simp at hi
      subst hi
      exact p4 j hjl
    · intro i z hi
      cases i with
      | zero => simp at hi; subst hi; exact p5 _ _ hel
      | succ i => simp at hi
  · exact hp.elim

theorem s_alloc {ty : TypeId} (hC : CtxOk P C) (ho : o.op = .alloc ty) : OpS P C o := by
  intro E D t h a w k next Q hp ⟨G, S, F, hg, ht, hd⟩ hpan hc
  unfold opP at hp
  simp only [ho] at hp
  obtain ⟨i, hi, hp⟩ := on_spec hp
  obtain ⟨info, dd, z, h1, h2, h3, h4, h5, h6, h7, h8, h9, h10, h11⟩ := hC.tab _ _ hi
  have hp := newK_spec hp
  have hg1 := hg.chg (Chg.alloc w (.cells z.cells ty) _)
  have he := hg.ext_none (Chg.alloc w (.cells z.cells ty) _) (pre_append G ⟨some w.heap.size, i.size, i.size⟩)
  have hnew : (w.alloc (.cells z.cells ty)).heap[w.heap.size]? = some (.cells z.cells ty (0, 0)) := heap_new w _
  have hg2 := hg1.addRoot ⟨some w.heap.size, i.size, i.size⟩ (.box i.zero) (fun k => k = w.heap.size)
    ⟨w.heap.size, z.cells, ty, rfl, hnew, by omega, blkR_new i.zero w.heap.size z.cells (by omega) (fun j x hj => (h10 j x hj).c0)⟩
    (fun r k hk hf => by have := (hg.own r k hk).1; omega) (fun k hk => by subst hk; exact ⟨by simp, .inr hg.size, fun hs => by have := hg.sb _ hs; omega⟩)
  refine wp_val (v := .pointer (some ⟨w.heap.size, 0, none⟩)) (w' := w.alloc (.cells z.cells ty)) ?_ (rel_put hg2 (ht.ext he) hd (.ptr0 _ _ w.heap.size ⟨some w.heap.size, i.size, i.size⟩ ?_ rfl) hp hc)
  · simp [execOp, ho, Instr.alloc, run_zero h1 h7, newVar, newRow, newObj, Sem.run]
  · rw [List.getElem?_append_right (by rw [hg.len]; exact Nat.le_refl _)]; simp [hg.len]

theorem normK_spec : ∀ (l z : List AV) (k : List AV → Prop), normK l z k → ∃ cs : List AV, k cs ∧ cs.length = l.length ∧ ∀ (j : Nat) (y : AV), cs[j]? = some y → l[j]? = some y ∨ (l[j]? = some AV.nils ∧ ∃ s, y = AV.sl s [])
  | [], z, k, hp => ⟨[], hp, rfl, by simp⟩
  | _ :: _, [], k, hp => hp.elim
  | x :: l, z :: zs, k, hp => by
    have keep : ∀ k' : List AV → Prop, normK l zs (fun l => k' (x :: l)) → ∃ cs : List AV, k' cs ∧ cs.length = (x :: l).length ∧ ∀ (j : Nat) (y : AV), cs[j]? = some y → (x :: l)[j]? = some y ∨ ((x :: l)[j]? = some AV.nils ∧ ∃ s, y = AV.sl s []) := by
      intro k' hp
      obtain ⟨cs, q1, q2, q3⟩ := normK_spec l zs _ hp
      refine ⟨x :: cs, q1, by simp [q2], fun j y hj => ?_⟩
      cases j with
      | zero => exact .inl hj
      | succ j => simpa using q3 j y (by simpa using hj)
    cases x with
    | sl s l' => simp only [normK] at hp
    | nils =>
      cases z with
      | sl es _ =>
        simp only [normK] at hp
        obtain ⟨cs, q1, q2, q3⟩ := normK_spec l zs _ hp
        refine ⟨.sl es [] :: cs, q1, by simp [q2], fun j y hj => ?_⟩
        cases j with
        | zero => simp at hj; subst hj; exact .inr ⟨rfl, es, rfl⟩
        | succ j => simpa using q3 j y (by simpa using hj)
      | _ => exact keep k (by simpa only [normK] using hp)
    | _ => exact keep k (by cases z <;> simpa only [normK] using hp)

/-- What is laid into a variable, as cells. -/
theorem cells_spec {G : List Gh} {Ro S : BS} {i : TI} {x : AV} {v : Value} {k : List AV → Prop} (hv : VR G w Ro S x v) (hp : cellsK i x k) :
    ∃ (cs : List AV) (vs : List Value), k cs ∧ v.cells = vs.toArray ∧ vs.length = i.size ∧ cs.length = vs.length ∧ (∀ j y, cs[j]? = some y → C0 G w Ro S y (vs.getD j undef)) ∧ ∀ u ∈ vs, u.oneCell' = true := by
  unfold cellsK at hp
  have one : x.isSl = false → x ≠ .top → (∀ l, x ≠ .agg l) → (∀ l, x ≠ .tup l) → (if i.size == 1 then k [x] else False) → ∃ (cs : List AV) (vs : List Value), k cs ∧ v.cells = vs.toArray ∧ vs.length = i.size ∧ cs.length = vs.length ∧
      (∀ j y, cs[j]? = some y → C0 G w Ro S y (vs.getD j undef)) ∧ ∀ u ∈ vs, u.oneCell' = true := by
    intro h0 h1 h2 h3 h
    have hone := hv.one h0 h1 h2 h3
    split at h
    · rename_i hs
      have hs : i.size = 1 := by simpa using hs
      have hcells : v.cells = #[v] := by cases v <;> simp_all [Value.cells, Value.oneCell']
      refine ⟨[x], [v], h, hcells, hs.symm, rfl, ?_, by simpa using hone⟩
      intro j y hj
      cases j with
      | zero => simp at hj; subst hj; exact .inl ⟨h0, by simpa using hv, by simpa using hone⟩
      | succ j => simp at hj
    · exact h.elim
  cases hagg : i.agg with
  | true =>
    cases x <;> simp only [hagg] at hp
    case agg l =>
      split at hp
      · rename_i hs
        have hs : l.length = i.size := by simpa using hs
        obtain ⟨vs, rfl, h2, h3, h4⟩ := hv.agg_inv
        obtain ⟨cs, q1, q2, q3⟩ := normK_spec l i.zero k hp
        refine ⟨cs, vs, q1, rfl, by omega, by omega, fun j y hj => ?_, h3⟩
        have hjl : j < vs.length := by have := (List.getElem?_eq_some_iff.1 hj).1; omega
        have hone : (vs.getD j undef).oneCell' = true := by
          rw [List.getD_eq_getElem?_getD, List.getElem?_eq_getElem hjl]
          exact h3 _ (by simp)
        rcases q3 j y hj with h | ⟨h, s, rfl⟩
        · exact .inl ⟨(h4 j y h).notSl, h4 j y h, hone⟩
        · exact .inr ⟨s, none, rfl, (h4 j _ h).nils_inv⟩
      · exact hp.elim
    all_goals exact hp.elim
  | false =>
    cases x <;> simp only [hagg] at hp
    case nils =>
      split at hp
      · rename_i hk es hkind
        have := hv.nils_inv
        subst this
        split at hp
        · rename_i hs
          have hs : i.size = 1 := by simpa using hs
          refine ⟨[.sl es []], [.slice none 0 0], hp, rfl, hs.symm, rfl, ?_, by simp [Value.oneCell']⟩
          intro j y hj
          cases j with
          | zero => simp at hj; subst hj; exact .inr ⟨es, none, rfl, rfl⟩
          | succ j => simp at hj
        · exact hp.elim
      · exact hp.elim
    all_goals exact one rfl (by simp) (by simp) (by simp) hp

/-- A new block, and the root that stands for it. -/
theorem new_blk {G : List Gh} {S : BS} {F : Nat → BS} (hg : Good E G h w S F) (ht : TR G w E.Ro S t a) (cs : Array Value) (T : TypeId) (rt : Root) (g : Gh) (hgb : g.ob = some w.heap.size)
    (hrt : RootR (G ++ [g]) (w.alloc (.cells cs T)) E.Ro S rt g (fun k => k = w.heap.size)) :
    ∃ F', Good E (G ++ [g]) (h ++ [rt]) (w.alloc (.cells cs T)) S F' ∧ TR (G ++ [g]) (w.alloc (.cells cs T)) E.Ro S t a ∧ (G ++ [g])[h.length]? = some g := by
  have hg1 := hg.chg (Chg.alloc w (.cells cs T) _)
  have he := hg.ext_none (Chg.alloc w (.cells cs T) _) (pre_append G g)
  have hg2 := hg1.addRoot g rt (fun k => k = w.heap.size) hrt
    (fun r k hk hf => by have := (hg.own r k hk).1; omega) (fun k hk => by subst hk; exact ⟨by simp, .inr hg.size, fun hs => by have := hg.sb _ hs; omega⟩)
  exact ⟨_, hg2, ht.ext he, by rw [List.getElem?_append_right (by rw [hg.len]; exact Nat.le_refl _)]; simp [hg.len]⟩

theorem s_box {ty : TypeId} {x : Operand} (hC : CtxOk P C) (ho : o.op = .box ty x) : OpS P C o := by
  intro E D t h a w k next Q hp ⟨G, S, F, hg, ht, hd⟩ hpan hc
  unfold opP at hp
  simp only [ho, evK_eq] at hp
  obtain ⟨i, hi, hp⟩ := on_spec hp
  obtain ⟨cs, vs, hp, p1, p2, p3, p4, p5⟩ := cells_spec (evF_spec ht x) hp
  have hp := newK_spec hp
  have he := hg.ext_none (Chg.alloc w (.cells vs.toArray ty) _) (pre_append G ⟨some w.heap.size, i.size, i.size⟩)
  obtain ⟨F', hg2, ht2, hgl⟩ := new_blk hg ht vs.toArray ty (.box cs) ⟨some w.heap.size, i.size, i.size⟩ rfl
    ⟨w.heap.size, vs.toArray, ty, rfl, heap_new w _, by simp [p3], blkR_new cs w.heap.size vs.toArray (by simp [p3]) (fun j y hj => by simpa [Array.getD_eq_getD_getElem?, List.getD_eq_getElem?_getD] using (p4 j y hj).ext he)⟩
  refine wp_val (v := .pointer (some ⟨w.heap.size, 0, none⟩)) (w' := w.alloc (.cells vs.toArray ty)) ?_ (rel_put hg2 ht2 hd (.ptr0 _ _ w.heap.size _ hgl rfl) hp hc)
  simp [execOp, ho, Instr.box, newVar, newRow, newObj, Sem.run, p1]

theorem s_makeSlice {ty : TypeId} {x y : Operand} (hC : CtxOk P C) (ho : o.op = .makeSlice ty x y) : OpS P C o := by
  intro E D t h a w k next Q hp ⟨G, S, F, hg, ht, hd⟩ hpan hc
  unfold opP at hp
  simp only [ho, evK_eq] at hp
  obtain ⟨i, hi, hp⟩ := on_spec hp
  obtain ⟨info, dd, z, h1, h2, h3, h4, h5, h6, _⟩ := hC.tab _ _ hi
  have hv := evF_spec ht x
  have hw := evF_spec ht y
  split at hp
  · rename_i e es A B hk hx hy
    rw [hx] at hv
    rw [hy] at hw
    have hv := hv.v_inv.1
    have hw := hw.v_inv.1
    obtain ⟨ei, hei, hp2⟩ := on_spec hp
    split at hp2
    · exact hp2.elim
    rename_i hb0
    have hb0 : ei.bytes ≠ 0 := by simpa using hb0
    obtain ⟨m, hA, hB, hm, hp3⟩ := hp2
    subst hA; subst hB
    rw [hk] at h6
    cases dd <;> simp only [KindOk] at h6
    rename_i e'
    obtain ⟨he', fi, h7, h8⟩ := h6
    subst he'
    obtain ⟨info', dd', z', q1, q2, q3, q4, q5, q6, q7, q8, q9, q10, q11⟩ := hC.tab _ _ hei
    rw [h7] at q1
    have q1 := Option.some.inj q1
    subst q1
    have hp4 := newK_spec hp3
    have hes : es = ei.size := by omega
    subst hes
    -- the block's cells
    obtain ⟨cells, hcells⟩ : ∃ cells : Array Value, cells = madeCells z'.cells (m * ei.size) := ⟨_, rfl⟩
    have hcs : cells.size = m * ei.size := by simp [hcells, madeCells]
    have hget : ∀ j, j < m * ei.size → cells.getD j undef = z'.cells.getD (j % ei.size) undef := by
      intro j hj
      have : j % ei.size < z'.cells.size := by rw [q8]; exact Nat.mod_lt _ q11
      simp only [hcells, madeCells, Array.getD_eq_getD_getElem?, Array.getElem?_map, Array.getElem?_range, hj, if_true, Option.map_some, Option.getD_some]
      rw [q8, getElem!_pos z'.cells (j % ei.size) this]
      simp [this]
    have hfl : ∀ el ∈ List.replicate m ei.zero, el.length = ei.size := by
      intro el hel
      rw [List.eq_of_mem_replicate hel, q9]
    have he := hg.ext_none (Chg.alloc w (.cells cells e') _) (pre_append G ⟨some w.heap.size, ei.size, cells.size⟩)
    obtain ⟨F', hg2, ht2, hgl⟩ := new_blk hg ht cells e' (.lst ei.size (List.replicate m ei.zero)) ⟨some w.heap.size, ei.size, cells.size⟩ rfl
      ⟨rfl, hfl, .inr ⟨w.heap.size, cells, e', rfl, heap_new w _, rfl, by rw [flat_length ei.size _ hfl, hcs, List.length_replicate]; exact Nat.le_refl _, blkR_new _ w.heap.size cells (by rw [flat_length ei.size _ hfl, hcs, List.length_replicate]; exact Nat.le_refl _) (fun j y hj => by
        have hj1 := (List.getElem?_eq_some_iff.1 hj).1
        rw [flat_length ei.size _ hfl, List.length_replicate] at hj1
        have hdiv : j / ei.size < m := by rw [Nat.div_lt_iff_lt_mul q11]; omega
        have hmod := Nat.mod_lt j q11
        have h1 := flat_get ei.size _ hfl (j / ei.size) ei.zero (by simp [hdiv]) (j % ei.size) hmod
        rw [Nat.div_add_mod'] at h1
        rw [hget j hj1]
        exact (q10 _ _ (h1.symm.trans hj)).c0)⟩⟩
    refine wp_val (v := .slice (some ⟨w.heap.size, 0, none⟩) m m) (w' := w.alloc (.cells cells e')) ?_ (rel_put hg2 ht2 hd (.slc _ _ _ _ _ _ _ hgl (Nat.le_refl _) (fun _ => rfl) (.inr ⟨w.heap.size, rfl, by rw [Nat.zero_mul], by rw [Nat.zero_add, hcs]; exact Nat.le_refl _⟩)) hp4 hc)
    have hmb : m ≤ 281474976710656 := Nat.le_trans (Nat.le_mul_of_pos_left m (by omega)) hm
    have hrun := run_make (P := P) w ty e' fi z' h4 h7 q7 .i64 .i64 (m : Int) (m : Int) (by omega) (by omega) (by rw [q3, ← Int.natCast_mul]; exact Int.ofNat_le.2 hm) (by omega)
    simp only [Int.toNat_natCast, h8, ← hcells] at hrun
    simp [execOp, ho, hv, hw, hrun]
  · exact hp.elim
end

end Go.Proofs.YtbfjkjdbdejnmaaGreat.Ab

/- Loads, stores, sums and comparisons, structs and lengths: each is sound. No condition. -/
namespace Go.Proofs.YtbfjkjdbdejnmaaGreat.Ab
set_option linter.unusedVariables false
set_option linter.unusedSimpArgs false

theorem IR.one {w : World} {Ro S : BS} {t a x} (h : IR w Ro S t a x) : x.oneCell' = true := by cases h <;> first | assumption | rfl
theorem OR.one {w : World} {Ro S : BS} {a x F} (h : OR w Ro S a x F) : x.oneCell' = true := by
  cases h with
  | leaf _ _ _ h => exact h.one
  | sl0 => rfl
  | sl => rfl
theorem CR.one {G w Ro S a x F} (h : CR G w Ro S a x F) : x.oneCell' = true := h.elim (fun h => h.2.2.1) (fun h => h.one)
theorem BlkR.one {G w Ro S fl b cs F} (h : BlkR G w Ro S fl b cs F) {j : Nat} (hj : j < fl.length) : (cs.getD j undef).oneCell' = true := by
  obtain ⟨cv, Fc, h1, h2, _⟩ := h
  have := h1 j hj
  rw [Array.getD_eq_getD_getElem?, this]
  exact (h2 j fl[j] (List.getElem?_eq_getElem hj)).one

def immF (t : Bool) (c : AV) : AV := match c with | .sl s l => .imm t false s l | x => x
theorem mapK_imm (b : Bool) (l : List AV) (k : List AV → Prop) : mapK (immCellK b) l k = k (l.map (immF b)) := by
  induction l generalizing k with
  | nil => rfl
  | cons a l ih =>
    simp only [mapK, List.map_cons]
    cases a <;> simp only [immCellK, immF, ih]
theorem segV_mem {cs : Array Value} {o n : Nat} {u : Value} (h : u ∈ segV cs o n) : ∃ j, j < n ∧ u = cs.getD (o + j) undef := by
  simp only [segV, List.mem_map, List.mem_range] at h
  obtain ⟨j, hj, rfl⟩ := h
  exact ⟨j, hj, rfl⟩

section
variable {P : Program} {C : Ctx} {E : Env} {D : List Deferred × Nat} {o : Oper} {t : TS} {h : HP} {a : Act} {w : World} {k : TS → HP → Prop} {next : Act → World → Prop} {Q : Exit → Act → World → Prop}

/-- What is read, as one value. -/
theorem valK_spec {G : List Gh} {Ro S : BS} {i : TI} {x : List AV} {cs : Array Value} {o : Nat} {K : AV → Prop} (hx : x.length = i.size) (hv : ∀ j y, x[j]? = some y → VR G w Ro S y (cs.getD (o + j) undef))
    (h1 : ∀ j, j < i.size → (cs.getD (o + j) undef).oneCell' = true) (hp : valK i x K) : ∃ y, K y ∧ VR G w Ro S y (if i.agg then .agg (segV cs o i.size).toArray else cs.getD o undef) := by
  unfold valK at hp
  cases hagg : i.agg with
  | true =>
    simp only [hagg] at hp
    refine ⟨.agg x, hp, ?_⟩
    simp only [if_true]
    refine .agg x _ (by rw [segV_length, hx]) (fun v hv => ?_) (fun j y hj => ?_)
    · obtain ⟨j, hj, rfl⟩ := segV_mem hv
      exact h1 j hj
    · have : j < i.size := by have := (List.getElem?_eq_some_iff.1 hj).1; omega
      rw [segV_getD _ _ _ _ this]
      exact hv j y hj
  | false =>
    simp only [hagg] at hp
    cases x with
    | nil => exact hp.elim
    | cons y r =>
      cases r with
      | nil => exact ⟨y, hp, by simpa using hv 0 y rfl⟩
      | cons _ _ => exact hp.elim

theorem load_core {G S F} (hg : Good E G h w S F) {ty : TypeId} {i : TI} (hi : TIok P ty i) {r : Nat} {rt rt' : Root} {g : Gh} {pre cs x post : List AV} {rs : List Root} (hr : h[r]? = some rt) (hgr : G[r]? = some g)
    (hf : Flat rt (pre ++ cs ++ post)) (hcs : cs.length = i.size) (hO : Out h.length cs x rs) (hk : SameK rt rt') (hf' : Flat rt' (pre ++ x ++ post)) {b : Nat} (hb : g.ob = some b) :
    ∃ G' F' v, Good E G' ((h ++ rs).set r rt') w S F' ∧ (∀ (i : Nat) (g : Gh), G[i]? = some g → G'[i]? = some g) ∧ (∀ w2, Chg w w2 (fun _ => False) → (loadVar ty ⟨b, pre.length, none⟩).run P w2 = .ok v w2) ∧
      (∀ K : AV → Prop, valK i x K → ∃ y, K y ∧ VR G' w E.Ro S y v) := by
  have hsz : 0 < i.size := by obtain ⟨_, _, _, _, _, _, _, _, _, _, _, _, _, h⟩ := hi.all; exact h
  have hpos : 0 < (pre ++ cs ++ post).length := by simp; omega
  obtain ⟨b0, ca0, T0, q1, q2, q3, q4⟩ := rootR_blk (hg.root r rt g hr hgr) hf hpos
  obtain ⟨G', F', b1, ca, T, a1, a2, a3, a4, a5, a6⟩ := hg.outSeg hO rfl hr hgr hf hpos hk hf'
  rw [hb] at q1 a3
  cases q1; cases a3
  rw [a4] at q2
  cases q2
  refine ⟨G', F', _, a1, a2, fun w2 hw => run_loadVar hi (by rw [hw.heap _ (Array.getElem?_eq_some_iff.1 a4).1 (fun h => h)]; exact a4) (by simp at a5; omega), fun K hK => ?_⟩
  exact valK_spec (by rw [hO.length, hcs]) a6 (fun j hj => q4.one (by simp; omega)) hK

theorem set_same {α : Type} {l : List α} {i : Nat} {a : α} (h : l[i]? = some a) : l.set i a = l := by
  apply List.ext_getElem?
  intro j
  rw [List.getElem?_set]
  split
  · rename_i hj; subst hj
    split
    · exact h.symm
    · rename_i hlt; rw [List.getElem?_eq_none (by omega)]
  · rfl
theorem out_none : ∀ {cs : List AV} {n : Nat}, cs.any AV.isSl = false → Out n cs cs []
  | [], n, _ => .nil _
  | c :: cs, n, hs => by
    simp only [List.any_cons, Bool.or_eq_false_iff] at hs
    exact .keep _ c cs cs [] hs.1 (out_none hs.2)
theorem loadP_spec {G S F} (hC : CtxOk P C) (hg : Good E G h w S F) {ty : TypeId} {x : AV} {u : Value} {K : AV → HP → Prop} (hv : VR G w E.Ro S x u) (hp : loadP C ty x h K) :
    ∃ y h' G' F' v ad, K y h' ∧ Good E G' h' w S F' ∧ (∀ (i : Nat) (g : Gh), G[i]? = some g → G'[i]? = some g) ∧ u = .pointer (some ad) ∧ (∀ w2, Chg w w2 (fun _ => False) → (loadVar ty ad).run P w2 = .ok v w2) ∧ VR G' w E.Ro S y v := by
  unfold loadP at hp
  obtain ⟨i, hi, hp2⟩ := on_spec hp
  clear hp
  have hp := hp2
  clear hp2
  have hti := hC.tab _ _ hi
  cases x <;> simp only at hp
  case ptr =>
    rename_i r e f kk
    obtain ⟨b, g, p1, p2, p3⟩ := hv.ptr_inv
    obtain ⟨root, hr, hp⟩ := rootK_spec hp
    split at hp
    · rename_i cells _
      obtain ⟨c1, hp⟩ := cutK_spec _ _ _ _ hp
      obtain ⟨x, rs, hp, hO⟩ := outK_spec _ _ _ hp
      obtain ⟨c2, hp⟩ := layK_spec _ _ _ _ hp
      rw [setK_eq] at hp
      have hxl : x.length = i.size := by rw [hO.length]; simp; omega
      have hpre : (cells.take f).length = f := by simp; omega
      obtain ⟨G', F', v, a1, a2, a3, a4⟩ := load_core (pre := cells.take f) (post := cells.drop (f + i.size)) (rt' := .box (lay cells f x)) hg hti hr p1
        (show Flat (.box cells) _ by
          simp only [Flat]
          rw [List.append_assoc, show cells.drop (f + i.size) = (cells.drop f).drop i.size by rw [List.drop_drop], List.take_append_drop, List.take_append_drop]) (by simp; omega) hO trivial (by simp only [Flat, lay, hxl]) p2
      obtain ⟨y, hy, hvy⟩ := a4 _ hp
      rw [hpre] at a3
      exact ⟨y, _, G', F', v, _, hy, a1, a2, p3, by rw [Nat.zero_mul, Nat.zero_add]; exact a3, hvy⟩
    · rename_i s l
      obtain ⟨el, hel, hfs, hp⟩ := hp
      have hse : g.s = s ∧ ∀ e ∈ l, e.length = s := ⟨(hg.root r _ g hr p1).1, (hg.root r _ g hr p1).2.1⟩
      obtain ⟨c1, hp⟩ := cutK_spec _ _ _ _ hp
      obtain ⟨x, rs, hO, c2, hp⟩ : ∃ x rs, Out h.length ((el.drop f).take i.size) x rs ∧ f + x.length ≤ el.length ∧ valK i x fun y => K y ((h ++ rs).set r (.lst s (l.set e (lay el f x)))) := by
        split at hp
        · rename_i hs
          refine ⟨_, [], out_none hs, by simp; omega, ?_⟩
          have h1 : lay el f ((el.drop f).take i.size) = el := by
            unfold lay
            rw [show ((el.drop f).take i.size).length = i.size by simp; omega, List.append_assoc, show el.drop (f + i.size) = (el.drop f).drop i.size by rw [List.drop_drop], List.take_append_drop, List.take_append_drop]
          rw [h1, set_same hel, List.append_nil, set_same hr]
          exact hp
        · obtain ⟨x, rs, hp, hO⟩ := outK_spec _ _ _ hp
          obtain ⟨c2, hp⟩ := layK_spec _ _ _ _ hp
          rw [setK_eq] at hp
          exact ⟨x, rs, hO, c2, hp⟩
      have hells : el.length = s := hse.2 el (List.mem_of_getElem? hel)
      have hxl : x.length = i.size := by rw [hO.length]; simp; omega
      have hlay : (lay el f x).length = s := by rw [lay_length (by omega), hells]
      obtain ⟨f1, f2, f3⟩ := flat_set s l hse.2 e el hel (lay el f x) hlay
      have hset : ∀ q ∈ l.set e (lay el f x), q.length = s := by
        intro q hq
        rcases List.mem_or_eq_of_mem_set hq with hq | rfl
        · exact hse.2 q hq
        · exact hlay
      have hpre : ((l.take e).flatten ++ el.take f).length = e * g.s + f := by
        rw [List.length_append, f3, hse.1]; simp; omega
      have hsplit : el = el.take f ++ ((el.drop f).take i.size) ++ el.drop (f + i.size) := by
        rw [List.append_assoc, show el.drop (f + i.size) = (el.drop f).drop i.size by rw [List.drop_drop], List.take_append_drop, List.take_append_drop]
      have hfl : l.flatten = ((l.take e).flatten ++ el.take f) ++ ((el.drop f).take i.size) ++ (el.drop (f + i.size) ++ (l.drop (e + 1)).flatten) := by
        rw [f1, show ((l.take e).flatten ++ el.take f) ++ ((el.drop f).take i.size) ++ (el.drop (f + i.size) ++ (l.drop (e + 1)).flatten) = (l.take e).flatten ++ (el.take f ++ ((el.drop f).take i.size) ++ el.drop (f + i.size)) ++ (l.drop (e + 1)).flatten by simp [List.append_assoc], ← hsplit]
      obtain ⟨G', F', v, a1, a2, a3, a4⟩ := load_core (pre := (l.take e).flatten ++ el.take f) (cs := (el.drop f).take i.size) (post := el.drop (f + i.size) ++ (l.drop (e + 1)).flatten) (rt' := .lst s (l.set e (lay el f x))) hg hti hr p1
        ⟨hfl.symm, hse.2⟩ (by simp; omega) hO rfl ⟨by rw [f2]; simp [lay, hxl, List.append_assoc], hset⟩ p2
      obtain ⟨y, hy, hvy⟩ := a4 _ hp
      rw [hpre] at a3
      exact ⟨y, _, G', F', v, _, hy, a1, a2, p3, a3, hvy⟩
    · exact hp.elim
  case aptr =>
    rename_i r f j
    obtain ⟨b, g, p1, p2, p3⟩ := hv.aptr_inv
    split at hp
    · exact hp.elim
    rename_i hagg
    obtain ⟨root, hr, hp⟩ := rootK_spec hp
    split at hp
    · rename_i cells
      obtain ⟨x, hx, hsl, hp⟩ := hp
      split at hp
      · rename_i hone
        have hone : i.size = 1 := Nat.eq_of_beq_eq_true hone
        obtain ⟨b', cs, T, q1, q2, q3, cv, Fc, q4, q5, _⟩ := hg.root r _ g hr p1
        rw [p2] at q1
        cases q1
        have hjl := (List.getElem?_eq_some_iff.1 hx).1
        have hval : cs.getD (j + f) undef = cv (j + f) := by rw [Array.getD_eq_getD_getElem?, q4 _ hjl]; rfl
        refine ⟨x, h, G, F, cs.getD (j + f) undef, _, hp, hg, fun _ _ h => h, p3, fun w2 hw => ?_, ?_⟩
        · have := run_loadVar (P := P) hti (w := w2) (b := b) (o := j + f) (cs := cs) (T := T) (fz := (0, 0)) (by rw [hw.heap _ (Array.getElem?_eq_some_iff.1 q2).1 (fun h => h)]; exact q2) (by omega)
          simpa [hagg] using this
        · rw [hval]
          rcases q5 _ _ hx with ⟨_, hv, _⟩ | hor
          · exact hv
          · generalize cv (j + f) = v at hor
            generalize Fc (j + f) = Fp at hor
            cases hor with
            | leaf a x p1 p2 => exact .ir _ _ p1 p2.weak
            | sl0 s a => simp [AV.isSl] at hsl
            | sl => simp [AV.isSl] at hsl
      · exact hp.elim
    · exact hp.elim
  case iptr =>
    rename_i b l
    obtain ⟨bb, off, cs, T, fz, cv, p1, p2, p3, p4, p5⟩ := hv.iptr_inv
    obtain ⟨c1, hp⟩ := cutK_spec _ _ _ _ hp
    rw [mapK_imm] at hp
    simp only [Nat.zero_add] at c1
    have hval : ∀ j, j < l.length → cs.getD (off + j) undef = cv j := fun j hj => by rw [Array.getD_eq_getD_getElem?, p4 j hj]; rfl
    have hsz : 0 < i.size := by obtain ⟨_, _, _, _, _, _, _, _, _, _, _, _, _, h⟩ := hti.all; exact h
    have hcs : off + i.size ≤ cs.size := by
      have := (Array.getElem?_eq_some_iff.1 (p4 (i.size - 1) (by omega))).1
      omega
    obtain ⟨y, hy, hvy⟩ := valK_spec (G := G) (w := w) (Ro := E.Ro) (S := S) (cs := cs) (o := off) (i := i) (by simp; omega) (fun j y hj => by
      simp only [List.drop_zero, List.getElem?_map, List.getElem?_take] at hj
      by_cases hji : j < i.size
      · rw [if_pos hji] at hj
        cases hlj : l[j]? with
        | none => simp [hlj] at hj
        | some q =>
          simp [hlj] at hj
          subst hj
          rw [hval j (by omega)]
          have hir := p5 j q hlj
          cases q with
          | sl s l' =>
            simp only [immF]
            generalize cv j = vj at hir
            cases hir with
            | sl0 _ _ a c => exact .ir _ _ rfl (.imm _ _ _ _ _ a 0 c (by simp) (.sl0 _ _ a c) (by simp))
            | sl _ _ _ b' off' c cs' T' fz' cv' q1 q2 q3 q0 q4 q5 => exact .ir _ _ rfl (.imm _ _ _ _ _ _ _ c (by simp) (.sl _ _ _ b' off' c cs' T' fz' cv' q1 q2 q3 q0 q4 q5) (by simp))
          | _ => exact .ir _ _ rfl hir.weak
      · rw [if_neg hji] at hj; simp at hj) (fun j hj => by
        rw [hval j (by omega)]
        exact (p5 j l[j] (List.getElem?_eq_getElem (by omega))).one) hp
    exact ⟨y, h, G, F, _, _, hy, hg, fun _ _ h => h, p1, fun w2 hw => run_loadVar hti (by rw [hw.heap _ (Array.getElem?_eq_some_iff.1 p3).1 (fun h => h)]; exact p3) hcs, hvy⟩
  all_goals exact hp.elim

theorem q_load {ty : TypeId} {p : Operand} (hC : CtxOk P C) (ho : o.op = .load ty p) : OpQ P C o := by
  intro E D t h a w k hp ⟨G, S, F, hg, ht, hd⟩
  unfold opP at hp
  simp only [ho, evK_eq] at hp
  obtain ⟨y, h', G', F', v, ad, hy, a1, a2, p3, a3, hvy⟩ := loadP_spec hC hg (evF_spec ht p) hp
  exact q_val (v := v) (fun w2 hw => by simp [execOp, ho, p3, Instr.loadAt, Instr.sureAddr, a3 w2 hw]) a1 (ht.ext (hg.ext_none (Chg.refl w _) a2)) hd hvy hy

theorem q_assign {x : Operand} (hC : CtxOk P C) (ho : o.op = .assign x) : OpQ P C o := by
  intro E D t h a w k hp ⟨G, S, F, hg, ht, hd⟩
  unfold opP at hp
  simp only [ho, evK_eq] at hp
  have hv := evF_spec ht x
  split at hp
  · rename_i hb
    rw [hb] at hv
    rcases hp with hp | hp
    · exact q_val (v := a.eval x) (fun w2 _ => by simp [execOp, ho]) hg ht hd hv hp
    have hv := hv.nils_inv
    obtain ⟨i, hi, hp⟩ := on_spec hp
    split at hp
    · rename_i e es hk
      have hp := newK_spec hp
      have hg2 := hg.addRoot ⟨none, es, 0⟩ (.lst es []) (fun _ => False) ⟨rfl, by simp, .inl ⟨rfl, rfl, fun _ h => h⟩⟩ (fun _ _ _ h => h) (fun _ h => h.elim)
      refine q_val (v := .slice none 0 0) (fun w2 _ => by simp [execOp, ho, hv]) hg2 (ht.ext (hg.ext_none (Chg.refl w _) (pre_append G _))) hd
        (.slc _ 0 0 true ⟨none, es, 0⟩ none 0 (by rw [List.getElem?_append_right (by rw [hg.len]; exact Nat.le_refl _)]; simp [hg.len]) (Nat.le_refl _) (fun _ => rfl) (.inl rfl)) hp
    · exact hp.elim
  · exact q_val (v := a.eval x) (fun w2 _ => by simp [execOp, ho]) hg ht hd hv hp
theorem u_assign {x : Operand} (hC : CtxOk P C) (ho : o.op = .assign x) : OpU P C o := by
  intro E D t h a w k hp ⟨G, S, F, hg, ht, hd⟩
  unfold opP at hp
  simp only [ho, evK_eq] at hp
  have hv := evF_spec ht x
  split at hp
  · rename_i hb
    rw [hb] at hv
    rcases hp with hp | hp
    · exact u_val (v := a.eval x) (fun w2 => by simp [execOp, ho]) hg ht hd hv hp
    have hv := hv.nils_inv
    obtain ⟨i, hi, hp⟩ := on_spec hp
    split at hp
    · rename_i e es hk
      have hp := newK_spec hp
      have hg2 := hg.addRoot ⟨none, es, 0⟩ (.lst es []) (fun _ => False) ⟨rfl, by simp, .inl ⟨rfl, rfl, fun _ h => h⟩⟩ (fun _ _ _ h => h) (fun _ h => h.elim)
      refine u_val (v := .slice none 0 0) (fun w2 => by simp [execOp, ho, hv]) hg2 (ht.ext (hg.ext_none (Chg.refl w _) (pre_append G _))) hd
        (.slc _ 0 0 true ⟨none, es, 0⟩ none 0 (by rw [List.getElem?_append_right (by rw [hg.len]; exact Nat.le_refl _)]; simp [hg.len]) (Nat.le_refl _) (fun _ => rfl) (.inl rfl)) hp
    · exact hp.elim
  · exact u_val (v := a.eval x) (fun w2 => by simp [execOp, ho]) hg ht hd hv hp

theorem vr_int (G : List Gh) (w : World) (Ro S : BS) (k : IntKind) (n : Int) : VR G w Ro S (.v (.int k n)) (.int k n) := .ir _ _ rfl (.v _ _ rfl)
theorem vr_bool (G : List Gh) (w : World) (Ro S : BS) (b : Bool) : VR G w Ro S (.v (.bool b)) (.bool b) := .ir _ _ rfl (.v _ _ rfl)

theorem intOp_spec {op : BinOp} {q : IntKind} {x y : Int} {K : AV → Prop} (hp : intOp op q x y K) (ty : TypeId) : ∃ v, K (.v v) ∧ v.oneCell' = true ∧ ∀ w : World, (binOp op ty (.int q x) (.int q y)).run P w = .ok v w := by
  cases op <;> simp only [intOp] at hp
  case add => exact ⟨_, hp, rfl, fun w => by simp [binOp, Op.intArith]⟩
  case sub => exact ⟨_, hp, rfl, fun w => by simp [binOp, Op.intArith]⟩
  case mul => exact ⟨_, hp, rfl, fun w => by simp [binOp, Op.intArith]⟩
  case quo => exact ⟨_, hp.2, rfl, fun w => by simp [binOp, Op.intDiv, hp.1]⟩
  case rem => exact ⟨_, hp.2, rfl, fun w => by simp [binOp, Op.intDiv, hp.1]⟩
  case and => exact ⟨_, hp, rfl, fun w => by simp [binOp, Op.intBits]⟩
  case or => exact ⟨_, hp, rfl, fun w => by simp [binOp, Op.intBits]⟩
  case xor => exact ⟨_, hp, rfl, fun w => by simp [binOp, Op.intBits]⟩
  case andNot => exact ⟨_, hp, rfl, fun w => by simp [binOp, Op.intBits]⟩
  case eql => exact ⟨_, hp, rfl, fun w => by simp [binOp, Op.intCmp]⟩
  case neq => exact ⟨_, hp, rfl, fun w => by simp [binOp, Op.intCmp]⟩
  case lss => exact ⟨_, hp, rfl, fun w => by simp [binOp, Op.intCmp]⟩
  case leq => exact ⟨_, hp, rfl, fun w => by simp [binOp, Op.intCmp]⟩
  case gtr => exact ⟨_, hp, rfl, fun w => by simp [binOp, Op.intCmp]⟩
  case geq => exact ⟨_, hp, rfl, fun w => by simp [binOp, Op.intCmp]⟩
end

end Go.Proofs.YtbfjkjdbdejnmaaGreat.Ab

/- Slices folded into the cells that hold them, variables frozen that function values hold, and the roots that are reached taken out in order. No condition. -/
namespace Go.Proofs.YtbfjkjdbdejnmaaGreat.Ab
set_option linter.unusedVariables false
set_option linter.unusedSimpArgs false

/-! ### What asks no root -/

theorem IR.ro {w : World} {Ro Ro2 S : BS} (hr : ∀ k, Ro k → Ro2 k) {t a x} (h : IR w Ro S t a x) : IR w Ro2 S t a x := by
  have hsel : ∀ {t : Bool} {b : Nat}, sel Ro S t b → sel Ro2 S t b := fun {t b} q => by
    cases t
    · exact q.imp (hr b) id
    · exact q
  induction h with
  | top t x h => exact .top t x h
  | v t x h => exact .v t x h
  | sl0 t s a c => exact .sl0 t s a c
  | sl t s l b off c cs T fz cv h1 h2 h3 h0 h4 _ ih => exact .sl t s l b off c cs T fz cv (hsel h1) h2 h3 h0 h4 ih
  | imm t t' z s l a n c h1 _ h3 ih => exact .imm t t' z s l a n c h1 ih h3
  | iptr t t' l b off cs T fz cv h0 h1 h2 h4 _ ih => exact .iptr t t' l b off cs T fz cv h0 (hsel h1) h2 h4 ih
  | fn t f caps vs h1 h2 _ ih => exact .fn t f caps vs h1 h2 ih

theorem IR.true_ro {w : World} {Ro Ro2 S : BS} {t a x} (h : IR w Ro S t a x) : t = true → IR w Ro2 S t a x := by
  induction h with
  | top t x h => exact fun _ => .top t x h
  | v t x h => exact fun _ => .v t x h
  | sl0 t s a c => exact fun _ => .sl0 t s a c
  | sl t s l b off c cs T fz cv h1 h2 h3 h0 h4 _ ih => exact fun ht => .sl t s l b off c cs T fz cv (by subst ht; exact h1) h2 h3 h0 h4 (fun j x hj => ih j x hj ht)
  | imm t t' z s l a n c h1 _ h3 ih => exact fun ht => .imm t t' z s l a n c h1 (ih (h1 ht)) h3
  | iptr t t' l b off cs T fz cv h0 h1 h2 h4 _ ih => exact fun ht => .iptr t t' l b off cs T fz cv h0 (by have := h0 ht; subst this; exact h1) h2 h4 (fun j x hj => ih j x hj (h0 ht))
  | fn t f caps vs h1 h2 _ ih => exact fun ht => .fn t f caps vs h1 h2 (fun j x hj => ih j x hj ht)

theorem OR.ro {w : World} {Ro Ro2 S : BS} {a x F} (h : OR w Ro S a x F) : OR w Ro2 S a x F := by
  induction h with
  | leaf a x h1 h2 => exact .leaf a x h1 (h2.true_ro rfl)
  | sl0 s a => exact .sl0 s a
  | sl s l b c cs T cv Fc h1 h2 h3 h4 h5 _ h7 h8 ih => exact .sl s l b c cs T cv Fc h1 h2 h3 h4 h5 ih h7 h8

/-- A leaf of a function value's, closed. -/
theorem VR.shut1 {G G2 : List Gh} {w : World} {Ro Ro2 S : BS} {a x} (h : VR G w Ro S a x) (hs : a.shut1 = true) : VR G2 w Ro2 S a x := by
  cases h with
  | top x => exact .top x
  | nils => exact .nils
  | fn f caps vs h1 h2 =>
    cases caps with
    | nil => exact .fn f [] vs h1 (by simp)
    | cons _ _ => simp [AV.shut1] at hs
  | ir _ _ h1 h2 =>
    refine .ir _ _ h1 ?_
    cases h2 with
    | top _ _ h => exact .top _ _ h
    | v _ _ h => exact .v _ _ h
    | sl0 => simp [AV.isSl] at h1
    | sl => simp [AV.isSl] at h1
    | imm _ t' z s l a n c q1 q2 q3 =>
      cases t' with
      | true => exact .imm _ _ _ _ _ _ _ _ q1 (q2.true_ro rfl) q3
      | false => simp [AV.shut1] at hs
    | iptr _ t' l b off cs T fz cv q0 q1 q2 q4 q5 =>
      cases t' with
      | true => exact .iptr _ _ l b off cs T fz cv q0 q1 q2 q4 (fun j x hj => (q5 j x hj).true_ro rfl)
      | false => simp [AV.shut1] at hs
    | fn _ f caps vs q1 q2 q3 =>
      cases caps with
      | nil => exact .fn _ f [] vs q1 q2 (by simp)
      | cons _ _ => simp [AV.shut1] at hs
  | _ => simp [AV.shut1] at hs

/-- The same in memory that stays as it is, for ever. -/
theorem VR.shut1I {G : List Gh} {w : World} {Ro Ro2 S : BS} {a x} (h : VR G w Ro S a x) (hs : a.shut1 = true) (hn : a ≠ .nils) (h1 : a = .top → x.oneCell' = true) : IR w Ro2 S true a x := by
  cases h with
  | top x => exact .top _ _ (h1 rfl)
  | nils => exact absurd rfl hn
  | fn f caps vs q1 q2 =>
    cases caps with
    | nil => exact .fn _ f [] vs q1 (by simp) (by simp)
    | cons _ _ => simp [AV.shut1] at hs
  | ir _ _ h1 h2 =>
    cases h2 with
    | top _ _ h => exact .top _ _ h
    | v _ _ h => exact .v _ _ h
    | sl0 => simp [AV.shut1] at hs
    | sl => simp [AV.shut1] at hs
    | imm _ t' z s l a n c q1 q2 q3 =>
      cases t' with
      | true => exact .imm _ _ _ _ _ _ _ _ (by simp) (q2.true_ro rfl) q3
      | false => simp [AV.shut1] at hs
    | iptr _ t' l b off cs T fz cv q0 q1 q2 q4 q5 =>
      cases t' with
      | true => exact .iptr _ _ l b off cs T fz cv (by simp) q1 q2 q4 (fun j x hj => (q5 j x hj).true_ro rfl)
      | false => simp [AV.shut1] at hs
    | fn _ f caps vs q1 q2 q3 =>
      cases caps with
      | nil => exact .fn _ f [] vs q1 q2 (by simp)
      | cons _ _ => simp [AV.shut1] at hs
  | _ => simp [AV.shut1] at hs

theorem VR.pure1 {G G2 : List Gh} {w : World} {Ro Ro2 S : BS} (hr : ∀ k, Ro k → Ro2 k) {a x} (h : VR G w Ro S a x) (hs : a.pure1 = true) : VR G2 w Ro2 S a x := by
  cases h with
  | top x => exact .top x
  | nils => exact .nils
  | fn f caps vs h1 h2 =>
    cases caps with
    | nil => exact .fn f [] vs h1 (by simp)
    | cons _ _ => simp [AV.pure1] at hs
  | ir _ _ h1 h2 => exact .ir _ _ h1 (h2.ro hr)
  | _ => simp [AV.pure1] at hs

/-- A cell that asks no root. -/
theorem VR.wk {G G2 : List Gh} {w : World} {Ro Ro2 S : BS} (hr : ∀ k, Ro k → Ro2 k) {a x} (h : VR G w Ro S a x) (hs : a.wkC = true) : VR G2 w Ro2 S a x := by
  cases h with
  | top x => exact .top x
  | nils => simp [AV.wkC] at hs
  | fn f caps vs h1 h2 =>
    simp only [AV.wkC, List.all_eq_true] at hs
    exact .fn f caps vs h1 (fun j y hj => (h2 j y hj).pure1 hr (hs y (List.mem_of_getElem? hj)))
  | ir _ _ h1 h2 => exact .ir _ _ h1 (h2.ro hr)
  | _ => simp [AV.wkC] at hs
theorem CR.wk {G G2 : List Gh} {w : World} {Ro Ro2 S : BS} (hr : ∀ k, Ro k → Ro2 k) {a x F} (h : CR G w Ro S a x F) (hs : a.wkC = true) : CR G2 w Ro2 S a x F :=
  h.imp (fun ⟨h1, h2, h3⟩ => ⟨h1, h2.wk hr hs, h3⟩) (fun h => h.ro)

theorem VR.shut {G G2 : List Gh} {w : World} {Ro Ro2 S : BS} {a x} (h : VR G w Ro S a x) (hs : a.shut = true) : VR G2 w Ro2 S a x := by
  cases a with
  | fn f caps =>
    obtain ⟨vs, rfl, h1, h2⟩ := h.fn_inv
    simp only [AV.shut, List.all_eq_true] at hs
    exact .fn f caps vs h1 (fun j y hj => (h2 j y hj).shut1 (hs y (List.mem_of_getElem? hj)))
  | sl s l => have := h.notSl; simp [AV.isSl] at this
  | top => exact h.shut1 rfl
  | v x => exact h.shut1 rfl
  | nils => exact h.shut1 rfl
  | imm t z s l => cases t <;> first | exact h.shut1 rfl | simp [AV.shut] at hs
  | iptr t l => cases t <;> first | exact h.shut1 rfl | simp [AV.shut] at hs
  | _ => simp [AV.shut] at hs
theorem shut_of_shutC {a : AV} (h : a.shutC = true) : a.shut = true := by cases a <;> first | exact h | simp [AV.shutC] at h
theorem CR.shut {G G2 : List Gh} {w : World} {Ro Ro2 S : BS} {a x F} (h : CR G w Ro S a x F) (hs : a.shutC = true) : CR G2 w Ro2 S a x F :=
  h.imp (fun ⟨h1, h2, h3⟩ => ⟨h1, h2.shut (shut_of_shutC hs), h3⟩) (fun h => h.ro)

theorem VR.ro {G : List Gh} {w : World} {Ro Ro2 S : BS} (hr : ∀ k, Ro k → Ro2 k) {a x} (h : VR G w Ro S a x) : VR G w Ro2 S a x := by
  induction h with
  | top x => exact .top x
  | ir a x h1 h2 => exact .ir a x h1 (h2.ro hr)
  | nils => exact .nils
  | ptr r i o k b g h1 h2 => exact .ptr r i o k b g h1 h2
  | aptr r o j b g h1 h2 => exact .aptr r o j b g h1 h2
  | bsl r o n b c g h1 h2 h3 => exact .bsl r o n b c g h1 h2 h3
  | mapr r b g h1 h2 => exact .mapr r b g h1 h2
  | slc r o n z g a c h1 h2 h3 h4 => exact .slc r o n z g a c h1 h2 h3 h4
  | fn f caps vs h1 _ ih => exact .fn f caps vs h1 ih
  | agg l vs h1 h2 _ ih => exact .agg l vs h1 h2 ih
  | tup l vs h1 _ ih => exact .tup l vs h1 ih
theorem CR.ror {G : List Gh} {w : World} {Ro S : BS} {a x F} (h : CR G w (fun _ => False) S a x F) : CR G w Ro S a x F :=
  h.imp (fun ⟨h1, h2, h3⟩ => ⟨h1, h2.ro (fun _ h => h.elim), h3⟩) (fun h => h.ro)
theorem shut2_1 {a : AV} (h : a.shut2 = true) : a.shut1 = true ∧ a ≠ .nils ∧ a ≠ .top ∧ a.isSl = false := by
  cases a with
  | fn f caps => cases caps <;> first | (refine ⟨rfl, ?_, ?_, rfl⟩ <;> (intro h; cases h)) | simp [AV.shut2] at h
  | imm t z s l => cases t <;> first | (refine ⟨rfl, ?_, ?_, rfl⟩ <;> (intro h; cases h)) | simp [AV.shut2] at h
  | iptr t l => cases t <;> first | (refine ⟨rfl, ?_, ?_, rfl⟩ <;> (intro h; cases h)) | simp [AV.shut2] at h
  | v x => refine ⟨rfl, ?_, ?_, rfl⟩ <;> (intro h; cases h)
  | _ => simp [AV.shut2] at h
/-- A function value in memory, closed. -/
theorem VR.shutFn {G : List Gh} {w : World} {Ro Ro2 S : BS} {f caps x} (h : VR G w Ro S (.fn f caps) x) (hs : caps.all AV.shut2 = true) : IR w Ro2 S true (.fn f caps) x := by
  have hs := List.all_eq_true.1 hs
  cases h with
  | fn _ _ vs q1 q2 => exact .fn _ f caps vs q1 (fun y hy => (shut2_1 (hs y hy)).2.2.2) (fun j y hj => by
      have h := shut2_1 (hs y (List.mem_of_getElem? hj))
      exact (q2 j y hj).shut1I h.1 h.2.1 (fun e => absurd e h.2.2.1))
  | ir _ _ h1 h2 =>
    cases h2 with
    | fn _ _ _ vs q1 q2 q3 => exact .fn _ f caps vs q1 q2 (fun j y hj => by
        have h := shut2_1 (hs y (List.mem_of_getElem? hj))
        exact (VR.ir (G := G) _ _ (q2 y (List.mem_of_getElem? hj)) (q3 j y hj)).shut1I h.1 h.2.1 (fun e => absurd e h.2.2.1))
/-- A cell of a slice that stands by itself. -/
theorem shutC_of_shutF {a : AV} (h : a.shutF = true) : a.shutC = true := by
  cases a with
  | fn f caps => exact List.all_eq_true.2 fun x hx => (shut2_1 (List.all_eq_true.1 h x hx)).1
  | imm t z s l => cases t <;> first | rfl | simp [AV.shutF, AV.shut1] at h
  | iptr t l => cases t <;> first | rfl | simp [AV.shutF, AV.shut1] at h
  | _ => first | rfl | simp [AV.shutF, AV.shut1] at h
theorem CR.or {G : List Gh} {w : World} {Ro Ro2 S : BS} {a x F} (h : CR G w Ro S a x F) (hs : a.shutF = true) : OR w Ro2 S a x F := by
  rcases h with ⟨h1, h2, h3, h4⟩ | h
  · have e : F = fun _ => False := by funext k; simpa using h4 k
    rw [e]
    refine .leaf _ _ h1 ?_
    cases a
    case fn => exact h2.shutFn hs
    all_goals
      refine h2.shut1I ?_ (fun h => by cases h <;> simp [AV.shutF] at hs) (fun _ => h3)
      first | simp [AV.isSl] at h1; done | simp [AV.shutF] at hs; done | exact hs
  · exact h.ro

/-- What a cell owns is frozen. -/
theorem OR.frz {w : World} {Ro Ro2 S S' : BS} {a x F} (hs : ∀ k, S k → S' k) (h : OR w Ro S a x F) : (∀ k, F k → S' k) → IR w Ro2 S' true a x := by
  induction h with
  | leaf a x h1 h2 => exact fun _ => (h2.true_ro (Ro2 := fun _ => False) rfl |>.ext hs (fun _ _ => rfl)).true_ro rfl
  | sl0 s a => exact fun _ => .sl0 _ s a 0
  | sl s l b c cs T cv Fc h1 h2 h3 h4 h5 _ h7 h8 ih =>
    intro hF
    exact .sl _ s l b 0 c cs T (0, 0) cv (hF b (.inl rfl)) h1 h2 h3 (fun j hj => by rw [Nat.zero_add]; exact h5 j hj) (fun j x hj => ih j x hj (fun k hk => hF k (.inr ⟨j, (List.getElem?_eq_some_iff.1 hj).1, hk⟩)))

/-! ### Cells with what they own -/

def CsR (G : List Gh) (w : World) (Ro S : BS) (l : List AV) (vs : List Value) (Fy : BS) : Prop :=
  ∃ Fc : Nat → BS, l.length = vs.length ∧ (∀ j x, l[j]? = some x → CR G w Ro S x (vs.getD j undef) (Fc j)) ∧
    (∀ j j' k, j < l.length → j' < l.length → Fc j k → Fc j' k → j = j') ∧ ∀ k, Fy k ↔ ∃ j, j < l.length ∧ Fc j k

section
variable {G : List Gh} {w : World} {Ro S : BS}

theorem CsR.nil : CsR G w Ro S [] [] (fun _ => False) := ⟨fun _ _ => False, rfl, by simp, by simp, by simp⟩
theorem CsR.append {l1 l2 : List AV} {v1 v2 : List Value} {F1 F2 : BS} (h1 : CsR G w Ro S l1 v1 F1) (h2 : CsR G w Ro S l2 v2 F2) (hd : ∀ k, F1 k → ¬ F2 k) : CsR G w Ro S (l1 ++ l2) (v1 ++ v2) (fun k => F1 k ∨ F2 k) := by
  obtain ⟨C1, a1, a2, a3, a4⟩ := h1
  obtain ⟨C2, b1, b2, b3, b4⟩ := h2
  refine ⟨fun j => if j < l1.length then C1 j else C2 (j - l1.length), by simp [a1, b1], fun j x hj => ?_, fun j j' k hj hj' hk hk' => ?_, fun k => ?_⟩
  · rw [List.getElem?_append] at hj
    simp only []
    rw [List.getD_eq_getElem?_getD, List.getElem?_append]
    split at hj
    · rename_i hlt
      rw [if_pos (by omega), if_pos hlt]
      have := a2 j x hj
      rwa [List.getD_eq_getElem?_getD] at this
    · rename_i hlt
      rw [if_neg (by omega), if_neg hlt, ← a1]
      have := b2 _ x hj
      rwa [List.getD_eq_getElem?_getD] at this
  · simp only [List.length_append] at hj hj' hk hk'
    split at hk <;> split at hk'
    · exact a3 j j' k (by assumption) (by assumption) hk hk'
    · exact absurd ((b4 k).2 ⟨_, by omega, hk'⟩) (hd k ((a4 k).2 ⟨_, by assumption, hk⟩))
    · exact absurd ((b4 k).2 ⟨_, by omega, hk⟩) (hd k ((a4 k).2 ⟨_, by assumption, hk'⟩))
    · have := b3 _ _ k (by omega) (by omega) hk hk'
      omega
  · constructor
    · rintro (h | h)
      · obtain ⟨j, hj, hk⟩ := (a4 k).1 h
        exact ⟨j, by simp; omega, by simp only []; rw [if_pos hj]; exact hk⟩
      · obtain ⟨j, hj, hk⟩ := (b4 k).1 h
        exact ⟨l1.length + j, by simp; omega, by simp only []; rw [if_neg (by omega), Nat.add_sub_cancel_left]; exact hk⟩
    · rintro ⟨j, hj, hk⟩
      simp only [List.length_append] at hj hk
      split at hk
      · exact .inl ((a4 k).2 ⟨j, by assumption, hk⟩)
      · exact .inr ((b4 k).2 ⟨_, by omega, hk⟩)
theorem CsR.one {x : AV} {v : Value} {F : BS} (h : CR G w Ro S x v F) : CsR G w Ro S [x] [v] F :=
  ⟨fun _ => F, rfl, fun j y hj => by cases j with | zero => simp at hj; subst hj; exact h | succ j => simp at hj, fun j j' k h1 h2 _ _ => by simp at h1 h2; omega, fun k => ⟨fun h => ⟨0, by simp, h⟩, fun ⟨_, _, h⟩ => h⟩⟩
theorem CsR.cons {x : AV} {l : List AV} {v : Value} {vs : List Value} {F1 F2 : BS} (h1 : CR G w Ro S x v F1) (h2 : CsR G w Ro S l vs F2) (hd : ∀ k, F1 k → ¬ F2 k) : CsR G w Ro S (x :: l) (v :: vs) (fun k => F1 k ∨ F2 k) :=
  CsR.append (CsR.one h1) h2 hd
theorem CsR.of0 {l : List AV} {vs : List Value} (hl : l.length = vs.length) (h : ∀ j x, l[j]? = some x → C0 G w Ro S x (vs.getD j undef)) : CsR G w Ro S l vs (fun _ => False) :=
  ⟨fun _ _ => False, hl, fun j x hj => (h j x hj).cr, fun _ _ _ _ _ h => h.elim, fun k => ⟨fun h => h.elim, fun ⟨_, _, h⟩ => h⟩⟩
theorem CsR.ext {E : Env} {G' w' S' l vs Fy} (e : Ext E G w S G' w' S') (h : CsR G w E.Ro S l vs Fy) (hF : ∀ k, Fy k → w'.heap[k]? = w.heap[k]?) : CsR G' w' E.Ro S' l vs Fy := by
  obtain ⟨Fc, h1, h2, h3, h4⟩ := h
  exact ⟨Fc, h1, fun j x hj => (h2 j x hj).ext e (fun k hk => hF k ((h4 k).2 ⟨j, (List.getElem?_eq_some_iff.1 hj).1, hk⟩)), h3, h4⟩
theorem CsR.ones {l vs Fy} (h : CsR G w Ro S l vs Fy) : ∀ u ∈ vs, u.oneCell' = true := by
  obtain ⟨Fc, h1, h2, _⟩ := h
  intro u hu
  obtain ⟨j, hj, rfl⟩ := List.mem_iff_getElem.1 hu
  have := (h2 j l[j] (List.getElem?_eq_getElem (by omega))).one
  simpa [List.getD_eq_getElem?_getD, hj] using this
theorem CsR.congr {l vs Fy Fy'} (h : CsR G w Ro S l vs Fy) (e : ∀ k, Fy' k ↔ Fy k) : CsR G w Ro S l vs Fy' := by
  obtain ⟨Fc, h1, h2, h3, h4⟩ := h
  exact ⟨Fc, h1, h2, h3, fun k => (e k).trans (h4 k)⟩
/-- A block of such cells. -/
theorem CsR.blk {l vs Fy} (h : CsR G w Ro S l vs Fy) {b : Nat} {cs : Array Value} (hc : ∀ j, j < l.length → cs[j]? = vs[j]?) (hb : ¬ Fy b) : BlkR G w Ro S l b cs (fun k => k = b ∨ Fy k) := by
  obtain ⟨Fc, h1, h2, h3, h4⟩ := h
  refine ⟨fun j => vs.getD j undef, Fc, fun j hj => ?_, h2, h3, fun j k hj hk hkb => hb (hkb ▸ (h4 k).2 ⟨j, hj, hk⟩), fun k => by simp only [h4 k]⟩
  rw [hc j hj]
  simp [List.getD_eq_getElem?_getD, show j < vs.length by omega]
theorem blk_csR {l b cs F} (h : BlkR G w Ro S l b cs F) : ∃ Fy, CsR G w Ro S l (segV cs 0 l.length) Fy ∧ (∀ k, F k ↔ (k = b ∨ Fy k)) ∧ ¬ Fy b := by
  obtain ⟨cv, Fc, h1, h2, h3, h4, h5⟩ := h
  refine ⟨fun k => ∃ j, j < l.length ∧ Fc j k, ⟨Fc, (segV_length _ _ _).symm, fun j x hj => ?_, h3, fun _ => Iff.rfl⟩, h5, fun ⟨j, hj, hk⟩ => h4 j b hj hk rfl⟩
  have hj' := (List.getElem?_eq_some_iff.1 hj).1
  rw [segV_getD _ _ _ _ hj', Nat.zero_add, Array.getD_eq_getD_getElem?, h1 j hj']
  exact h2 j x hj
/-- Some of the cells. -/
theorem CsR.take {l vs Fy} (h : CsR G w Ro S l vs Fy) (n : Nat) : ∃ Fz, CsR G w Ro S (l.take n) (vs.take n) Fz ∧ ∀ k, Fz k → Fy k := by
  obtain ⟨Fc, h1, h2, h3, h4⟩ := h
  refine ⟨fun k => ∃ j, j < (l.take n).length ∧ Fc j k, ⟨Fc, by simp [h1], fun j x hj => ?_, fun j j' k hj hj' => h3 j j' k (by simp at hj; omega) (by simp at hj'; omega), fun _ => Iff.rfl⟩, fun k ⟨j, hj, hk⟩ => (h4 k).2 ⟨j, by simp at hj; omega, hk⟩⟩
  rw [List.getElem?_take] at hj
  split at hj
  · rename_i hlt
    have := h2 j x hj
    rwa [List.getD_eq_getElem?_getD, List.getElem?_take, if_pos hlt, ← List.getD_eq_getElem?_getD]
  · cases hj
end

section
variable {E : Env} {G : List Gh} {w : World}

/-- A block set that a call may own, apart from its roots. -/
def Apart (E : Env) (w : World) (S : BS) (F : Nat → BS) (Fy : BS) : Prop := (∀ k, Fy k → k < w.heap.size ∧ (E.O k ∨ E.w0.heap.size ≤ k) ∧ ¬ S k) ∧ ∀ r k, F r k → ¬ Fy k

/-- A step of what is known alone: roots give up blocks, some for ever. -/
structure Stp (E : Env) (G : List Gh) (w : World) (h : HP) (S : BS) (F : Nat → BS) (h' : HP) (S' : BS) (F' : Nat → BS) : Prop where
  good : Good E G h' w S' F'
  s : ∀ k, S k → S' k
  n : ∀ k, S' k → S k ∨ ∃ r, F r k
  sub : ∀ r k, F' r k → F r k
  len : h'.length = h.length
theorem Stp.refl {h S F} (hg : Good E G h w S F) : Stp E G w h S F h S F := ⟨hg, fun _ h => h, fun _ h => .inl h, fun _ _ h => h, rfl⟩
theorem Stp.trans {h S F h1 S1 F1 h2 S2 F2} (a : Stp E G w h S F h1 S1 F1) (b : Stp E G w h1 S1 F1 h2 S2 F2) : Stp E G w h S F h2 S2 F2 :=
  ⟨b.good, fun k h => b.s k (a.s k h), fun k h => (b.n k h).elim (fun h => a.n k h) (fun ⟨r, h⟩ => .inr ⟨r, a.sub r k h⟩), fun r k h => a.sub r k (b.sub r k h), b.len.trans a.len⟩
theorem Stp.ext {h S F h' S' F'} (a : Stp E G w h S F h' S' F') : Ext E G w S G w S' := ⟨fun _ _ h => h, a.s, fun _ _ => rfl, fun _ _ => rfl⟩
/-- What stood apart from the roots still does. -/
theorem Stp.apart {h S F h' S' F' Fy} (a : Stp E G w h S F h' S' F') (hy : Apart E w S F Fy) : Apart E w S' F' Fy :=
  ⟨fun k hk => ⟨(hy.1 k hk).1, (hy.1 k hk).2.1, fun hs => (a.n k hs).elim (hy.1 k hk).2.2 (fun ⟨r, h⟩ => hy.2 r k h hk)⟩, fun r k h => hy.2 r k (a.sub r k h)⟩

theorem Good.addS {h S F} (hg : Good E G h w S F) (Z : BS) (hz : ∀ k, Z k → k < w.heap.size ∧ (E.O k ∨ E.w0.heap.size ≤ k)) (hd : ∀ r k, F r k → ¬ Z k) : Good E G h w (fun k => S k ∨ Z k) F := by
  have e : Ext E G w S G w (fun k => S k ∨ Z k) := ⟨fun _ _ h => h, fun _ h => .inl h, fun _ _ => rfl, fun _ _ => rfl⟩
  constructor
  · exact hg.len
  · exact fun i rt g h1 h2 => (hg.root i rt g h1 h2).ext e (fun _ _ => rfl)
  · exact hg.dis
  · exact hg.out
  · exact fun r k hk => ⟨(hg.own r k hk).1, (hg.own r k hk).2.1, fun h => h.elim (hg.own r k hk).2.2 (hd r k hk)⟩
  · exact fun k hk => hk.elim (hg.sb k) (fun h => (hz k h).1)
  · exact fun k hk => .inl (hg.s0 k hk)
  · exact fun k hk => hk.elim (hg.sn k) (fun h => .inr (hz k h).2)
  · exact hg.size
  · exact hg.os
  · exact hg.tape
  · exact hg.output
  · exact hg.fr
  · exact hg.rok
  · exact hg.gp
  · exact hg.sf

/-- Root r is given up. -/
theorem Good.kill {h S F} (hg : Good E G h w S F) {r : Nat} {rt : Root} (hr : h[r]? = some rt) : ∃ g, G[r]? = some g ∧ RootR G w E.Ro S rt g (F r) ∧ Stp E G w h S F (h.set r .dead) S (fun i => if i = r then fun _ => False else F i) ∧ Apart E w S (fun i => if i = r then fun _ => False else F i) (F r) := by
  have hrl : r < h.length := (List.getElem?_eq_some_iff.1 hr).1
  have hgl : r < G.length := by rw [hg.len]; exact hrl
  refine ⟨G[r], List.getElem?_eq_getElem hgl, hg.root r rt _ hr (List.getElem?_eq_getElem hgl), ⟨hg.setRoot hrl (List.getElem?_eq_getElem hgl) (Chg.refl w _) (fun _ h => h) (fun _ h => h.elim), fun _ h => h, fun _ h => .inl h, fun i k hk => ?_, by simp⟩, fun k hk => hg.own r k hk, fun i k hi hk => ?_⟩
  · by_cases hi : i = r
    · simp [hi] at hk
    · simpa [hi] using hk
  · by_cases hir : i = r
    · simp [hir] at hi
    · simp only [hir, if_false] at hi
      exact hir (hg.dis i r k hi hk)

/-- A variable is frozen. -/
theorem Good.freeze {h S F} (hg : Good E G h w S F) {r : Nat} {cells : List AV} (hr : h[r]? = some (.box cells)) (hs : cells.all AV.shutF = true) :
    ∃ g b S' F', G[r]? = some g ∧ g.ob = some b ∧ Stp E G w h S F (h.set r .dead) S' F' ∧ IR w E.Ro S' true (.iptr true cells) (.pointer (some ⟨b, 0, none⟩)) := by
  obtain ⟨g, hgr, ⟨b, cs, T, h1, h2, h3, h4⟩, hstp, hap⟩ := hg.kill hr
  obtain ⟨cv, Fc, q1, q2, q3, q4, q5⟩ := h4
  have hg2 := hstp.good.addS (F r) (fun k hk => ⟨(hap.1 k hk).1, (hap.1 k hk).2.1⟩) (fun i k hi => hap.2 i k hi)
  refine ⟨g, b, _, _, hgr, h1, ⟨hg2, fun _ h => .inl h, fun k hk => hk.elim .inl (fun h => .inr ⟨r, h⟩), hstp.sub, hstp.len⟩, .iptr _ _ cells b 0 cs T (0, 0) cv (by simp) (.inr ((q5 b).2 (.inl rfl))) h2 (fun j hj => by rw [Nat.zero_add]; exact q1 j hj) (fun j x hj => ?_)⟩
  have hm := List.mem_of_getElem? hj
  exact ((q2 j x hj).or (Ro2 := fun _ => False) (List.all_eq_true.1 hs x hm)).frz (fun _ h => .inl h) (fun k hk => .inr ((q5 k).2 (.inr ⟨j, (List.getElem?_eq_some_iff.1 hj).1, hk⟩)))
end

section
variable {E : Env} {G : List Gh} {w : World}

theorem frzL_spec : ∀ (l : List AV) (vs : List Value) {h S F} (hg : Good E G h w S F) (hl : l.length = vs.length) (hv : ∀ (j : Nat) x, l[j]? = some x → VR G w E.Ro S x (vs.getD j undef)) {K : List AV → HP → Prop} (hp : frzL l h K),
    ∃ l' h' S' F', K l' h' ∧ Stp E G w h S F h' S' F' ∧ l'.length = vs.length ∧ ∀ (j : Nat) x, l'[j]? = some x → VR G w E.Ro S' x (vs.getD j undef)
  | [], vs, h, S, F, hg, hl, hv, K, hp => ⟨[], h, S, F, hp, .refl hg, hl, by simp⟩
  | x :: l, [], h, S, F, hg, hl, hv, K, hp => by simp at hl
  | x :: l, v :: vs, h, S, F, hg, hl, hv, K, hp => by
    have hx : VR G w E.Ro S x v := by simpa using hv 0 x rfl
    have rest : ∀ {h1 S1 F1} (a : Stp E G w h S F h1 S1 F1) (y : AV), VR G w E.Ro S1 y v → (frzL l h1 fun l h => K (y :: l) h) →
        ∃ l' h' S' F', K l' h' ∧ Stp E G w h S F h' S' F' ∧ l'.length = (v :: vs).length ∧ ∀ (j : Nat) x, l'[j]? = some x → VR G w E.Ro S' x ((v :: vs).getD j undef) := by
      intro h1 S1 F1 a y hy hp
      obtain ⟨l', h', S', F', q1, q2, q3, q4⟩ := frzL_spec l vs a.good (by simpa using hl) (fun j z hz => (by simpa using hv (j + 1) z (by simpa using hz) : VR G w E.Ro S z (vs.getD j undef)).ext a.ext) hp
      refine ⟨_, h', S', F', q1, a.trans q2, by simp [q3], fun j z hz => ?_⟩
      cases j with
      | zero => simp at hz; subst hz; simpa using hy.ext q2.ext
      | succ j => simpa using q4 j z (by simpa using hz)
    have keep : (frzL l h fun l h => K (x :: l) h) → _ := fun hp => rest (.refl hg) x hx hp
    cases x with
    | ptr r i o n =>
      by_cases hio : i = 0 ∧ o = 0
      · obtain ⟨rfl, rfl⟩ := hio
        simp only [frzL] at hp
        obtain ⟨rt, hr, hp⟩ := rootK_spec hp
        cases rt with
        | box cells =>
          simp only at hp
          split at hp
          · rename_i hs
            rw [setK_eq] at hp
            obtain ⟨g, b, S1, F1, q1, q2, q3, q4⟩ := hg.freeze hr hs
            obtain ⟨b', g', r1, r2, r3⟩ := hx.ptr_inv
            rw [q1] at r1; cases r1
            rw [q2] at r2; cases r2
            subst r3
            refine rest q3 _ (.ir _ _ rfl ?_) hp
            simpa using q4.weak
          · exact hp.elim
        | _ => exact hp.elim
      · refine keep ?_
        unfold frzL at hp
        split at hp
        · rename_i heq; cases heq
        · rename_i heq; cases heq; exact absurd ⟨rfl, rfl⟩ hio
        · rename_i heq; cases heq; exact hp
    | _ => exact keep (by simpa only [frzL] using hp)

theorem CR.vr {G Ro S x v F} (h : CR G w Ro S x v F) (hx : x.isSl = false) : VR G w Ro S x v ∧ v.oneCell' = true ∧ ∀ k, ¬ F k := by
  rcases h with ⟨_, h2, h3, h4⟩ | h
  · exact ⟨h2, h3, h4⟩
  · cases h with
    | leaf _ _ h1 h2 => exact ⟨.ir _ _ h1 h2.weak, h2.one, fun _ h => h⟩
    | sl0 => simp [AV.isSl] at hx
    | sl => simp [AV.isSl] at hx
theorem CsR.uncons {Ro S x l v vs Fy} (h : CsR G w Ro S (x :: l) (v :: vs) Fy) : ∃ F0 F1, CR G w Ro S x v F0 ∧ CsR G w Ro S l vs F1 ∧ (∀ k, F0 k → ¬ F1 k) ∧ ∀ k, Fy k ↔ F0 k ∨ F1 k := by
  obtain ⟨Fc, h1, h2, h3, h4⟩ := h
  refine ⟨Fc 0, fun k => ∃ j, j < l.length ∧ Fc (j + 1) k, by simpa using h2 0 x rfl, ⟨fun j => Fc (j + 1), by simpa using h1, fun j y hj => by simpa using h2 (j + 1) y (by simpa using hj), fun j j' k hj hj' hk hk' => ?_, fun _ => Iff.rfl⟩, fun k h0 ⟨j, hj, hk⟩ => ?_, fun k => ?_⟩
  · have := h3 (j + 1) (j' + 1) k (by simp; omega) (by simp; omega) hk hk'; omega
  · have := h3 0 (j + 1) k (by simp) (by simp; omega) h0 hk; omega
  · rw [h4]
    constructor
    · rintro ⟨j, hj, hk⟩
      cases j with
      | zero => exact .inl hk
      | succ j => exact .inr ⟨j, by simp at hj; omega, hk⟩
    · rintro (h | ⟨j, hj, hk⟩)
      · exact ⟨0, by simp, h⟩
      · exact ⟨j + 1, by simp; omega, hk⟩
theorem Apart.sub {S F Fy Fy'} (h : Apart E w S F Fy) (hs : ∀ k, Fy' k → Fy k) : Apart E w S F Fy' := ⟨fun k hk => h.1 k (hs k hk), fun r k hr hk => h.2 r k hr (hs k hk)⟩

theorem foldCs_specG : ∀ (l : List AV) (vs : List Value) {h S F Fi} (hg : Good E G h w S F) (hv : CsR G w E.Ro S l vs Fi) (hi : Apart E w S F Fi) {K : List AV → HP → Prop} (hp : foldCs l h K),
    ∃ l' h' S' F' Fy, K l' h' ∧ Stp E G w h S F h' S' F' ∧ CsR G w E.Ro S' l' vs Fy ∧ Apart E w S' F' Fy ∧ ∀ k, Fy k → Fi k ∨ ∃ r, F r k
  | [], vs, h, S, F, Fi, hg, hv, hi, K, hp => ⟨[], h, S, F, Fi, hp, .refl hg, hv, hi, fun _ h => .inl h⟩
  | x :: l, [], h, S, F, Fi, hg, hv, hi, K, hp => by have := hv.choose_spec.1; simp at this
  | x :: l, v :: vs, h, S, F, Fi, hg, hv, hi, K, hp => by
    obtain ⟨F0, Ft, hx, htl, hdt, hFi⟩ := hv.uncons
    have hit : Apart E w S F Ft := hi.sub fun k hk => (hFi k).2 (.inr hk)
    have rest : ∀ {h1 S1 F1 F2} (a : Stp E G w h S F h1 S1 F1) (y : AV), CR G w E.Ro S1 y v F2 → Apart E w S1 F1 F2 → (∀ k, F2 k → F0 k ∨ ∃ r, F r k) → (foldCs l h1 fun l h => K (y :: l) h) →
        ∃ l' h' S' F' Fy, K l' h' ∧ Stp E G w h S F h' S' F' ∧ CsR G w E.Ro S' l' (v :: vs) Fy ∧ Apart E w S' F' Fy ∧ ∀ k, Fy k → Fi k ∨ ∃ r, F r k := by
      intro h1 S1 F1 F2 a y hy ha hF hp
      obtain ⟨l', h', S', F', Fy, q1, q2, q3, q4, q5⟩ := foldCs_specG l vs a.good (htl.ext a.ext (fun _ _ => rfl)) (a.apart hit) hp
      have ha2 := q2.apart ha
      refine ⟨_, h', S', F', _, q1, a.trans q2, CsR.cons (hy.ext q2.ext (fun _ _ => rfl)) q3 (fun k h1 h2 => ?_), ⟨fun k hk => hk.elim (ha2.1 k) (q4.1 k), fun r k hr hk => hk.elim (ha2.2 r k hr) (q4.2 r k hr)⟩,
        fun k hk => hk.elim (fun h => (hF k h).imp (fun h => (hFi k).2 (.inl h)) id) (fun h => (q5 k h).imp (fun h => (hFi k).2 (.inr h)) (fun ⟨r, h⟩ => ⟨r, a.sub r k h⟩))⟩
      rcases q5 k h2 with h3 | ⟨r, hr⟩
      · rcases hF k h1 with h4 | ⟨r, h4⟩
        · exact hdt k h4 h3
        · exact hit.2 r k h4 h3
      · exact ha.2 r k hr h1
    have keep : (foldCs l h fun l h => K (x :: l) h) → _ := fun hp => rest (.refl hg) x hx (hi.sub fun k hk => (hFi k).2 (.inl hk)) (fun _ h => .inl h) hp
    cases x with
    | fn f caps =>
      simp only [foldCs] at hp
      obtain ⟨h2, h3, _⟩ := hx.vr rfl
      obtain ⟨us, rfl, u1, u2⟩ := h2.fn_inv
      obtain ⟨caps', h', S', F', q1, q2, q3, q4⟩ := frzL_spec caps us hg u1 u2 hp
      exact rest (F2 := fun _ => False) q2 (.fn f caps') (.inl ⟨rfl, .fn f caps' us q3 q4, rfl, fun _ h => h⟩) ⟨fun _ h => h.elim, fun _ _ _ h => h⟩ (fun _ h => h.elim) q1
    | slc r o n z =>
      by_cases ho : o = 0
      · subst ho
        simp only [foldCs] at hp
        obtain ⟨rt, hr, hp⟩ := rootK_spec hp
        cases rt with
        | lst s L =>
          obtain ⟨L', hL, hn, hs, hp2⟩ := hp
          rw [setK_eq] at hp2
          obtain ⟨g, hgr, hroot, hstp, hap⟩ := hg.kill hr
          obtain ⟨h2, h3, _⟩ := hx.vr rfl
          · obtain ⟨g', ad, c, p1, p2, p3, p4, p5⟩ := h2.slc_inv
            rw [hgr] at p1; cases p1
            subst p2
            obtain ⟨q1, q2, q3⟩ := hroot
            rcases p5 with p5 | ⟨b, p5, p6, p7⟩
            · have e1 : n = 0 := by omega
              subst p5; subst e1
              have : L' = [] := by cases L' with | nil => rfl | cons _ _ => simp at hn
              subst this
              exact rest (F2 := fun _ => False) hstp (.sl s []) (.inr (.sl0 s ad)) ⟨fun _ h => h.elim, fun _ _ _ h => h⟩ (fun _ h => h.elim) hp2
            subst p6
            rcases q3 with ⟨q3, _⟩ | ⟨b', cs, T, u1, u2, u3, u4, u5⟩
            · rw [q3] at p5; cases p5
            rw [p5] at u1; cases u1
            have q2' : ∀ e ∈ L', e.length = s := fun e he => q2 e (by rw [← hL] at he; exact List.mem_of_mem_take he)
            obtain ⟨Fy, c1, c2, c3⟩ := blk_csR u5
            have hpre : L'.flatten = L.flatten.take (n * s) := by
              have h1 := congrArg List.flatten (List.take_append_drop n L)
              rw [List.flatten_append, hL] at h1
              rw [← h1, List.take_append_of_le_length (by rw [flat_length _ _ q2', hn]; exact Nat.le_refl _), List.take_of_length_le (by rw [flat_length _ _ q2', hn]; exact Nat.le_refl _)]
            obtain ⟨Fz, d1, d2⟩ := c1.take (n * s)
            rw [← hpre] at d1
            obtain ⟨Fc, e1, e2, e3, e4⟩ := d1
            have hlen := flat_length _ _ q2'
            rw [hn] at hlen
            have hcs : ∀ j, j < L'.flatten.length → cs[j]? = some (cs.getD j undef) := fun j hj => by
              have : j < cs.size := by
                have : L'.flatten.length ≤ L.flatten.length := by rw [hpre]; simp; omega
                omega
              simp [Array.getD_eq_getD_getElem?, this]
            refine rest (F2 := fun k => k = b ∨ ∃ j, j < L'.flatten.length ∧ Fc j k) hstp (.sl s L') (.inr ?_) ⟨fun k hk => hap.1 k ?_, fun i k hi hk => hap.2 i k hi ?_⟩ (fun k hk => .inr ⟨r, ?_⟩) hp2
            · rw [Nat.zero_mul, ← hn]
              refine .sl s L' b c cs T (fun j => cs.getD j undef) Fc u2 q2' (by omega) (by rw [← q1, u3]; simpa using p7) hcs (fun j x hj => ?_) e3 (fun j k hj hk hkb => c3 (d2 b (hkb ▸ (e4 k).2 ⟨j, hj, hk⟩)))
              have hj' := (List.getElem?_eq_some_iff.1 hj).1
              have := e2 j x hj
              have hval : (segV cs 0 L.flatten.length |>.take (n * s)).getD j undef = cs.getD j undef := by
                have hjl : j < L.flatten.length := by
                  have : L'.flatten.length ≤ L.flatten.length := by rw [hpre]; simp; omega
                  omega
                rw [List.getD_eq_getElem?_getD, List.getElem?_take, if_pos (by omega), ← List.getD_eq_getElem?_getD, segV_getD _ _ _ _ hjl, Nat.zero_add]
              rw [hval] at this
              obtain ⟨e, he, hxe⟩ := List.mem_flatten.1 (List.mem_of_getElem? hj)
              exact this.or (hs e he x hxe)
            all_goals
              refine (c2 k).2 ?_
              exact hk.imp id fun ⟨j, hj, hk⟩ => d2 k ((e4 k).2 ⟨j, hj, hk⟩)
        | _ => exact hp.elim
      · refine keep ?_
        unfold foldCs at hp
        split at hp
        · rename_i heq; cases heq
        · rename_i heq; cases heq; exact absurd rfl ho
        · rename_i heq; cases heq
        · rename_i heq; cases heq; exact hp
    | _ => exact keep (by simpa only [foldCs] using hp)

theorem foldCs_spec (l : List AV) (vs : List Value) {h S F} (hg : Good E G h w S F) (hl : l.length = vs.length) (hv : ∀ (j : Nat) x, l[j]? = some x → C0 G w E.Ro S x (vs.getD j undef)) {K : List AV → HP → Prop} (hp : foldCs l h K) :
    ∃ l' h' S' F' Fy, K l' h' ∧ Stp E G w h S F h' S' F' ∧ CsR G w E.Ro S' l' vs Fy ∧ Apart E w S' F' Fy ∧ ∀ k, Fy k → ∃ r, F r k := by
  obtain ⟨l', h', S', F', Fy, h1, h2, h3, h4, h5⟩ := foldCs_specG l vs hg (CsR.of0 hl hv) ⟨fun _ h => h.elim, fun _ _ _ h => h⟩ hp
  exact ⟨l', h', S', F', Fy, h1, h2, h3, h4, fun k hk => (h5 k hk).elim (fun h => h.elim) id⟩
end

end Go.Proofs.YtbfjkjdbdejnmaaGreat.Ab

/- Sums and comparisons, structs, lengths and calls: each is sound; and with them every operation. No condition. -/
namespace Go.Proofs.YtbfjkjdbdejnmaaGreat.Ab
set_option linter.unusedVariables false
set_option linter.unusedSimpArgs false

section
variable {P : Program} {C : Ctx} {E : Env} {D : List Deferred × Nat} {o : Oper} {t : TS} {h : HP} {a : Act} {w : World} {k : TS → HP → Prop} {next : Act → World → Prop} {Q : Exit → Act → World → Prop}

theorem eqGuard_v {op : BinOp} {ty : TypeId} {x y : Operand} {u v : Value} (hu : (∃ k n, u = .int k n) ∨ (∃ b, u = .bool b) ∨ (∃ s, u = .string s)) : eqGuard op ty x y u v = pure () := by
  rcases hu with ⟨k, n, rfl⟩ | ⟨b, rfl⟩ | ⟨s, rfl⟩
  · exact eqGuard_at_int op ty x y v k n
  · exact eqGuard_at_bool op ty x y v b
  · exact eqGuard_at_string op ty x y v s

theorem run_equal_bool {w : World} {ty : TypeId} (h : P.underlying ty = some .bool) (p q : Bool) : (Op.equal ty (.bool p) (.bool q)).run P w = .ok (p == q) w := by
  unfold Op.equal Op.maxDepth
  rw [show (10000 : Nat) = 9999 + 1 from rfl, Op.equalIn]
  simp only [Sem.run_bind, run_underlying h, Result.andThen_ok]
  rfl

theorem run_part_basic {w : World} {t : TypeId} {n : Nat} {xs : Array Value} {o : Nat} {v : Value} (h : basicB P t n = true) (hx : xs[o]? = some v) : (part t xs o).run P w = .ok v w := by
  unfold basicB at h
  split at h
  · rename_i hu; simp [part, isAgg, run_underlying hu, hx]
  · rename_i hu; simp [part, isAgg, run_underlying hu, hx]
  · rename_i hu; simp [part, isAgg, run_underlying hu, hx]
  · cases h

/-- What cells of plain kinds are, compared. -/
def eqV : Nat → Value → Value → Option Bool
  | 0, .int j a, .int j' b => if j = j' then some (a == b) else none
  | 1, .bool a, .bool b => some (a == b)
  | 2, .string a, .string b => some (a == b)
  | _, _, _ => none
theorem run_equalIn_basic {w : World} {t : TypeId} {n : Nat} {x y : Value} {e : Bool} (h : basicB P t n = true) (he : eqV n x y = some e) (d : Nat) : (Op.equalIn (d + 1) t x y).run P w = .ok e w := by
  unfold basicB at h
  unfold eqV at he
  split at he
  · split at he
    · rename_i hjj
      subst hjj
      cases he
      split at h
      · rename_i h0; cases h0
      · rename_i hu _; exact run_equalIn_int w d t _ _ _ _ hu
      · rename_i h0; cases h0
      · cases h
    · cases he
  · cases he
    split at h
    · rename_i hu _; exact run_equalIn_bool' w d t _ _ hu
    · rename_i h0; cases h0
    · rename_i h0; cases h0
    · cases h
  · cases he
    split at h
    · rename_i h0; cases h0
    · rename_i h0; cases h0
    · rename_i hu _; rw [run_equalIn_string w d t _ _ hu, beq_toListBytes]
    · cases h
  · cases he

theorem eqCells_eq : ∀ (ks : List Nat) (l r : List AV) (k : Bool → Prop), eqCells ks l r k → l.length = ks.length ∧ r.length = ks.length ∧ ∃ bs : List Bool, k (bs.all id) ∧ bs.length = ks.length ∧
    ∀ (j : Nat) n, ks[j]? = some n → ∃ u v, l[j]? = some (.v u) ∧ r[j]? = some (.v v) ∧ ∃ e, bs[j]? = some e ∧ eqV n u v = some e
  | ks, l, r, k, h => by
    have step : ∀ (n : Nat) (ks : List Nat) (l r : List AV) (u v : Value) (e : Bool), eqV n u v = some e → ((l.length = ks.length ∧ r.length = ks.length ∧ ∃ bs : List Bool, k (e && bs.all id) ∧ bs.length = ks.length ∧
        ∀ (j : Nat) n, ks[j]? = some n → ∃ u v, l[j]? = some (.v u) ∧ r[j]? = some (.v v) ∧ ∃ e, bs[j]? = some e ∧ eqV n u v = some e)) →
        (AV.v u :: l).length = (n :: ks).length ∧ (AV.v v :: r).length = (n :: ks).length ∧ ∃ bs : List Bool, k (bs.all id) ∧ bs.length = (n :: ks).length ∧
        ∀ (j : Nat) m, (n :: ks)[j]? = some m → ∃ u' v', (AV.v u :: l)[j]? = some (.v u') ∧ (AV.v v :: r)[j]? = some (.v v') ∧ ∃ e, bs[j]? = some e ∧ eqV m u' v' = some e := by
      rintro n ks l r u v e he ⟨h1, h2, bs, h3, h4, h5⟩
      refine ⟨by simp [h1], by simp [h2], e :: bs, by simpa using h3, by simp [h4], fun j m hj => ?_⟩
      cases j with
      | zero => simp at hj; subst hj; exact ⟨u, v, rfl, rfl, e, rfl, he⟩
      | succ j => simpa using h5 j m (by simpa using hj)
    unfold eqCells at h
    split at h
    · exact ⟨rfl, rfl, [], h, rfl, by simp⟩
    · split at h
      · rename_i hjj; subst hjj; exact step _ _ _ _ _ _ _ (by simp [eqV]) (eqCells_eq _ _ _ _ h)
      · exact h.elim
    · exact step _ _ _ _ _ _ _ rfl (eqCells_eq _ _ _ _ h)
    · exact step _ _ _ _ _ _ _ rfl (eqCells_eq _ _ _ _ h)
    · exact h.elim

theorem eqFields_run {w : World} (d : Nat) (xs ys : Array Value) (bs : List Bool) : ∀ (fs : List Field) (ks : List Nat) (o : Nat), fs.length = ks.length → ((fs.zip ks).zipIdx o).all (fun p => p.1.1.name != "_" && p.1.1.offset == p.2 && basicB P p.1.1.type p.1.2) = true → bs.length = fs.length + o →
    (∀ (j : Nat) n, ks[j]? = some n → ∃ u v e, xs[o + j]? = some u ∧ ys[o + j]? = some v ∧ bs[o + j]? = some e ∧ eqV n u v = some e) → (Op.eqFields (d + 1) xs ys fs).run P w = .ok ((bs.drop o).all id) w
  | [], ks, o, _, _, h3, _ => by
    simp only [List.length_nil, Nat.zero_add] at h3
    simp [Op.eqFields, List.drop_eq_nil_of_le (show bs.length ≤ o by omega)]
  | f :: fs, [], o, h, _, _, _ => by simp at h
  | f :: fs, n :: ks, o, h0, h1, h3, h4 => by
    simp only [List.zip_cons_cons, List.zipIdx_cons, List.all_cons, Bool.and_eq_true, bne_iff_ne, ne_eq, beq_iff_eq] at h1
    obtain ⟨⟨⟨n1, n2⟩, n3⟩, n4⟩ := h1
    obtain ⟨u, v, e, q1, q2, q3, q4⟩ := h4 0 n rfl
    simp only [Nat.add_zero] at q1 q2 q3
    have ih := eqFields_run (w := w) d xs ys bs fs ks (o + 1) (by simpa using h0) n4 (by simp at h3; omega) (fun j g hg => by
      have := h4 (j + 1) g (by simpa using hg)
      rwa [show o + (j + 1) = o + 1 + j by omega] at this)
    have hol : o < bs.length := (List.getElem?_eq_some_iff.1 q3).1
    have hdrop : bs.drop o = e :: bs.drop (o + 1) := by
      rw [List.drop_eq_getElem_cons hol]
      rw [List.getElem?_eq_getElem hol] at q3
      cases q3; rfl
    simp only [Op.eqFields, n1, ne_eq, not_false_eq_true, if_true, Sem.run_bind, n2, run_part_basic n3 q1, run_part_basic n3 q2, Result.andThen_ok, run_equalIn_basic n3 q4]
    rw [hdrop]
    cases e
    · simp
    · simpa using ih

theorem eqAgg {G : List Gh} {Ro S : BS} {w0 : World} {ty : TypeId} {ks : List Nat} {l r : List AV} {xs ys : List Value} {K : Bool → Prop} (he : eqB P ty ks = true) (a1 : l.length = xs.length) (b1 : r.length = ys.length)
    (a3 : ∀ j x, l[j]? = some x → VR G w0 Ro S x (xs.getD j undef)) (b3 : ∀ j x, r[j]? = some x → VR G w0 Ro S x (ys.getD j undef)) (hp : eqCells ks l r K) :
    ∃ e, K e ∧ P.eqGuardType P.depth ty = false ∧ ∀ w : World, (Op.equalIn 10000 ty (.agg xs.toArray) (.agg ys.toArray)).run P w = .ok e w := by
  obtain ⟨h1, h2, bs, h3, h4, h5⟩ := eqCells_eq ks l r K hp
  have cell : ∀ (j : Nat) n, ks[j]? = some n → ∃ u v e, xs[j]? = some u ∧ ys[j]? = some v ∧ bs[j]? = some e ∧ eqV n u v = some e := by
    intro j n hj
    obtain ⟨u, v, q1, q2, e, q3, q4⟩ := h5 j n hj
    have r1 := (a3 j _ q1).v_inv.1
    have r2 := (b3 j _ q2).v_inv.1
    have l1 := (List.getElem?_eq_some_iff.1 q1).1
    have l2 := (List.getElem?_eq_some_iff.1 q2).1
    refine ⟨u, v, e, ?_, ?_, q3, q4⟩
    · rw [List.getD_eq_getElem?_getD, List.getElem?_eq_getElem (by omega)] at r1
      rw [List.getElem?_eq_getElem (by omega)]; simpa using r1
    · rw [List.getD_eq_getElem?_getD, List.getElem?_eq_getElem (by omega)] at r2
      rw [List.getElem?_eq_getElem (by omega)]; simpa using r2
  unfold eqB at he
  split at he
  · rename_i fs hu
    simp only [Bool.and_eq_true, Bool.not_eq_true', beq_iff_eq] at he
    obtain ⟨⟨⟨e1, e2⟩, e3⟩, e4⟩ := he
    refine ⟨_, h3, e2, fun w => ?_⟩
    have hfs : P.fieldsOf ty = fs := by simp [Program.fieldsOf, hu]
    rw [show (10000 : Nat) = 9999 + 1 from rfl, run_equalIn_struct w 9999 ty _ _ (by rw [hfs]; exact hu) e1, hfs]
    have := eqFields_run (P := P) (w := w) 9998 xs.toArray ys.toArray bs fs.toList ks 0 (by simpa using e3) e4 (by simp [h4, e3]) (fun j n hj => by simpa using cell j n hj)
    simpa using this
  · rename_i e hu
    split at he
    · rename_i hue hie
      simp only [Bool.and_eq_true, Bool.not_eq_true', beq_iff_eq] at he
      refine ⟨_, h3, he.1, fun w => ?_⟩
      obtain ⟨u0, v0, e0, p1, p2, p3, p4⟩ := cell 0 0 rfl
      obtain ⟨u1, v1, e1, q1, q2, q3, q4⟩ := cell 1 0 rfl
      have hb : bs = [e0, e1] := by
        rcases bs with _ | ⟨x, _ | ⟨y, _ | ⟨z, t⟩⟩⟩ <;> simp at h4 p3 q3
        subst p3; subst q3; rfl
      have hbas : basicB P e 0 = true := by simp [basicB, hue]
      subst hb
      rw [show (10000 : Nat) = 9999 + 1 from rfl]
      unfold Op.equalIn
      simp only [Sem.run_bind, run_underlying hu, Result.andThen_ok, run_sizeOf' hie, he.2]
      simp [Std.Legacy.Range.forIn_eq_forIn_range', Std.Legacy.Range.size, List.range', run_part_basic (w := w) hbas (show xs.toArray[0]? = some u0 by simpa using p1), run_part_basic (w := w) hbas (show ys.toArray[0]? = some v0 by simpa using p2), run_part_basic (w := w) hbas (show xs.toArray[1]? = some u1 by simpa using q1), run_part_basic (w := w) hbas (show ys.toArray[1]? = some v1 by simpa using q2), run_equalIn_basic (w := w) hbas p4 9998, run_equalIn_basic (w := w) hbas q4 9998]
      cases e0 <;> cases e1 <;> simp
    · cases he
  · cases he
theorem nilEq_spec {G : List Gh} {Ro S : BS} {w0 : World} {ty : TypeId} {i : TI} {x : AV} {u v : Value} {K : Bool → Prop} (hi : TIok P ty i) (hu : VR G w0 Ro S x u) (hv : VR G w0 Ro S .nils v) (hp : nilEq i.kind x K) :
    ∃ e, K e ∧ (∀ (op : BinOp) (p q : Operand) (w : World), (eqGuard op ty p q u v).run P w = .ok () w) ∧ (∀ w : World, (binOp .eql ty u v).run P w = .ok (.bool e) w) ∧ ∀ w : World, (binOp .neq ty u v).run P w = .ok (.bool (!e)) w := by
  have hv := hv.nils_inv
  subst hv
  obtain ⟨info, d, z, h1, h2, h3, h4, h5, h6, _⟩ := hi
  have fin : ∀ (a : Option Addr) (n c : Nat) (e : Bool), u = .slice a n c → e = a.isNone → (∃ el es, i.kind = .slice el es) → K e → ∃ e, K e ∧ (∀ (op : BinOp) (p q : Operand) (w : World), (eqGuard op ty p q u (.slice none 0 0)).run P w = .ok () w) ∧
      (∀ w : World, (binOp .eql ty u (.slice none 0 0)).run P w = .ok (.bool e) w) ∧ ∀ w : World, (binOp .neq ty u (.slice none 0 0)).run P w = .ok (.bool (!e)) w := by
    rintro a n c e rfl he ⟨el, es, hk⟩ hK
    rw [hk] at h6
    cases d <;> simp only [KindOk] at h6
    have heq : ∀ w : World, (Op.equal ty (.slice a n c) (.slice none 0 0)).run P w = .ok e w := by
      intro w
      unfold Op.equal Op.maxDepth
      rw [show (10000 : Nat) = 9999 + 1 from rfl, Op.equalIn]
      simp only [Sem.run_bind, run_underlying h4, Result.andThen_ok]
      cases a with
      | none => simp [he]
      | some a => simp [he]
    refine ⟨e, hK, fun op p q w => by cases op <;> simp [eqGuard], fun w => ?_, fun w => ?_⟩
    · simp [binOp, heq]
    · simp [binOp, heq]
  unfold nilEq at hp
  split at hp
  · rename_i hk
    obtain ⟨g, ad, c, p1, p2, p3, p4, p5⟩ := hu.slc_inv
    cases ad with
    | none =>
      refine fin none _ _ true p2 rfl ⟨_, _, hk⟩ (hp.1 ?_)
      rcases p5 with p5 | ⟨b, _, p6, _⟩
      · omega
      · cases p6
    | some ad => exact fin _ _ _ false p2 rfl ⟨_, _, hk⟩ hp.2
  · rename_i hk
    obtain ⟨b, g, c, p1, p2, p3, p4⟩ := hu.bsl_inv
    exact fin _ _ _ false p4 rfl ⟨_, _, hk⟩ hp.2
  · rename_i l hk
    obtain ⟨ad, c, p1, p2, p3⟩ := hu.imm_inv
    cases ad with
    | none =>
      refine fin none _ _ true p1 rfl ⟨_, _, hk⟩ (hp.1 ?_)
      generalize hn : l.length = n at p3
      cases p3 with
      | sl0 => simp
    | some ad => exact fin _ _ _ false p1 rfl ⟨_, _, hk⟩ hp.2
  · rename_i hk
    exact fin none 0 0 true hu.nils_inv rfl ⟨_, _, hk⟩ hp
  · exact hp.elim

theorem binP_spec {G : List Gh} {Ro S : BS} {op : BinOp} {ty : TypeId} {x y : AV} {u v : Value} {K : AV → Prop} (hC : CtxOk P C) (hu : VR G w Ro S x u) (hv : VR G w Ro S y v) (hp : binP op (C.tab ty) x y K) :
    ∃ z r, K z ∧ VR G w Ro S z r ∧ (∀ (p q : Operand) (w : World), (eqGuard op ty p q u v).run P w = .ok () w) ∧ ∀ w : World, (binOp op ty u v).run P w = .ok r w := by
  unfold binP at hp
  split at hp
  · obtain rfl := hu.v_inv.1
    obtain rfl := hv.v_inv.1
    exact ⟨_, _, hp.2, vr_int _ _ _ _ _ _, fun _ _ _ => by rw [eqGuard_v (.inl ⟨_, _, rfl⟩)]; rfl, fun w => by simp [binOp, Op.shift, Int.not_lt.2 hp.1]⟩
  · obtain rfl := hu.v_inv.1
    obtain rfl := hv.v_inv.1
    exact ⟨_, _, hp.2, vr_int _ _ _ _ _ _, fun _ _ _ => by rw [eqGuard_v (.inl ⟨_, _, rfl⟩)]; rfl, fun w => by simp [binOp, Op.shift, Int.not_lt.2 hp.1]⟩
  · obtain rfl := hu.v_inv.1
    obtain rfl := hv.v_inv.1
    exact ⟨_, _, hp, vr_bool _ _ _ _ _, fun _ _ _ => by rw [eqGuard_v (.inr (.inr ⟨_, rfl⟩))]; rfl, fun w => by simp [binOp, Op.stringOp]⟩
  · obtain rfl := hu.v_inv.1
    obtain rfl := hv.v_inv.1
    exact ⟨_, _, hp, vr_bool _ _ _ _ _, fun _ _ _ => by rw [eqGuard_v (.inr (.inr ⟨_, rfl⟩))]; rfl, fun w => by simp [binOp, Op.stringOp]⟩
  · obtain rfl := hu.v_inv.1
    obtain rfl := hv.v_inv.1
    exact ⟨_, _, hp.2, .ir _ _ rfl (.v _ _ rfl), fun _ _ _ => by rw [eqGuard_v (.inr (.inr ⟨_, rfl⟩))]; rfl, fun w => by rw [show binOp .add ty (.string _) (.string _) = Op.stringOp .add _ _ from rfl, run_string_add_sum w _ _ hp.1]⟩
  · obtain rfl := hu.v_inv.1
    obtain rfl := hv.v_inv.1
    obtain ⟨i, hi, hp⟩ := on_spec hp
    obtain ⟨info, d, z, h1, h2, h3, h4, h5, h6, _⟩ := hC.tab _ _ hi
    split at hp
    · rename_i hk
      rw [hk] at h6
      cases d <;> simp only [KindOk] at h6
      exact ⟨_, _, hp, vr_bool _ _ _ _ _, fun _ _ _ => by rw [eqGuard_v (.inr (.inl ⟨_, rfl⟩))]; rfl, fun w => by simp only [binOp, Sem.run_bind, run_equal_bool h4, Result.andThen_ok]; rfl⟩
    · exact hp.elim
  · obtain rfl := hu.v_inv.1
    obtain rfl := hv.v_inv.1
    obtain ⟨i, hi, hp⟩ := on_spec hp
    obtain ⟨info, d, z, h1, h2, h3, h4, h5, h6, _⟩ := hC.tab _ _ hi
    split at hp
    · rename_i hk
      rw [hk] at h6
      cases d <;> simp only [KindOk] at h6
      exact ⟨_, _, hp, vr_bool _ _ _ _ _, fun _ _ _ => by rw [eqGuard_v (.inr (.inl ⟨_, rfl⟩))]; rfl, fun w => by simp only [binOp, Sem.run_bind, run_equal_bool h4, Result.andThen_ok]; rfl⟩
    · exact hp.elim
  · obtain ⟨i, hi, hp⟩ := on_spec hp
    obtain ⟨xs, rfl, a1, a2, a3⟩ := hu.agg_inv
    obtain ⟨ys, rfl, b1, b2, b3⟩ := hv.agg_inv
    split at hp
    · exact hp.elim
    · rename_i he
      obtain ⟨e, h1, h2, h3⟩ := eqAgg (hC.eqs _ _ hi he) a1 b1 a3 b3 hp
      exact ⟨_, _, h1, vr_bool _ _ _ _ _, fun p q w => run_eqGuard_agg w _ _ _ _ _ _ h2, fun w => by rw [run_eql_struct, h3]; rfl⟩
  · obtain ⟨i, hi, hp⟩ := on_spec hp
    obtain ⟨xs, rfl, a1, a2, a3⟩ := hu.agg_inv
    obtain ⟨ys, rfl, b1, b2, b3⟩ := hv.agg_inv
    split at hp
    · exact hp.elim
    · rename_i he
      obtain ⟨e, h1, h2, h3⟩ := eqAgg (hC.eqs _ _ hi he) a1 b1 a3 b3 hp
      exact ⟨_, _, h1, vr_bool _ _ _ _ _, fun p q w => run_eqGuard_agg w _ _ _ _ _ _ h2, fun w => by rw [run_neq_struct, h3]; rfl⟩
  · obtain ⟨i, hi, hp⟩ := on_spec hp
    obtain ⟨e, h1, h2, h3, h3'⟩ := nilEq_spec (hC.tab _ _ hi) hu hv hp
    exact ⟨_, _, h1, vr_bool _ _ _ _ _, fun p q w => h2 _ p q w, h3⟩
  · obtain ⟨i, hi, hp⟩ := on_spec hp
    obtain ⟨e, h1, h2, h3, h3'⟩ := nilEq_spec (hC.tab _ _ hi) hu hv hp
    exact ⟨_, _, h1, vr_bool _ _ _ _ _, fun p q w => h2 _ p q w, h3'⟩
  · obtain rfl := hu.v_inv.1
    obtain rfl := hv.v_inv.1
    split at hp
    · rename_i hkk
      subst hkk
      obtain ⟨r, h1, h2, h3⟩ := intOp_spec (P := P) hp ty
      exact ⟨_, r, h1, .ir _ _ rfl (.v _ _ h2), fun _ _ _ => by rw [eqGuard_v (.inl ⟨_, _, rfl⟩)]; rfl, h3⟩
    · exact hp.elim
  · exact hp.elim

theorem q_binOp {op : BinOp} {ty ty' : TypeId} {x y : Operand} (hC : CtxOk P C) (ho : o.op = .binOp op ty x y ty') : OpQ P C o := by
  intro E D t h a w k hp ⟨G, S, F, hg, ht, hd⟩
  unfold opP at hp
  simp only [ho, evK_eq] at hp
  obtain ⟨z, r, h1, h2, h3, h4⟩ := binP_spec hC (evF_spec ht x) (evF_spec ht y) hp
  exact q_val (v := r) (fun w2 _ => by simp only [execOp, ho, Sem.run_bind, h3, Result.andThen_ok, h4]; rfl) hg ht hd h2 h1
theorem u_binOp {op : BinOp} {ty ty' : TypeId} {x y : Operand} (hC : CtxOk P C) (ho : o.op = .binOp op ty x y ty') : OpU P C o := by
  intro E D t h a w k hp ⟨G, S, F, hg, ht, hd⟩
  unfold opP at hp
  simp only [ho, evK_eq] at hp
  obtain ⟨z, r, h1, h2, h3, h4⟩ := binP_spec hC (evF_spec ht x) (evF_spec ht y) hp
  exact u_val (v := r) (fun w2 => by simp only [execOp, ho, Sem.run_bind, h3, Result.andThen_ok, h4]; rfl) hg ht hd h2 h1

theorem q_unOp {op : UnOp} {ty : TypeId} {x : Operand} (ho : o.op = .unOp op ty x) : OpQ P C o := by
  intro E D t h a w k hp ⟨G, S, F, hg, ht, hd⟩
  unfold opP at hp
  simp only [ho, evK_eq] at hp
  have hv := evF_spec ht x
  split at hp
  · rename_i b hb
    rw [hb] at hv
    have hv := hv.v_inv.1
    exact q_val (v := .bool (!b)) (fun w2 _ => by simp [execOp, ho, hv, Op.unary]) hg ht hd (vr_bool _ _ _ _ _) hp
  · rename_i n z hb
    rw [hb] at hv
    have hv := hv.v_inv.1
    obtain ⟨r, h1, h2, h3⟩ := intOp_spec (P := P) hp ty
    have h4 : ∀ w : World, (Op.intArith .sub n 0 z).run P w = .ok r w := fun w => by simpa [binOp] using h3 w
    exact q_val (v := r) (fun w2 _ => by simp [execOp, ho, hv, Op.unary, h4]) hg ht hd (.ir _ _ rfl (.v _ _ h2)) h1
  · rename_i n z hb
    rw [hb] at hv
    have hv := hv.v_inv.1
    obtain ⟨r, h1, h2, h3⟩ := intOp_spec (P := P) hp ty
    have h4 : ∀ w : World, (Op.intBits .xor n (if n.signed then -1 else n.max) z).run P w = .ok r w := fun w => by simpa [binOp] using h3 w
    exact q_val (v := r) (fun w2 _ => by simp [execOp, ho, hv, Op.unary, h4]) hg ht hd (.ir _ _ rfl (.v _ _ h2)) h1
  · exact hp.elim
theorem u_unOp {op : UnOp} {ty : TypeId} {x : Operand} (ho : o.op = .unOp op ty x) : OpU P C o := by
  intro E D t h a w k hp ⟨G, S, F, hg, ht, hd⟩
  unfold opP at hp
  simp only [ho, evK_eq] at hp
  have hv := evF_spec ht x
  split at hp
  · rename_i b hb
    rw [hb] at hv
    have hv := hv.v_inv.1
    exact u_val (v := .bool (!b)) (fun w2 => by simp [execOp, ho, hv, Op.unary]) hg ht hd (vr_bool _ _ _ _ _) hp
  · rename_i n z hb
    rw [hb] at hv
    have hv := hv.v_inv.1
    obtain ⟨r, h1, h2, h3⟩ := intOp_spec (P := P) hp ty
    have h4 : ∀ w : World, (Op.intArith .sub n 0 z).run P w = .ok r w := fun w => by simpa [binOp] using h3 w
    exact u_val (v := r) (fun w2 => by simp [execOp, ho, hv, Op.unary, h4]) hg ht hd (.ir _ _ rfl (.v _ _ h2)) h1
  · rename_i n z hb
    rw [hb] at hv
    have hv := hv.v_inv.1
    obtain ⟨r, h1, h2, h3⟩ := intOp_spec (P := P) hp ty
    have h4 : ∀ w : World, (Op.intBits .xor n (if n.signed then -1 else n.max) z).run P w = .ok r w := fun w => by simpa [binOp] using h3 w
    exact u_val (v := r) (fun w2 => by simp [execOp, ho, hv, Op.unary, h4]) hg ht hd (.ir _ _ rfl (.v _ _ h2)) h1
  · exact hp.elim

theorem argsRel {G S} (ht : TR G w E.Ro S t a) (l : List Operand) : ∀ (j : Nat) x, (l.map (evF t))[j]? = some x → VR G w E.Ro S x ((l.map a.eval).getD j undef) := by
  intro j x hj
  rw [List.getElem?_map] at hj
  cases hl : l[j]? with
  | none => simp [hl] at hj
  | some y =>
    simp [hl] at hj
    subst hj
    rw [List.getD_eq_getElem?_getD, List.getElem?_map, hl]
    exact evF_spec ht y

theorem q_len {c : Call} (hC : CtxOk P C) (ho : o.op = .call c) (hcal : c.callee = .builtin .len) : OpQ P C o := by
  intro E D t h a w k hp ⟨G, S, F, hg, ht, hd⟩
  unfold opP at hp
  simp only [ho, mapK_ev, hcal] at hp
  obtain ⟨ty, hty, hp⟩ := on_spec hp
  obtain ⟨i, hi, hp⟩ := on_spec hp
  obtain ⟨info, d, z, h1, h2, h3, h4, h5, h6, _⟩ := hC.tab _ _ hi
  have hl : (c.args.toList.map (evF t)).length = c.args.size := by simp
  have h0 : c.args.size = 1 → ∃ p, c.args = #[p] := fun hs => by
    clear hl
    rcases c with ⟨c1, ⟨l⟩, c3⟩
    cases l with
    | nil => simp at hs
    | cons p r => cases r with
      | nil => exact ⟨p, rfl⟩
      | cons _ _ => simp at hs
  have fin : ∀ (p : Operand), c.args = #[p] → ∀ (n : Int), (∀ w : World, (Builtin.len_ c.argTypes o.type #[a.eval p]).run P w = .ok (.int .i64 n) w) → (putK t o.dst (.v (.int .i64 n)) fun t => k t h) → QRes P E D o a w k := by
    intro p hpa n hr hk
    refine q_val (v := .int .i64 n) (fun w2 _ => ?_) hg ht hd (vr_int _ _ _ _ _ _) hk
    simp [execOp, ho, resolve, hcal, invoke, builtin, hpa, hr]
  unfold lenP at hp
  split at hp
  · rename_i e es r b n zz hk hb
    obtain ⟨p, hpa⟩ := h0 (by rw [← hl, hb]; rfl)
    have hv := evF_spec ht p
    rw [hpa] at hb
    simp at hb
    rw [hb] at hv
    obtain ⟨g, ad, cc, p1, p2, _⟩ := hv.slc_inv
    rw [hk] at h6
    cases d <;> simp only [KindOk] at h6
    exact fin p hpa n (fun w => by simp [Builtin.len_, hty, p2, run_underlying h4, goInt]) hp
  · rename_i e es r b n hk hb
    obtain ⟨p, hpa⟩ := h0 (by rw [← hl, hb]; rfl)
    have hv := evF_spec ht p
    rw [hpa] at hb
    simp at hb
    rw [hb] at hv
    obtain ⟨bb, g, cc, p1, p3, p4, p2⟩ := hv.bsl_inv
    rw [hk] at h6
    cases d <;> simp only [KindOk] at h6
    exact fin p hpa n (fun w => by simp [Builtin.len_, hty, p2, run_underlying h4, goInt]) hp
  · rename_i e es t' zz s l hk hb
    obtain ⟨p, hpa⟩ := h0 (by rw [← hl, hb]; rfl)
    have hv := evF_spec ht p
    rw [hpa] at hb
    simp at hb
    rw [hb] at hv
    obtain ⟨ad, cc, p2, _⟩ := hv.imm_inv
    rw [hk] at h6
    cases d <;> simp only [KindOk] at h6
    exact fin p hpa _ (fun w => by simp [Builtin.len_, hty, p2, run_underlying h4, goInt]) hp
  · rename_i e es hk hb
    obtain ⟨p, hpa⟩ := h0 (by rw [← hl, hb]; rfl)
    have hv := evF_spec ht p
    rw [hpa] at hb
    simp at hb
    rw [hb] at hv
    have p2 := hv.nils_inv
    rw [hk] at h6
    cases d <;> simp only [KindOk] at h6
    exact fin p hpa _ (fun w => by simp [Builtin.len_, hty, p2, run_underlying h4, goInt]) hp
  · rename_i s hk hb
    obtain ⟨p, hpa⟩ := h0 (by rw [← hl, hb]; rfl)
    have hv := evF_spec ht p
    rw [hpa] at hb
    simp at hb
    rw [hb] at hv
    have p2 := hv.v_inv.1
    rw [hk] at h6
    cases d <;> simp only [KindOk] at h6
    exact fin p hpa _ (fun w => by simp [Builtin.len_, hty, p2, run_underlying h4, goInt]) hp
  · exact hp.elim

theorem s_callv {c : Call} {f : Operand} (hC : CtxOk P C) (ho : o.op = .call c) (hcal : c.callee = .value f) : OpS P C o := by
  intro E D t h a w k next Q hp ⟨G, S, F, hg, ht, hd⟩ hpan hc
  unfold opP at hp
  simp only [ho, mapK_ev, hcal, evK_eq] at hp
  have hargs := argsRel ht c.args.toList
  have hv := evF_spec ht f
  split at hp
  · rename_i f' caps hb
    rw [hb] at hv
    obtain ⟨vs, q1, q2, q3⟩ := hv.fn_inv
    obtain ⟨H, hH, hp⟩ := on_spec hp
    obtain ⟨hs, fn, g1, g2, g3⟩ := hC.call _ _ hH
    have hcalls := hs E G S F h w (c.args.toList.map (evF t) ++ caps) (c.args.toList.map a.eval ++ vs) _ hg (by simp [q2]) (fun j x hj => by
      rw [List.getElem?_append] at hj
      split at hj
      · rename_i hlt
        have := hargs j x hj
        rw [List.getD_eq_getElem?_getD, List.getElem?_append_left (by simpa using hlt)]
        rwa [List.getD_eq_getElem?_getD] at this
      · rename_i hlt
        have := q3 _ x hj
        rw [List.getD_eq_getElem?_getD, List.getElem?_append_right (by simpa using hlt)]
        rw [List.getD_eq_getElem?_getD] at this
        simpa using this) hp
    have hrun : (execOp a.eval o).run P w = .ok (.enter f' (c.args.toList.map a.eval ++ vs).toArray) w := by
      have hnb : ¬ fn.body = none := by intro hfb; simp [hfb] at g3
      have hnn : ¬ fn.name = "runtime.NumGoroutine" := by simpa using g2
      simp [execOp, ho, resolve, hcal, Deferred.ofValue, q1, invoke, callFunc, program, Sem.run, g1, hnn, hnb]
    unfold Oper.wp
    rw [hrun]
    refine hcalls.mono ?_
    rintro e w' ⟨x, h', G', S', F', hk, hg', he, hx⟩
    rcases hx with ⟨v, rfl, hvx⟩ | ⟨v, rfl, rfl⟩
    · have hk : putK t o.dst x fun t => k t h' := by
        cases x <;> first | exact hk | exact hvx.pan_inv.elim
      exact rel_put hg' (ht.ext he) hd hvx hk hc
    · exact hpan v t h' a w' hk ⟨G', S', F', hg', ht.ext he, hd⟩
  · exact hp.elim

theorem foldl_get (off : Nat) : ∀ (vs : List Value) (q : Nat) (c : Array Value), off + q + vs.length ≤ c.size →
    ((vs.zipIdx q).foldl (fun cs (p : Value × Nat) => cs.setIfInBounds (off + p.2) p.1) c).size = c.size ∧
    ∀ j, ((vs.zipIdx q).foldl (fun cs (p : Value × Nat) => cs.setIfInBounds (off + p.2) p.1) c)[j]? = if off + q ≤ j ∧ j < off + q + vs.length then vs[j - (off + q)]? else c[j]?
  | [], q, c, _ => ⟨rfl, fun j => by rw [if_neg (by simp only [List.length_nil]; omega)]; rfl⟩
  | v :: vs, q, c, h => by
    simp only [List.length_cons] at h
    obtain ⟨h1, h2⟩ := foldl_get off vs (q + 1) (c.setIfInBounds (off + q) v) (by simp; omega)
    simp only [List.zipIdx_cons, List.foldl_cons]
    refine ⟨by rw [h1]; simp, fun j => ?_⟩
    rw [h2 j]
    simp only [List.length_cons]
    by_cases c1 : off + (q + 1) ≤ j ∧ j < off + (q + 1) + vs.length
    · rw [if_pos c1, if_pos (by omega), show j - (off + q) = (j - (off + (q + 1))) + 1 by omega]
      simp
    · rw [if_neg c1]
      by_cases c2 : j = off + q
      · subst c2
        rw [if_pos (by omega)]
        simp [show off + q < c.size by omega]
      · rw [if_neg (by omega), Array.getElem?_setIfInBounds_ne (by omega)]

/-- Struct cells as they are known. -/
def CellsR (G : List Gh) (w : World) (Ro S : BS) (l : List AV) (c : Array Value) : Prop := l.length = c.size ∧ (∀ j x, l[j]? = some x → VR G w Ro S x (c.getD j undef)) ∧ ∀ j, j < c.size → (c.getD j undef).oneCell' = true

theorem fill_spec {G : List Gh} {Ro S : BS} {placeA place : Nat → Option (Nat × Nat)} (hpl : ∀ n p, placeA n = some p → place n = some p) : ∀ (ps : List (Nat × AV)) (pv : List (Nat × Value)) (cells : List AV) (cv : Array Value) (K : List AV → Prop),
    ps.length = pv.length → (∀ (j : Nat) p, ps[j]? = some p → ∃ v, pv[j]? = some (p.1, v) ∧ VR G w Ro S p.2 v) → CellsR G w Ro S cells cv → fillK placeA ps cells K →
    ∃ l c, K l ∧ Instr.fill place cv pv = some c ∧ CellsR G w Ro S l c
  | [], pv, cells, cv, K, hl, _, hc, hp => by
    cases pv with
    | nil => exact ⟨cells, cv, hp, rfl, hc⟩
    | cons _ _ => simp at hl
  | (i, x) :: ps, pv, cells, cv, K, hl, hr, hc, hp => by
    obtain ⟨v, hv0, hv⟩ := hr 0 (i, x) rfl
    cases pv with
    | nil => simp at hl
    | cons q pv =>
      simp at hv0
      subst hv0
      simp only [fillK] at hp
      obtain ⟨p, hpi, hp2⟩ := on_spec hp
      clear hp
      have hp := hp2
      clear hp2
      have fin : ∀ (cs : List AV) (vs : List Value), v.cells = vs.toArray → cs.length = vs.length → vs.length = p.2 → (∀ j y, cs[j]? = some y → VR G w Ro S y (vs.getD j undef)) → (∀ u ∈ vs, u.oneCell' = true) →
          (layK cells p.1 cs fun cells => fillK placeA ps cells K) → ∃ l c, K l ∧ Instr.fill place cv ((i, v) :: pv) = some c ∧ CellsR G w Ro S l c := by
        intro cs vs h1 h2 h3 h4 h5 hp
        obtain ⟨h6, hp⟩ := layK_spec _ _ _ _ hp
        obtain ⟨g1, g2⟩ := foldl_get p.1 vs 0 cv (by rw [← hc.1]; omega)
        obtain ⟨c1, hc1⟩ : ∃ c1, c1 = (vs.zipIdx 0).foldl (fun cs (p_1 : Value × Nat) => cs.setIfInBounds (p.1 + p_1.2) p_1.1) cv := ⟨_, rfl⟩
        rw [← hc1] at g1 g2
        have hcr : CellsR G w Ro S (lay cells p.1 cs) c1 := by
          refine ⟨by rw [lay_length h6, g1]; exact hc.1, fun j y hj => ?_, fun j hj => ?_⟩
          · rw [lay_get h6] at hj
            rw [Array.getD_eq_getD_getElem?, g2 j]
            split at hj
            · rename_i hin
              rw [if_pos (by omega)]
              have := h4 _ y hj
              rwa [List.getD_eq_getElem?_getD] at this
            · rename_i hin
              rw [if_neg (by omega)]
              have := hc.2.1 j y hj
              rwa [Array.getD_eq_getD_getElem?] at this
          · rw [g1] at hj
            rw [Array.getD_eq_getD_getElem?, g2 j]
            split
            · rename_i hin
              have : j - (p.1 + 0) < vs.length := by omega
              rw [List.getElem?_eq_getElem this]
              exact h5 _ (by simp)
            · have := hc.2.2 j hj
              rwa [Array.getD_eq_getD_getElem?] at this
        obtain ⟨l, c, k1, k2, k3⟩ := fill_spec hpl ps pv _ c1 K (by simpa using hl) (fun j q hj => by simpa using hr (j + 1) q (by simpa using hj)) hcr hp
        refine ⟨l, c, k1, ?_, k3⟩
        have hfold : v.cells.zipIdx.foldl (fun cs (x : Value × Nat) => cs.setIfInBounds (p.1 + x.2) x.1) cv = c1 := by
          rw [hc1, h1, ← Array.foldl_toList, Array.toList_zipIdx]
        have hsz : v.cells.size = vs.length := by rw [h1]; simp
        simp only [Instr.fill, hpl _ _ hpi]
        rw [if_neg (by rw [hsz, h3]; have := hc.1; simp; omega)]
        exact (congrArg (fun z => Instr.fill place z pv) hfold).trans k2
      have one : x.isSl = false → x ≠ .top → (∀ l, x ≠ .agg l) → (∀ l, x ≠ .tup l) → (if p.2 == 1 then layK cells p.1 [x] fun cells => fillK placeA ps cells K else False) → ∃ l c, K l ∧ Instr.fill place cv ((i, v) :: pv) = some c ∧ CellsR G w Ro S l c := by
        intro h0 h1 h2 h3 hp
        have hone := hv.one h0 h1 h2 h3
        split at hp
        · rename_i hs
          have hcells : v.cells = #[v] := by cases v <;> simp_all [Value.cells, Value.oneCell']
          have hs : p.2 = 1 := by simpa using hs
          refine fin [x] [v] hcells rfl hs.symm ?_ (by simpa using hone) hp
          intro j y hj
          cases j with
          | zero => simp at hj; subst hj; simpa using hv
          | succ j => simp at hj
        · exact hp.elim
      cases x <;> simp only at hp
      case agg =>
        rename_i l
        obtain ⟨vs, rfl, h2, h3, h4⟩ := hv.agg_inv
        split at hp
        · rename_i hs
          have hs : l.length = p.2 := by simpa using hs
          exact fin l vs rfl h2 (by omega) h4 h3 hp
        · exact hp.elim
      all_goals first
        | exact hp.elim
        | exact one rfl (by simp) (by simp) (by simp) hp

def nilF (c : AV) : AV := match c with | .sl _ _ => .nils | x => x
theorem mapK_nil (l : List AV) (k : List AV → Prop) : mapK nilK l k = k (l.map nilF) := by
  induction l generalizing k with
  | nil => rfl
  | cons a l ih =>
    simp only [mapK, List.map_cons]
    cases a <;> simp only [nilK, nilF, ih]
theorem mapK_ps (t : TS) (l : List (Nat × Operand)) (k : List (Nat × AV) → Prop) : mapK (fun (p : Nat × Operand) k => evK t p.2 fun a => k (p.1, a)) l k = k (l.map fun p => (p.1, evF t p.2)) := by
  induction l generalizing k with
  | nil => rfl
  | cons a l ih =>
    simp only [mapK, List.map_cons]
    rw [evK_eq]
    exact ih _

theorem q_build {ty : TypeId} {ps : Array (Nat × Operand)} (hC : CtxOk P C) (ho : o.op = .build ty ps) : OpQ P C o := by
  intro E D t h a w k hp ⟨G, S, F, hg, ht, hd⟩
  unfold opP at hp
  simp only [ho] at hp
  obtain ⟨i, hi, hp⟩ := on_spec hp
  rw [mapK_ps, mapK_nil] at hp
  obtain ⟨info, d, z, h1, h2, h3, h4, h5, h6, h7, h8, h9, h10, h11⟩ := hC.tab _ _ hi
  have hz : CellsR G w E.Ro S (i.zero.map nilF) z.cells := by
    refine ⟨by simp; omega, fun j x hj => ?_, fun j hj => ?_⟩
    · rw [List.getElem?_map] at hj
      cases hij : i.zero[j]? with
      | none => simp [hij] at hj
      | some y =>
        simp [hij] at hj
        subst hj
        rcases h10 j y hij with ⟨q, rfl, r1, r2⟩ | ⟨s, rfl, r1⟩
        · rw [r1]; exact .ir _ _ rfl (.v _ _ r2)
        · rw [r1]; exact .nils
    · rcases h10 j i.zero[j] (List.getElem?_eq_getElem (by omega)) with ⟨q, _, r1, r2⟩ | ⟨s, _, r1⟩
      · rw [r1]; exact r2
      · rw [r1]; rfl
  have hrel : ∀ (j : Nat) p, (ps.toList.map fun p => (p.1, evF t p.2))[j]? = some p → ∃ v, (ps.map fun (i, x) => (i, a.eval x)).toList[j]? = some (p.1, v) ∧ VR G w E.Ro S p.2 v := by
    intro j p hj
    rw [List.getElem?_map] at hj
    cases hl : ps.toList[j]? with
    | none => simp [hl] at hj
    | some y =>
      simp [hl] at hj
      subst hj
      refine ⟨a.eval y.2, ?_, evF_spec ht y.2⟩
      rw [Array.toList_map, List.getElem?_map, hl]
      rfl
  have hlen : (ps.toList.map fun p => (p.1, evF t p.2)).length = (ps.map fun (i, x) => (i, a.eval x)).toList.length := by simp
  have fin : ∀ (l : List AV) (c : Array Value), (putK t o.dst (.agg l) fun t => k t h) → P.built ty (ps.map fun (i, x) => (i, a.eval x)).toList = some c → CellsR G w E.Ro S l c → QRes P E D o a w k := by
    intro l c hp hb hcr
    refine q_val (v := .agg c) (fun w2 _ => ?_) hg ht hd (x := .agg l) ?_ hp
    · simp [execOp, ho, run_build w2 ty _ c hb]
    · have := VR.agg (G := G) (w := w) (Ro := E.Ro) (S := S) l c.toList (by simpa using hcr.1) (fun v hv => by
        obtain ⟨j, hj, rfl⟩ := List.mem_iff_getElem.1 hv
        have := hcr.2.2 j (by simpa using hj)
        simpa [Array.getD_eq_getD_getElem?, show j < c.size by simpa using hj] using this) (fun j x hj => by
        have := hcr.2.1 j x hj
        simpa [Array.getD_eq_getD_getElem?, List.getD_eq_getElem?_getD] using this)
      simpa using this
  split at hp
  · rename_i fs hk
    rw [hk] at h6
    cases d <;> simp only [KindOk] at h6
    rename_i flds
    obtain ⟨q1, q2⟩ := h6
    have hplaces : flds.toList.mapM (fun f => (P.info? f.type).map fun i => (f.offset, i.size)) = some fs := by
      have : ∀ (fl : List Field) (fs : List (Nat × Nat)), fl.length = fs.length → (∀ (n : Nat) f, fl[n]? = some f → ∃ i, P.info? f.type = some i ∧ fs[n]? = some (f.offset, i.size)) →
          fl.mapM (fun f => (P.info? f.type).map fun i => (f.offset, i.size)) = some fs := by
        intro fl
        induction fl with
        | nil => intro fs h1 _; cases fs with
          | nil => rfl
          | cons _ _ => simp at h1
        | cons f fl ih =>
          intro fs h1 h2
          cases fs with
          | nil => simp at h1
          | cons g fs =>
            obtain ⟨i, r1, r2⟩ := h2 0 f rfl
            simp at r2
            have := ih fs (by simpa using h1) (fun n f hf => by simpa using h2 (n + 1) f (by simpa using hf))
            simp [List.mapM_cons, r1, this, r2]
      exact this _ _ (by simpa using q1) (fun n f hf => q2 n f (by simpa using hf))
    obtain ⟨l, c, k1, k2, k3⟩ := fill_spec (place := fun n => fs.toArray[n]?) (fun n p hnp => by simpa using hnp) _ _ _ _ _ hlen hrel hz hp
    exact fin l c k1 (by rw [Array.toList_map] at k2; simpa [Program.built, h1, h4, h7, hplaces] using k2) k3
  · rename_i n es hk
    rw [hk] at h6
    cases d <;> simp only [KindOk] at h6
    obtain ⟨rfl, ei, q1, q2⟩ := h6
    obtain ⟨l, c, k1, k2, k3⟩ := fill_spec (place := fun n => some (n * ei.size, ei.size)) (fun n p hnp => by rw [q2]; exact hnp) _ _ _ _ _ hlen hrel hz hp
    exact fin l c k1 (by rw [Array.toList_map] at k2; simpa [Program.built, h1, h4, h7, q1] using k2) k3
  · exact hp.elim
end

end Go.Proofs.YtbfjkjdbdejnmaaGreat.Ab
