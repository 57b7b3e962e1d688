/- An abstract machine over trees for Go's loaded code: its values, its states, and what a piece of code must fulfil ('AWP'). Definitions only; they are proved sound in the next text. No condition. -/
import Derived.Calls
import Derived.Orders
import Derived.Deep.Quiet
namespace Go.Proofs.Ytegcfogbdgmajaa.Ab

/-- What a temporary or a cell is known to hold: nothing; a value without an address; nil as a slice; a pointer or a slice into a root (one cell of an array; an array's cells as a slice); a map; a panic's value; a slice or a pointer whose memory stays as it is; a function value; a struct; a tuple; a slice that is owned by the cell that holds it. -/
inductive AV where
  | top
  | v (x : Value)
  | nils
  | ptr (r i o k : Nat)
  | aptr (r o j : Nat)
  | slc (r o n : Nat) (z : Bool)
  | bsl (r o n : Nat)
  | mapr (r : Nat)
  | pan (x : Value)
  | imm (t z : Bool) (s : Nat) (l : List (List AV))
  | iptr (t : Bool) (l : List AV)
  | fn (f : FuncId) (caps : List AV)
  | agg (l : List AV)
  | tup (l : List AV)
  | sl (s : Nat) (l : List (List AV))
  deriving Inhabited

/-- A map's key. -/
inductive MK where
  | s (b : ByteArray)
  | i (n : Int)
  | p (a b : Int)
  deriving DecidableEq
def MK.tag : MK → Nat | .s _ => 0 | .i _ => 1 | .p _ _ => 2
def MK.val : MK → Value | .s b => .string b | .i n => .int .i64 n | .p a b => .agg #[.int .i64 a, .int .i64 b]
def mapFind (k : MK) : List (MK × Value) → Option Value
  | [] => none
  | (a, v) :: l => if a = k then some v else mapFind k l
def mapSet (k : MK) (x : Value) : List (MK × Value) → List (MK × Value)
  | [] => [(k, x)]
  | (a, v) :: l => if a = k then (k, x) :: l else (a, v) :: mapSet k x l

/-- A block of memory that the call owns: a variable; a slice's array; a map; one that is gone. -/
inductive Root where
  | box (cells : List AV)
  | lst (s : Nat) (l : List (List AV))
  | mp (tag : Nat) (l : List (MK × Value))
  | dead
  deriving Inhabited

inductive TK where
  | int (k : IntKind) | bool | str
  | slice (elem : TypeId) (es : Nat)
  | struct (fs : List (Nat × Nat))
  | array (n : Nat) (es : Nat)
  | ptr | func
  | map (key elem : TypeId)
  | other
structure TI where
  size : Nat
  bytes : Nat
  agg : Bool
  kind : TK
  zero : List AV
  eqs : List Nat

abbrev TS := List AV
abbrev HP := List Root

/-! ### Lists, strictly: each is its plain word ('.._eq', next text) -/

def getK : List AV → Nat → (AV → Prop) → Prop
  | [], _, k => k .top
  | a :: _, 0, k => k a
  | _ :: t, n + 1, k => getK t n k
def setK {α : Type} : List α → Nat → α → (List α → Prop) → Prop
  | [], _, _, k => k []
  | _ :: t, 0, x, k => k (x :: t)
  | a :: t, n + 1, x, k => setK t n x fun t' => k (a :: t')
def putK (t : TS) (d : Option Tmp) (x : AV) (k : TS → Prop) : Prop := match d with | some i => setK t i x k | none => k t
def nums : List Nat := [0, 1, 2, 3, 4, 5, 6, 7, 8, 9, 10, 11, 12, 13, 14, 15, 16, 17, 18, 19, 20, 21, 22, 23, 24, 25, 26, 27, 28, 29, 30, 31, 32, 33, 34, 35, 36, 37, 38, 39, 40, 41, 42, 43, 44, 45, 46, 47, 48, 49, 50, 51, 52, 53, 54, 55, 56, 57, 58, 59, 60, 61, 62, 63, 64, 65, 66, 67, 68, 69, 70, 71, 72, 73, 74, 75, 76, 77, 78, 79, 80, 81, 82, 83, 84, 85, 86, 87, 88, 89, 90, 91, 92, 93, 94, 95, 96, 97, 98, 99, 100, 101, 102, 103, 104, 105, 106, 107, 108, 109, 110, 111, 112, 113, 114, 115, 116, 117, 118, 119, 120, 121, 122, 123, 124, 125, 126, 127, 128, 129, 130, 131, 132, 133, 134, 135, 136, 137, 138, 139, 140, 141, 142, 143, 144, 145, 146, 147, 148, 149, 150, 151, 152, 153, 154, 155, 156, 157, 158, 159]
/-- A new root: its number and the roots with it. -/
def newK : HP → List Nat → Root → (Nat → HP → Prop) → Prop
  | [], n :: _, x, k => k n [x]
  | a :: t, _ :: ns, x, k => newK t ns x fun n t' => k n (a :: t')
  | _, [], _, _ => False
def rootK : HP → Nat → (Root → Prop) → Prop
  | [], _, _ => False
  | a :: _, 0, k => k a
  | _ :: t, n + 1, k => rootK t n k
/-- 'l' with 'cs' laid from place 'o' on; they must fit. -/
def layK : List AV → Nat → List AV → (List AV → Prop) → Prop
  | l, 0, [], k => k l
  | _ :: l, 0, c :: cs, k => layK l 0 cs fun l' => k (c :: l')
  | a :: l, n + 1, cs, k => layK l n cs fun l' => k (a :: l')
  | [], _, _, _ => False
/-- 'n' elements from place 'o' on; they must be there. -/
def cutK : List AV → Nat → Nat → (List AV → Prop) → Prop
  | _, 0, 0, k => k []
  | a :: l, 0, n + 1, k => cutK l 0 n fun l' => k (a :: l')
  | _ :: l, o + 1, n, k => cutK l o n k
  | [], _, _, _ => False
/-- Cells as they are read: an owned slice is taken out into a root of its own. Gives the cells read (which are the cells left too) and the roots. -/
def outK : List AV → HP → (List AV → HP → Prop) → Prop
  | [], h, k => k [] h
  | .sl s l :: r, h, k => newK h nums (.lst s l) fun n h' => outK r h' fun x h'' => k (.slc n 0 l.length false :: x) h''
  | c :: r, h, k => outK r h fun x h' => k (c :: x) h'
def mapK {α β : Type} (f : α → (β → Prop) → Prop) : List α → (List β → Prop) → Prop
  | [], k => k []
  | a :: l, k => f a fun b => mapK f l fun l' => k (b :: l')

def constK (x : Value) (k : AV → Prop) : Prop := match x with
  | .slice none 0 0 => k .nils
  | .slice _ _ _ => k .top
  | .agg _ => k .top
  | .tuple _ => k .top
  | x => k (.v x)
def evK (t : TS) (o : Operand) (k : AV → Prop) : Prop := match o with
  | .tmp i => getK t i k
  | .const x => constK x k
  | .global _ => k .top
  | .func f => k (.fn f [])
def on {α : Type} (o : Option α) (k : α → Prop) : Prop := match o with | some a => k a | none => False

def immCellK (t : Bool) (c : AV) (k : AV → Prop) : Prop := match c with
  | .sl s l => k (.imm t false s l)
  | x => k x

def nilK (c : AV) (k : AV → Prop) : Prop := match c with
  | .sl _ _ => k .nils
  | x => k x
/-- Nil as a slice, in a variable, is a slice that the variable owns. -/
def normK : List AV → List AV → (List AV → Prop) → Prop
  | [], _, k => k []
  | _ :: _, [], _ => False
  | x :: l, z :: zs, k => match x, z with
    | .nils, .sl es _ => normK l zs fun l => k (.sl es [] :: l)
    | .sl _ _, _ => False
    | .top, _ => normK l zs fun l => k (.top :: l)
    | x, _ => normK l zs fun l => k (x :: l)

/-- The cells of a value that is laid into a variable of a type. -/
def cellsK (i : TI) (x : AV) (k : List AV → Prop) : Prop := match i.agg, x with
  | true, .agg l => if l.length == i.size then normK l i.zero k else False
  | false, .nils => match i.kind with | .slice _ es => if i.size == 1 then k [.sl es []] else False | _ => False
  | false, .tup _ => False
  | false, .agg _ => False
  | false, .top => False
  | false, .sl _ _ => False
  | false, x => if i.size == 1 then k [x] else False
  | true, _ => False
def valK (i : TI) (cs : List AV) (k : AV → Prop) : Prop := match i.agg, cs with
  | true, l => k (.agg l)
  | false, [x] => k x
  | false, _ => False

def fillK (place : Nat → Option (Nat × Nat)) : List (Nat × AV) → List AV → (List AV → Prop) → Prop
  | [], cells, k => k cells
  | (i, x) :: r, cells, k => on (place i) fun p => match x with
    | .agg l => if l.length == p.2 then layK cells p.1 l fun cells => fillK place r cells k else False
    | .tup _ => False
    | .top => False
    | .sl _ _ => False
    | .pan _ => False
    | x => if p.2 == 1 then layK cells p.1 [x] fun cells => fillK place r cells k else False

def intOp (op : BinOp) (k : IntKind) (a b : Int) (K : AV → Prop) : Prop :=
  match op with
  | .add => K (.v (.int k (k.wrap (a + b))))
  | .sub => K (.v (.int k (k.wrap (a - b))))
  | .mul => K (.v (.int k (k.wrap (a * b))))
  | .quo => b ≠ 0 ∧ K (.v (.int k (k.wrap (a.tdiv b))))
  | .rem => b ≠ 0 ∧ K (.v (.int k (a.tmod b)))
  | .and => K (.v (.int k (k.wrap ((BitVec.ofInt k.bits a &&& BitVec.ofInt k.bits b).toNat : Nat))))
  | .or => K (.v (.int k (k.wrap ((BitVec.ofInt k.bits a ||| BitVec.ofInt k.bits b).toNat : Nat))))
  | .xor => K (.v (.int k (k.wrap ((BitVec.ofInt k.bits a ^^^ BitVec.ofInt k.bits b).toNat : Nat))))
  | .andNot => K (.v (.int k (k.wrap ((BitVec.ofInt k.bits a &&& ~~~ BitVec.ofInt k.bits b).toNat : Nat))))
  | .eql => K (.v (.bool (a == b)))
  | .neq => K (.v (.bool (a != b)))
  | .lss => K (.v (.bool (decide (a < b))))
  | .leq => K (.v (.bool (decide (a ≤ b))))
  | .gtr => K (.v (.bool (decide (a > b))))
  | .geq => K (.v (.bool (decide (a ≥ b))))
  | _ => False

/-- Cells of plain kinds, compared: 0 a whole number, 1 a bool, 2 a string. -/
def eqCells : List Nat → List AV → List AV → (Bool → Prop) → Prop
  | [], [], [], k => k true
  | 0 :: ks, .v (.int j a) :: l, .v (.int j' b) :: r, k => if j = j' then eqCells ks l r fun e => k ((a == b) && e) else False
  | 1 :: ks, .v (.bool a) :: l, .v (.bool b) :: r, k => eqCells ks l r fun e => k ((a == b) && e)
  | 2 :: ks, .v (.string a) :: l, .v (.string b) :: r, k => eqCells ks l r fun e => k ((a == b) && e)
  | _, _, _, _ => False

def nilEq (kd : TK) (x : AV) (K : Bool → Prop) : Prop := match kd, x with
  | .slice _ _, .slc _ _ n _ => (n = 0 → K true) ∧ K false
  | .slice _ _, .bsl _ _ n => 0 < n ∧ K false
  | .slice _ _, .imm _ _ _ l => (l.length = 0 → K true) ∧ K false
  | .slice _ _, .nils => K true
  | _, _ => False

def binP (op : BinOp) (i : Option TI) (x y : AV) (K : AV → Prop) : Prop :=
  match op, x, y with
  | .shl, .v (.int k a), .v (.int _ b) => 0 ≤ b ∧ K (.v (.int k (k.wrap (a * 2 ^ (min b.toNat k.bits)))))
  | .shr, .v (.int k a), .v (.int _ b) => 0 ≤ b ∧ K (.v (.int k (a.fdiv (2 ^ (min b.toNat k.bits)))))
  | .eql, .v (.string a), .v (.string b) => K (.v (.bool (a.toList == b.toList)))
  | .neq, .v (.string a), .v (.string b) => K (.v (.bool (!(a.toList == b.toList))))
  | .add, .v (.string a), .v (.string b) => a.size + b.size ≤ 9223372036854775807 ∧ K (.v (.string (a ++ b)))
  | .eql, .v (.bool a), .v (.bool b) => on i fun i => match i.kind with | .bool => K (.v (.bool (a == b))) | _ => False
  | .neq, .v (.bool a), .v (.bool b) => on i fun i => match i.kind with | .bool => K (.v (.bool (!(a == b)))) | _ => False
  | .eql, .agg a, .agg b => on i fun i => match i.eqs with | [] => False | ks => eqCells ks a b fun e => K (.v (.bool e))
  | .neq, .agg a, .agg b => on i fun i => match i.eqs with | [] => False | ks => eqCells ks a b fun e => K (.v (.bool (!e)))
  | .eql, x, .nils => on i fun i => nilEq i.kind x fun e => K (.v (.bool e))
  | .neq, x, .nils => on i fun i => nilEq i.kind x fun e => K (.v (.bool (!e)))
  | op, .v (.int k a), .v (.int k' b) => if k = k' then intOp op k a b K else False
  | _, _, _ => False

/-- A handler of calls: what the arguments and the roots must be, and what comes behind. -/
abbrev Handler := List AV → HP → (AV → HP → Prop) → Prop

/-- The types' table; the functions that are called; how many roots stay where they are; what follows a panic. -/
structure Ctx where
  tab : TypeId → Option TI
  call : FuncId → Option Handler
  m : Nat
  pan : Value → HP → Prop
  cut : Bool := false

def lenP (i : TI) (l : List AV) (k : AV → Prop) : Prop := match i.kind, l with
  | .slice _ _, [.slc _ _ n _] => k (.v (.int .i64 n))
  | .slice _ _, [.bsl _ _ n] => k (.v (.int .i64 n))
  | .slice _ _, [.imm _ _ _ l] => k (.v (.int .i64 l.length))
  | .slice _ _, [.nils] => k (.v (.int .i64 0))
  | .str, [.v (.string s)] => k (.v (.int .i64 s.size))
  | _, _ => False

def AV.isSl : AV → Bool | .sl _ _ => true | _ => false
/-- A leaf that stands by itself. -/
def AV.shut1 : AV → Bool
  | .top => true | .v _ => true | .nils => true | .imm true _ _ _ => true | .iptr true _ => true | .fn _ [] => true
  | _ => false
/-- A cell that asks no root, nor memory that is not for ever as it is. -/
def AV.shut : AV → Bool
  | .top => true | .v _ => true | .nils => true | .imm true _ _ _ => true | .iptr true _ => true | .sl _ _ => true | .fn _ caps => caps.all AV.shut1
  | _ => false
/-- A cell that stands by itself. -/
def AV.shutC : AV → Bool
  | .nils => false
  | x => x.shut
/-- A cell of a slice that stands by itself. -/
def AV.shutF : AV → Bool
  | .nils => false | .sl _ _ => true
  | x => x.shut1
def ClosedL (l : List (List AV)) : Prop := ∀ e ∈ l, ∀ x ∈ e, x.shutF = true

/-- A variable that a function value holds will not change any more. -/
def frzL : List AV → HP → (List AV → HP → Prop) → Prop
  | [], h, k => k [] h
  | .ptr r 0 0 n :: l, h, k => rootK h r fun rt => match rt with
    | .box cells => match cells.all AV.shutF with
      | true => setK h r .dead fun h => frzL l h fun l h => k (.iptr true cells :: l) h
      | false => False
    | _ => False
  | x :: l, h, k => frzL l h fun l h => k (x :: l) h
/-- Cells of a block: each slice of a root's own is folded into its cell. -/
def foldCs : List AV → HP → (List AV → HP → Prop) → Prop
  | [], h, k => k [] h
  | .slc r 0 n _ :: l, h, k => rootK h r fun rt => match rt with
    | .lst s L => ∃ L', L.take n = L' ∧ L'.length = n ∧ ClosedL L' ∧ setK h r .dead fun h => foldCs l h fun l h => k (.sl s L' :: l) h
    | _ => False
  | .fn f caps :: l, h, k => frzL caps h fun caps h => foldCs l h fun l h => k (.fn f caps :: l) h
  | c :: l, h, k => foldCs l h fun l h => k (c :: l) h

def loadP (C : Ctx) (ty : TypeId) (a : AV) (h : HP) (K : AV → HP → Prop) : Prop := on (C.tab ty) fun i =>
  match a with
  | .ptr r e f _ => rootK h r fun root =>
    match root, e with
    | .box cells, 0 => cutK cells f i.size fun cs => outK cs h fun cs h => layK cells f cs fun cells => setK h r (.box cells) fun h => valK i cs fun x => K x h
    | .lst s l, e => ∃ el, l[e]? = some el ∧ f + i.size ≤ s ∧ cutK el f i.size fun cs => match cs.any AV.isSl with
      | false => valK i cs fun x => K x h
      | true => outK cs h fun cs h => layK el f cs fun el => setK h r (.lst s (l.set e el)) fun h => valK i cs fun x => K x h
    | _, _ => False
  | .aptr r f j => match i.agg with
    | true => False
    | false => rootK h r fun root => match root with
      | .box cells => ∃ x, cells[j + f]? = some x ∧ x.isSl = false ∧ (match Nat.beq i.size 1 with | true => K x h | false => False)
      | _ => False
  | .iptr b l => cutK l 0 i.size fun cs => mapK (immCellK b) cs fun cs => valK i cs fun x => K x h
  | _ => False

def bndK (t : TS) (o : Option Operand) (d : Nat) (k : Nat → Prop) : Prop := match o with
  | none => k d
  | some x => evK t x fun z => match z with
    | .v (.int _ z) => ∃ j : Nat, z = (j : Int) ∧ k j
    | _ => False


def byteC (n : Int) : List AV := [.v (.int .u8 n)]
def strB (s : ByteArray) : List (List AV) := s.data.toList.map fun b => byteC b.toNat
def bytesS (l : List Int) : ByteArray := ⟨(l.map fun n => UInt8.ofNat n.toNat).toArray⟩

def sliceP (i : TI) (t : TS) (x : AV) (lo hi mx : Option Operand) (h : HP) (K : AV → Prop) : Prop :=
  match i.kind, x, mx with
  | .str, .v (.string s), none => bndK t lo 0 fun l => bndK t hi s.size fun u => l ≤ u ∧ u ≤ s.size ∧ K (.v (.string (s.extract l u)))
  | .slice _ es, .slc r o n _, none => rootK h r fun rt => match rt with
    | .lst s _ => if s == es then bndK t lo 0 fun l => bndK t hi n fun u => l ≤ u ∧ u ≤ n ∧ K (.slc r (o + l) (u - l) false) else False
    | _ => False
  | .slice _ es, .imm b _ s L, none => if s == es then bndK t lo 0 fun l => bndK t hi L.length fun u => l ≤ u ∧ u ≤ L.length ∧ K (.imm b false s ((L.drop l).take (u - l))) else False
  | .slice _ es, _, some _ => (match hi with
    | some _ => bndK t lo 0 fun l => bndK t hi 0 fun u => bndK t mx 0 fun m => match l, u, m with
      | 0, 0, 0 => (match x with | .slc _ _ _ _ => K (.imm true true es []) | .bsl _ _ _ => K (.imm true true es []) | .imm _ _ _ _ => K (.imm true true es []) | .nils => K (.imm true true es []) | _ => False)
      | _, _, _ => False
    | none => False)
  | .array n 1, .ptr r 0 o _, none => bndK t lo 0 fun l => bndK t hi n fun u => l ≤ u ∧ u ≤ n ∧ l < n ∧ K (.bsl r (o + l) (u - l))
  | .array n 1, .iptr b cs, none => (match lo, hi with | none, none => cutK cs 0 n fun cs => K (.imm b false 1 (cs.map fun c => [c])) | _, _ => False)
  | _, _, _ => False

/-- The elements that are copied out of a slice or a string. -/
def srcK (es : Nat) (x : AV) (h : HP) (k : List (List AV) → Prop) : Prop := match x with
  | .nils => k []
  | .imm _ _ s L => if s == es then (∀ e ∈ L, ∀ x ∈ e, x.isSl = false) ∧ k L else False
  | .slc r o n _ => rootK h r fun rt => match rt with
    | .lst s l => if s == es then ∃ L, (l.drop o).take n = L ∧ L.length = n ∧ (∀ e ∈ L, ∀ x ∈ e, x.isSl = false) ∧ k L else False
    | _ => False
  | .bsl r o n => rootK h r fun rt => match rt, es with
    | .box cells, 1 => cutK cells o n fun cs => (match cs.any AV.isSl with | true => False | false => k (cs.map fun c => [c]))
    | _, _ => False
  | .v (.string s) => (match es with | 1 => k (strB s) | _ => False)
  | _ => False
/-- The elements that are appended: moved, where they own slices. -/
def movK (ei : TI) (es : Nat) (x : AV) (h : HP) (k : List (List AV) → HP → Prop) : Prop := match ei.zero.any AV.isSl with
  | false => srcK es x h fun L => k L h
  | true => match x with
    | .nils => k [] h
    | .slc r 0 n _ => rootK h r fun rt => match rt with
      | .lst s l => if s == es then l.length = n ∧ setK h r .dead fun h => k l h else False
      | _ => False
    | _ => False
/-- What is appended to: a slice of a root's own, all of it, or nothing. -/
def baseK (es : Nat) (x : AV) (h : HP) (k : List (List AV) → HP → Prop) : Prop := match x with
  | .nils => k [] h
  | .imm _ true _ [] => k [] h
  | .slc r 0 n _ => rootK h r fun rt => match rt with
    | .lst s l => if s == es then l.length = n ∧ setK h r .dead fun h => k l h else False
    | _ => False
  | _ => False
def appendP (ei : TI) (es : Nat) (a x : AV) (h : HP) (K : AV → HP → Prop) : Prop :=
  movK ei es x h fun L h => baseK es a h fun l h => (l.length + L.length) * ei.bytes ≤ 140737488355328 ∧ l.length + L.length ≤ 4611686018427387904 ∧
    newK h nums (.lst es (l ++ L)) fun n h => K (.slc n 0 (l.length + L.length) false) h
def copyP (es : Nat) (a x : AV) (h : HP) (K : AV → HP → Prop) : Prop := match a with
  | .slc r o n _ => rootK h r fun rt => match rt with
    | .lst s l => if s == es then o + n ≤ l.length ∧ srcK es x h fun L => setK h r (.lst s (l.take o ++ L.take n ++ l.drop (o + min L.length n))) fun h => K (.v (.int .i64 (min L.length n : Nat))) h else False
    | _ => False
  | _ => False
def clearP (ei : TI) (es : Nat) (a : AV) (h : HP) (K : HP → Prop) : Prop := match a with
  | .slc r o n _ => rootK h r fun rt => match rt with
    | .lst s l => if s == es then o + n ≤ l.length ∧ setK h r (.lst s (l.take o ++ List.replicate n ei.zero ++ l.drop (o + n))) K else False
    | _ => False
  | _ => False

def keyK (x : AV) (k : MK → Prop) : Prop := match x with
  | .v (.string s) => k (.s s)
  | .v (.int .i64 n) => k (.i n)
  | .agg [.v (.int .i64 a), .v (.int .i64 b)] => k (.p a b)
  | _ => False
def tagK (i : TI) (k : Nat → Prop) : Prop := match i.kind with
  | .str => k 0
  | .int .i64 => k 1
  | .array 2 1 => (match i.eqs with | 0 :: 0 :: [] => k 2 | _ => False)
  | _ => False
def avOf : Value → AV
  | .agg cs => .agg (cs.toList.map .v)
  | x => .v x
def unV : List AV → (List Value → Prop) → Prop
  | [], k => k []
  | .v x :: l, k => unV l fun r => k (x :: r)
  | _, _ => False
def valV (x : AV) (k : Value → Prop) : Prop := match x with
  | .v x => k x
  | .agg l => unV l fun l => k (.agg l.toArray)
  | _ => False
def lookP (C : Ctx) (i : TI) (m key : AV) (ok : Bool) (h : HP) (K : AV → Prop) : Prop := match i.kind, m with
  | .map kt et, .mapr r => on (C.tab kt) fun ki => tagK ki fun tag => on (C.tab et) fun ei => keyK key fun q => rootK h r fun rt => match rt with
    | .mp tag' l => (match Nat.beq tag tag', Nat.beq q.tag tag with
      | true, true => (∀ v, mapFind q l = some v → match ok with | true => K (.tup [avOf v, .v (.bool true)]) | false => K (avOf v)) ∧
          (mapFind q l = none → mapK nilK ei.zero fun z => valK ei z fun z => match ok with | true => K (.tup [z, .v (.bool false)]) | false => K z)
      | _, _ => False)
    | _ => False
  | _, _ => False
def mapUpdP (C : Ctx) (i : TI) (m key x : AV) (h : HP) (K : HP → Prop) : Prop := match i.kind, m with
  | .map kt _, .mapr r => on (C.tab kt) fun ki => tagK ki fun tag => keyK key fun q => valV x fun v => rootK h r fun rt => match rt with
    | .mp tag' l => (match Nat.beq tag tag', Nat.beq q.tag tag with
      | true, true => setK h r (.mp tag (mapSet q v l)) K
      | _, _ => False)
    | _ => False
  | _, _ => False

/-- The elements of a slice's literal, all of them, in their order. -/
def elemsK (t : TS) (ei : TI) : Nat → List (Nat × Operand) → HP → (List (List AV) → HP → Prop) → Prop
  | _, [], h, k => k [] h
  | j, (i, x) :: l, h, k => match Nat.beq i j with
    | true => evK t x fun a => cellsK ei a fun cs => foldCs cs h fun cs h => elemsK t ei (j + 1) l h fun r h => k (cs :: r) h
    | false => False

def opP (C : Ctx) (o : Oper) (t : TS) (h : HP) (k : TS → HP → Prop) : Prop :=
  match o.op with
  | .move x => evK t x fun a => putK t o.dst a fun t => k t h
  | .assign x => evK t x fun a =>
    match a with
    | .nils => (putK t o.dst .nils fun t => k t h) ∨ on (C.tab o.type) fun i => match i.kind with
      | .slice _ es => newK h nums (.lst es []) fun n h => putK t o.dst (.slc n 0 0 true) fun t => k t h
      | _ => False
    | a => putK t o.dst a fun t => k t h
  | .pick c a b => evK t c fun c => evK t a fun a => evK t b fun b =>
    match c with
    | .v (.bool c) => (c = true → putK t o.dst a fun t => k t h) ∧ (c = false → putK t o.dst b fun t => k t h)
    | _ => False
  | .alloc ty => on (C.tab ty) fun i => newK h nums (.box i.zero) fun n h => putK t o.dst (.ptr n 0 0 i.size) fun t => k t h
  | .box ty x => on (C.tab ty) fun i => evK t x fun a => cellsK i a fun cs => newK h nums (.box cs) fun n h => putK t o.dst (.ptr n 0 0 i.size) fun t => k t h
  | .load ty a => evK t a fun a => loadP C ty a h fun x h => putK t o.dst x fun t => k t h
  | .store ty a x => on (C.tab ty) fun i => evK t x fun x => cellsK i x fun cs => evK t a fun a =>
    match a with
    | .ptr r e f _ => rootK h r fun root =>
      match root, e with
      | .box cells, 0 => layK cells f cs fun cells => setK h r (.box cells) fun h => putK t o.dst .top fun t => k t h
      | .lst _ _, e => foldCs cs h fun cs h => rootK h r fun root => (match root with
        | .lst s l => ∃ el, l[e]? = some el ∧ f + i.size ≤ s ∧ layK el f cs fun el => setK h r (.lst s (l.set e el)) fun h => putK t o.dst .top fun t => k t h
        | _ => False)
      | _, _ => False
    | .aptr r f j => rootK h r fun root => match root, cs with
      | .box cells, [x] => j + f < cells.length ∧ ∃ cells', cells.set (j + f) x = cells' ∧ setK h r (.box cells') fun h => putK t o.dst .top fun t => k t h
      | _, _ => False
    | _ => False
  | .nilCheck x => evK t x fun a =>
    match a with
    | .ptr r e f n => putK t o.dst (.ptr r e f n) fun t => k t h
    | .aptr r f j => putK t o.dst (.aptr r f j) fun t => k t h
    | .iptr b l => putK t o.dst (.iptr b l) fun t => k t h
    | .fn f c => putK t o.dst (.fn f c) fun t => k t h
    | _ => False
  | .fieldAddr ty x n => on (C.tab ty) fun i => evK t x fun a =>
    match i.kind with
    | .struct fs => on fs[n]? fun f =>
      match a with
      | .ptr r e b _ => if f.2 == 0 then False else putK t o.dst (.ptr r e (b + f.1) f.2) fun t => k t h
      | .iptr b l => if f.2 == 0 then False else cutK l f.1 f.2 fun l => putK t o.dst (.iptr b l) fun t => k t h
      | _ => False
    | _ => False
  | .indexAddr ty x ix => on (C.tab ty) fun i => evK t x fun a => evK t ix fun z =>
    match i.kind, a, z with
    | .slice _ es, .slc r b n _, .v (.int _ z) => rootK h r fun root => match root with
      | .lst s _ => if s == es then ∃ j : Nat, z = (j : Int) ∧ j < n ∧ putK t o.dst (.ptr r (b + j) 0 es) fun t => k t h else False
      | _ => False
    | .slice _ es, .imm b _ s l, .v (.int _ z) => if s == es then ∃ j : Nat, z = (j : Int) ∧ ∃ el, l[j]? = some el ∧ putK t o.dst (.iptr b el) fun t => k t h else False
    | .array n 1, .ptr r 0 f _, .v (.int _ z) => ∃ j : Nat, z = (j : Int) ∧ j < n ∧ putK t o.dst (.aptr r f j) fun t => k t h
    | .array n 1, .iptr b l, .v (.int _ z) => ∃ j : Nat, z = (j : Int) ∧ j < n ∧ ∃ x, l[j]? = some x ∧ putK t o.dst (.iptr b [x]) fun t => k t h
    | _, _, _ => False
  | .binOp op ty x y _ => evK t x fun a => evK t y fun b => binP op (C.tab ty) a b fun a => putK t o.dst a fun t => k t h
  | .unOp op _ x => evK t x fun a =>
    match op, a with
    | .not, .v (.bool b) => putK t o.dst (.v (.bool (!b))) fun t => k t h
    | .neg, .v (.int n a) => intOp .sub n 0 a fun a => putK t o.dst a fun t => k t h
    | .xor, .v (.int n a) => intOp .xor n (if n.signed then -1 else n.max) a fun a => putK t o.dst a fun t => k t h
    | _, _ => False
  | .convert s d x => on (C.tab s) fun si => on (C.tab d) fun i => evK t x fun a =>
    match i.kind, a with
    | .int n, .v (.int _ a) => putK t o.dst (.v (.int n (n.wrap a))) fun t => k t h
    | .str, .v (.string s) => putK t o.dst (.v (.string s)) fun t => k t h
    | .str, a => (match si.kind with
      | .slice e 1 => on (C.tab e) fun ei => (match ei.kind, a with
        | .int .u8, .v _ => False
        | .int .u8, a => srcK 1 a h fun L => ∃ bs : List Int, L = bs.map byteC ∧ putK t o.dst (.v (.string (bytesS bs))) fun t => k t h
        | _, _ => False)
      | _ => False)
    | .slice e 1, .v (.string s) => on (C.tab e) fun ei => (match ei.kind with
      | .int .u8 => putK t o.dst (.imm true false 1 (strB s)) fun t => k t h
      | _ => False)
    | _, _ => False
  | .extract x n => evK t x fun a =>
    match a with
    | .tup l => on l[n]? fun a => putK t o.dst a fun t => k t h
    | _ => False
  | .build ty ps => on (C.tab ty) fun i => mapK (fun (p : Nat × Operand) k => evK t p.2 fun a => k (p.1, a)) ps.toList fun ps =>
    mapK nilK i.zero fun zero => match i.kind with
    | .struct fs => fillK (fun n => fs[n]?) ps zero fun l => putK t o.dst (.agg l) fun t => k t h
    | .array _ es => fillK (fun n => some (n * es, es)) ps zero fun l => putK t o.dst (.agg l) fun t => k t h
    | _ => False
  | .buildSlice ty n ps => on (C.tab ty) fun i => match i.kind with
    | .slice e es => on (C.tab e) fun ei => (match Nat.beq ps.toList.length n, Nat.ble (n * ei.size) 16777216 with
      | true, true => elemsK t ei 0 ps.toList h fun l h => newK h nums (.lst es l) fun r h => putK t o.dst (.slc r 0 n true) fun t => k t h
      | _, _ => False)
    | _ => False
  | .makeFunc f fs cs => (match f, fs.toList with
    | .func f, [] => mapK (evK t) cs.toList fun caps => putK t o.dst (.fn f caps) fun t => k t h
    | _, _ => False)
  | .makeMap ty r => on (C.tab ty) fun i => (match i.kind, r with
    | .map kt _, none => on (C.tab kt) fun ki => tagK ki fun tag => newK h nums (.mp tag []) fun n h => putK t o.dst (.mapr n) fun t => k t h
    | _, _ => False)
  | .makeSlice ty n c => on (C.tab ty) fun i => evK t n fun n => evK t c fun c =>
    match i.kind, n, c with
    | .slice e es, .v (.int .i64 a), .v (.int .i64 b) => on (C.tab e) fun ei => if ei.bytes == 0 then False else ∃ m : Nat, a = (m : Int) ∧ b = (m : Int) ∧ ei.bytes * m ≤ 281474976710656 ∧
        newK h nums (.lst es (List.replicate m ei.zero)) fun n h => putK t o.dst (.slc n 0 m true) fun t => k t h
    | _, _, _ => False
  | .slice ty x lo hi mx => on (C.tab ty) fun i => evK t x fun a => sliceP i t a lo hi mx h fun a => putK t o.dst a fun t => k t h
  | .sliceToArrayPointer ty x => on (C.tab ty) fun i => evK t x fun a => (match i.kind, a with
    | .array n 1, .imm b _ 1 l => ∃ cs, (l.take n).flatten = cs ∧ cs.length = n ∧ n ≤ l.length ∧ 0 < n ∧ putK t o.dst (.iptr b cs) fun t => k t h
    | _, _ => False)
  | .index ty x ix => on (C.tab ty) fun i => evK t x fun a => evK t ix fun z => (match i.kind, a, z with
    | .str, .v (.string s), .v (.int _ z) => ∃ j : Nat, z = (j : Int) ∧ ∃ b, s.data[j]? = some b ∧ putK t o.dst (.v (.int .u8 b.toNat)) fun t => k t h
    | _, _, _ => False)
  | .lookup ty m x ok => on (C.tab ty) fun i => evK t m fun m => evK t x fun x => lookP C i m x ok h fun a => putK t o.dst a fun t => k t h
  | .mapUpdate ty m x y => on (C.tab ty) fun i => evK t m fun m => evK t x fun x => evK t y fun y => mapUpdP C i m x y h fun h => putK t o.dst .top fun t => k t h
  | .insert ty m x y => on (C.tab ty) fun i => evK t m fun m => evK t x fun x => evK t y fun y => mapUpdP C i m x y h fun h => putK t o.dst .top fun t => k t h
  | .makeInterface ty x => on (C.tab ty) fun i => evK t x fun a => (match i.kind, a with
    | .int _, .v u => putK t o.dst (.v (.iface ty u)) fun t => k t h
    | .str, .v u => putK t o.dst (.v (.iface ty u)) fun t => k t h
    | _, _ => False)
  | .panic x => evK t x fun a => (match a with
    | .v (.iface ty u) => C.pan (.iface ty u) h
    | _ => False)
  | .call c => mapK (evK t) c.args.toList fun args =>
    match c.callee with
    | .value f => evK t f fun f =>
      match f with
      | .fn f caps => on (C.call f) fun H => H (args ++ caps) h fun x h => match x with
        | .pan v => C.pan v h
        | x => putK t o.dst x fun t => k t h
      | _ => False
    | .builtin .len => on (c.argTypes[0]?) fun ty => on (C.tab ty) fun i => lenP i args fun a => putK t o.dst a fun t => k t h
    | .builtin .append => on (c.argTypes[0]?) fun ty => on (C.tab ty) fun i => (match i.kind, args with
      | .slice e es, [a, x] => on (c.argTypes[1]?) fun ty' => on (C.tab ty') fun i' => on (C.tab e) fun ei => (match i'.kind with
        | .slice _ _ => appendP ei es a x h fun a h => putK t o.dst a fun t => k t h
        | .str => appendP ei es a x h fun a h => putK t o.dst a fun t => k t h
        | _ => False)
      | _, _ => False)
    | .builtin .copy => on (c.argTypes[0]?) fun ty => on (C.tab ty) fun i => (match i.kind, args with
      | .slice e es, [a, x] => on (C.tab e) fun _ => copyP es a x h fun a h => putK t o.dst a fun t => k t h
      | _, _ => False)
    | .builtin .clear => on (c.argTypes[0]?) fun ty => on (C.tab ty) fun i => (match i.kind, args with
      | .slice e es, [a] => on (C.tab e) fun ei => clearP ei es a h fun h => putK t o.dst (.tup []) fun t => k t h
      | _, _ => False)
    | .builtin .min => (match args with
      | [.v (.int j a), .v (.int j' b)] => if j = j' then putK t o.dst (.v (.int j (if b < a then b else a))) fun t => k t h else False
      | _ => False)
    | .builtin .max => (match args with
      | [.v (.int j a), .v (.int j' b)] => if j = j' then putK t o.dst (.v (.int j (if a < b then b else a))) fun t => k t h else False
      | _ => False)
    | _ => False
  | _ => False

def isGuard (all : List Oper) (d : Tmp) : Bool := all.any fun o => match o.guard with | some (j, _) => (match all[j]? with | some p => p.dst == some d | none => false) | none => false

/-- Behind an operation whose bool is asked by others of its region: it is split. -/
def splitG (all : List Oper) (d : Option Tmp) (t : TS) (k : TS → Prop) : Prop :=
  match d with
  | some i => if isGuard all i then
      getK t i fun a => match a with
      | .v (.bool b) => (b = true → setK t i (.v (.bool true)) k) ∧ (b = false → setK t i (.v (.bool false)) k)
      | _ => k t
    else k t
  | none => k t

def opG (C : Ctx) (all : List Oper) (o : Oper) (t : TS) (h : HP) (k : TS → HP → Prop) : Prop :=
  match o.guard with
  | none => opP C o t h fun t h => splitG all o.dst t fun t => k t h
  | some (j, want) => on ((all[j]?).bind (·.dst)) fun d => getK t d fun a =>
      match a with
      | .v (.bool b) => if b == want then opP C o t h fun t h => splitG all o.dst t fun t => k t h else putK t o.dst (.tup []) fun t => k t h
      | .tup _ => putK t o.dst (.tup []) fun t => k t h
      | _ => False

def opsP (C : Ctx) (all : List Oper) : List Oper → TS → HP → (TS → HP → Prop) → Prop
  | [], t, h, k => k t h
  | o :: r, t, h, k => opG C all o t h fun t h => opsP C all r t h k

def readyL (ops : List Oper) (listed : List Bool) : List Nat :=
  (List.range ops.length).filter fun i => !listed.getD i true && ((ops[i]?).map (·.after.toList.all fun e => !Region.binds .any e || listed.getD e.on false)).getD false

def allL {α : Type} : List α → (α → Prop) → Prop
  | [], _ => True
  | [a], k => k a
  | a :: b :: l, k => k a ∧ allL (b :: l) k

/-- An operation whose answer asks nothing of the world. -/
def pureO (o : Oper) : Bool := match o.op with
  | .move _ => true | .assign _ => true | .pick _ _ _ => true | .nilCheck _ => true | .extract _ _ => true | .fieldAddr _ _ _ => true | .indexAddr _ _ _ => true | .binOp _ _ _ _ _ => true | .unOp _ _ _ => true
  | _ => false
/-- Every operation that is still to come and does not wait for this one has nothing to do with it. -/
def freeL (ops : Array Oper) (listed : List Bool) (i : Nat) (oi : Oper) : Bool :=
  (List.range ops.size).all fun j => Nat.beq j i || listed.getD j true || match ops[j]? with
    | some oj => oj.after.toList.any (fun e => Region.binds .any e && Nat.beq e.on i) || oi.apart ops oj
    | none => true
/-- An operation that is skipped. -/
def gOff (ops : List Oper) (t : TS) (o : Oper) : Bool := match o.guard with
  | none => false
  | some (j, want) => match (ops[j]?).bind (·.dst) with
    | some d => (match t.getD d .top with | .v (.bool b) => !(b == want) | .tup _ => true | _ => false)
    | none => false
def takeL (ops : Array Oper) (t : TS) (listed : List Bool) : List Nat → Option Nat
  | [] => none
  | i :: r => match ops[i]? with
    | some o => (match (pureO o || gOff ops.toList t o) && freeL ops listed i o with | true => some i | false => takeL ops t listed r)
    | none => takeL ops t listed r
/-- Whatever order is taken; what asks nothing of the world is done first. -/
def allP (C : Ctx) (ops : Array Oper) (sel : Bool) : Nat → List Bool → TS → HP → (TS → HP → Prop) → Prop
  | 0, listed, t, h, k => readyL ops.toList listed = [] ∧ k t h
  | f + 1, listed, t, h, k =>
    match readyL ops.toList listed with
    | [] => k t h
    | rs => match sel, takeL ops t listed rs with
      | true, some i => on ops[i]? fun o => opG C ops.toList o t h fun t h => allP C ops sel f (listed.set i true) t h k
      | _, _ => allL rs fun i => on ops[i]? fun o => opG C ops.toList o t h fun t h => allP C ops sel f (listed.set i true) t h k
def noSel : List Oper → Bool
  | [] => true
  | o :: l => match o.op with | .select _ _ => false | _ => noSel l

/-- An operation that leaves the world alone. -/
def quietO (C : Ctx) (o : Oper) : Bool := match o.op with
  | .move _ => true | .assign _ => true | .pick _ _ _ => true | .nilCheck _ => true | .extract _ _ => true | .fieldAddr _ _ _ => true | .indexAddr _ _ _ => true
  | .convert _ d _ => (match C.tab d with | some i => (match i.kind with | .slice _ _ => false | _ => true) | none => false)
  | .load _ _ => true | .binOp _ _ _ _ _ => true | .unOp _ _ _ => true | .build _ _ => true | .index _ _ _ => true | .slice _ _ _ _ _ => true | .lookup _ _ _ _ => true | .makeFunc _ _ _ => true | .sliceToArrayPointer _ _ => true
  | .call c => (match c.callee with | .builtin .len => true | .builtin .min => true | .builtin .max => true | _ => false)
  | _ => false
def allQ (C : Ctx) : List Oper → Bool
  | [] => true
  | o :: l => match quietO C o with | true => allQ C l | false => false
/-! ### One order for all: what may come up at any time is done as soon as it may, and is looked at again behind what changes memory -/

def putF (t : TS) (d : Option Tmp) (x : AV) : TS := match d with | some i => t.set i x | none => t
def gOn (ops : List Oper) (t : TS) (o : Oper) : Bool := match o.guard with
  | none => true
  | some (j, want) => match (ops[j]?).bind (·.dst) with
    | some d => (match t.getD d .top with | .v (.bool b) => b == want | _ => false)
    | none => false
def avO (t : TS) (o : Operand) : AV := match o with | .tmp i => t.getD i .top | _ => .top
/-- 0: no operation of these kinds; 1: its answer asks nothing of memory; 2: memory is asked and left as it is; 3: the same, the answer is to be named. -/
def flK (C : Ctx) (ops : List Oper) (t : TS) (h : HP) (o : Oper) : Nat := match gOff ops t o with
  | true => 1
  | false => match o.op with
    | .move _ => 1
    | .pick _ _ _ => 1
    | .nilCheck _ => 1
    | .extract _ _ => 1
    | .fieldAddr _ _ _ => 1
    | .binOp _ _ _ y _ => (match y with | .tmp i => (match t.getD i .top with | .nils => 0 | _ => 1) | .const (.slice _ _ _) => 0 | _ => 1)
    | .unOp _ _ _ => 1
    | .index _ _ _ => 1
    | .build _ _ => 1
    | .assign x => (match x with | .tmp i => (match t.getD i .top with | .nils => 0 | _ => 1) | .const (.slice _ _ _) => 0 | _ => 1)
    | .convert _ d _ => (match C.tab d with | some i => (match i.kind with | .int _ => 1 | _ => 0) | none => 0)
    | .load ty a => (match C.tab ty with
      | some i => (match avO t a with
        | .iptr _ _ => 1
        | .ptr r e f _ => (match h[r]? with
          | some (.lst _ _) => 3
          | some (.box cells) => (match e with
            | 0 => (match ((cells.drop f).take i.size).any AV.isSl with | true => 0 | false => 2)
            | _ => 0)
          | _ => 0)
        | .aptr _ _ _ => 2
        | _ => 0)
      | none => 0)
    | .indexAddr _ _ _ => 2
    | .slice _ _ _ _ _ => 3
    | .call c => (match c.callee with | .builtin .len => 1 | _ => 0)
    | _ => 0
def pickFl (C : Ctx) (ops : Array Oper) (t : TS) (h : HP) : List Nat → Option (Nat × Nat)
  | [] => none
  | i :: r => match ops[i]? with
    | some o => (match flK C ops.toList t h o with | 0 => pickFl C ops t h r | n + 1 => some (i, n))
    | none => pickFl C ops t h r
/-- A change of memory: what it leaves is to be named. -/
inductive HeldC (C : Ctx) (o : Oper) (t : TS) (h : HP) (K : AV → HP → Prop) : Prop
  | one (x : AV) (h2 : HP) (a : opP C o t h (fun t' h' => t' = putF t o.dst x ∧ h' = h2)) (b : K x h2)
  | any (Res : AV → HP → Prop) (a : opP C o t h (fun t' h' => ∃ x h2, Res x h2 ∧ t' = putF t o.dst x ∧ h' = h2)) (b : ∀ x h2, Res x h2 → K x h2)
inductive HeldF (C : Ctx) (o : Oper) (t : TS) (h : HP) (K : AV → Prop) : Prop
  | one (x : AV) (a : opP C o t h (fun t' h' => t' = putF t o.dst x ∧ h' = h)) (b : K x)
theorem HeldC.intro {C : Ctx} {o : Oper} {t : TS} {h : HP} {K : AV → HP → Prop} {x : AV} {h2 : HP} (a : opP C o t h (fun t' h' => t' = putF t o.dst x ∧ h' = h2)) (b : K x h2) : HeldC C o t h K := .one x h2 a b
theorem HeldC.all {C : Ctx} {o : Oper} {t : TS} {h : HP} {K : AV → HP → Prop} (Res : AV → HP → Prop) (a : opP C o t h (fun t' h' => ∃ x h2, Res x h2 ∧ t' = putF t o.dst x ∧ h' = h2)) (b : ∀ x h2, Res x h2 → K x h2) : HeldC C o t h K := .any Res a b
theorem HeldF.intro {C : Ctx} {o : Oper} {t : TS} {h : HP} {K : AV → Prop} {x : AV} (a : opP C o t h (fun t' h' => t' = putF t o.dst x ∧ h' = h)) (b : K x) : HeldF C o t h K := .one x a b
def reevL (C : Ctx) (ops : Array Oper) : List Nat → TS → HP → Prop → Prop
  | [], _, _, p => p
  | i :: R, t, h, p => (on ops[i]? fun o => opP C o t h fun t' h' => t' = t ∧ h' = h) ∧ reevL C ops R t h p
/-- Those that come up ahead of an operation in whatever order are not looked at again behind it. -/
def markA (o : Oper) (M : List Bool) : List Bool := o.after.toList.foldl (fun M e => match Region.binds .any e with | true => M.set e.on true | false => M) M
def ancs (ops : Array Oper) : Nat → List Bool → List Bool
  | 0, M => M
  | j + 1, M => ancs ops j (match M.getD j false, ops[j]? with | true, some o => markA o M | _, _ => M)
def nonAnc (ops : Array Oper) (i : Nat) (o : Oper) (R : List Nat) : List Nat := R.filter fun r => !((ancs ops i (markA o (List.replicate i false))).getD r false)
def heldW (C : Ctx) (ops : Array Oper) : Nat → List Bool → List Nat → TS → HP → (TS → HP → Prop) → Prop
  | 0, listed, _, t, h, k => readyL ops.toList listed = [] ∧ k t h
  | f + 1, listed, R, t, h, k =>
    match readyL ops.toList listed with
    | [] => k t h
    | rs => match pickFl C ops t h rs with
      | some (i, 0) => on ops[i]? fun o => opG C ops.toList o t h fun t h => heldW C ops f (listed.set i true) R t h k
      | some (i, 1) => on ops[i]? fun o => opG C ops.toList o t h fun t h => heldW C ops f (listed.set i true) (i :: R) t h k
      | some (i, _) => on ops[i]? fun o => (match gOn ops.toList t o with
        | true => HeldF C o t h fun x => putK t o.dst x fun t => splitG ops.toList o.dst t fun t => heldW C ops f (listed.set i true) (i :: R) t h k
        | false => False)
      | none => allL rs fun i => on ops[i]? fun o => (match gOn ops.toList t o with
          | true => HeldC C o t h fun x h2 => putK t o.dst x fun t => splitG ops.toList o.dst t fun t => reevL C ops (nonAnc ops i o R) t h2 (heldW C ops f (listed.set i true) (nonAnc ops i o R) t h2 k)
          | false => False)
def looksL (ops : List Oper) (o : Oper) : List Nat :=
  (o.op.operands.toList.filterMap fun | .tmp t => some t | _ => none) ++
  (match o.guard with
   | some (g, _) => ((ops[g]?).bind (·.dst)).toList
   | none => [])
/-- What an operation looks at is there before it, and each has a temporary of its own. -/
def wfO (ops : List Oper) (i : Nat) (o : Oper) : Bool :=
  (o.after.toList.all fun e => !Region.binds .any e || Nat.blt e.on i) &&
  (List.range ops.length).all fun j => match (ops[j]?).bind (·.dst) with
    | some d => (match (looksL ops o).contains d with
      | true => o.after.toList.any fun e => Region.binds .any e && Nat.beq e.on j
      | false => true) && (Nat.beq i j || match o.dst with | some d' => !(Nat.beq d d') | none => true)
    | none => true
def wfB (ops : List Oper) : Bool := (List.range ops.length).all fun i => match ops[i]? with | some o => wfO ops i o | none => true
/-- Slices that variables own are taken out. -/
def openH : List Nat → HP → (HP → Prop) → Prop
  | [], h, k => k h
  | r :: rs, h, k => match h[r]? with
    | some (.box cells) => (match cells.any AV.isSl with
      | true => outK cells h fun cs h => setK h r (.box cs) fun h => openH rs h k
      | false => openH rs h k)
    | _ => openH rs h k
def heldP (C : Ctx) (ops : Array Oper) (t : TS) (h : HP) (k : TS → HP → Prop) : Prop :=
  (wfB ops.toList = true) ∧ openH (List.range h.length) h fun h => heldW C ops (ops.toList.length + 1) (List.replicate ops.toList.length false) [] t h k

/-- A region that draws its order: where its operations leave the world alone the text's order serves. -/
def drawnP (C : Ctx) (ops : Array Oper) (t : TS) (h : HP) (k : TS → HP → Prop) : Prop := match allQ C ops.toList with
  | true => Region.lexB .any ops = true ∧ opsP C ops.toList ops.toList t h k
  | false => heldP C ops t h k ∨ allP C ops (noSel ops.toList) ops.toList.length (List.replicate ops.toList.length false) t h k

def topsK : Nat → (TS → Prop) → Prop
  | 0, k => k []
  | n + 1, k => topsK n fun t => k (.top :: t)
def laysK : List Nat → List AV → TS → (TS → Prop) → Prop
  | i :: is, x :: xs, t, k => setK t i x fun t => laysK is xs t k
  | _, _, t, k => k t

/-! ### What is known, put into order: the roots that are reached, their cells folded -/

/-- An argument's leaf that asks no root. -/
def AV.pure1 : AV → Bool
  | .top => true | .v _ => true | .nils => true | .imm _ _ _ _ => true | .iptr _ _ => true | .fn _ [] => true
  | _ => false
def AV.pureA : AV → Bool
  | .agg l => l.all AV.pure1
  | x => x.pure1
/-- A cell that asks no root. -/
def AV.wkC : AV → Bool
  | .top => true | .v _ => true | .imm _ _ _ _ => true | .iptr _ _ => true | .sl _ _ => true | .fn _ caps => caps.all AV.pure1
  | _ => false
def rootOk (st : Bool) (rt : Root) (k : Prop) : Prop := match rt with
  | .box cells => (match st with
    | true => (match cells.all AV.shutC with | true => k | false => False)
    | false => (match cells.all AV.wkC with | true => k | false => False))
  | .lst _ l => ClosedL l ∧ k
  | .mp _ _ => k
  | .dead => k
def idxK (r : Nat) : List Nat → List Nat → (Nat → Prop) → Prop → Prop
  | [], _, _, no => no
  | a :: l, n :: ns, k, no => match Nat.beq a r with | true => k n | false => idxK r l ns k no
  | _ :: _, [], _, _ => False
def snocK : List Nat → Nat → (List Nat → Prop) → Prop
  | [], r, k => k [r]
  | a :: l, r, k => snocK l r fun l => k (a :: l)
def foldRt (rt : Root) (h : HP) (k : Root → HP → Prop) : Prop := match rt with
  | .box cells => foldCs cells h fun cells h => k (.box cells) h
  | rt => k rt h
/-- Root r is taken out. -/
def grabK (st : Bool) (r : Nat) (rt : Root) (ρ : List Nat) (hs h : HP) (k : Nat → List Nat → HP → HP → Prop) : Prop :=
  setK h r .dead fun h => foldRt rt h fun rt h => rootOk st rt (newK hs nums rt fun j hs => snocK ρ r fun ρ => k j ρ hs h)
def refK (st : Bool) (r : Nat) (ρ : List Nat) (hs h : HP) (k : Nat → List Nat → HP → HP → Prop) (no : Prop) : Prop :=
  idxK r ρ nums (fun j => k j ρ hs h) (rootK h r fun rt => match rt with
    | .dead => no
    | rt => grabK st r rt ρ hs h k)
def takeN (st : Bool) : Nat → List Nat → List Nat → HP → HP → (List Nat → HP → HP → Prop) → Prop
  | 0, _, ρ, hs, h, k => k ρ hs h
  | n + 1, i :: is, ρ, hs, h, k => rootK h i fun rt => grabK st i rt ρ hs h fun _ ρ hs h => takeN st n is ρ hs h k
  | _ + 1, [], _, _, _, _ => False
abbrev CK := AV → List Nat → HP → HP → Prop
def canV0 (st : Bool) (x : AV) (ρ : List Nat) (hs h : HP) (k : CK) : Prop := match x with
  | .ptr r i o n => refK st r ρ hs h (fun j ρ hs h => k (.ptr j i o n) ρ hs h) (k .top ρ hs h)
  | .aptr r o q => refK st r ρ hs h (fun j ρ hs h => k (.aptr j o q) ρ hs h) (k .top ρ hs h)
  | .slc r o n _ => refK st r ρ hs h (fun j ρ hs h => k (.slc j o n false) ρ hs h) (k .top ρ hs h)
  | .bsl r o n => refK st r ρ hs h (fun j ρ hs h => k (.bsl j o n) ρ hs h) (k .top ρ hs h)
  | .mapr r => refK st r ρ hs h (fun j ρ hs h => k (.mapr j) ρ hs h) (k .top ρ hs h)
  | .imm b z s l => (match st && !b with | true => False | false => k (.imm b z s l) ρ hs h)
  | .iptr b l => (match st && !b with | true => False | false => k (.iptr b l) ρ hs h)
  | .v x => k (.v x) ρ hs h
  | .top => k .top ρ hs h
  | .nils => k .nils ρ hs h
  | .pan x => k (.pan x) ρ hs h
  | .fn f [] => k (.fn f []) ρ hs h
  | _ => False
def canL (f : AV → List Nat → HP → HP → CK → Prop) : List AV → List Nat → HP → HP → (List AV → List Nat → HP → HP → Prop) → Prop
  | [], ρ, hs, h, k => k [] ρ hs h
  | x :: l, ρ, hs, h, k => f x ρ hs h fun y ρ hs h => canL f l ρ hs h fun l ρ hs h => k (y :: l) ρ hs h
def canV1 (st : Bool) (x : AV) (ρ : List Nat) (hs h : HP) (k : CK) : Prop := match x with
  | .fn f caps => canL (canV0 st) caps ρ hs h fun caps ρ hs h => k (.fn f caps) ρ hs h
  | x => canV0 st x ρ hs h k
def canV2 (st : Bool) (x : AV) (ρ : List Nat) (hs h : HP) (k : CK) : Prop := match x with
  | .agg l => canL (canV1 st) l ρ hs h fun l ρ hs h => k (.agg l) ρ hs h
  | x => canV1 st x ρ hs h k
def canV3 (st : Bool) (x : AV) (ρ : List Nat) (hs h : HP) (k : CK) : Prop := match x with
  | .tup l => canL (canV2 st) l ρ hs h fun l ρ hs h => k (.tup l) ρ hs h
  | x => canV2 st x ρ hs h k

/-- A slice in an element of a slice is folded back. -/
def foldE : List (Nat × Nat × Nat) → HP → (HP → Prop) → Prop
  | [], h, k => k h
  | (r, e, f) :: l, h, k => rootK h r fun rt => match rt with
    | .lst s l0 => ∃ el, l0[e]? = some el ∧ cutK el f 1 fun cs => (match cs with
      | [.slc r' o n z] => setK h r .dead fun h => foldCs [.slc r' o n z] h fun cs h => layK el f cs fun el => setK h r (.lst s (l0.set e el)) fun h => foldE l h k
      | _ => False)
    | _ => False
/-- A loop's head: what is kept, as it is or put into order. -/
def headK (m : Nat) (cn : Bool) (vs : List AV) (h : HP) (k : List AV → HP → Prop) : Prop := match cn with
  | false => k vs h
  | true => ∃ fs, foldE fs h fun h => takeN false m nums [] [] h fun ρ hs h => canL (canV3 false) vs ρ hs h fun vs _ hs _ => k vs hs

/-- What was asked is known behind it. -/
def knowK (c : Operand) (b : Bool) (t : TS) (k : TS → Prop) : Prop := match c with | .tmp i => setK t i (.v (.bool b)) k | _ => k t

abbrev Post := Exit → TS → HP → Prop
def Post.seq (k : Post) (k' : TS → HP → Prop) : Post
  | .normal, t, h => k' t h
  | e, t, h => k e t h
def Post.block (id : Nat) (k : Post) : Post
  | .exit i, t, h => if i = id then k .normal t h else k (.exit i) t h
  | e, t, h => k e t h

def isIf : Code → Bool
  | .cond _ _ _ => true
  | .seq _ (.cond _ _ _) => true
  | .region _ _ true => true
  | _ => false
def AWP (C : Ctx) : Code → Post → TS → HP → Prop
  | .skip, k, t, h => k .normal t h
  | .label _, k, t, h => k .normal t h
  | .region _ ops draw, k, t, h =>
    if draw then drawnP C ops t h (k .normal) else opsP C ops.toList ops.toList t h (k .normal)
  | .seq a b, k, t, h => match C.cut && isIf a with
    | true => AWP C a (Post.seq k (AWP C b k)) t h ∨ ∃ (cn : Bool) (ks : List Nat) (I : List AV → HP → Prop),
      AWP C a (Post.seq k fun t h => mapK (getK t) ks fun vs => headK C.m cn vs h I) t h ∧ ∀ vs h, I vs h → topsK t.length fun t => laysK ks vs t fun t => AWP C b k t h
    | false => AWP C a (Post.seq k (AWP C b k)) t h
  | .cond c0 a b, k, t, h => evK t c0 fun c =>
    match c with
    | .v (.bool x) => (x = true → knowK c0 true t fun t => AWP C a k t h) ∧ (x = false → knowK c0 false t fun t => AWP C b k t h)
    | _ => False
  | .block id b, k, t, h => AWP C b (Post.block id k) t h
  | .loop b, k, t, h => ∃ (cn : Bool) (ks : List Nat) (I : Nat → List AV → HP → Prop),
      mapK (getK t) ks (fun vs => headK C.m cn vs h fun vs h => ∃ n, I n vs h) ∧
      ∀ n vs h, I n vs h → topsK t.length fun t => laysK ks vs t fun t => AWP C b (Post.seq k fun t h => mapK (getK t) ks fun vs => headK C.m cn vs h fun vs h => ∃ n', n' < n ∧ I n' vs h) t h
  | .exit id, k, t, h => k (.exit id) t h
  | .ret, k, t, h => k .ret t h
  | _, _, _, _ => False

end Go.Proofs.Ytegcfogbdgmajaa.Ab
