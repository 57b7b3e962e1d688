/- An abstract machine over trees for Go's loaded code: its values, its states, and what a piece of code must fulfil ('AWP'). Definitions only; they are proved sound in the next text. No condition. -/
import Derived.Calls
import Derived.Orders
import Derived.Deep.Quiet
namespace Go.Proofs.Ytkbdjhhnpajidaa.Ab

/-- What a temporary or a cell is known to hold: nothing; a value without an address; nil as a slice; a pointer or a slice into a root; a slice or a pointer whose memory stays as it is; a function value; a struct; a tuple; a slice that is owned by the cell that holds it. -/
inductive AV where
  | top
  | v (x : Value)
  | nils
  | ptr (r i o k : Nat)
  | slc (r o n : Nat) (z : Bool)
  | imm (t z : Bool) (s : Nat) (l : List (List AV))
  | iptr (t : Bool) (l : List AV)
  | fn (f : FuncId) (caps : List AV)
  | agg (l : List AV)
  | tup (l : List AV)
  | sl (s : Nat) (l : List (List AV))
  deriving Inhabited

/-- A block of memory that the call owns: a variable; a slice's array; one that is gone. -/
inductive Root where
  | box (cells : List AV)
  | lst (s : Nat) (l : List (List AV))
  | dead
  deriving Inhabited

inductive TK where
  | int (k : IntKind) | bool | str
  | slice (elem : TypeId) (es : Nat)
  | struct (fs : List (Nat × Nat))
  | array (n : Nat) (es : Nat)
  | ptr | func | other
structure TI where
  size : Nat
  bytes : Nat
  agg : Bool
  kind : TK
  zero : List AV

abbrev TS := List AV
abbrev HP := List Root

/-! ### Lists, strictly: each is its plain word ('.._eq', next text) -/

def getK : List AV → Nat → (AV → Prop) → Prop
  | [], _, k => k .top
  | a :: _, 0, k => k a
  | _ :: t, n + 1, k => getK t n k
def setK {α : Type} : List α → Nat → α → (List α → Prop) → Prop
  | [], _, _, k => k []
  | _ :: t, 0, x, k => k (x :: t)
  | a :: t, n + 1, x, k => setK t n x fun t' => k (a :: t')
def putK (t : TS) (d : Option Tmp) (x : AV) (k : TS → Prop) : Prop := match d with | some i => setK t i x k | none => k t
def nums : List Nat := [0, 1, 2, 3, 4, 5, 6, 7, 8, 9, 10, 11, 12, 13, 14, 15, 16, 17, 18, 19, 20, 21, 22, 23, 24, 25, 26, 27, 28, 29, 30, 31, 32, 33, 34, 35, 36, 37, 38, 39, 40, 41, 42, 43, 44, 45, 46, 47, 48, 49, 50, 51, 52, 53, 54, 55, 56, 57, 58, 59, 60, 61, 62, 63, 64, 65, 66, 67, 68, 69, 70, 71, 72, 73, 74, 75, 76, 77, 78, 79]
/-- A new root: its number and the roots with it. -/
def newK : HP → List Nat → Root → (Nat → HP → Prop) → Prop
  | [], n :: _, x, k => k n [x]
  | a :: t, _ :: ns, x, k => newK t ns x fun n t' => k n (a :: t')
  | _, [], _, _ => False
def rootK : HP → Nat → (Root → Prop) → Prop
  | [], _, _ => False
  | a :: _, 0, k => k a
  | _ :: t, n + 1, k => rootK t n k
/-- 'l' with 'cs' laid from place 'o' on; they must fit. -/
def layK : List AV → Nat → List AV → (List AV → Prop) → Prop
  | l, 0, [], k => k l
  | _ :: l, 0, c :: cs, k => layK l 0 cs fun l' => k (c :: l')
  | a :: l, n + 1, cs, k => layK l n cs fun l' => k (a :: l')
  | [], _, _, _ => False
/-- 'n' elements from place 'o' on; they must be there. -/
def cutK : List AV → Nat → Nat → (List AV → Prop) → Prop
  | _, 0, 0, k => k []
  | a :: l, 0, n + 1, k => cutK l 0 n fun l' => k (a :: l')
  | _ :: l, o + 1, n, k => cutK l o n k
  | [], _, _, _ => False
/-- Cells as they are read: an owned slice is taken out into a root of its own. Gives the cells read (which are the cells left too) and the roots. -/
def outK : List AV → HP → (List AV → HP → Prop) → Prop
  | [], h, k => k [] h
  | .sl s l :: r, h, k => newK h nums (.lst s l) fun n h' => outK r h' fun x h'' => k (.slc n 0 l.length false :: x) h''
  | c :: r, h, k => outK r h fun x h' => k (c :: x) h'
def mapK {α β : Type} (f : α → (β → Prop) → Prop) : List α → (List β → Prop) → Prop
  | [], k => k []
  | a :: l, k => f a fun b => mapK f l fun l' => k (b :: l')

def constK (x : Value) (k : AV → Prop) : Prop := match x with
  | .slice none 0 0 => k .nils
  | .slice _ _ _ => k .top
  | .agg _ => k .top
  | .tuple _ => k .top
  | x => k (.v x)
def evK (t : TS) (o : Operand) (k : AV → Prop) : Prop := match o with
  | .tmp i => getK t i k
  | .const x => constK x k
  | .global _ => k .top
  | .func f => k (.fn f [])
def on {α : Type} (o : Option α) (k : α → Prop) : Prop := match o with | some a => k a | none => False

def immCellK (t : Bool) (c : AV) (k : AV → Prop) : Prop := match c with
  | .sl s l => k (.imm t false s l)
  | x => k x

def nilK (c : AV) (k : AV → Prop) : Prop := match c with
  | .sl _ _ => k .nils
  | x => k x
/-- Nil as a slice, in a variable, is a slice that the variable owns. -/
def normK : List AV → List AV → (List AV → Prop) → Prop
  | [], _, k => k []
  | _ :: _, [], _ => False
  | x :: l, z :: zs, k => match x, z with
    | .nils, .sl es _ => normK l zs fun l => k (.sl es [] :: l)
    | .sl _ _, _ => False
    | .top, _ => normK l zs fun l => k (.top :: l)
    | x, _ => normK l zs fun l => k (x :: l)

/-- The cells of a value that is laid into a variable of a type. -/
def cellsK (i : TI) (x : AV) (k : List AV → Prop) : Prop := match i.agg, x with
  | true, .agg l => if l.length == i.size then normK l i.zero k else False
  | false, .nils => match i.kind with | .slice _ es => if i.size == 1 then k [.sl es []] else False | _ => False
  | false, .tup _ => False
  | false, .agg _ => False
  | false, .top => False
  | false, .sl _ _ => False
  | false, x => if i.size == 1 then k [x] else False
  | true, _ => False
def valK (i : TI) (cs : List AV) (k : AV → Prop) : Prop := match i.agg, cs with
  | true, l => k (.agg l)
  | false, [x] => k x
  | false, _ => False

def fillK (place : Nat → Option (Nat × Nat)) : List (Nat × AV) → List AV → (List AV → Prop) → Prop
  | [], cells, k => k cells
  | (i, x) :: r, cells, k => on (place i) fun p => match x with
    | .agg l => if l.length == p.2 then layK cells p.1 l fun cells => fillK place r cells k else False
    | .tup _ => False
    | .top => False
    | .sl _ _ => False
    | x => if p.2 == 1 then layK cells p.1 [x] fun cells => fillK place r cells k else False

def intOp (op : BinOp) (k : IntKind) (a b : Int) (K : AV → Prop) : Prop :=
  match op with
  | .add => K (.v (.int k (k.wrap (a + b))))
  | .sub => K (.v (.int k (k.wrap (a - b))))
  | .mul => K (.v (.int k (k.wrap (a * b))))
  | .quo => b ≠ 0 ∧ K (.v (.int k (k.wrap (a.tdiv b))))
  | .rem => b ≠ 0 ∧ K (.v (.int k (a.tmod b)))
  | .and => K (.v (.int k (k.wrap ((BitVec.ofInt k.bits a &&& BitVec.ofInt k.bits b).toNat : Nat))))
  | .or => K (.v (.int k (k.wrap ((BitVec.ofInt k.bits a ||| BitVec.ofInt k.bits b).toNat : Nat))))
  | .xor => K (.v (.int k (k.wrap ((BitVec.ofInt k.bits a ^^^ BitVec.ofInt k.bits b).toNat : Nat))))
  | .andNot => K (.v (.int k (k.wrap ((BitVec.ofInt k.bits a &&& ~~~ BitVec.ofInt k.bits b).toNat : Nat))))
  | .eql => K (.v (.bool (a == b)))
  | .neq => K (.v (.bool (a != b)))
  | .lss => K (.v (.bool (decide (a < b))))
  | .leq => K (.v (.bool (decide (a ≤ b))))
  | .gtr => K (.v (.bool (decide (a > b))))
  | .geq => K (.v (.bool (decide (a ≥ b))))
  | _ => False

def binP (op : BinOp) (i : Option TI) (x y : AV) (K : AV → Prop) : Prop :=
  match op, x, y with
  | .shl, .v (.int k a), .v (.int _ b) => 0 ≤ b ∧ K (.v (.int k (k.wrap (a * 2 ^ (min b.toNat k.bits)))))
  | .shr, .v (.int k a), .v (.int _ b) => 0 ≤ b ∧ K (.v (.int k (a.fdiv (2 ^ (min b.toNat k.bits)))))
  | .eql, .v (.string a), .v (.string b) => K (.v (.bool (a.toList == b.toList)))
  | .neq, .v (.string a), .v (.string b) => K (.v (.bool (!(a.toList == b.toList))))
  | .add, .v (.string a), .v (.string b) => a.size + b.size ≤ 9223372036854775807 ∧ K (.v (.string (a ++ b)))
  | .eql, .v (.bool a), .v (.bool b) => on i fun i => match i.kind with | .bool => K (.v (.bool (a == b))) | _ => False
  | .neq, .v (.bool a), .v (.bool b) => on i fun i => match i.kind with | .bool => K (.v (.bool (!(a == b)))) | _ => False
  | op, .v (.int k a), .v (.int k' b) => if k = k' then intOp op k a b K else False
  | _, _, _ => False

/-- A handler of calls: what the arguments and the roots must be, and what comes behind. -/
abbrev Handler := List AV → HP → (AV → HP → Prop) → Prop

structure Ctx where
  tab : TypeId → Option TI
  call : FuncId → Option Handler

def lenP (i : TI) (l : List AV) (k : AV → Prop) : Prop := match i.kind, l with
  | .slice _ _, [.slc _ _ n _] => k (.v (.int .i64 n))
  | .slice _ _, [.imm _ _ _ l] => k (.v (.int .i64 l.length))
  | .slice _ _, [.nils] => k (.v (.int .i64 0))
  | .str, [.v (.string s)] => k (.v (.int .i64 s.size))
  | _, _ => False

def loadP (C : Ctx) (ty : TypeId) (a : AV) (h : HP) (K : AV → HP → Prop) : Prop := on (C.tab ty) fun i =>
  match a with
  | .ptr r e f _ => rootK h r fun root =>
    match root, e with
    | .box cells, 0 => cutK cells f i.size fun cs => outK cs h fun cs h => layK cells f cs fun cells => setK h r (.box cells) fun h => valK i cs fun x => K x h
    | .lst s l, e => ∃ el, l[e]? = some el ∧ f + i.size ≤ s ∧ cutK el f i.size fun cs => outK cs h fun cs h => layK el f cs fun el => setK h r (.lst s (l.set e el)) fun h => valK i cs fun x => K x h
    | _, _ => False
  | .iptr b l => cutK l 0 i.size fun cs => mapK (immCellK b) cs fun cs => valK i cs fun x => K x h
  | _ => False

def opP (C : Ctx) (o : Oper) (t : TS) (h : HP) (k : TS → HP → Prop) : Prop :=
  match o.op with
  | .move x => evK t x fun a => putK t o.dst a fun t => k t h
  | .assign x => evK t x fun a =>
    match a with
    | .nils => on (C.tab o.type) fun i => match i.kind with
      | .slice _ es => newK h nums (.lst es []) fun n h => putK t o.dst (.slc n 0 0 true) fun t => k t h
      | _ => False
    | a => putK t o.dst a fun t => k t h
  | .pick c a b => evK t c fun c => evK t a fun a => evK t b fun b =>
    match c with
    | .v (.bool c) => (c = true → putK t o.dst a fun t => k t h) ∧ (c = false → putK t o.dst b fun t => k t h)
    | _ => False
  | .alloc ty => on (C.tab ty) fun i => newK h nums (.box i.zero) fun n h => putK t o.dst (.ptr n 0 0 i.size) fun t => k t h
  | .box ty x => on (C.tab ty) fun i => evK t x fun a => cellsK i a fun cs => newK h nums (.box cs) fun n h => putK t o.dst (.ptr n 0 0 i.size) fun t => k t h
  | .load ty a => evK t a fun a => loadP C ty a h fun x h => putK t o.dst x fun t => k t h
  | .store ty a x => on (C.tab ty) fun i => evK t x fun x => cellsK i x fun cs => evK t a fun a =>
    match a with
    | .ptr r e f _ => rootK h r fun root =>
      match root, e with
      | .box cells, 0 => layK cells f cs fun cells => setK h r (.box cells) fun h => putK t o.dst .top fun t => k t h
      | .lst s l, e => ∃ el, l[e]? = some el ∧ f + i.size ≤ s ∧ layK el f cs fun el => setK h r (.lst s (l.set e el)) fun h => putK t o.dst .top fun t => k t h
      | _, _ => False
    | _ => False
  | .nilCheck x => evK t x fun a =>
    match a with
    | .ptr r e f n => putK t o.dst (.ptr r e f n) fun t => k t h
    | .iptr b l => putK t o.dst (.iptr b l) fun t => k t h
    | .fn f c => putK t o.dst (.fn f c) fun t => k t h
    | _ => False
  | .fieldAddr ty x n => on (C.tab ty) fun i => evK t x fun a =>
    match i.kind with
    | .struct fs => on fs[n]? fun f =>
      match a with
      | .ptr r e b _ => if f.2 == 0 then False else putK t o.dst (.ptr r e (b + f.1) f.2) fun t => k t h
      | .iptr b l => if f.2 == 0 then False else cutK l f.1 f.2 fun l => putK t o.dst (.iptr b l) fun t => k t h
      | _ => False
    | _ => False
  | .indexAddr ty x ix => on (C.tab ty) fun i => evK t x fun a => evK t ix fun z =>
    match i.kind, a, z with
    | .slice _ es, .slc r b n _, .v (.int _ z) => rootK h r fun root => match root with
      | .lst s _ => if s == es then ∃ j : Nat, z = (j : Int) ∧ j < n ∧ putK t o.dst (.ptr r (b + j) 0 es) fun t => k t h else False
      | _ => False
    | .slice _ es, .imm b _ s l, .v (.int _ z) => if s == es then ∃ j : Nat, z = (j : Int) ∧ ∃ el, l[j]? = some el ∧ putK t o.dst (.iptr b el) fun t => k t h else False
    | _, _, _ => False
  | .binOp op ty x y _ => evK t x fun a => evK t y fun b => binP op (C.tab ty) a b fun a => putK t o.dst a fun t => k t h
  | .unOp op _ x => evK t x fun a =>
    match op, a with
    | .not, .v (.bool b) => putK t o.dst (.v (.bool (!b))) fun t => k t h
    | .neg, .v (.int n a) => intOp .sub n 0 a fun a => putK t o.dst a fun t => k t h
    | .xor, .v (.int n a) => intOp .xor n (if n.signed then -1 else n.max) a fun a => putK t o.dst a fun t => k t h
    | _, _ => False
  | .convert s d x => on (C.tab s) fun _ => on (C.tab d) fun i => evK t x fun a =>
    match i.kind, a with
    | .int n, .v (.int _ a) => putK t o.dst (.v (.int n (n.wrap a))) fun t => k t h
    | _, _ => False
  | .extract x n => evK t x fun a =>
    match a with
    | .tup l => on l[n]? fun a => putK t o.dst a fun t => k t h
    | _ => False
  | .build ty ps => on (C.tab ty) fun i => mapK (fun (p : Nat × Operand) k => evK t p.2 fun a => k (p.1, a)) ps.toList fun ps =>
    mapK nilK i.zero fun zero => match i.kind with
    | .struct fs => fillK (fun n => fs[n]?) ps zero fun l => putK t o.dst (.agg l) fun t => k t h
    | .array _ es => fillK (fun n => some (n * es, es)) ps zero fun l => putK t o.dst (.agg l) fun t => k t h
    | _ => False
  | .makeSlice ty n c => on (C.tab ty) fun i => evK t n fun n => evK t c fun c =>
    match i.kind, n, c with
    | .slice e es, .v (.int .i64 a), .v (.int .i64 b) => on (C.tab e) fun ei => if ei.bytes == 0 then False else ∃ m : Nat, a = (m : Int) ∧ b = (m : Int) ∧ ei.bytes * m ≤ 281474976710656 ∧
        newK h nums (.lst es (List.replicate m ei.zero)) fun n h => putK t o.dst (.slc n 0 m true) fun t => k t h
    | _, _, _ => False
  | .call c => mapK (evK t) c.args.toList fun args =>
    match c.callee with
    | .value f => evK t f fun f =>
      match f with
      | .fn f caps => on (C.call f) fun H => H (args ++ caps) h fun x h => putK t o.dst x fun t => k t h
      | _ => False
    | .builtin .len => on (c.argTypes[0]?) fun ty => on (C.tab ty) fun i => lenP i args fun a => putK t o.dst a fun t => k t h
    | _ => False
  | _ => False

def isGuard (all : List Oper) (d : Tmp) : Bool := all.any fun o => match o.guard with | some (j, _) => (match all[j]? with | some p => p.dst == some d | none => false) | none => false

/-- Behind an operation whose bool is asked by others of its region: it is split. -/
def splitG (all : List Oper) (d : Option Tmp) (t : TS) (k : TS → Prop) : Prop :=
  match d with
  | some i => if isGuard all i then
      getK t i fun a => match a with
      | .v (.bool b) => (b = true → setK t i (.v (.bool true)) k) ∧ (b = false → setK t i (.v (.bool false)) k)
      | _ => k t
    else k t
  | none => k t

def opG (C : Ctx) (all : List Oper) (o : Oper) (t : TS) (h : HP) (k : TS → HP → Prop) : Prop :=
  match o.guard with
  | none => opP C o t h fun t h => splitG all o.dst t fun t => k t h
  | some (j, want) => on ((all[j]?).bind (·.dst)) fun d => getK t d fun a =>
      match a with
      | .v (.bool b) => if b == want then opP C o t h fun t h => splitG all o.dst t fun t => k t h else putK t o.dst (.tup []) fun t => k t h
      | .tup _ => putK t o.dst (.tup []) fun t => k t h
      | _ => False

def opsP (C : Ctx) (all : List Oper) : List Oper → TS → HP → (TS → HP → Prop) → Prop
  | [], t, h, k => k t h
  | o :: r, t, h, k => opG C all o t h fun t h => opsP C all r t h k

def readyL (ops : List Oper) (listed : List Bool) : List Nat :=
  (List.range ops.length).filter fun i => !listed.getD i true && ((ops[i]?).map (·.after.toList.all fun e => !Region.binds .any e || listed.getD e.on false)).getD false

def allL {α : Type} : List α → (α → Prop) → Prop
  | [], _ => True
  | [a], k => k a
  | a :: b :: l, k => k a ∧ allL (b :: l) k

/-- Whatever order is taken. -/
def allP (C : Ctx) (ops : List Oper) : Nat → List Bool → TS → HP → (TS → HP → Prop) → Prop
  | 0, listed, t, h, k => readyL ops listed = [] ∧ k t h
  | f + 1, listed, t, h, k =>
    match readyL ops listed with
    | [] => k t h
    | rs => allL rs fun i => on ops[i]? fun o => opG C ops o t h fun t h => allP C ops f (listed.set i true) t h k

/-- An operation that leaves the world alone. -/
def quietO (o : Oper) : Bool := match o.op with
  | .move _ => true | .assign _ => true | .pick _ _ _ => true | .nilCheck _ => true | .extract _ _ => true | .convert _ _ _ => true | .fieldAddr _ _ _ => true | .indexAddr _ _ _ => true
  | .load _ _ => true | .binOp _ _ _ _ _ => true | .unOp _ _ _ => true | .build _ _ => true
  | .call c => (match c.callee with | .builtin .len => true | _ => false)
  | _ => false
def allQ : List Oper → Bool
  | [] => true
  | o :: l => match quietO o with | true => allQ l | false => false
/-- A region that draws its order: where its operations leave the world alone the text's order serves. -/
def drawnP (C : Ctx) (ops : Array Oper) (t : TS) (h : HP) (k : TS → HP → Prop) : Prop := match allQ ops.toList with
  | true => Region.lexB .any ops = true ∧ opsP C ops.toList ops.toList t h k
  | false => allP C ops.toList ops.toList.length (List.replicate ops.toList.length false) t h k

def topsK : Nat → (TS → Prop) → Prop
  | 0, k => k []
  | n + 1, k => topsK n fun t => k (.top :: t)
def laysK : List Nat → List AV → TS → (TS → Prop) → Prop
  | i :: is, x :: xs, t, k => setK t i x fun t => laysK is xs t k
  | _, _, t, k => k t

/-- Steps of what is known alone: the memory stays. Values at hand, roots. -/
inductive Shift : List AV → HP → List AV → HP → Prop where
  | refl (t h) : Shift t h t h

/-- What was asked is known behind it. -/
def knowK (c : Operand) (b : Bool) (t : TS) (k : TS → Prop) : Prop := match c with | .tmp i => setK t i (.v (.bool b)) k | _ => k t

abbrev Post := Exit → TS → HP → Prop
def Post.seq (k : Post) (k' : TS → HP → Prop) : Post
  | .normal, t, h => k' t h
  | e, t, h => k e t h
def Post.block (id : Nat) (k : Post) : Post
  | .exit i, t, h => if i = id then k .normal t h else k (.exit i) t h
  | e, t, h => k e t h

def AWP (C : Ctx) : Code → Post → TS → HP → Prop
  | .skip, k, t, h => k .normal t h
  | .label _, k, t, h => k .normal t h
  | .region _ ops draw, k, t, h =>
    if draw then drawnP C ops t h (k .normal) else opsP C ops.toList ops.toList t h (k .normal)
  | .seq a b, k, t, h => AWP C a (Post.seq k (AWP C b k)) t h
  | .cond c0 a b, k, t, h => evK t c0 fun c =>
    match c with
    | .v (.bool x) => (x = true → knowK c0 true t fun t => AWP C a k t h) ∧ (x = false → knowK c0 false t fun t => AWP C b k t h)
    | _ => False
  | .block id b, k, t, h => AWP C b (Post.block id k) t h
  | .loop b, k, t, h => ∃ (ks : List Nat) (I : Nat → List AV → HP → Prop),
      mapK (getK t) ks (fun vs => ∃ n vs' h', Shift vs h vs' h' ∧ I n vs' h') ∧
      ∀ n vs h, I n vs h → topsK t.length fun t => laysK ks vs t fun t => AWP C b (Post.seq k fun t h => mapK (getK t) ks fun vs => ∃ n' vs' h', n' < n ∧ Shift vs h vs' h' ∧ I n' vs' h') t h
  | .exit id, k, t, h => k (.exit id) t h
  | .ret, k, t, h => k .ret t h
  | _, _, _, _ => False

end Go.Proofs.Ytkbdjhhnpajidaa.Ab
