/- A plain evaluator of the code of loaded functions: values are plain data, slices are lists, what a function owns is told apart. Definitions alone; no condition. -/
import Derived.Laws.ComplexArith
import Derived.Laws.Cover2
import Derived.Laws.FloatArith
import Derived.Maps.AppendAt
import Derived.Orders
namespace Go.Ab
open Go

/-- Data: what stands in memory that nobody writes any more. -/
inductive D where
  | int (k : IntKind) (n : Int)
  | bool (b : Bool)
  | flt (k : FloatKind) (b : Nat)
  | cpx (k : FloatKind) (a b : Nat)
  | str (s : ByteArray)
  | sl (sz : Nat) (nl : Bool) (xs ext : List D)
  | agg (cs : List D)
  | nilp
  | fn (f : FuncId)
  | nilf
  | ifc (nl : Bool)
  | anyi (k : IntKind)
  deriving Inhabited

abbrev Tok := Nat × Nat

/-- A value in a slot, within a region. -/
inductive Val where
  | dead
  | und
  | cell
  | d (x : D)
  | ref (t : Tok) (len : Option Nat)
  | ptr (t : Tok) (off : Nat)
  | eptr (t : Tok) (sz i off : Nat)
  | tail (t : Tok) (sz i : Nat)
  | dptr (xs : List D)
  | fn (f : FuncId) (caps : List Val)
  | agg (cs : List Val)
  | tup (vs : List Val)
  deriving Inhabited

/-- What stands at a token: a row of the call's own, a variable in memory. -/
inductive Ent where
  | fresh
  | gone
  | row (m nl : Bool) (e : TypeId) (sz : Nat) (xs : List D)
  | box (ty : TypeId) (cells : List Val)
  | dbox (ty : TypeId) (cells : List D)
  deriving Inhabited

/-- A value in a slot, between regions, and at calls. -/
inductive IV where
  | dead
  | d (x : D)
  | own (nl : Bool) (e : TypeId) (sz : Nat) (xs : List D)
  | lrow (nl : Bool) (e : TypeId) (sz : Nat) (xs : List D)
  | ptr (ty : TypeId) (off : Nat) (cells : List IV)
  | dbox (ty : TypeId) (off : Nat) (cells : List D)
  | dptr (xs : List D)
  | fn (f : FuncId) (caps : List IV)
  | agg (cs : List IV)
  | tup (vs : List IV)
  deriving Inhabited

mutual
/-- The value of what holds no address. -/
def D.val : D → Value
  | .int k n => .int k n
  | .bool b => .bool b
  | .flt k b => .float k b
  | .cpx k a b => .complex k a b
  | .str s => .string s
  | .sl _ _ _ _ => .slice none 0 0
  | .agg cs => .agg (D.vals cs).toArray
  | .nilp => .pointer none
  | .fn f => .func (.func f) #[] #[]
  | .nilf => .nilFunc
  | .ifc _ => .nilIface
  | .anyi k => .int k 0
def D.vals : List D → List Value
  | [] => []
  | x :: xs => D.val x :: D.vals xs
end
/-- No address in it; structs hold cells. -/
def D.plain1 : D → Bool
  | .sl _ nl xs ext => nl && xs.isEmpty && ext.isEmpty
  | .agg _ => false
  | .ifc nl => nl
  | .anyi _ => false
  | _ => true
def D.plain : D → Bool
  | .agg cs => cs.all D.plain1
  | x => x.plain1
mutual
def D.width : D → Nat
  | .agg cs => D.widthL cs
  | _ => 1
def D.widthL : List D → Nat
  | [] => 0
  | c :: cs => D.width c + D.widthL cs
end
def D.cells : D → List D
  | .agg cs => cs
  | x => [x]
def D.isAgg : D → Bool
  | .agg _ => true
  | _ => false

/-- What the program's table tells of a type. -/
structure TD where
  desc : TypeDesc
  size : Nat
  bytes : Nat
  zero : D
  eqs : Bool := false
  deriving Inhabited
abbrev Tab := List (TypeId × TD)
def Tab.get : Tab → TypeId → Option TD
  | [], _ => none
  | (u, d) :: r, t => if u = t then some d else Tab.get r t

inductive Loc where
  | s (i : Nat)
  | t (t : Tok)
  deriving DecidableEq, Inhabited

structure St where
  env : List (Nat × Val)
  ents : List (Tok × Ent)
  deriving Inhabited
def assoc {α β : Type} [DecidableEq α] (z : β) : List (α × β) → α → β
  | [], _ => z
  | (k, v) :: r, i => if k = i then v else assoc z r i
def aput {α β : Type} [DecidableEq α] : List (α × β) → α → β → List (α × β)
  | [], i, v => [(i, v)]
  | (k, u) :: r, i, v => if k = i then (k, v) :: r else (k, u) :: aput r i v
def St.getS (σ : St) (i : Nat) : Val := assoc .dead σ.env i
def St.getT (σ : St) (t : Tok) : Ent := assoc .fresh σ.ents t
def St.putS (σ : St) (i : Nat) (v : Val) : St := { σ with env := aput σ.env i v }
def St.putT (σ : St) (t : Tok) (e : Ent) : St := { σ with ents := aput σ.ents t e }

/-- What is looked for. -/
inductive Tag where
  | any
  | int (k : IntKind)
  | bool
  | str
  | flt (k : FloatKind)
  | cpx (k : FloatKind)
  | sl (sz : Nat)
  | agg (ts : List Tag)
  | nil (sz : Nat)
  | fn (f : FuncId)
  | aggv
  | boolc (b : Bool)
  | ifc
/-- What an operation does. -/
inductive Prog where
  | ret
  | fail
  | getS (i : Nat) (k : Val → Prog)
  | putS (i : Nat) (v : Val) (k : Prog)
  | getT (t : Tok) (k : Ent → Prog)
  | putT (t : Tok) (e : Ent) (k : Prog)
  | need (p : Bool) (k : Prog)
  | elem (t : Option Tag) (xs : List D) (i : Nat) (k : D → Prog)
  | br (b : Bool) (x y : Prog)
  | call (f : FuncId) (args : List IV) (k : IV → List IV → Prog)

abbrev Caller := FuncId → List IV → Option (IV × List IV)

def Prog.run (C : Caller) : Prog → St → Option St
  | .ret, σ => some σ
  | .fail, _ => none
  | .getS i k, σ => (k (σ.getS i)).run C σ
  | .putS i v k, σ => k.run C (σ.putS i v)
  | .getT t k, σ => (k (σ.getT t)).run C σ
  | .putT t e k, σ => k.run C (σ.putT t e)
  | .need p k, σ => if p = true then k.run C σ else none
  | .elem _ xs i k, σ => match xs[i]? with
    | some x => (k x).run C σ
    | none => none
  | .br b x y, σ => if b = true then x.run C σ else y.run C σ
  | .call f args k, σ => match C f args with
    | some (r, outs) => (k r outs).run C σ
    | none => none

/-- Where an operation reads, and where it writes. -/
def Prog.logs (C : Caller) : Prog → St → List Loc × List Loc
  | .ret, _ => ([], [])
  | .fail, _ => ([], [])
  | .getS i k, σ => let r := (k (σ.getS i)).logs C σ; (.s i :: r.1, r.2)
  | .putS i v k, σ => let r := k.logs C (σ.putS i v); (r.1, .s i :: r.2)
  | .getT t k, σ => let r := (k (σ.getT t)).logs C σ; (.t t :: r.1, r.2)
  | .putT t e k, σ => let r := k.logs C (σ.putT t e); (r.1, .t t :: r.2)
  | .need _ k, σ => k.logs C σ
  | .elem _ xs i k, σ => match xs[i]? with
    | some x => (k x).logs C σ
    | none => ([], [])
  | .br b x y, σ => if b = true then x.logs C σ else y.logs C σ
  | .call f args k, σ => match C f args with
    | some (r, outs) => (k r outs).logs C σ
    | none => ([], [])

/-! ### Operands -/
def constV (T : Tab) (ty : TypeId) : Value → Val
  | .int k n => .d (.int k n)
  | .bool b => .d (.bool b)
  | .float k b => .d (.flt k b)
  | .complex k a b => .d (.cpx k a b)
  | .string s => .d (.str s)
  | .slice none 0 0 => match T.get ty with
    | some { desc := .slice e, .. } => match T.get e with
      | some te => .d (.sl te.size true [] [])
      | none => .dead
    | _ => .dead
  | .pointer none => .d .nilp
  | .nilFunc => .d .nilf
  | .nilIface => .d (.ifc true)
  | _ => .dead
abbrev Globs := List (Nat × List D)
def opnd (T : Tab) (G : Globs) (ty : TypeId) (x : Operand) (k : Val → Prog) : Prog :=
  match x with
  | .tmp t => .getS t k
  | .const v => k (constV T ty v)
  | .func f => k (.d (.fn f))
  | .global g => k (match assoc none (G.map fun p => (p.1, some p.2)) g with
    | some cs => .dptr cs
    | none => .dead)
def opnds (T : Tab) (G : Globs) : List (TypeId × Operand) → (List Val → Prog) → Prog
  | [], k => k []
  | (ty, x) :: r, k => opnd T G ty x fun v => opnds T G r fun vs => k (v :: vs)

/-- A value's cells, if these are cells of memory. -/
def Val.isCell : Val → Bool
  | .cell => true
  | .d x => !x.isAgg
  | .ref _ _ => true
  | .ptr _ _ => true
  | .fn _ _ => true
  | _ => false
def Val.cells : Val → Option (List Val)
  | .d x => some (x.cells.map .d)
  | .agg cs => if cs.all Val.isCell then some cs else none
  | .cell => some [.cell]
  | .ref t l => some [.ref t l]
  | .ptr t o => some [.ptr t o]
  | .fn f cs => some [.fn f cs]
  | _ => none
def allD : List Val → Option (List D)
  | [] => some []
  | .d x :: r => (allD r).map (x :: ·)
  | _ => none

/-- A row that is looked at as data from here on. -/
def takeL (l : Option Nat) (xs : List D) : List D := match l with | none => xs | some n => xs.take n
def dropL (l : Option Nat) (xs : List D) : List D := match l with | none => [] | some n => xs.drop n
mutual
/-- A value as data: the call's own rows are never written again. -/
def freeze (v : Val) (k : D → Prog) : Prog :=
  match v with
  | .d x => k x
  | .ref t l => .getT t fun e => match e with
    | .row true nl ty sz xs => .putT t (.row false nl ty sz xs) (k (.sl sz nl (takeL l xs) (dropL l xs)))
    | .row false nl _ sz xs => k (.sl sz nl (takeL l xs) (dropL l xs))
    | _ => .fail
  | .agg cs => freezeL cs fun xs => k (.agg xs)
  | .fn f [] => k (.fn f)
  | _ => .fail
def freezeL (vs : List Val) (k : List D → Prog) : Prog :=
  match vs with
  | [] => k []
  | v :: r => freeze v fun x => freezeL r fun xs => k (x :: xs)
end

/-- The same without the end of the writing: for a call that hands nothing back that may lead there. -/
def lookV (v : Val) (k : D → Prog) : Prog :=
  match v with
  | .d x => k x
  | .ref t l => .getT t fun e => match e with
    | .row _ nl _ sz xs => k (.sl sz nl (takeL l xs) (dropL l xs))
    | _ => .fail
  | _ => .fail

/-! ### The operations -/
def needs (ps : List Bool) (k : Prog) : Prog := match ps with | [] => k | p :: r => .need p (needs r k)
/-- Where a nil slice is taken as a row of the call's own. -/
inductive Cv where
  | no
  | own (e : TypeId)
  | agg (cs : List Cv)
mutual
def liftI : Cv → IV → IV
  | .own e, .d (.sl sz true [] []) => .own true e sz []
  | .agg cs, .d (.agg xs) => .agg (liftD cs xs)
  | .agg cs, .agg xs => .agg (liftL cs xs)
  | .agg cs, .ptr ty off xs => .ptr ty off (liftL cs xs)
  | .agg cs, .dbox ty off xs => .ptr ty off (liftD cs xs)
  | _, x => x
def liftD : List Cv → List D → List IV
  | c :: cs, x :: xs => liftI c (.d x) :: liftD cs xs
  | _, xs => xs.map .d
def liftL : List Cv → List IV → List IV
  | c :: cs, x :: xs => liftI c x :: liftL cs xs
  | _, xs => xs
end
/-- Which of the functions that are called puts numbers into a row (slices.Insert), and their type: told among the slots by the number 1000000 + f. -/
def insOf : List (Nat × Cv) → FuncId → Option TypeId
  | [], _ => none
  | (i, .own e) :: r, f => if i = 1000000 + f then some e else insOf r f
  | _ :: r, f => insOf r f
/-- What is told of a function: the types' table, variables of packages that are read, how many slots, the slots that stay. -/
structure Ev where
  T : Tab
  G : Globs
  N : Nat
  lk : List Nat
  cv : List (Nat × Cv)
def putD (E : Ev) (o : Oper) (v : Val) : Prog :=
  match o.dst with
  | some d => if d < E.N ∧ d ∉ E.lk then .putS d v .ret else .fail
  | none => .ret
/-- The token of what an operation makes. -/
def tokD (o : Oper) (k : Nat) : Tok := (2 * (o.dst.getD 1000000) + 1, k)
def newT (t : Tok) (e : Ent) (k : Prog) : Prog := .getT t fun x => match x with | .fresh => .putT t e k | _ => .fail
def isAggT (td : TD) : Bool := match td.desc with | .struct _ => true | .array _ _ => true | _ => false
/-- What stands in the cells of a type. -/
def tagsOf (T : Tab) : Nat → TypeId → List Tag
  | 0, _ => [.any]
  | n + 1, t => match T.get t with
    | some td => match td.desc with
      | .int k => [.int k]
      | .bool => [.bool]
      | .string => [.str]
      | .float k => [.flt k]
      | .complex k => [.cpx k]
      | .slice e => match T.get e with
        | some te => [.sl te.size]
        | none => [.any]
      | .struct fs => fs.toList.flatMap fun f => tagsOf T n f.type
      | .array len e => (List.replicate len (tagsOf T n e)).flatten
      | _ => [.any]
    | none => [.any]
def tagOf (T : Tab) (t : TypeId) : Tag :=
  match T.get t with
  | some td => if isAggT td then .agg (tagsOf T 6 t) else match tagsOf T 6 t with
    | [x] => x
    | _ => .any
  | none => .any
def setR {α : Type} (cs : List α) (off : Nat) (vs : List α) : List α :=
  match vs with
  | [v] => cs.set off v
  | _ => cs.take off ++ vs ++ cs.drop (off + vs.length)
def fillV (place : Nat → Option (Nat × Nat)) (cells : List Val) : List (Nat × Val) → Option (List Val)
  | [] => some cells
  | (i, v) :: r => match place i, v.cells with
    | some (off, n), some vs => if vs.length = n ∧ off + n ≤ cells.length then fillV place (cells.take off ++ vs ++ cells.drop (off + n)) r else none
    | _, _ => none
def mkAgg (cs : List Val) : Val := match allD cs with | some ds => .d (.agg ds) | none => .agg cs

def intBin (op : BinOp) (k : IntKind) (x y : Int) (ret : D → Prog) : Prog :=
  match op with
  | .add => ret (.int k (k.wrap (x + y)))
  | .sub => ret (.int k (k.wrap (x - y)))
  | .mul => ret (.int k (k.wrap (x * y)))
  | .quo => .need (!(y == 0)) (ret (.int k (k.wrap (x.tdiv y))))
  | .rem => .need (!(y == 0)) (ret (.int k (x.tmod y)))
  | .eql => ret (.bool (x == y))
  | .neq => ret (.bool (x != y))
  | .lss => ret (.bool (decide (x < y)))
  | .leq => ret (.bool (decide (x ≤ y)))
  | .gtr => ret (.bool (decide (x > y)))
  | .geq => ret (.bool (decide (x ≥ y)))
  | .and => if y = 3 ∧ k = .i64 then ret (.int k (x % 4)) else ret (.int k (k.wrap (BitVec.ofInt k.bits x &&& BitVec.ofInt k.bits y).toNat))
  | .or => ret (.int k (k.wrap (BitVec.ofInt k.bits x ||| BitVec.ofInt k.bits y).toNat))
  | .xor => ret (.int k (k.wrap (BitVec.ofInt k.bits x ^^^ BitVec.ofInt k.bits y).toNat))
  | .shl => .need (decide (0 ≤ y)) (ret (.int k (k.wrap (x * 2 ^ min y.toNat k.bits))))
  | .shr => .need (decide (0 ≤ y)) (ret (.int k (x / 2 ^ min y.toNat k.bits)))
  | _ => .fail
def strBin (op : BinOp) (x y : ByteArray) (ret : D → Prog) : Prog :=
  match op with
  | .add => .need (decide ((x.size + y.size : Nat) ≤ 9223372036854775807)) (ret (.str (x ++ y)))
  | .eql => ret (.bool (x.toList == y.toList))
  | .neq => ret (.bool (!(x.toList == y.toList)))
  | .lss => ret (.bool (Op.bytesLess x.toList y.toList))
  | _ => .fail
def fltBin (op : BinOp) (k : FloatKind) (x y : Nat) (ret : D → Prog) : Prog :=
  match op with
  | .add => .need (floatBits .add k x y).isSome (ret (.flt k ((floatBits .add k x y).getD 0)))
  | .sub => .need (floatBits .sub k x y).isSome (ret (.flt k ((floatBits .sub k x y).getD 0)))
  | .mul => .need (floatBits .mul k x y).isSome (ret (.flt k ((floatBits .mul k x y).getD 0)))
  | .quo => .need (floatBits .quo k x y).isSome (ret (.flt k ((floatBits .quo k x y).getD 0)))
  | .eql => ret (.bool (k.format.order x y == some .eq))
  | .neq => ret (.bool (k.format.order x y != some .eq))
  | .lss => ret (.bool (k.format.order x y == some .lt))
  | .leq => ret (.bool (k.format.order x y == some .lt || k.format.order x y == some .eq))
  | .gtr => ret (.bool (k.format.order x y == some .gt))
  | .geq => ret (.bool (k.format.order x y == some .gt || k.format.order x y == some .eq))
  | _ => .fail
def cpxBin (op : BinOp) (k : FloatKind) (a b c d : Nat) (ret : D → Prog) : Prog :=
  match op with
  | .add => .need (cSumBits .add k a b c d).isSome (ret (.cpx k ((cSumBits .add k a b c d).getD (0, 0)).1 ((cSumBits .add k a b c d).getD (0, 0)).2))
  | .sub => .need (cSumBits .sub k a b c d).isSome (ret (.cpx k ((cSumBits .sub k a b c d).getD (0, 0)).1 ((cSumBits .sub k a b c d).getD (0, 0)).2))
  | .mul => match k with
    | .f64 => .need (cMulBits a b c d).isSome (ret (.cpx .f64 ((cMulBits a b c d).getD (0, 0)).1 ((cMulBits a b c d).getD (0, 0)).2))
    | _ => .fail
  | _ => .fail
/-- The same, field by field, as the machine looks at them. -/
def eqFs (T : Tab) (xs ys : List D) : List Field → Option Bool
  | [] => some true
  | f :: fs => match T.get f.type with
    | some td => match td.desc, xs[f.offset]?, ys[f.offset]?, eqFs T xs ys fs with
      | .int _, some (.int k a), some (.int k' b), some r => if k = k' then some ((a == b) && r) else none
      | .bool, some (.bool a), some (.bool b), some r => some ((a == b) && r)
      | .string, some (.str a), some (.str b), some r => some ((a.toList == b.toList) && r)
      | _, _, _, _ => none
    | none => none
end Go.Ab
