/-
  A reckoner of Go functions: it runs a function over a heap of its own, in which blocks have names; what it finds holds in any memory, whatever order the regions draw (EvSound).
-/
import GoSem.Claim
import GoSem.Dispatch
import Derived.Laws.AppendOwn
set_option linter.unusedVariables false
namespace Go.Proofs.YtpkfimijnkkbjaaGreat
namespace Ev

/-- Values over named blocks; 'opq' is a cell's value into which nobody looks. The words 'sint', 'sbool', 'sslice', 'soslice' mark what is not known as a literal. -/
inductive AV where
  | int (k : IntKind) (n : Int)
  | sint (k : IntKind) (n : Int)
  | bool (b : Bool)
  | sbool (b : Bool)
  | ptr (b off : Nat)
  | nilp
  | slice (b off len cap : Nat)
  | oslice (b sz k j len tot : Nat)
  | sslice (b off len cap : Nat)
  | soslice (b sz k j len tot : Nat)
  | nils
  | mapv (b : Nat)
  | nilm
  | func (f : FuncId) (first captured : List AV)
  | nilf
  | iface (t : TypeId) (v : AV)
  | nili
  | agg (l : List AV)
  | tup (l : List AV)
  | opq (v : Value)
  deriving Inhabited

/-- Blocks: rows of cells ('sym': its cells are not known as a list; 'opn': more cells may stand behind, of elements of so many cells), and maps of int keys. -/
inductive AObj where
  | row (sym : Bool) (l : List AV) (t : TypeId) (opn : Option Nat)
  | map (sym : Bool) (l : List (Int × AV))
  deriving Inhabited

/-- A tree of blocks by their names. -/
inductive Tr where
  | nil
  | node (o : Option AObj) (l r : Tr)
  deriving Inhabited

def Tr.look : Nat → Tr → Nat → Option AObj
  | 0, _, _ => none
  | _ + 1, .nil, _ => none
  | f + 1, .node o l r, b =>
    match Nat.beq b 0 with
    | true => o
    | false =>
      match Nat.beq (Nat.mod b 2) 1 with
      | true => Tr.look f l (Nat.div b 2)
      | false => Tr.look f r (Nat.div (Nat.sub b 1) 2)
def Tr.put : Nat → Tr → Nat → Option AObj → Tr
  | 0, t, _, _ => t
  | f + 1, .nil, b, x =>
    match Nat.beq b 0 with
    | true => .node x .nil .nil
    | false =>
      match Nat.beq (Nat.mod b 2) 1 with
      | true => .node none (Tr.put f .nil (Nat.div b 2) x) .nil
      | false => .node none .nil (Tr.put f .nil (Nat.div (Nat.sub b 1) 2) x)
  | f + 1, .node o l r, b, x =>
    match Nat.beq b 0 with
    | true => .node x l r
    | false =>
      match Nat.beq (Nat.mod b 2) 1 with
      | true => .node o (Tr.put f l (Nat.div b 2) x) r
      | false => .node o l (Tr.put f r (Nat.div (Nat.sub b 1) 2) x)

inductive Ans where
  | br (b : Bool)
  | val (l : List AV)
  deriving Inhabited

/-- What a run has: the blocks, the next name, which blocks were read (or written) and which were written or made, what must hold of what is not known, and what is to be answered of it. -/
structure St where
  heap : Tr
  next : Nat
  rd : Nat
  wr : Nat
  pre : Prop
  orc : List Ans

/-- What comes of a run; where it failed, a trail of numbers tells where (functions, and operations still ahead). -/
inductive Res (α : Type) where
  | fail (why : List Nat)
  | ok (a : α) (s : St)

def forceN {α : Type} (n : Nat) (k : Nat → α) : α :=
  match n with
  | 0 => k 0
  | m + 1 => k (m + 1)

def deep : Nat := 40
def St.get (s : St) (b : Nat) : Option AObj := Tr.look deep s.heap b

def mark (r b : Nat) : Nat := Nat.lor r (Nat.shiftLeft 1 b)

/-- Reading a block. -/
def rdBlk {α : Type} (s : St) (b : Nat) (k : AObj → St → Res α) : Res α :=
  match s with
  | ⟨h, n, r, w, p, o⟩ =>
    match Tr.look deep h b with
    | none => .fail []
    | some x => forceN (mark r b) fun r => k x ⟨h, n, r, w, p, o⟩
/-- Writing a block that there is. -/
def wrBlk {α : Type} (s : St) (b : Nat) (x : AObj) (a : α) : Res α :=
  match s with
  | ⟨h, n, r, w, p, o⟩ => forceN (mark r b) fun r => forceN (mark w b) fun w => .ok a ⟨Tr.put deep h b (some x), n, r, w, p, o⟩
/-- A new block. -/
def newBlk {α : Type} (s : St) (x : AObj) (k : Nat → α) : Res α :=
  match s with
  | ⟨h, n, r, w, p, o⟩ => forceN n fun n => forceN (mark r n) fun r => forceN (mark w n) fun w => forceN (n + 1) fun n' => .ok (k n) ⟨Tr.put deep h n (some x), n', r, w, p, o⟩
def ask (s : St) (q : Prop) : St :=
  match s with
  | ⟨h, n, r, w, p, o⟩ => ⟨h, n, r, w, p ∧ q, o⟩

abbrev Env := List (Nat × AV)
def Env.look : Env → Nat → Option AV
  | [], _ => none
  | (u, v) :: e, t => match Nat.beq u t with
    | true => some v
    | false => Env.look e t

/-- Constants that name no block. -/
def constS : Value → Option AV
  | .int k n => some (.int k n)
  | .bool b => some (.bool b)
  | .pointer none => some .nilp
  | .slice none 0 0 => some .nils
  | .map none => some .nilm
  | .nilFunc => some .nilf
  | .nilIface => some .nili
  | _ => none
def constL : List Value → Option (List AV)
  | [] => some []
  | v :: l => match constS v with
    | none => none
    | some a => match constL l with
      | none => none
      | some r => some (a :: r)
def constA : Value → Option AV
  | .agg cs => match constL cs.toList with
    | none => none
    | some l => some (.agg l)
  | v => constS v

def evA (env : Env) : Operand → Option AV
  | .tmp t => env.look t
  | .const v => constA v
  | .global _ => none
  | .func f => some (.func f [] [])

def evAs (env : Env) : List Operand → Option (List AV)
  | [] => some []
  | x :: l => match evA env x with
    | none => none
    | some a => match evAs env l with
      | none => none
      | some r => some (a :: r)

section types
variable (P : Program)
def sizeT (t : TypeId) : Nat := match P.info? t with
  | some i => i.size
  | none => 0
def aggT (t : TypeId) : Option Bool := match P.underlying t with
  | some (.struct _) => some true
  | some (.array _ _) => some true
  | some _ => some false
  | none => none
def zeroT (t : TypeId) : Option AV := match P.info? t with
  | some i => match i.zero with
    | some z => constA z
    | none => none
  | none => none
def fieldT (t : TypeId) (f : Nat) : Option Field := match P.underlying t with
  | some (.struct fs) => fs[f]?
  | _ => none
def elemT (t : TypeId) : Option TypeId := match P.underlying t with
  | some (.slice e) => some e
  | _ => none
def intT (t : TypeId) : Option IntKind := match P.underlying t with
  | some (.int k) => some k
  | _ => none
def methT (t : TypeId) (name : String) : Option FuncId := match P.info? t with
  | none => none
  | some i => match i.methods.find? (·.name == name) with
    | none => none
    | some m => match m.path.toList, m.func with
      | [], some (f, pr) =>
        match P.underlying t, pr with
        | some (.pointer _), true => some f
        | some (.pointer _), false => none
        | some (.interface _), _ => none
        | some _, false => some f
        | _, _ => none
      | _, _ => none
end types

def AV.cells : AV → List AV
  | .agg l => l
  | v => [v]

def getL : List AV → Nat → Option AV
  | [], _ => none
  | a :: _, 0 => some a
  | _ :: l, n + 1 => getL l n
def setL : List AV → Nat → AV → List AV
  | [], _, _ => []
  | _ :: l, 0, v => v :: l
  | a :: l, n + 1, v => a :: setL l n v
/-- So many cells from one on, if there are so many. -/
def cutL : List AV → Nat → Nat → Option (List AV)
  | _, _, 0 => some []
  | [], _, _ + 1 => none
  | a :: l, 0, n + 1 => match cutL l 0 n with
    | none => none
    | some r => some (a :: r)
  | _ :: l, o + 1, n + 1 => cutL l o (n + 1)
def layL : List AV → Nat → List AV → Option (List AV)
  | l, _, [] => some l
  | [], _, _ :: _ => none
  | _ :: l, 0, v :: vs => match layL l 0 vs with
    | none => none
    | some r => some (v :: r)
  | a :: l, o + 1, v :: vs => match layL l o (v :: vs) with
    | none => none
    | some r => some (a :: r)
def lenL : List AV → Nat
  | [] => 0
  | _ :: l => lenL l + 1
def repL (v : AV) : Nat → List AV
  | 0 => []
  | n + 1 => v :: repL v n

/-- Is a value no more than a cell? -/
def AV.flat : AV → Bool
  | .agg _ => false
  | .tup _ => false
  | _ => true
def flatL : List AV → Bool
  | [] => true
  | v :: l => match v.flat with
    | true => flatL l
    | false => false

/-- Some cells of a block. -/
def loadN {α : Type} (s : St) (b off n : Nat) (k : List AV → St → Res α) : Res α :=
  rdBlk s b fun x s => match x with
    | .row false l _ _ => match cutL l off n with
      | some vs => k vs s
      | none => .fail []
    | .row true l _ _ => match s with
      | ⟨h, nx, r, w, p, .val vs :: o⟩ => k vs ⟨h, nx, r, w, p ∧ vs.length = n ∧ ∀ i, i < n → l[off + i]? = vs[i]?, o⟩
      | _ => .fail []
    | .map _ _ => .fail []
def loadT {α : Type} (P : Program) (t : TypeId) (s : St) (b off : Nat) (k : AV → St → Res α) : Res α :=
  match aggT P t with
  | some true => loadN s b off (sizeT P t) fun vs s => k (.agg vs) s
  | some false => loadN s b off 1 fun vs s => match vs with
    | [v] => k v s
    | _ => .fail []
  | none => .fail []
def storeN {α : Type} (s : St) (b off : Nat) (vs : List AV) (a : α) : Res α :=
  rdBlk s b fun x s => match x with
    | .row false l t q => match flatL vs, layL l off vs with
      | true, some l' => wrBlk s b (.row false l' t q) a
      | _, _ => .fail []
    | .row true l t q => match flatL vs, vs with
      | true, [v] => wrBlk (ask s (off < l.length)) b (.row true (l.set off v) t q) a
      | true, _ => wrBlk (ask s (off + vs.length ≤ l.length)) b (.row true (l.take off ++ vs ++ l.drop (off + vs.length)) t q) a
      | _, _ => .fail []
    | .map _ _ => .fail []

/-- What a number's kind, and it, are. -/
def AV.num : AV → Option (Bool × IntKind × Int)
  | .int k n => some (false, k, n)
  | .sint k n => some (true, k, n)
  | _ => none
def mkI (sym : Bool) (k : IntKind) (n : Int) : AV := match sym with
  | true => .sint k n
  | false => .int k n
def mkB (sym : Bool) (b : Bool) : AV := match sym with
  | true => .sbool b
  | false => .bool b

def isCmp : BinOp → Bool
  | .eql | .neq | .lss | .leq | .gtr | .geq => true
  | _ => false
def cmpI (op : BinOp) (x y : Int) : Bool :=
  match op with
  | .eql => x == y
  | .neq => x != y
  | .lss => decide (x < y)
  | .leq => decide (x ≤ y)
  | .gtr => decide (x > y)
  | _ => decide (x ≥ y)
/-- What an operation gives, and whether it may be done. -/
def ariI (op : BinOp) (k : IntKind) (x y : Int) : Option (Int × Bool) :=
  match op with
  | .add => some (k.wrap (x + y), true)
  | .sub => some (k.wrap (x - y), true)
  | .mul => some (k.wrap (x * y), true)
  | .quo => some (k.wrap (x.tdiv y), y != 0)
  | .rem => some (x.tmod y, y != 0)
  | .and => some (k.wrap (BitVec.ofInt k.bits x &&& BitVec.ofInt k.bits y).toNat, true)
  | .or => some (k.wrap (BitVec.ofInt k.bits x ||| BitVec.ofInt k.bits y).toNat, true)
  | .xor => some (k.wrap (BitVec.ofInt k.bits x ^^^ BitVec.ofInt k.bits y).toNat, true)
  | .andNot => some (k.wrap (BitVec.ofInt k.bits x &&& ~~~ BitVec.ofInt k.bits y).toNat, true)
  | .shl => some (k.wrap (x * 2 ^ (min y.toNat k.bits)), decide (0 ≤ y))
  | .shr => some (x.fdiv (2 ^ (min y.toNat k.bits)), decide (0 ≤ y))
  | _ => none
/-- Whether an operation's kinds fit. -/
def sameK (op : BinOp) (k k' : IntKind) : Bool :=
  match op with
  | .shl | .shr => true
  | _ => decide (k = k')

def AV.boo : AV → Option (Bool × Bool)
  | .bool b => some (false, b)
  | .sbool b => some (true, b)
  | _ => none
/-- Equality of two cells of a type. -/
def eqC (d : Option TypeDesc) (a b : AV) : Option (Bool × Bool) :=
  match d with
  | some (.int _) => match a.num, b.num with
    | some (sx, k, x), some (sy, k', y) => match decide (k = k') with
      | true => some (sx || sy, x == y)
      | false => none
    | _, _ => none
  | some .bool => match a.boo, b.boo with
    | some (sx, x), some (sy, y) => some (sx || sy, x == y)
    | _, _ => none
  | _ => none
/-- Equality of two structs of cells. -/
def eqF (P : Program) : List Field → Nat → List AV → List AV → Option (Bool × Bool)
  | [], _, [], [] => some (false, true)
  | f :: fs, i, a :: l, b :: m => match Nat.beq f.offset i, f.name != "_", eqC (P.underlying f.type) a b with
    | true, true, some (sx, x) => match eqF P fs (i + 1) l m with
      | some (sy, y) => some (sx || sy, x && y)
      | none => none
    | _, _, _ => none
  | _, _, _, _ => none
/-- Equality: of bools, of nil and something else, and of structs of numbers and bools. -/
def eqT (P : Program) (t : TypeId) (lit : Bool) (x y : AV) : Option (Bool × Bool) :=
  match P.underlying t with
  | none => none
  | some d => match d, x, y with
    | .pointer _, .nilp, .nilp => some (false, true)
    | .pointer _, .ptr _ _, .nilp => some (false, false)
    | .pointer _, .nilp, .ptr _ _ => some (false, false)
    | .slice _, .nils, .nils => some (false, true)
    | .slice _, .slice _ _ _ _, .nils => some (false, false)
    | .slice _, .oslice _ _ _ _ _ _, .nils => some (false, false)
    | .slice _, .sslice _ _ _ _, .nils => some (false, false)
    | .slice _, .soslice _ _ _ _ _ _, .nils => some (false, false)
    | .func _ _ _, .nilf, .nilf => some (false, true)
    | .func _ _ _, .func _ _ _, .nilf => some (false, false)
    | .interface _, .iface _ _, .nili => some (false, false)
    | .interface _, .nili, .nili => match lit with
      | true => some (false, true)
      | false => none
    | .struct fs, .agg l, .agg m => match P.stoodInHeld t with
      | true => none
      | false => eqF P fs.toList 0 l m
    | .bool, a, b => eqC (some .bool) a b
    | _, _, _ => none

def isLit : Operand → Bool
  | .const _ => true
  | _ => false
/-- A bool: what is not known as a literal is answered. -/
def ansB (sym : Bool) (b : Bool) (s : St) : Res AV := match sym with
  | false => .ok (.bool b) s
  | true => match s with
    | ⟨h, n, r, w, p, .br c :: o⟩ => .ok (.bool c) ⟨h, n, r, w, p ∧ b = c, o⟩
    | _ => .fail []
def evBin (P : Program) (op : BinOp) (t : TypeId) (cx cy : Bool) (x y : AV) (s : St) : Res AV :=
  match x.num, y.num with
  | some (sx, k, a), some (sy, k', b) =>
    match sameK op k k' with
    | false => .fail []
    | true =>
      match isCmp op with
      | true => ansB (sx || sy) (cmpI op a b) s
      | false => match ariI op k a b with
        | none => .fail []
        | some (v, g) => match (sx || sy) with
          | true => .ok (.sint k v) (ask s (g = true))
          | false => match g with
            | true => .ok (.int k v) s
            | false => .fail []
  | _, _ =>
    match op with
    | .eql => match eqT P t (cx || cy) x y with
      | some (sy, b) => ansB sy b s
      | none => .fail []
    | .neq => match eqT P t (cx || cy) x y with
      | some (sy, b) => ansB sy (!b) s
      | none => .fail []
    | _ => .fail []

/-- Parts laid into cells. -/
def fillL (place : Nat → Option (Nat × Nat)) : List AV → List (Nat × AV) → Option (List AV)
  | cells, [] => some cells
  | cells, (i, v) :: rest =>
    match place i with
    | none => none
    | some (off, size) => match Nat.beq (lenL v.cells) size, Nat.ble 1 size with
      | false, _ | _, false => none
      | true, true => match layL cells off v.cells with
        | none => none
        | some c => fillL place c rest
def evParts (env : Env) : List (Nat × Operand) → Option (List (Nat × AV))
  | [] => some []
  | (i, x) :: l => match evA env x with
    | none => none
    | some a => match evParts env l with
      | none => none
      | some r => some ((i, a) :: r)
def repC (c : List AV) : Nat → List AV
  | 0 => []
  | n + 1 => c ++ repC c n

def findM (k : Int) : List (Int × AV) → Option AV
  | [] => none
  | (j, v) :: l => match decide (k = j) with
    | true => some v
    | false => findM k l
def putM (k : Int) (v : AV) : List (Int × AV) → List (Int × AV)
  | [] => [(k, v)]
  | (j, u) :: l => match decide (k = j) with
    | true => (k, v) :: l
    | false => (j, u) :: putM k v l

def room : Nat := 140737488355328

/-- Where a slice's elements are, and how many. -/
def AV.sl (sz : Nat) : AV → Option (Option (Nat × Nat) × Nat)
  | .nils => some (none, 0)
  | .slice b off len _ => some (some (b, off), len)
  | .oslice b z k _ len tot => match Nat.beq z sz, Nat.ble (k + len) tot with
    | true, true => some (some (b, k * z), len)
    | _, _ => none
  | _ => none

/-- The cells of a slice. -/
def loadSl {α : Type} (s : St) (sz : Nat) (v : AV) (n : Nat) (k : List AV → St → Res α) : Res α :=
  match n with
  | 0 => k [] s
  | n' + 1 => match v.sl sz with
    | some (some (b, off), len) => match Nat.ble (n' + 1) len with
      | true => loadN s b off ((n' + 1) * sz) k
      | false => .fail []
    | _ => .fail []

/-- May a slice of elements of a type be so long? -/
def roomy (P : Program) (e : TypeId) (n : Nat) : Bool := Nat.ble (n * P.bytesOf e) room && Nat.ble n maxLen
def zeroOk (P : Program) (e : TypeId) : Bool := match zeroT P e with
  | some z => Nat.beq (lenL z.cells) (sizeT P e)
  | none => false
def AV.len : AV → Option Nat
  | .nils => some 0
  | .slice _ _ n _ => some n
  | .oslice _ _ _ _ n _ => some n
  | _ => none
/-- Where a slice that is not known as a literal stands: its block, from where on, how long, and what must hold. -/
def AV.sy (sz : Nat) : AV → Option (Nat × Nat × Nat × Prop)
  | .sslice b off len _ => some (b, off, len, True)
  | .soslice b z k _ len tot => match Nat.beq z sz with
    | true => some (b, k * z, len, k + len ≤ tot)
    | false => none
  | _ => none
/-- So many cells of a block, however many. -/
def loadS {α : Type} (s : St) (b off n : Nat) (k : List AV → St → Res α) : Res α :=
  rdBlk s b fun x s => match x with
    | .row _ l _ _ => k ((l.drop off).take n) (ask s (off + n ≤ l.length))
    | .map _ _ => .fail []
def evAppend (P : Program) (at1 at2 : TypeId) (x y : AV) (s : St) : Res AV :=
  match elemT P at1 with
  | none => .fail []
  | some e =>
    match Nat.beq at1 at2, Nat.ble 1 (sizeT P e), zeroOk P e, y.len with
    | true, true, true, some 0 =>
      match x with
      | .nils => .ok .nils s
      | .slice b off len cap => match Nat.ble len cap with
        | true => .ok (.slice b off len cap) s
        | false => .fail []
      | .oslice b z k j len tot => match Nat.ble (k + len) tot with
        | true => .ok (.oslice b z k j len tot) s
        | false => .fail []
      | _ => .fail []
    | true, true, true, some (m + 1) =>
      match x with
      | .nils => loadSl s (sizeT P e) y (m + 1) fun news s => match roomy P e (m + 1), flatL news with
        | true, true => newBlk s (.row false news e (some (sizeT P e))) fun b => .oslice b (sizeT P e) 0 0 (m + 1) (m + 1)
        | _, _ => .fail []
      | .slice b off len cap => match Nat.ble (len + (m + 1)) cap with
        | true => .fail []
        | false => loadSl s (sizeT P e) (.slice b off len cap) len fun old s => loadSl s (sizeT P e) y (m + 1) fun news s => match roomy P e (len + (m + 1)), flatL news with
          | true, true => newBlk s (.row false (old ++ news) e (some (sizeT P e))) fun b => .oslice b (sizeT P e) 0 0 (len + (m + 1)) (len + (m + 1))
          | _, _ => .fail []
      | .oslice b z 0 0 len tot => match Nat.beq z (sizeT P e), Nat.beq len tot with
        | true, true => loadSl s (sizeT P e) y (m + 1) fun news s => rdBlk s b fun o s => match o with
          | .row false old t (some z') => match Nat.beq t e, Nat.beq z' (sizeT P e), Nat.beq (lenL old) (len * sizeT P e), roomy P e (len + (m + 1)), flatL news with
            | true, true, true, true, true => match s with
              | ⟨h, n, r, w, p, oo⟩ => forceN (mark w b) fun w =>
                newBlk ⟨Tr.put deep h b none, n, r, w, p, oo⟩ (.row false (old ++ news) e (some (sizeT P e))) fun b' => .oslice b' (sizeT P e) 0 0 (len + (m + 1)) (len + (m + 1))
            | _, _, _, _, _ => .fail []
          | _ => .fail []
        | _, _ => .fail []
      | .soslice b z 0 0 len tot => match Nat.beq z (sizeT P e) with
        | true => loadSl s (sizeT P e) y (m + 1) fun news s => rdBlk s b fun o s => match o with
          | .row _ old t (some z') => match Nat.beq t e, Nat.beq z' (sizeT P e), flatL news with
            | true, true, true => match ask s (len = tot ∧ old.length = len * sizeT P e ∧ (len + (m + 1)) * P.bytesOf e ≤ room ∧ len + (m + 1) ≤ maxLen) with
              | ⟨h, n, r, w, p, oo⟩ => forceN (mark w b) fun w =>
                newBlk ⟨Tr.put deep h b none, n, r, w, p, oo⟩ (.row true (old ++ news) e (some (sizeT P e))) fun b' => .soslice b' (sizeT P e) 0 0 (len + (m + 1)) (len + (m + 1))
            | _, _, _ => .fail []
          | _ => .fail []
        | false => .fail []
      | _ => .fail []
    | true, true, true, none => match x, y.sy (sizeT P e) with
      | .slice b off 0 0, some (b', off', len, q) => match ask s q with
        | ⟨h, n, r, w, p, .br true :: oo⟩ => .ok (.slice b off 0 0) ⟨h, n, r, w, p ∧ len = 0, oo⟩
        | ⟨h, n, r, w, p, .br false :: oo⟩ => loadS ⟨h, n, r, w, p ∧ 0 < len ∧ len * P.bytesOf e ≤ room ∧ len ≤ maxLen, oo⟩ b' off' (len * sizeT P e) fun news s =>
          newBlk s (.row true news e (some (sizeT P e))) fun b => .soslice b (sizeT P e) 0 0 len len
        | _ => .fail []
      | _, _ => .fail []
    | _, _, _, _ => .fail []

def evMax : Bool → IntKind → Int → List AV → Option AV
  | sym, k, a, [] => some (mkI sym k a)
  | sym, k, a, y :: l => match y.num with
    | some (sy, _, b) => evMax (sym || sy) k (if b > a then b else a) l
    | none => none

def evBuiltin (P : Program) (b : Builtin) (argTypes : List TypeId) (args : List AV) (s : St) : Res AV :=
  match b, argTypes, args with
  | .len, [t], [x] => match P.underlying t, x with
    | some (.array n _), _ => .ok (.int .i64 n) s
    | some (.slice _), .nils => .ok (.int .i64 0) s
    | some (.slice _), .slice _ _ n _ => .ok (.int .i64 n) s
    | some (.slice _), .oslice _ _ _ _ n _ => .ok (.int .i64 n) s
    | some (.slice _), .sslice _ _ n _ => .ok (.sint .i64 n) s
    | some (.slice _), .soslice _ _ _ _ n _ => .ok (.sint .i64 n) s
    | _, _ => .fail []
  | .append, [t, u], [x, y] => evAppend P t u x y s
  | .max, _, x :: l => match x.num with
    | some (sy, k, a) => match evMax sy k a l with
      | some v => .ok v s
      | none => .fail []
    | none => .fail []
  | .copy, [t, u], [.slice b off len cap, y] => match elemT P t, Nat.beq t u, y.len with
    | some e, true, some m => match Nat.beq (sizeT P e) 1 with
      | true => match Nat.min m len with
        | 0 => .ok (.int .i64 0) s
        | n + 1 => loadSl s (sizeT P e) y (n + 1) fun vs s => match vs with
          | [] => .fail []
          | v :: vs => storeN s b off (v :: vs) (.int .i64 (n + 1 : Nat))
      | false => .fail []
    | _, _, _ => .fail []
  | .copy, [t, u], [.sslice b off len cap, y] => match elemT P t, Nat.beq t u with
    | some e, true => match Nat.beq (sizeT P e) 1, y with
      | true, .nils => .ok (.int .i64 0) s
      | true, y => match y.sy 1 with
        | some (b', off', m, q) => loadS (ask s (q ∧ m ≤ len)) b' off' m fun vs s => rdBlk s b fun o s => match o with
          | .row _ l t qq => wrBlk (ask s (off + vs.length ≤ l.length ∧ ∀ v ∈ vs, v.flat = true)) b (.row true (l.take off ++ vs ++ l.drop (off + vs.length)) t qq) (.sint .i64 (m : Nat))
          | .map _ _ => .fail []
        | none => .fail []
      | _, _ => .fail []
    | _, _ => .fail []
  | _, _, _ => .fail []

def bnd : Option AV → Option (Option Nat)
  | none => some none
  | some (.int _ (.ofNat n)) => some (some n)
  | _ => none
/-- A slice of a slice. -/
def slA (sz : Nat) (x : AV) (l h m : Option Nat) : Option AV :=
  match x with
  | .slice b off len cap => match h, m with
    | none, some _ => none
    | _, _ => match Nat.ble (m.getD cap) cap, Nat.ble (h.getD len) (m.getD cap), Nat.ble (l.getD 0) (h.getD len) with
      | true, true, true => some (.slice b (match Nat.beq (m.getD cap) (l.getD 0) with | true => off | false => off + l.getD 0 * sz) (h.getD len - l.getD 0) (m.getD cap - l.getD 0))
      | _, _, _ => none
  | .oslice b z k j len tot => match Nat.beq z sz, Nat.ble (k + len) tot with
    | true, true => match h, m with
      | none, none => match Nat.ble 1 (l.getD 0), Nat.ble (l.getD 0) len with
        | true, true => some (.oslice b z (k + l.getD 0) k (len - l.getD 0) tot)
        | _, _ => none
      | some h, none => match Nat.beq (l.getD 0) 0, Nat.beq k 0, Nat.beq j 0, Nat.ble h len with
        | true, true, true, true => some (.oslice b z 0 0 h tot)
        | _, _, _, _ => none
      | some h, some m => match Nat.beq (l.getD 0) 0, Nat.beq k 0, Nat.beq j 0, Nat.ble h m, Nat.ble m len with
        | true, true, true, true, true => some (.slice b 0 h m)
        | _, _, _, _, _ => none
      | _, _ => none
    | _, _ => none
  | .nils => match l, h, m with
    | none, none, none => some .nils
    | _, _, _ => none
  | _ => none
/-- The same, of one that is not known as a literal; and what must hold. -/
def slS (sz : Nat) (x : AV) (l h m : Option Nat) : Option (AV × Prop) :=
  match x with
  | .sslice b off _ _ => match Nat.beq (l.getD 0) 0, h, m with
    | true, some 0, some 0 => some (.slice b off 0 0, True)
    | _, _, _ => none
  | .soslice b z k j len tot => match h, m with
    | some 0, some 0 => match Nat.beq (l.getD 0) 0, Nat.beq k 0, Nat.beq j 0 with
      | true, true, true => some (.slice b 0 0 0, True)
      | _, _, _ => none
    | none, none => match Nat.beq z sz with
      | true => some (.soslice b z (k + l.getD 0) k (len - l.getD 0) tot, 1 ≤ l.getD 0 ∧ l.getD 0 ≤ len ∧ k + len ≤ tot)
      | false => none
    | _, _ => none
  | _ => none
def evSlice (P : Program) (t : TypeId) (x : AV) (lo hi mx : Option AV) (s : St) : Res AV :=
  match elemT P t, bnd lo, bnd hi, bnd mx with
  | some e, some l, some h, some m => match Nat.ble 1 (sizeT P e) with
    | true => match slA (sizeT P e) x l h m with
      | some v => .ok v s
      | none => match slS (sizeT P e) x l h m with
        | some (v, q) => .ok v (ask s q)
        | none => .fail []
    | false => .fail []
  | _, _, _, _ => .fail []

/-- Is an address within reach? -/
def idx (sym : Bool) (i : Int) (len : Nat) (s : St) (k : Nat → St → Res AV) : Res AV :=
  match sym with
  | true => k i.toNat (ask s (0 ≤ i ∧ i < len))
  | false => match i with
    | .ofNat n => match Nat.ble (n + 1) len with
      | true => k n s
      | false => .fail []
    | _ => .fail []

/-- Does a type lack one of the methods? -/
def lacks (want : Array (String × TypeId)) (got : Array Method) : Bool := want.toList.any fun (name, sig) => !got.any fun m => m.name == name && m.sig == sig

/-- An operation that is no call. -/
def evOp (P : Program) (env : Env) (o : Op) (s : St) : Res AV :=
  match o with
  | .move x | .assign x => match evA env x with
    | some v => .ok v s
    | none => .fail []
  | .pick c a b => match evA env c with
    | some (.bool true) => (match evA env a with | some v => .ok v s | none => .fail [])
    | some (.bool false) => (match evA env b with | some v => .ok v s | none => .fail [])
    | some (.sbool q) => match s with
      | ⟨h, n, r, w, p, .br true :: o⟩ => (match evA env a with | some v => .ok v ⟨h, n, r, w, p ∧ q = true, o⟩ | none => .fail [])
      | ⟨h, n, r, w, p, .br false :: o⟩ => (match evA env b with | some v => .ok v ⟨h, n, r, w, p ∧ q = false, o⟩ | none => .fail [])
      | _ => .fail []
    | _ => .fail []
  | .alloc e => match zeroT P e with
    | some z => newBlk s (.row false z.cells e none) fun b => .ptr b 0
    | none => .fail []
  | .box e x => match evA env x with
    | some v => newBlk s (.row false v.cells e none) fun b => .ptr b 0
    | none => .fail []
  | .build t parts => match zeroT P t, evParts env parts.toList with
    | some z, some ps => match P.underlying t with
      | some (.struct fs) => match fs.toList.all (fun f => (P.info? f.type).isSome), fillL (fun i => match fs[i]? with | some f => some (f.offset, sizeT P f.type) | none => none) z.cells ps with
        | true, some c => .ok (.agg c) s
        | _, _ => .fail []
      | some (.array _ e) => match Nat.ble 1 (sizeT P e), fillL (fun i => some (i * sizeT P e, sizeT P e)) z.cells ps with
        | true, some c => .ok (.agg c) s
        | _, _ => .fail []
      | _ => .fail []
    | _, _ => .fail []
  | .buildSlice t len parts => match elemT P t, evParts env parts.toList with
    | some e, some ps => match zeroT P e with
      | some z => match Nat.ble 1 (sizeT P e), Nat.beq (lenL z.cells) (sizeT P e), Nat.ble (len * sizeT P e) 16777216 with
        | true, true, true => match fillL (fun i => some (i * sizeT P e, sizeT P e)) (repC z.cells len) ps with
          | some c => newBlk s (.row false c e none) fun b => .slice b 0 len len
          | none => .fail []
        | _, _, _ => .fail []
      | none => .fail []
    | _, _ => .fail []
  | .load t x => match evA env x with
    | some (.ptr b off) => loadT P t s b off fun v s => .ok v s
    | _ => .fail []
  | .store t x y => match evA env x, evA env y with
    | some (.ptr b off), some v => match Nat.beq (lenL v.cells) (sizeT P t), Nat.ble 1 (sizeT P t) with
      | true, true => storeN s b off v.cells (.tup [])
      | _, _ => .fail []
    | _, _ => .fail []
  | .nilCheck x => match evA env x with
    | some (.ptr b o) => .ok (.ptr b o) s
    | some (.iface t v) => .ok (.iface t v) s
    | some (.func f a b) => .ok (.func f a b) s
    | _ => .fail []
  | .binOp op t x y _ => match evA env x, evA env y with
    | some a, some b => evBin P op t (isLit x) (isLit y) a b s
    | _, _ => .fail []
  | .unOp op _ x => match op, evA env x with
    | .not, some (.bool b) => .ok (.bool !b) s
    | .not, some (.sbool b) => .ok (.sbool !b) s
    | _, _ => .fail []
  | .convert src dst x => match intT P src, intT P dst, evA env x with
    | some _, some k, some (.int _ n) => .ok (.int k (k.wrap n)) s
    | some _, some k, some (.sint _ n) => .ok (.sint k (k.wrap n)) s
    | _, _, _ => .fail []
  | .makeInterface t x => match P.underlying t, evA env x with
    | some (.interface _), _ => .fail []
    | some _, some v => .ok (.iface t v) s
    | _, _ => .fail []
  | .makeFunc fn first captured => match fn, evAs env first.toList, evAs env captured.toList with
    | .func f, some a, some b => .ok (.func f a b) s
    | _, _, _ => .fail []
  | .makeMap _ none => newBlk s (.map false []) fun b => .mapv b
  | .makeSlice t l c => match elemT P t, evA env l, evA env c with
    | some e, some (.int _ (.ofNat len)), some (.int _ (.ofNat cap)) => match zeroT P e with
      | some z => match Nat.ble len cap, Nat.beq (sizeT P e) 1, Nat.beq (lenL z.cells) 1, Nat.ble (cap * P.bytesOf e) room, Nat.ble cap maxLen with
        | true, true, true, true, true => newBlk s (.row false (repC z.cells cap) e none) fun b => .slice b 0 len cap
        | _, _, _, _, _ => .fail []
      | none => .fail []
    | some e, some (.sint k len), some (.sint _ cap) => match zeroT P e with
      | some z => match Nat.beq (sizeT P e) 1, z.cells with
        | true, [u] => newBlk (ask s (0 ≤ len ∧ cap = len ∧ len.toNat * P.bytesOf e ≤ room ∧ len.toNat ≤ maxLen)) (.row true (List.replicate len.toNat u) e none) fun b => .sslice b 0 len.toNat len.toNat
        | _, _ => .fail []
      | none => .fail []
    | _, _, _ => .fail []
  | .slice t x lo hi mx =>
    match evA env x,
      (match lo with | none => some none | some y => (match evA env y with | some v => some (some v) | none => none)),
      (match hi with | none => some none | some y => (match evA env y with | some v => some (some v) | none => none)),
      (match mx with | none => some none | some y => (match evA env y with | some v => some (some v) | none => none)) with
    | some v, some l, some h, some m => evSlice P t v l h m s
    | _, _, _, _ => .fail []
  | .fieldAddr t x f => match evA env x, fieldT P t f with
    | some (.ptr b off), some fd => match Nat.beq (sizeT P fd.type) 0 with
      | false => forceN fd.offset fun o => .ok (.ptr b (off + o)) s
      | true => .fail []
    | _, _ => .fail []
  | .field t x f => match evA env x, fieldT P t f with
    | some (.agg cs), some fd => match aggT P fd.type with
      | none => .fail []
      | some true => (match cutL cs fd.offset (sizeT P fd.type) with | some l => .ok (.agg l) s | none => .fail [])
      | some false => (match getL cs fd.offset with | some v => .ok v s | none => .fail [])
    | _, _ => .fail []
  | .indexAddr t x i => match evA env x, evA env i with
    | some v, some j => match j.num with
      | some (sy, _, n) => match P.underlying t, v with
        | some (.array len e), .ptr b off => match Nat.ble 1 (sizeT P e) with
          | true => forceN (sizeT P e) fun z => idx sy n len s fun n s => .ok (.ptr b (off + n * z)) s
          | false => .fail []
        | some (.slice e), .slice b off len _ => match Nat.ble 1 (sizeT P e) with
          | true => forceN (sizeT P e) fun z => idx sy n len s fun n s => .ok (.ptr b (off + n * z)) s
          | false => .fail []
        | some (.slice e), .oslice b z k _ len tot => match Nat.ble 1 (sizeT P e), Nat.beq z (sizeT P e), Nat.ble (k + len) tot with
          | true, true, true => idx sy n len s fun n s => .ok (.ptr b ((k + n) * z)) s
          | _, _, _ => .fail []
        | some (.slice e), .sslice b off len _ => match Nat.ble 1 (sizeT P e) with
          | true => forceN (sizeT P e) fun z => idx true n len s fun n s => .ok (.ptr b (off + n * z)) s
          | false => .fail []
        | some (.slice e), .soslice b z k _ len tot => match Nat.ble 1 (sizeT P e), Nat.beq z (sizeT P e) with
          | true, true => idx true n len (ask s (k + len ≤ tot)) fun n s => .ok (.ptr b ((k + n) * z)) s
          | _, _ => .fail []
        | _, _ => .fail []
      | none => .fail []
    | _, _ => .fail []
  | .index t x i => match evA env x, evA env i, P.underlying t with
    | some (.agg cs), some (.int _ (.ofNat n)), some (.array len e) => match Nat.ble (n + 1) len with
      | true => match aggT P e with
        | none => .fail []
        | some true => (match cutL cs (n * sizeT P e) (sizeT P e) with | some l => .ok (.agg l) s | none => .fail [])
        | some false => (match getL cs (n * sizeT P e) with | some v => .ok v s | none => .fail [])
      | false => .fail []
    | _, _, _ => .fail []
  | .lookup t x i ok => match P.underlying t, evA env x, evA env i with
    | some (.map kt e), some (.mapv b), some kv => match intT P kt, zeroT P e, kv.num with
      | some .i64, some z, some (sk, .i64, k) => rdBlk s b fun o s => match o with
        | .map false l => match sk with
          | true => .fail []
          | false => match findM k l with
            | some v => .ok (match ok with | true => .tup [v, .bool true] | false => v) s
            | none => .ok (match ok with | true => .tup [z, .bool false] | false => z) s
        | .map true l => match s with
          | ⟨h, n, r, w, p, .val [v] :: o⟩ => .ok (match ok with | true => .tup [v, .bool true] | false => v) ⟨h, n, r, w, p ∧ findM k l = some v, o⟩
          | ⟨h, n, r, w, p, .val [] :: o⟩ => .ok (match ok with | true => .tup [z, .bool false] | false => z) ⟨h, n, r, w, p ∧ findM k l = none, o⟩
          | _ => .fail []
        | _ => .fail []
      | _, _, _ => .fail []
    | _, _, _ => .fail []
  | .mapUpdate t x i y => match P.underlying t, evA env x, evA env i, evA env y with
    | some (.map kt _), some (.mapv b), some kv, some v => match intT P kt, kv.num with
      | some .i64, some (sk, .i64, k) => rdBlk s b fun o s => match o with
        | .map sy l => wrBlk s b (.map (sy || sk) (putM k v l)) (.tup [])
        | _ => .fail []
      | _, _ => .fail []
    | _, _, _, _ => .fail []
  | .typeAssert x _ t true => match evA env x, P.underlying t with
    | some (.iface d v), some (.interface want) => match P.info? d with
      | some i => match lacks want i.methods with
        | false => .ok (.tup [.iface d v, .bool true]) s
        | true => match zeroT P t with
          | some z => .ok (.tup [z, .bool false]) s
          | none => .fail []
      | none => .fail []
    | _, _ => .fail []
  | .extract x i => match evA env x with
    | some (.tup l) => (match getL l i with | some v => .ok v s | none => .fail [])
    | _ => .fail []
  | _ => .fail []

def evCallOp (P : Program) (call : FuncId → List AV → St → Res AV) (env : Env) (c : Call) (s : St) : Res AV :=
  match evAs env c.args.toList with
  | none => .fail []
  | some args =>
    match c.callee with
    | .builtin b => evBuiltin P b c.argTypes.toList args s
    | .value f => match evA env f with
      | some (.func g first captured) => call g (first ++ (args ++ captured)) s
      | _ => .fail []
    | .invoke r name => match evA env r with
      | some (.iface t v) => match methT P t name with
        | some g => call g (v :: args) s
        | none => .fail []
      | _ => .fail []

def evAny (P : Program) (call : FuncId → List AV → St → Res AV) (env : Env) (o : Op) (s : St) : Res AV :=
  match o with
  | .call c => evCallOp P call env c s
  | o => evOp P env o s

def putE (nt : Nat) (dst : Option Tmp) (v : AV) (env : Env) : Option Env :=
  match dst with
  | none => some env
  | some d => match Nat.blt d nt with
    | true => some ((d, v) :: env)
    | false => none

/-- An operation within a region, if it is wanted. -/
def evOper (P : Program) (call : FuncId → List AV → St → Res AV) (ops : Array Oper) (o : Oper) (env : Env) (s : St) : Res AV :=
  match o.guard with
  | none => evAny P call env o.op s
  | some (g, want) =>
    match (match ops[g]? with | some og => og.dst | none => none) with
    | none => .fail []
    | some t => match env.look t with
      | some (.sbool q) => match s with
        | ⟨h, n, r, w, p, .br b :: oo⟩ => match (b == want) with
          | true => evAny P call env o.op ⟨h, n, r, w, p ∧ q = b, oo⟩
          | false => .ok (.tup []) ⟨h, n, r, w, p ∧ q = b, oo⟩
        | _ => .fail []
      | some (.bool b) => match (b == want) with
        | true => evAny P call env o.op s
        | false => .ok (.tup []) s
      | some (.tup []) => .ok (.tup []) s
      | _ => .fail []

def evText (P : Program) (call : FuncId → List AV → St → Res AV) (nt : Nat) (ops : Array Oper) : List Oper → Env → St → Res Env
  | [], env, s => .ok env s
  | o :: l, env, s => match evOper P call ops o env s with
    | .ok v s => match putE nt o.dst v env with
      | some env => evText P call nt ops l env s
      | none => .fail []
    | .fail y => .fail (l.length :: y)

/-- Which operations stand ahead of each, each as a set of numbers. -/
def aheadOf (edges : List Edge) (tab : List Nat) : Nat :=
  match edges with
  | [] => 0
  | e :: l => match Region.binds .any e with
    | true => Nat.lor (mark ((tab[e.on]?).getD 0) e.on) (aheadOf l tab)
    | false => aheadOf l tab
def aheadTab : List Oper → List Nat → List Nat
  | [], tab => tab
  | o :: l, tab => aheadTab l (tab ++ [aheadOf o.after.toList tab])

/-- Which slots an operation looks at. -/
def looks (ops : Array Oper) (o : Oper) : List Tmp :=
  (o.op.operands.toList.filterMap fun | .tmp t => some t | _ => none) ++
  (match o.guard with
   | some (g, _) => (match ops[g]? with | some og => (match og.dst with | some t => [t] | none => []) | none => [])
   | none => [])

/-- May a region's operations be done in any order, as far as its slots go? -/
def pairOk (ops : Array Oper) (ti tj : Nat) (i j : Nat) (oi oj : Oper) : Bool :=
  Nat.testBit tj i ||
  ((match oi.dst with
    | some d => !(looks ops oj).contains d && oj.dst != some d
    | none => true) &&
   (match oj.dst with
    | some d => !(looks ops oi).contains d
    | none => true))
def rowOk (ops : Array Oper) (tab : List Nat) (j : Nat) (oj : Oper) : List Oper → Nat → Bool
  | [], _ => true
  | oi :: l, i => match Nat.blt i j with
    | true => pairOk ops 0 ((tab[j]?).getD 0) i j oi oj && rowOk ops tab j oj l (i + 1)
    | false => true
def slotsOk (ops : Array Oper) (tab : List Nat) : List Oper → Nat → Bool
  | [], _ => true
  | o :: l, j => o.after.toList.all (fun e => !Region.binds .any e || Nat.blt e.on j) && rowOk ops tab j o ops.toList 0 && slotsOk ops tab l (j + 1)
def drawOk (ops : Array Oper) : Bool := slotsOk ops (aheadTab ops.toList []) ops.toList 0

/-- Does an operation not meddle with the earlier ones that it does not wait for? -/
def clear (tj rd wr : Nat) : List (Nat × Nat × Nat) → Bool
  | [] => true
  | (i, r, w) :: l =>
    match Nat.testBit tj i with
    | true => clear tj rd wr l
    | false => match Nat.beq (Nat.land w rd) 0, Nat.beq (Nat.land r wr) 0 with
      | true, true => clear tj rd wr l
      | _, _ => false

def evDraw (P : Program) (call : FuncId → List AV → St → Res AV) (nt : Nat) (ops : Array Oper) (tab : List Nat) : List Oper → Nat → Env → List (Nat × Nat × Nat) → Nat → Nat → St → Res Env
  | [], _, env, _, ar, aw, s => match s with
    | ⟨h, n, _, _, p, oo⟩ => .ok env ⟨h, n, ar, aw, p, oo⟩
  | o :: l, j, env, recs, ar, aw, s =>
    match s with
    | ⟨h, n, _, _, p, oo⟩ =>
      match evOper P call ops o env ⟨h, n, 0, 0, p, oo⟩ with
      | .fail y => .fail (l.length :: y)
      | .ok v ⟨h, n, r, w, p, oo⟩ =>
        match (match Nat.beq (Nat.land w ar) 0, Nat.beq (Nat.land r aw) 0 with
          | true, true => true
          | _, _ => clear ((tab[j]?).getD 0) r w recs) with
        | false => .fail (1000 :: l.length :: [])
        | true => match putE nt o.dst v env with
          | none => .fail []
          | some env => forceN (Nat.lor ar r) fun ar => forceN (Nat.lor aw w) fun aw => evDraw P call nt ops tab l (j + 1) env ((j, r, w) :: recs) ar aw ⟨h, n, r, w, p, oo⟩

def evRegion (P : Program) (call : FuncId → List AV → St → Res AV) (nt : Nat) (ops : Array Oper) (draw : Bool) (env : Env) (s : St) : Res Env :=
  match draw with
  | false => evText P call nt ops ops.toList env s
  | true => match drawOk ops with
    | false => .fail []
    | true => match s with
      | ⟨h, n, r, w, p, oo⟩ =>
        match evDraw P call nt ops (aheadTab ops.toList []) ops.toList 0 env [] 0 0 ⟨h, n, 0, 0, p, oo⟩ with
        | .fail y => .fail y
        | .ok env ⟨h, n, r', w', p, oo⟩ => forceN (Nat.lor r r') fun r => forceN (Nat.lor w w') fun w => .ok env ⟨h, n, r, w, p, oo⟩

inductive Ex where
  | normal
  | ret
  | exit (id : Nat)

def evCode (P : Program) (call : FuncId → List AV → St → Res AV) (nt : Nat) : Nat → Code → Env → St → Res (Ex × Env)
  | 0, _, _, _ => .fail []
  | f + 1, c, env, s =>
    match c with
    | .skip => .ok (.normal, env) s
    | .region id ops draw => match evRegion P call nt ops draw env s with
      | .ok env s => .ok (.normal, env) s
      | .fail y => .fail (id :: y)
    | .seq a b => match evCode P call nt f a env s with
      | .ok (.normal, env) s => evCode P call nt f b env s
      | r => r
    | .cond x a b => match evA env x with
      | some (.bool true) => evCode P call nt f a env s
      | some (.bool false) => evCode P call nt f b env s
      | some (.sbool q) => match s with
        | ⟨h, n, r, w, p, .br true :: o⟩ => evCode P call nt f a env ⟨h, n, r, w, p ∧ q = true, o⟩
        | ⟨h, n, r, w, p, .br false :: o⟩ => evCode P call nt f b env ⟨h, n, r, w, p ∧ q = false, o⟩
        | _ => .fail []
      | _ => .fail []
    | .block id a => match evCode P call nt f a env s with
      | .ok (.exit i, env) s => match Nat.beq i id with
        | true => .ok (.normal, env) s
        | false => .ok (.exit i, env) s
      | r => r
    | .loop a => match evCode P call nt f a env s with
      | .ok (.normal, env) s => evCode P call nt f (.loop a) env s
      | r => r
    | .exit id => .ok (.exit id, env) s
    | .ret => .ok (.ret, env) s
    | _ => .fail []

def evResults (P : Program) (env : Env) : List ResultVar → St → Res (List AV)
  | [], s => .ok [] s
  | .tmp t :: l, s => match env.look t with
    | none => .fail []
    | some v => match evResults P env l s with
      | .ok r s => .ok (v :: r) s
      | .fail y => .fail y
  | .cell a t :: l, s => match env.look a with
    | some (.ptr b off) => loadT P t s b off fun v s => match evResults P env l s with
      | .ok r s => .ok (v :: r) s
      | .fail y => .fail y
    | _ => .fail []

def argsE : List AV → Nat → Env
  | [], _ => []
  | v :: l, i => (i, v) :: argsE l (i + 1)

/-- What is known of functions without running them. -/
abbrev Sums := FuncId → Option (List AV → St → Res AV)
def evFn (P : Program) (sm : Sums) : Nat → FuncId → List AV → St → Res AV
  | 0, _, _, _ => .fail []
  | d + 1, f, args, s =>
    match sm f with
    | some g => g args s
    | none => match P.funcs[f]? with
      | none => .fail []
      | some fn => match fn.body with
        | none => .fail []
        | some c => match Nat.ble (lenL args) fn.ntmps with
          | false => .fail []
          | true => match evCode P (evFn P sm d) fn.ntmps 100000 c (argsE args 0) s with
            | .fail y => .fail (f :: y)
            | .ok (x, env) s => match x with
              | .exit _ => .fail []
              | _ => match evResults P env fn.results.toList s with
                | .fail y => .fail y
                | .ok [v] s => .ok v s
                | .ok vs s => .ok (.tup vs) s
def noSums : Sums := fun _ => none

def st0 : St := ⟨.nil, 0, 0, 0, True, []⟩

def Res.isTrue : Res AV → Bool
  | .ok (.bool true) _ => true
  | _ => false
end Ev
end Go.Proofs.YtpkfimijnkkbjaaGreat
