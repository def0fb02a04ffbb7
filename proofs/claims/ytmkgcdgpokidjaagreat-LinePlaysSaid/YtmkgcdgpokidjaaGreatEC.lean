/- One operation, by its class: what it comes to. -/
import Derived.Test.YtmkgcdgpokidjaaGreatEB
set_option linter.unusedVariables false
namespace Go.Eng

def allOne : List Value → Bool
  | [] => true
  | v :: l => isOne v && allOne l
def setL (cs : List Value) (off : Nat) (vs : List Value) : List Value := cs.take off ++ (vs ++ cs.drop (off + vs.length))

def andI (k : IntKind) (x y : Int) : Int := k.wrap ((BitVec.ofInt k.bits x &&& BitVec.ofInt k.bits y).toNat : Int)
def orI (k : IntKind) (x y : Int) : Int := k.wrap ((BitVec.ofInt k.bits x ||| BitVec.ofInt k.bits y).toNat : Int)
def xorI (k : IntKind) (x y : Int) : Int := k.wrap ((BitVec.ofInt k.bits x ^^^ BitVec.ofInt k.bits y).toNat : Int)
def andNotI (k : IntKind) (x y : Int) : Int := k.wrap ((BitVec.ofInt k.bits x &&& ~~~BitVec.ofInt k.bits y).toNat : Int)
def shlI (k : IntKind) (x y : Int) : Int := k.wrap (x * 2 ^ (min y.toNat k.bits))
def shrI (k : IntKind) (x y : Int) : Int := x.fdiv (2 ^ (min y.toNat k.bits))
def quoI (k : IntKind) (x y : Int) : Int := k.wrap (x.tdiv y)
def minI (x y : Int) : Int := if y < x then y else x
def maxI (x y : Int) : Int := if y > x then y else x
def cutA (a : Option Addr) (l m size : Nat) : Option Addr := if m = l then a else a.map (·.add (l * size))
def strEq (x y : ByteArray) : Bool := x.toList == y.toList

/-- A part of a row of leaves, as a value of its type. -/
def partV (P : Program) (t : TypeId) (xs : List Value) (off : Nat) : Option Value :=
  match P.info? t with
  | some i => match P.underlying t with
    | some (.struct _) => some (.agg ((xs.drop off).take i.size).toArray)
    | some (.array _ _) => some (.agg ((xs.drop off).take i.size).toArray)
    | some _ => xs[off]?
    | none => none
  | none => none
def eqFs (P : Program) (f : TypeId → Value → Value → Option Bool) (xs ys : List Value) : List Field → Option Bool
  | [] => some true
  | [g] => match partV P g.type xs g.offset, partV P g.type ys g.offset with
    | some x, some y => f g.type x y
    | _, _ => none
  | g :: gs => match partV P g.type xs g.offset, partV P g.type ys g.offset with
    | some x, some y => match f g.type x y, eqFs P f xs ys gs with
      | some r, some r' => some (r && r')
      | _, _ => none
    | _, _ => none
def eqEs (P : Program) (f : TypeId → Value → Value → Option Bool) (e n : Nat) (xs ys : List Value) : List Nat → Option Bool
  | [] => some true
  | i :: is => match partV P e xs (i * n), partV P e ys (i * n) with
    | some x, some y => match f e x y, eqEs P f e n xs ys is with
      | some r, some r' => some (r && r')
      | _, _ => none
    | _, _ => none
def eqI : Value → Value → Option Bool
  | .int j a, .int j' b => match decide (j = j') with
    | true => some (a == b)
    | false => none
  | _, _ => none
def eqB : Value → Value → Option Bool
  | .bool a, .bool b => some (a == b)
  | _, _ => none
def eqS : Value → Value → Option Bool
  | .string a, .string b => some (strEq a b)
  | _, _ => none
def cellsOfAgg : Value → Option (List Value)
  | .agg xs => some xs.toList
  | _ => none
/-- '==' of two values of a type of numbers, bools, texts, structs and arrays of these. -/
def eqV (P : Program) : Nat → TypeId → Value → Value → Option Bool
  | 0, _, _, _ => none
  | d + 1, t, x, y => match P.underlying t with
    | some (.int _) => eqI x y
    | some .bool => eqB x y
    | some .string => eqS x y
    | some (.struct fs) => match cellsOfAgg x, cellsOfAgg y with
      | some xs, some ys => eqFs P (eqV P d) xs ys fs.toList
      | _, _ => none
    | some (.array n e) => match cellsOfAgg x, cellsOfAgg y with
      | some xs, some ys => match P.info? e with
        | some i => eqEs P (eqV P d) e i.size xs ys (List.range n)
        | none => none
      | _, _ => none
    | _ => none
/-- Types at which that is what '==' says. -/
def eqTy (P : Program) : Nat → TypeId → Bool
  | 0, _ => false
  | d + 1, t => match P.underlying t with
    | some (.int _) => true
    | some .bool => true
    | some .string => true
    | some (.struct fs) => !P.stoodInHeld t && fs.toList.all fun f => f.name != "_" && eqTy P d f.type
    | some (.array _ e) => eqTy P d e
    | _ => false

def binV (A : Ann) (P : Program) (op : BinOp) (t : TypeId) (x y : Value) (k : EV → Prop) : Prop :=
  match x, y with
  | .int j a, .int j' b => match op with
    | .shl => 0 ≤ b ∧ k (.val (.int j (shlI j a b)))
    | .shr => 0 ≤ b ∧ k (.val (.int j (shrI j a b)))
    | _ => match decide (j = j') with
      | false => False
      | true => match op with
        | .add => k (.val (.int j (j.wrap (a + b))))
        | .sub => k (.val (.int j (j.wrap (a - b))))
        | .mul => k (.val (.int j (j.wrap (a * b))))
        | .quo => b ≠ 0 ∧ k (.val (.int j (quoI j a b)))
        | .rem => b ≠ 0 ∧ k (.val (.int j (a.tmod b)))
        | .and => k (.val (.int j (andI j a b)))
        | .or => k (.val (.int j (orI j a b)))
        | .xor => k (.val (.int j (xorI j a b)))
        | .andNot => k (.val (.int j (andNotI j a b)))
        | .eql => k (.val (.bool (a == b)))
        | .neq => k (.val (.bool (a != b)))
        | .lss => k (.val (.bool (decide (a < b))))
        | .leq => k (.val (.bool (decide (a ≤ b))))
        | .gtr => k (.val (.bool (decide (a > b))))
        | .geq => k (.val (.bool (decide (a ≥ b))))
        | _ => False
  | .bool a, .bool b => match op, P.underlying t with
    | .eql, some .bool => k (.val (.bool (a == b)))
    | .neq, some .bool => k (.val (.bool (!(a == b))))
    | _, _ => False
  | .string a, .string b => match op with
    | .eql => k (.val (.bool (strEq a b)))
    | .neq => k (.val (.bool (!strEq a b)))
    | _ => False
  | .pointer p, .pointer none => match op, P.underlying t with
    | .eql, some (.pointer _) => k (.val (.bool p.isNone))
    | .neq, some (.pointer _) => k (.val (.bool (!p.isNone)))
    | _, _ => False
  | .slice a _ _, .slice none _ _ => match op, P.underlying t with
    | .eql, some (.slice _) => k (.val (.bool a.isNone))
    | .neq, some (.slice _) => k (.val (.bool (!a.isNone)))
    | _, _ => False
  | .agg xs, .agg ys => bif A.eqs t then
      (match op, eqV P 20 t (.agg xs) (.agg ys) with
      | .eql, some r => k (.val (.bool r))
      | .neq, some r => k (.val (.bool (!r)))
      | _, _ => False)
    else False
  | _, _ => False

def moveL (A : Ann) (dst : Option Tmp) (l : LV) (k : EV → Prop) : Prop :=
  match l with
  | .v v => k (.val v)
  | .r t off _ => match dst with
    | some d => bif isSomeEq (A.refOf d) t then k (.ref off) else k .unk
    | none => k .unk
  | .no => k .unk
def refTo (A : Ann) (dst : Option Tmp) (t off : Nat) (k : EV → Prop) : Prop :=
  match dst with
  | some d => bif isSomeEq (A.refOf d) t then k (.ref off) else False
  | none => False

def vals (ρ : Operand → LV) : List Operand → Option (List Value)
  | [] => some []
  | x :: l => match ρ x with
    | .v v => match vals ρ l with
      | some vs => some (v :: vs)
      | none => none
    | _ => none
def parts (ρ : Operand → LV) : List (Nat × Operand) → Option (List (Nat × Value))
  | [] => some []
  | (i, x) :: l => match ρ x with
    | .v v => match parts ρ l with
      | some vs => some ((i, v) :: vs)
      | none => none
    | _ => none

def isAggT (P : Program) (t : TypeId) : Bool :=
  match P.underlying t with
  | some (.struct _) => true
  | some (.array _ _) => true
  | _ => false
def zeroV (P : Program) (t : TypeId) : Option Value :=
  match P.info? t with
  | some i => i.zero
  | none => none
/-- The zero value of the type has as many cells as the type. -/
def zeroOk (P : Program) (t : TypeId) : Bool :=
  match P.info? t with
  | some i => match i.zero with
    | some z => Nat.beq z.cells.size i.size
    | none => false
  | none => false
def bytesT (P : Program) (t : TypeId) : Nat :=
  match P.info? t with
  | some i => i.bytes
  | none => 0
def sizeT (P : Program) (t : TypeId) : Option Nat :=
  match P.info? t with
  | some i => some i.size
  | none => none
def fitsT (P : Program) (c : Cdc) (t : TypeId) : Bool :=
  c.mem && (c.agg == isAggT P t) && (match sizeT P t with | some n => Nat.beq n c.n | none => false)

def getSl (agg : Bool) (n : Nat) (cs : List Value) (off : Nat) (k : EV → Prop) : Prop :=
  match agg with
  | true => bif Nat.ble (off + n) cs.length then k (.val (.agg ((cs.drop off).take n).toArray)) else False
  | false => match cs[off]? with
    | some v => k (.val v)
    | none => False
def loadLP (c : Cdc) (cs : List Value) (off : Nat) (K : c.T → Prop) : Prop := ∃ x, (∀ i v, (c.enc x).cells.toList[i]? = some v → cs[off + i]? = some v) ∧ K x
def storeLP (c : Cdc) (cs : List Value) (off : Nat) (vs : List Value) (K : c.T → Prop) : Prop := off + vs.length ≤ cs.length ∧ ∃ x, (c.enc x).cells.toList = setL cs off vs ∧ K x

def tmpOf : Operand → Option Tmp
  | .tmp t => some t
  | _ => none
def isDyn (A : Ann) (x : Operand) : Bool :=
  match x with
  | .tmp t => A.dyn.testBit t
  | _ => false
def isLocalOp (A : Ann) (x : Operand) : Bool :=
  match x with
  | .tmp t => A.isLocal t
  | _ => false

inductive Cls where
  | p | c | r | a | w
  deriving DecidableEq

def chanT (P : Program) (t : TypeId) : Bool :=
  match P.underlying t with
  | some (.chan _ _) => true
  | _ => false

def cls (A : Ann) (P : Program) (o : Oper) : Cls :=
  match o.op with
  | .load _ x => bif isLocalOp A x then .p else .r
  | .store _ x _ => bif isLocalOp A x then .p else .w
  | .alloc _ | .box _ _ => match o.dst with
    | some d => bif A.isProm d then .p else .a
    | none => .w
  | .buildSlice _ _ _ => .a
  | .makeSlice _ _ _ | .makeChan _ _ | .makeMap _ _ => .a
  | .convert src dst _ => match P.underlying src, P.underlying dst with
    | some (.int _), some (.int _) => .p
    | some (.slice _), some .string => .r
    | _, _ => .w
  | .call c => match c.callee with
    | .builtin .len => match c.argTypes[0]? with
      | some t => bif chanT P t then .r else .p
      | none => .w
    | .builtin .min => .p
    | .builtin .max => .p
    | .value (.func g) => bif A.pure g then .c else .w
    | _ => .w
  | .move _ | .assign _ | .pick _ _ _ | .build _ _ | .nilCheck _ | .binOp _ _ _ _ _ | .unOp _ _ _ | .makeInterface _ _ | .makeFunc _ _ _
  | .slice _ _ _ _ _ | .fieldAddr _ _ _ | .field _ _ _ | .indexAddr _ _ _ | .index _ _ _ | .extract _ _ => .p
  | _ => .w

/-- The slot that it turns: its own, or the variable that is stored into. -/
def effDst (A : Ann) (o : Oper) : Option Tmp :=
  match o.op with
  | .store _ (.tmp t) _ => bif A.isProm t then some t else A.refOf t
  | _ => o.dst

def fillS (P : Program) (fs : Array Field) (z : Array Value) (l : List (Nat × Value)) : Option (Array Value) :=
  bif fs.all (fun f => (sizeT P f.type).isSome) then Instr.fill (fun i => (fs[i]?).map fun f => (f.offset, P.cellsOf f.type)) z l else none
def fillA (P : Program) (e : TypeId) (z : Array Value) (l : List (Nat × Value)) : Option (Array Value) :=
  match sizeT P e with
  | some n => Instr.fill (fun i => some (i * n, n)) z l
  | none => none

def opP (A : Ann) (P : Program) (o : Oper) (ρ : Operand → LV) (k : EV → Prop) : Prop :=
  match o.op with
  | .move x => moveL A o.dst (ρ x) k
  | .assign x => moveL A o.dst (ρ x) k
  | .pick c a b => match ρ c with
    | .v (.bool t) => condP t (moveL A o.dst (ρ a) k) (moveL A o.dst (ρ b) k)
    | _ => False
  | .alloc elem => match zeroV P elem with
    | some z => k (.box z.cells.toList)
    | none => False
  | .box _ x => match ρ x with
    | .v v => k (.box v.cells.toList)
    | _ => False
  | .build t ps => match parts ρ ps.toList, zeroV P t, P.underlying t with
    | some l, some z, some (.struct fs) => match fillS P fs z.cells l with
      | some cs => k (.val (.agg cs))
      | none => False
    | some l, some z, some (.array _ e) => match fillA P e z.cells l with
      | some cs => k (.val (.agg cs))
      | none => False
    | _, _, _ => False
  | .nilCheck x => match ρ x with
    | .v (.pointer p) => nilP p fun a => k (.val (.pointer (some a)))
    | .v (.func (.func f) a b) => k (.val (.func (.func f) a b))
    | .r t off _ => refTo A o.dst t off k
    | _ => False
  | .binOp op t x y _ => match ρ x, ρ y with
    | .v x, .v y => binV A P op t x y k
    | _, _ => False
  | .unOp op _ x => match op, ρ x with
    | .neg, .v (.int j n) => k (.val (.int j (j.wrap (0 - n))))
    | .not, .v (.bool b) => k (.val (.bool (!b)))
    | _, _ => False
  | .convert src dst x => match P.underlying src, P.underlying dst, ρ x with
    | some (.int _), some (.int j), .v (.int _ n) => k (.val (.int j (j.wrap n)))
    | _, _, _ => False
  | .makeInterface t x => match P.underlying t, ρ x with
    | some (.interface _), _ => False
    | some _, .v v => k (.val (.iface t v))
    | _, _ => False
  | .makeFunc fn first captured => match vals ρ first.toList, vals ρ captured.toList with
    | some l, some m => k (.val (.func fn l.toArray m.toArray))
    | _, _ => False
  | .fieldAddr s x f => match P.underlying s with
    | some (.struct fs) => match fs[f]? with
      | some fd => match sizeT P fd.type with
        | some (_ + 1) => match ρ x with
          | .v (.pointer (some a)) => k (.val (.pointer (some (a.add fd.offset))))
          | .r t off _ => refTo A o.dst t (off + fd.offset) k
          | _ => False
        | _ => False
      | none => False
    | _ => False
  | .field s x f => match P.underlying s with
    | some (.struct fs) => match fs[f]? with
      | some fd => match sizeT P fd.type, ρ x with
        | some n, .v (.agg cs) => getSl (isAggT P fd.type) n cs.toList fd.offset k
        | _, _ => False
      | none => False
    | _ => False
  | .load t x => match sizeT P t, ρ x with
    | some n, .r _ off cs => bif isDyn A x then
        match A.cdc t with
        | some c => bif fitsT P c t then loadLP c cs off fun y => k (.val (c.enc y)) else False
        | none => False
      else getSl (isAggT P t) n cs off k
    | _, _ => False
  | .store t x y => match sizeT P t, ρ x, ρ y, o.dst with
    | some n, .r bt off cs, .v v, none => bif Nat.beq v.cells.size n && allOne v.cells.toList then
        (bif isDyn A x then
          match A.bcd bt with
          | some c => storeLP c cs off v.cells.toList fun z => k (.box (c.enc z).cells.toList)
          | none => False
        else bif Nat.ble (off + n) cs.length then k (.box (setL cs off v.cells.toList)) else False)
      else False
    | _, _, _, _ => False
  | .indexAddr t x ix => match P.underlying t, ρ ix with
    | some (.slice e), .v (.int _ i) => match sizeT P e, ρ x with
      | some n, .v (.slice a len _) => idxP a len i fun ad => k (.val (.pointer (some (ad.add (i.toNat * n)))))
      | _, _ => False
    | some (.array len e), .v (.int _ i) => match sizeT P e, ρ x with
      | some n, .v (.pointer (some a)) => atP len i (k (.val (.pointer (some (a.add (i.toNat * n))))))
      | some n, .r t off _ => atP len i (refTo A o.dst t (off + i.toNat * n) k)
      | _, _ => False
    | _, _ => False
  | .index t x ix => match P.underlying t, ρ x, ρ ix with
    | some .string, .v (.string s), .v (.int _ i) => atP s.size i (k (.val (.int .u8 ((s.data.getD i.toNat 0).toNat : Int))))
    | _, _, _ => False
  | .slice t x lo hi mx => match P.underlying t, ρ x with
    | some (.slice e), .v (.slice a len cap) => match sizeT P e with
      | none => False
      | some n => match lo.map ρ, hi.map ρ, mx.map ρ with
        | none, none, none => cutP len cap none none fun l h => k (.val (.slice (cutA a l cap n) (h - l) (cap - l)))
        | some (.v (.int _ i)), none, none => cutP len cap (some i) none fun l h => k (.val (.slice (cutA a l cap n) (h - l) (cap - l)))
        | none, some (.v (.int _ j)), none => cutP len cap none (some j) fun l h => k (.val (.slice (cutA a l cap n) (h - l) (cap - l)))
        | some (.v (.int _ i)), some (.v (.int _ j)), none => cutP len cap (some i) (some j) fun l h => k (.val (.slice (cutA a l cap n) (h - l) (cap - l)))
        | some (.v (.int _ i)), some (.v (.int _ j)), some (.v (.int _ m)) => cut3P cap (some i) j m fun l h m => k (.val (.slice (cutA a l m n) (h - l) (m - l)))
        | none, some (.v (.int _ j)), some (.v (.int _ m)) => cut3P cap none j m fun l h m => k (.val (.slice (cutA a l m n) (h - l) (m - l)))
        | _, _, _ => False
    | some .string, .v (.string s) => match lo.map ρ, hi.map ρ, mx with
        | some (.v (.int _ i)), none, none => cutP s.size s.size (some i) none fun l h => k (.val (.string (s.extract l h)))
        | none, some (.v (.int _ j)), none => cutP s.size s.size none (some j) fun l h => k (.val (.string (s.extract l h)))
        | some (.v (.int _ i)), some (.v (.int _ j)), none => cutP s.size s.size (some i) (some j) fun l h => k (.val (.string (s.extract l h)))
        | _, _, _ => False
    | some (.array n e), .v (.pointer (some a)) => match sizeT P e with
      | none => False
      | some z => match lo.map ρ, hi.map ρ, mx with
        | none, none, none => cutP n n none none fun l h => k (.val (.slice (cutA (some a) l n z) (h - l) (n - l)))
        | some (.v (.int _ i)), none, none => cutP n n (some i) none fun l h => k (.val (.slice (cutA (some a) l n z) (h - l) (n - l)))
        | none, some (.v (.int _ j)), none => cutP n n none (some j) fun l h => k (.val (.slice (cutA (some a) l n z) (h - l) (n - l)))
        | some (.v (.int _ i)), some (.v (.int _ j)), none => cutP n n (some i) (some j) fun l h => k (.val (.slice (cutA (some a) l n z) (h - l) (n - l)))
        | _, _, _ => False
    | _, _ => False
  | .extract x i => match ρ x with
    | .v (.tuple vs) => match vs[i]? with
      | some v => k (.val v)
      | none => False
    | _ => False
  | .call c => match c.callee, c.argTypes[0]?, vals ρ c.args.toList with
    | .builtin .len, some t, some [v] => match P.underlying t, v with
      | some .string, .string s => k (.val (.int .i64 (s.size : Int)))
      | some (.array n _), _ => k (.val (.int .i64 (n : Int)))
      | some (.slice _), .slice _ n _ => k (.val (.int .i64 (n : Int)))
      | _, _ => False
    | .builtin .min, _, some [.int j x, .int _ y] => k (.val (.int j (minI x y)))
    | .builtin .max, _, some [.int j x, .int _ y] => k (.val (.int j (maxI x y)))
    | _, _, _ => False
  | _ => False

def opC (A : Ann) (P : Program) (o : Oper) (ρ : Operand → LV) (k : EV → Prop) : Prop :=
  match o.op with
  | .call c => match c.callee with
    | .value (.func g) => match vals ρ c.args.toList, A.res g, P.funcs[g]? with
      | some l, some r, some fn => match fn.body with
        | some _ => pureP P g l r fun y => k (.val (r.enc y))
        | none => False
      | _, _, _ => False
    | _ => False
  | _ => False

/-- Texts out of bytes. -/
def mkStr (xs : List Int) : ByteArray := xs.foldl (fun s n => s.push (UInt8.ofNat n.toNat)) ByteArray.empty
def bytesV (xs : List Int) : List Value := xs.map fun n => .int .u8 n
/-- 'string(x)' of bytes. -/
def strP (a : Option Addr) (len : Nat) (h : Hp) (K : ByteArray → Prop) : Prop :=
  match a with
  | none => K ByteArray.empty
  | some a => ∃ xs : List Int, xs.length = len ∧ h.rds a (bytesV xs) ∧ K (mkStr xs)
def lenCP (c : Option Nat) (h : Hp) (K : Int → Prop) : Prop :=
  match c with
  | none => K 0
  | some r => ∃ cap buf cl s r', h r = some (.chan cap buf cl s r' false) ∧ K (buf.size : Int)

def opR (A : Ann) (P : Program) (o : Oper) (ρ : Operand → LV) (h : Hp) (k : EV → Prop) : Prop :=
  match o.op with
  | .load t x => match A.cdc t, ρ x with
    | some c, .v (.pointer (some a)) => bif fitsT P c t then loadP c a h fun y => k (.val (c.enc y)) else False
    | _, _ => False
  | .convert src dst x => match P.underlying src, P.underlying dst, ρ x with
    | some (.slice e), some .string, .v (.slice a len _) => match P.underlying e with
      | some (.int .u8) => strP a len h fun s => k (.val (.string s))
      | _ => False
    | _, _, _ => False
  | .call c => match c.callee, c.argTypes[0]?, vals ρ c.args.toList with
    | .builtin .len, some t, some [.chan r] => bif chanT P t then lenCP r h fun n => k (.val (.int .i64 n)) else False
    | _, _, _ => False
  | _ => False

/-- So many zero values, cell by cell. -/
def zerosL (n : Nat) (zs : List Value) : List Value := (List.replicate n zs).flatten
def makeSlP (n m : Int) (bytes : Nat) (K : Prop) : Prop := 0 ≤ n ∧ n ≤ m ∧ m ≤ 1099511627776 ∧ (bytes : Int) * m ≤ 1099511627776 ∧ K
def makeChP (n : Int) (bytes : Nat) (K : Prop) : Prop := 0 ≤ n ∧ n ≤ 1099511627776 ∧ (bytes : Int) * n ≤ 1099511627776 ∧ K

def opA (P : Program) (o : Oper) (ρ : Operand → LV) (k : Obj → (Nat → Value) → Prop) : Prop :=
  match o.op with
  | .alloc elem => match zeroV P elem with
    | some z => k (.cells z.cells elem) fun b => .pointer (some ⟨b, 0, none⟩)
    | none => False
  | .box elem x => match ρ x with
    | .v v => k (.cells v.cells elem) fun b => .pointer (some ⟨b, 0, none⟩)
    | _ => False
  | .buildSlice t len ps => match P.underlying t, parts ρ ps.toList with
    | some (.slice e), some l => match sizeT P e, zeroV P e with
      | some n, some z => bif Nat.ble (len * n) 16777216 then
          (match Instr.fill (fun i => some (i * n, n)) ((Array.range (len * n)).map (z.cells[· % z.cells.size]!)) l with
          | some cs => k (.cells cs e) fun b => .slice (some ⟨b, 0, none⟩) len len
          | none => False)
        else False
      | _, _ => False
    | _, _ => False
  | .makeSlice t l c => match P.underlying t, ρ l, ρ c with
    | some (.slice e), .v (.int _ n), .v (.int _ m) => match zeroV P e with
      | some z => bif zeroOk P e then makeSlP n m (bytesT P e) (k (.cells (zerosL m.toNat z.cells.toList).toArray e) fun b => .slice (some ⟨b, 0, none⟩) n.toNat m.toNat) else False
      | none => False
    | _, _, _ => False
  | .makeChan t n => match P.underlying t, ρ n with
    | some (.chan _ e), .v (.int _ n) => match sizeT P e with
      | some _ => makeChP n (bytesT P e) (k (.chan n.toNat #[] false 0 0 false) fun b => .chan (some b))
      | none => False
    | _, _ => False
  | .makeMap t r => match r, P.underlying t with
    | none, some (.map _ _) => k (.map #[] 0) fun b => .map (some b)
    | _, _ => False
  | _ => False

def cellsL (c : Cdc) (xs : List c.T) : List Value := xs.flatMap fun x => (c.enc x).cells.toList
/-- The elements of a slice. -/
def elemsP (c : Cdc) (a : Option Addr) (len : Nat) (h : Hp) (K : List c.T → Prop) : Prop :=
  match a with
  | none => len = 0 ∧ K []
  | some a => ∃ xs : List c.T, xs.length = len ∧ h.rds a (cellsL c xs) ∧ K xs
def roomP : Nat := 1099511627776
/-- 'append(s, x...)'. -/
def appendP (c : Cdc) (e : TypeId) (bytes : Nat) (a : Option Addr) (len cap : Nat) (b : Option Addr) (n : Nat) (h : Hp) (K : Option Addr → Nat → Nat → Hp → Prop) : Prop :=
  elemsP c b n h fun ys =>
    (len + n ≤ cap → match a with
      | some ad => h.may (ad.add (len * c.n)) (n * c.n) ∧ K a (len + n) cap (h.wrs (ad.add (len * c.n)) 0 (cellsL c ys))
      | none => K a (len + n) cap h) ∧
    (cap < len + n → (len + n) * bytes ≤ roomP ∧ elemsP c a len h fun xs =>
      ∀ nc pad, len + n ≤ nc → pad.length = (nc - (len + n)) * c.n →
        allocP (.cells (cellsL c xs ++ (cellsL c ys ++ pad)).toArray e) h fun nb h' => K (some ⟨nb, 0, none⟩) (len + n) nc h')
/-- 'append(s, make(.., n)...)'. -/
def growP (c : Cdc) (z : c.T) (e : TypeId) (bytes : Nat) (a : Option Addr) (len cap : Nat) (n : Int) (h : Hp) (K : Option Addr → Nat → Nat → Hp → Prop) : Prop :=
  0 ≤ n ∧ n.toNat * bytes ≤ roomP ∧
    (len + n.toNat ≤ cap → match a with
      | some ad => h.may (ad.add (len * c.n)) (n.toNat * c.n) ∧ K a (len + n.toNat) cap (h.wrs (ad.add (len * c.n)) 0 (cellsL c (List.replicate n.toNat z)))
      | none => K a (len + n.toNat) cap h) ∧
    (cap < len + n.toNat → (len + n.toNat) * bytes ≤ roomP ∧ elemsP c a len h fun xs =>
      ∀ nc pad, len + n.toNat ≤ nc → pad.length = (nc - len) * c.n →
        allocP (.cells (cellsL c xs ++ pad).toArray e) h fun nb h' => K (some ⟨nb, 0, none⟩) (len + n.toNat) nc h')
/-- 'copy(d, x)'. -/
def copyP (c : Cdc) (a : Option Addr) (len : Nat) (b : Option Addr) (n : Nat) (h : Hp) (K : Int → Hp → Prop) : Prop :=
  elemsP c b (min n len) h fun ys => match a with
    | some ad => h.may ad (min n len * c.n) ∧ K (min n len : Nat) (h.wrs ad 0 (cellsL c ys))
    | none => K (min n len : Nat) h

/-- 'clear(x)'. -/
def clearP (c : Cdc) (z : c.T) (a : Option Addr) (n : Nat) (h : Hp) (K : Hp → Prop) : Prop :=
  match a with
  | some ad => h.may ad (n * c.n) ∧ K (h.wrs ad 0 (cellsL c (List.replicate n z)))
  | none => K h
/-- '[]byte(s)' of a text. -/
def toBytesP (e : TypeId) (s : ByteArray) (h : Hp) (K : Nat → Nat → Hp → Prop) : Prop :=
  ∀ cap pad b, s.size ≤ cap → pad.length = cap - s.size → h b = none →
    K b cap (h.upd b (.cells (bytesV (s.data.toList.map fun x => (x.toNat : Int)) ++ pad).toArray e (cap, cap + 1)))
def frz (n : Nat) : Nat × Nat → Nat × Nat
  | (lo, hi) => if lo == hi then (n, n + 1) else (min lo n, max hi (n + 1))
/-- '[]byte(x)' of bytes: the block is marked. -/
def markP (a : Addr) (h : Hp) (K : Hp → Prop) : Prop :=
  ∃ c e fz, h a.block = some (.cells c e fz) ∧ K (h.upd a.block (.cells c e (frz c.size fz)))

/-- A value is put into a channel's buffer if there is room. -/
def sendP (c : Option Nat) (v : Value) (h : Hp) (Kn : Prop) (Ks : Hp → Prop) : Prop :=
  match c with
  | none => Kn
  | some r => ∃ cap buf s r', h r = some (.chan cap buf false s r' false) ∧ (cap ≤ buf.size → Kn) ∧ (buf.size < cap → Ks (h.upd r (.chan cap (buf.push v) false (s + 1) r' false)))
/-- A value is taken out of a channel's buffer if there is one. -/
def recvP (cd : Cdc) (c : Option Nat) (h : Hp) (Kn : Prop) (Ks : cd.T → Hp → Prop) : Prop :=
  match c with
  | none => Kn
  | some r => ∃ cap l s r', h r = some (.chan cap (List.toArray l) false s r' false) ∧ match l with
    | [] => Kn
    | v :: l => ∃ x, v = cd.enc x ∧ Ks x (h.upd r (.chan cap (List.toArray l) false s (r' + 1) false))

def opW (A : Ann) (P : Program) (o : Oper) (ρ : Operand → LV) (h : Hp) (k : EV → Hp → Prop) : Prop :=
  match o.op with
  | .store t x y => match A.cdc t, ρ x, ρ y with
    | some c, .v (.pointer (some a)), .v v => bif fitsT P c t then
        (match c.dec v with
        | some z => storeP c a z h fun h' => k .unk h'
        | none => False)
      else False
    | _, _, _ => False
  | .call c => match c.callee, vals ρ c.args.toList with
    | .value f, some l => match ρ f with
      | .v (.func (.func g) first captured) => match fnvOf A f with
        | some r => callFP P g first captured l r h fun y h' => k (.val (r.enc y)) h'
        | none => match A.res g with
        | some r => match P.funcs[g]? with
          | some fn => match fn.body with
            | some _ => callP P g (first.toList ++ (l ++ captured.toList)) r h fun y h' => k (.val (r.enc y)) h'
            | none => extP P g (first.toList ++ (l ++ captured.toList)) r h fun y => k (.val (r.enc y)) h
          | none => False
        | none => False
      | _ => False
    | .builtin .append, some [.slice a len cap, .slice b n _] => match c.argTypes[0]?, c.argTypes[1]? with
      | some t, some u => match P.underlying t, P.underlying u with
        | some (.slice e), some (.slice _) => match A.cdc e with
          | some cd => bif fitsT P cd e && (Nat.ble 1 (bytesT P e) && (Nat.ble (bytesT P e) 1048576 && zeroOk P e)) then
              appendP cd e (bytesT P e) a len cap b n h fun a' l' c' h' => k (.val (.slice a' l' c')) h'
            else False
          | none => False
        | _, _ => False
      | _, _ => False
    | .builtin .copy, some [.slice a len _, .slice b n _] => match c.argTypes[0]? with
      | some t => match P.underlying t with
        | some (.slice e) => match A.cdc e with
          | some cd => bif fitsT P cd e then copyP cd a len b n h fun m h' => k (.val (.int .i64 m)) h' else False
          | none => False
        | _ => False
      | none => False
    | .builtin .clear, some [.slice a n _] => match c.argTypes[0]? with
      | some t => match P.underlying t with
        | some (.slice e) => match A.cdc e, zeroV P e with
          | some cd, some z => bif fitsT P cd e then
              (match cd.dec z with
              | some z => clearP cd z a n h fun h' => k (.val (.tuple #[])) h'
              | none => False)
            else False
          | _, _ => False
        | _ => False
      | none => False
    | _, _ => False
  | .convert src dst x => match P.underlying src, P.underlying dst, ρ x with
    | some .string, some (.slice e), .v (.string s) => match P.underlying e with
      | some (.int .u8) => toBytesP e s h fun b cap h' => k (.val (.slice (some ⟨b, 0, none⟩) s.size cap)) h'
      | _ => False
    | some (.slice _), some (.slice e), .v (.slice (some a) len cap) => match P.underlying e with
      | some (.int .u8) => bif Nat.beq src dst then markP a h fun h' => k (.val (.slice (some a) len cap)) h' else False
      | _ => False
    | _, _, _ => False
  | .select cs block => match block, cs with
    | false, ⟨[sc]⟩ => match sc.send with
      | none => match A.cdc sc.elem, zeroV P sc.elem, ρ sc.chan with
        | some c, some z, .v (.chan r) => recvP c r h (k (.val (.tuple #[.int .i64 (-1), .bool false, z])) h) fun x h' => k (.val (.tuple #[.int .i64 0, .bool true, c.enc x])) h'
        | _, _, _ => False
      | some x => match zeroV P sc.elem, ρ sc.chan, ρ x with
        | some _, .v (.chan r), .v v => sendP r v h (k (.val (.tuple #[.int .i64 (-1), .bool false])) h) fun h' => k (.val (.tuple #[.int .i64 0, .bool false])) h'
        | _, _, _ => False
    | _, _ => False
  | .lookup t x ix ok => match ok, P.underlying t with
    | false, some (.map kt et) => match P.underlying kt, A.cdc et, zeroV P et with
      | some (.int kk), some c, some z => match ρ x, ρ ix with
        | .v (.map m), .v (.int k' n) => match decide (kk = k'), c.dec z with
          | true, some zz => lookMP c kk m n zz h fun y => k (.val (c.enc y)) h
          | _, _ => False
        | _, _ => False
      | _, _, _ => False
    | _, _ => False
  | .mapUpdate t x ix y => match P.underlying t with
    | some (.map kt et) => match P.underlying kt, A.cdc et with
      | some (.int kk), some c => match ρ x, ρ ix, ρ y with
        | .v (.map m), .v (.int k' n), .v v => match decide (kk = k'), c.dec v with
          | true, some vv => setMP c kk m n vv h fun h' => k .unk h'
          | _, _ => False
        | _, _, _ => False
      | _, _ => False
    | _ => False
  | _ => False

end Go.Eng
