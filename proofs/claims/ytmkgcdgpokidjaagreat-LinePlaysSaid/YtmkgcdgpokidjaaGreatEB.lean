/- What is known of a frame; one operation as a statement on what is known. -/
import Derived.Test.YtmkgcdgpokidjaaGreatEA
set_option linter.unusedVariables false
namespace Go.Eng

/-- A Lean type for a Go type: its values, coded. 'mem': it may lie in memory: 'n' cells. -/
structure Cdc : Type 1 where
  T : Type
  enc : T → Value
  dec : Value → Option T
  agg : Bool
  n : Nat
  law : ∀ v x, dec v = some x → enc x = v
  ecd : ∀ x, dec (enc x) = some x
  mem : Bool
  form : mem = true → ∀ x, if agg then ∃ cs : List Value, enc x = .agg cs.toArray ∧ cs.length = n ∧ ∀ c ∈ cs, isOne c = true else isOne (enc x) = true ∧ n = 1

inductive EV where
  | val (v : Value)
  | box (cs : List Value)
  | ref (off : Nat)
  | unk

abbrev Env := Nat → EV

/-- Hints: which slots hold the address of a variable of the frame's own; which slots hold an address in it; types. -/
structure Ann : Type 1 where
  prom : Nat := 0
  refs : List (Nat × Nat) := []
  dyn : Nat := 0
  bcd : Nat → Option Cdc := fun _ => none
  eqs : TypeId → Bool := fun _ => false
  cdc : TypeId → Option Cdc
  res : FuncId → Option Cdc
  pure : FuncId → Bool := fun _ => false
  pan : FuncId → Bool := fun _ => false
  defs : List Deferred := []
  fnv : Nat → Option Cdc := fun _ => none

def lookRef : List (Nat × Nat) → Nat → Option Nat
  | [], _ => none
  | (s, t) :: l, k => bif Nat.beq k s then some t else lookRef l k
def Ann.refOf (A : Ann) (s : Nat) : Option Nat := lookRef A.refs s
def Ann.isProm (A : Ann) (s : Nat) : Bool := A.prom.testBit s
def Ann.isLocal (A : Ann) (s : Nat) : Bool := A.isProm s || (A.refOf s).isSome

def isSomeEq : Option Nat → Nat → Bool
  | some a, b => Nat.beq a b
  | none, _ => false

def put (A : Ann) (env : Env) (dst : Option Tmp) (e : EV) : Env :=
  match dst with
  | none => env
  | some d => fun s => bif Nat.beq s d then e else bif A.isProm d && isSomeEq (A.refOf s) d then .unk else env s

/-- What an operand is. -/
inductive LV where
  | v (x : Value)
  | r (t off : Nat) (cs : List Value)
  | no

def lookBox (t off : Nat) : EV → LV
  | .box cs => .r t off cs
  | _ => .no
def look (A : Ann) (env : Env) : Operand → LV
  | .tmp t => match env t with
    | .val v => .v v
    | .box cs => .r t 0 cs
    | .ref off => match A.refOf t with
      | some t' => bif A.isProm t' then lookBox t' off (env t') else .no
      | none => .no
    | .unk => .no
  | .const v => .v v
  | .func f => .v (.func (.func f) #[] #[])
  | .global _ => .no

/-! ### the words of which a statement is made -/
abbrev condP (b : Bool) (X Y : Prop) : Prop := cond b X Y
def nilP (p : Option Addr) (K : Addr → Prop) : Prop :=
  match p with
  | some a => K a
  | none => False
def idxP (a : Option Addr) (len : Nat) (i : Int) (K : Addr → Prop) : Prop := 0 ≤ i ∧ i < len ∧ nilP a K
def atP (len : Nat) (i : Int) (K : Prop) : Prop := 0 ≤ i ∧ i < len ∧ K
def loadP (c : Cdc) (a : Addr) (h : Hp) (K : c.T → Prop) : Prop := ∃ x, h.rds a (c.enc x).cells.toList ∧ K x
/-- Each cell from 'a' on may be written. -/
def Hp.may (h : Hp) (a : Addr) (n : Nat) : Prop := ∀ i, i < n → (∃ v, h.cell? (a.add i) = some v) ∧ h.frozen? (a.add i) = false
def storeP (c : Cdc) (a : Addr) (x : c.T) (h : Hp) (K : Hp → Prop) : Prop := h.may a c.n ∧ K (h.wrs a 0 (c.enc x).cells.toList)
def allocP (o : Obj) (h : Hp) (K : Nat → Hp → Prop) : Prop := ∀ b, h b = none → K b (h.upd b o)
def callP (P : Program) (f : FuncId) (args : List Value) (c : Cdc) (h : Hp) (K : c.T → Hp → Prop) : Prop :=
  Spec P f args.toArray h fun v h' => ∃ x, v = c.enc x ∧ K x h'
/-- A call that may panic. -/
def callXP (P : Program) (f : FuncId) (args : List Value) (c : Cdc) (h : Hp) (K : c.T → Hp → Prop) (S : Value → Hp → Prop) : Prop :=
  SpecX P f args.toArray h (fun v h' => ∃ x, v = c.enc x ∧ K x h') S
/-- A deferred call, behind a return, or behind a panic with that value. -/
def deferP (P : Program) (f : FuncId) (args : List Value) (v : Option Value) (h : Hp) (K : Hp → Prop) : Prop :=
  match v with
  | none => SpecD P f args.toArray .returning .returning h K
  | some v => SpecD P f args.toArray (.panicking [{ v, recovered := false }]) (.panicking [{ v, recovered := true }]) h K
/-- A call that neither reads nor writes memory. -/
def pureP (P : Program) (f : FuncId) (args : List Value) (c : Cdc) (K : c.T → Prop) : Prop :=
  ∃ x, Spec P f args.toArray Hp.emp (fun v h' => v = c.enc x ∧ h' = Hp.emp) ∧ K x
def bndP (lo : Option Int) (h : Nat) : Option Nat → Prop
  | some l => match lo with
    | some i => 0 ≤ i ∧ i ≤ h ∧ l = i.toNat
    | none => l = 0
  | none => False
/-- 'x[lo:hi]' of what has 'len' elements and room for 'cap'. -/
def cutP (len cap : Nat) (lo hi : Option Int) (K : Nat → Nat → Prop) : Prop :=
  match hi, lo with
  | some j, some i => 0 ≤ i ∧ i ≤ j ∧ j ≤ cap ∧ K i.toNat j.toNat
  | some j, none => 0 ≤ j ∧ j ≤ cap ∧ K 0 j.toNat
  | none, some i => 0 ≤ i ∧ i ≤ len ∧ K i.toNat len
  | none, none => K 0 len
/-- 'x[lo:hi:mx]'. -/
def cut3P (cap : Nat) (lo : Option Int) (hi mx : Int) (K : Nat → Nat → Nat → Prop) : Prop :=
  mx ≤ cap ∧ hi ≤ mx ∧ 0 ≤ hi ∧ match lo with
  | some i => 0 ≤ i ∧ i ≤ hi ∧ K i.toNat hi.toNat mx.toNat
  | none => K 0 hi.toNat mx.toNat

/-- A call of a function value: it is a function that is there. -/
def callFP (P : Program) (g : FuncId) (first captured : Array Value) (l : List Value) (c : Cdc) (h : Hp) (K : c.T → Hp → Prop) : Prop :=
  (∃ fn body, P.funcs[g]? = some fn ∧ fn.body = some body) ∧ callP P g (first.toList ++ (l ++ captured.toList)) c h K
/-- A map: keys, values, when they came. -/
def mapO (c : Cdc) (k : IntKind) (l : List (Int × c.T × Nat)) (clock : Nat) : Obj := .map (l.map fun e => { key := .int k e.1, val := c.enc e.2.1, born := e.2.2 }).toArray clock
def getM {c : Cdc} (z : c.T) (n : Int) : List (Int × c.T × Nat) → c.T
  | [] => z
  | e :: l => if n = e.1 then e.2.1 else getM z n l
def lookMP (c : Cdc) (k : IntKind) (m : Option Nat) (n : Int) (z : c.T) (h : Hp) (K : c.T → Prop) : Prop :=
  ∃ r l clock, m = some r ∧ h r = some (mapO c k l clock) ∧ K (getM z n l)
/-- A key that is not there is put in. -/
def setMP (c : Cdc) (k : IntKind) (m : Option Nat) (n : Int) (v : c.T) (h : Hp) (K : Hp → Prop) : Prop :=
  ∃ r l clock, m = some r ∧ h r = some (mapO c k l clock) ∧ (∀ e ∈ l, n ≠ e.1) ∧ K (h.upd r (mapO c k (l ++ [(n, v, clock)]) (clock + 1)))
/-- A call of a function of the model's own, that looks and turns nothing. -/
def extP (P : Program) (g : FuncId) (args : List Value) (c : Cdc) (h : Hp) (K : c.T → Prop) : Prop :=
  ∃ x, (∀ w, h.le w → (callFunc g args.toArray).run P w = .ok (.value (c.enc x)) w) ∧ K x
def fnvOf (A : Ann) : Operand → Option Cdc
  | .tmp t => A.fnv t
  | _ => none

end Go.Eng
